/- book: books filled by calls. -/
import Derived.Test.YtkandhpnenmleaaHBrJoin

namespace Go.Proofs.Ytkandhpnenmleaa
open Go.RowKit

theorem own_base {w : World} {B B' e size n : Nat} {v : Value} {xs : List Value} (h : w.ownsRow B' e size v n xs) (hB : B ≤ B') : w.ownsRow B e size v n xs := ⟨h.1, h.2.imp id (fun ⟨g, cap, cur, h1, h2, h3⟩ => ⟨g, cap, cur, h1, Nat.le_trans hB h2, h3⟩)⟩
theorem matchP_oslen : ∀ (l : List Nat) (os : List Ord) (o : Ord), (matchP os o l).2.2.1.length = os.length
  | [], os, o => rfl
  | id :: t, os, o => by
    rw [matchP]
    split
    · split
      · exact matchP_oslen t os o
      · split
        · rw [matchP_oslen t]
          simp
        · simp
    · rfl
theorem opened_os (b : BkS) (o : Ord) : (b.opened o).os = b.os := put_os _ _ _
theorem placeE_os (b : BkS) (acc : Int) (buy : Bool) (price m : Int) : (placeE b acc buy price m).2.2.2.os.length ≤ b.os.length + 1 := by
  unfold placeE
  split
  · show (placeS b acc buy price m).2.os.length ≤ _
    unfold placeS
    dsimp only
    split
    · rw [opened_os]
      show (_ ++ [_]).length ≤ _
      rw [List.length_append, matchP_oslen]
      simp
    · show (_ ++ [_]).length ≤ _
      rw [List.length_append, matchP_oslen]
      simp
  · simp
theorem cancelE_os (b : BkS) (acc id : Int) : (cancelE b acc id).2.2.os = b.os := by
  unfold cancelE
  split
  · rfl
  · split
    · rfl
    · split
      · rfl
      · exact put_os _ _ _
theorem stepB_len (b : BkS) (x : OpP) : (stepB b x).os.length ≤ b.os.length + 1 := by
  unfold stepB
  split
  · rw [cancelE_os]; omega
  · split
    · show b.os.length ≤ _
      omega
    · exact placeE_os _ _ _ _ _
/-- No order is of this account. -/
def NoAcc (os : List Ord) (a : Int) : Prop := ∀ k, k < os.length → (ordAt os k).acc ≠ a
theorem NoAcc.set {os : List Ord} {a : Int} (h : NoAcc os a) {id : Nat} {v : Ord} (hv : v.acc = (ordAt os id).acc) : NoAcc (os.set id v) a := by
  intro k hk
  rw [List.length_set] at hk
  by_cases hid : id < os.length
  · rw [ordAt_set hid]
    split
    · rw [hv]; exact h id hid
    · exact h k hk
  · rw [List.set_eq_of_length_le (by omega)]
    exact h k hk
theorem matchP_noacc {a : Int} : ∀ (l : List Nat) (os : List Ord) (o : Ord), NoAcc os a → NoAcc (matchP os o l).2.2.1 a
  | [], os, o, h => h
  | id :: t, os, o, h => by
    rw [matchP]
    split
    · split
      · exact matchP_noacc t os o h
      · split
        · exact matchP_noacc t _ _ (h.set rfl)
        · exact h.set rfl
    · exact h
theorem matchP_acc : ∀ (l : List Nat) (os : List Ord) (o : Ord), (matchP os o l).2.1.acc = o.acc
  | [], os, o => rfl
  | id :: t, os, o => by
    rw [matchP]
    split
    · split
      · exact matchP_acc t os o
      · split
        · exact matchP_acc t _ _
        · rfl
    · rfl
theorem placeE_noacc {b : BkS} {a : Int} (h : NoAcc b.os a) (acc : Int) (buy : Bool) (price m : Int) (ha : acc ≠ a) : NoAcc (placeE b acc buy price m).2.2.2.os a := by
  unfold placeE
  split
  · show NoAcc (placeS b acc buy price m).2.os a
    unfold placeS
    dsimp only
    have key : NoAcc ((matchP b.os ⟨b.os.length, acc, buy, price, m, m⟩ (b.side !buy)).2.2.1 ++ [(matchP b.os ⟨b.os.length, acc, buy, price, m, m⟩ (b.side !buy)).2.1]) a := by
      have h1 := matchP_noacc (b.side !buy) b.os ⟨b.os.length, acc, buy, price, m, m⟩ h
      intro k hk
      rw [ordAt_app]
      split
      · rw [matchP_acc]; exact ha
      · rw [List.length_append, List.length_singleton] at hk
        exact h1 k (by omega)
    split
    · rw [opened_os]
      exact key
    · exact key
  · exact h
theorem stepB_noacc {b : BkS} {a : Int} (h : NoAcc b.os a) (x : OpP) (ha : x.acc ≠ a) : NoAcc (stepB b x).os a := by
  unfold stepB
  split
  · rw [cancelE_os]; exact h
  · split
    · exact h
    · exact placeE_noacc h _ _ _ _ ha
/-- The empty book. -/
def book0 : BkS := ⟨[], [], []⟩
theorem ok0 : book0.Ok := by
  refine ⟨fun k hk => absurd hk (by simp [book0]), fun k hk => absurd hk (by simp [book0]), fun buy k hk => ?_, fun buy => ?_, by simp [book0]⟩
  · cases buy <;> simp [book0, BkS.side] at hk
  · cases buy <;> simp [book0, BkS.side, SortedB]
theorem ref0 {w : World} {B g : Nat} (h : Blk w g 53 #[.slice none 0 0]) (hB : B ≤ g) : RAt w B g none 0 0 [] book0 :=
  ⟨⟨h, hB, World.ownsRow_nil _ _ _ 7, rfl, by omega⟩, ⟨rfl, fun k hk => absurd hk (by simp)⟩, ok0⟩
theorem QF.isnt {w : World} {B : Nat} {P : PS} {b : BkS} (h : Pair w B P b) {q : Nat} {t : TypeId} (ht : Ty w q t) (hn : t ≠ 69 ∧ t ≠ 42 ∧ t ≠ 3 ∧ t ≠ 53 ∧ t ≠ 85) : ¬ QF P b q := by
  rintro (hf | hf)
  · exact h.bk.raw.isnt ht ⟨hn.1, hn.2.1, hn.2.2.1⟩ hf
  · exact h.rf.rb.isnt ht ⟨hn.2.2.2.1, hn.2.2.2.2⟩ hf
def opAt (l : List OpP) (k : Nat) : OpP := (l[k]?).getD ⟨0, 0, false, 0, 0, 0⟩
theorem opAt_eq {l : List OpP} {k : Nat} (h : k < l.length) : opAt l k = l[k] := by unfold opAt; rw [List.getElem?_eq_getElem h]; rfl
theorem opRow {W : World} {B m c : Nat} {A : Option Addr} {l : List OpP} (h : OpsAt W B A m c l) {k : Nat} (hk : k < m) : ∃ g, A = some ⟨g, 0, none⟩ ∧ B ≤ g ∧ g < W.heap.size ∧ W.cell? ⟨g, k * 6, none⟩ = some (.int .i64 (opAt l k).kind) ∧ W.cell? ⟨g, k * 6 + 1, none⟩ = some (.int .i64 (opAt l k).acc) ∧ W.cell? ⟨g, k * 6 + 2, none⟩ = some (.bool (opAt l k).buy) ∧ W.cell? ⟨g, k * 6 + 3, none⟩ = some (.int .i64 (opAt l k).price) ∧ W.cell? ⟨g, k * 6 + 4, none⟩ = some (.int .i64 (opAt l k).n) ∧ W.cell? ⟨g, k * 6 + 5, none⟩ = some (.int .i64 (opAt l k).id) := by
  have hk2 : k < l.length := by rw [h.len]; exact hk
  obtain ⟨g, cur, h2, h3, h4, h5, h6, h7, -, -⟩ := rown_ge h.own (by omega)
  have hc : ∀ i, i < 6 → W.cell? ⟨g, k * 6 + i, none⟩ = (OpP.cells (opAt l k))[i]? := by
    intro i hi
    rw [opAt_eq hk2, ← flatT_at OpP.cells 6 OpP.cells_length l k i hk2 hi, ← h7, List.getElem?_take_of_lt (by omega)]
    simp [World.cell?, h6]
  refine ⟨g, h2, h4, h5, ?_, hc 1 (by omega), hc 2 (by omega), hc 3 (by omega), hc 4 (by omega), hc 5 (by omega)⟩
  exact hc 0 (by omega)
theorem OpsAt.all {w w' : World} {B m c : Nat} {A : Option Addr} {l : List OpP} (h : OpsAt w B A m c l) (hb : Below w.heap.size w w') : OpsAt w' B A m c l := ⟨own_keep h.own hb, h.len, h.acc⟩
theorem OpsAt.mod {w w' : World} {B m c : Nat} {A : Option Addr} {l : List OpP} {F : Nat → Prop} (h : OpsAt w B A m c l) (hm : Mod F w w') (hF : ∀ q, Ty w q 39 → ¬ F q) : OpsAt w' B A m c l := ⟨hm.own h.own (fun q hq => hF q (own_ty h.own hq)), h.len, h.acc⟩
theorem OpsAt.acc_ {w : World} {B m c : Nat} {A : Option Addr} {l : List OpP} (h : OpsAt w B A m c l) {k : Nat} (hk : k < m) : (opAt l k).acc ≠ 9 := by
  have hk2 : k < l.length := by rw [h.len]; exact hk
  rw [opAt_eq hk2]
  exact h.acc _ (List.getElem_mem hk2)
/-- The book after the first k calls. -/
def runB (b : BkS) (l : List OpP) : Nat → BkS
  | 0 => b
  | k + 1 => stepB (runB b l k) (opAt l k)
def FilledPost (w : World) (e : Ending) (w' : World) : Prop := ∃ P b, e = .returned (.tuple #[.pointer (some ⟨P.gb, 0, none⟩), .pointer (some ⟨P.g, 0, none⟩)]) ∧ Pair w' w.heap.size P b ∧ b.os.length ≤ 24 ∧ NoAcc b.os 9 ∧ Below w.heap.size w w'
/-- The state of a loop that performs calls on both. -/
structure FSt (B : Nat) (w0 : World) (gb g : Nat) (k : Nat) (P : PS) (b : BkS) (W : World) : Prop where
  pair : Pair W B P b
  len : b.os.length ≤ k
  acc : NoAcc b.os 9
  low : Below B w0 W
  gb : P.gb = gb
  g : P.g = g
set_option maxRecDepth 100000 in
set_option maxHeartbeats 4000000 in
theorem filled_any (A : Option Addr) (n c : Nat) (f : Nat → Int) (w : World) (hR : Rd w w.heap.size A n (fun j => .int .i64 (f j))) (HW : Hid (∀ j, j < n → -9223372036854775808 ≤ f j ∧ f j ≤ 9223372036854775807)) (hn : n ≤ 9223372036854775807) :
    Calls Try.prog 19 #[.slice A n c] w (FilledPost w) := by
  have HR := Lib.hid hR
  have HNEW := Lib.hid (new_any w)
  clear hR
  go_enter Try.func19, Try.ntmps19
  go_wp2_with fail
  refine HNEW.out.mono ?_
  rintro e w1 ⟨V, rfl, hA1, hb1⟩
  have HA1 := Lib.hid hA1
  have HB1 := Lib.hid hb1
  obtain ⟨gb, hgb⟩ : ∃ gb, w.heap.size = gb := ⟨_, rfl⟩
  have HGB := Lib.hid hgb
  rw [hgb]
  clear hA1 hb1 hgb
  go_wp2_with fail
  obtain ⟨w2, hw2⟩ : ∃ w2, w2 = w1.alloc (.cells #[.slice none 0 0] 53) := ⟨_, rfl⟩
  rw [← hw2]
  have hb2 : Below w.heap.size w w2 := by rw [hw2]; exact HB1.out.alloc HB1.out.size _
  have hb12 : Below w1.heap.size w1 w2 := by rw [hw2]; exact (Below.refl _ _).alloc (Nat.le_refl _) _
  have hk2 : Blk w2 w1.heap.size 53 #[.slice none 0 0] := by rw [hw2]; exact Blk.new _ _ _
  obtain ⟨g, hg⟩ : ∃ g, w1.heap.size = g := ⟨_, rfl⟩
  have HP2 : Hid (Pair w2 w.heap.size ⟨gb, V, g, none, 0, 0, []⟩ book0) := Lib.hid ⟨by rw [← HGB.out]; exact HA1.out.all hb12, ref0 (by rw [← hg]; exact hk2) (by rw [← hg]; exact HB1.out.size)⟩
  have HB2 := Lib.hid hb2
  rw [hg]
  clear hw2 hb2 hb12 hk2 hg
  refine (ops_any A n c f 24 24 w2 rfl (by omega) (HR.out.all HB2.out) HW hn).mono ?_
  rintro e w3 ⟨A3, m, c3, l, rfl, hO, hm, hb3⟩
  have HO : Hid (OpsAt w3 w.heap.size A3 m c3 l) := Lib.hid ⟨own_base hO.own HB2.out.size, hO.len, hO.acc⟩
  have HF0 : Hid (FSt w.heap.size w gb g 0 ⟨gb, V, g, none, 0, 0, []⟩ book0 w3) := Lib.hid ⟨HP2.out.all hb3, Nat.zero_le _, fun k hk => absurd hk (by simp [book0]), bt HB2.out hb3, rfl, rfl⟩
  clear hO hb3
  go_wp2_with fail
  go_loopw [7] (fun iv wr => ∃ (k : Nat) (P : PS) (b : BkS), k ≤ m ∧ iv = .int .i64 (k : Int) ∧ Hid (FSt w.heap.size w gb g k P b wr) ∧ Hid (OpsAt wr w.heap.size A3 m c3 l)) (fun iv _ => m - (intOf iv).toNat)
  case atStart => exact ⟨0, _, _, Nat.zero_le _, rfl, HF0, HO⟩
  case round =>
    clear HF0 HO
    obtain ⟨k, P, b, hk, rfl, HF, HO⟩ := hrel
    rcases Nat.lt_or_ge k m with hlt | hge
    · have hii : (k : Int) < (m : Int) := by omega
      obtain ⟨go, hAo, -, hgo, e0, e1, e2, e3, e4, e5⟩ := opRow HO.out hlt
      subst hAo
      obtain ⟨x, hx⟩ : ∃ x, opAt l k = x := ⟨_, rfl⟩
      rw [hx] at e0 e1 e2 e3 e4 e5
      have HX := Lib.hid hx
      obtain ⟨gb', V', g', A', n', c', l'⟩ := P
      obtain rfl : gb' = gb := HF.out.gb
      obtain rfl : g' = g := HF.out.g
      have HLB : Hid (b.os.length < 100000) := Lib.hid (by have := HF.out.len; omega)
      clear hx
      go_wp2_with (go_at_call 20
                   (with_reducible refine (step_any w.heap.size gb' g' n' c' V' A' l' b x _ (Lib.hid HF.out.pair) HLB.out).mono ?_)
                   rintro e w5 ⟨rfl, P', hN⟩)
      refine ⟨⟨k + 1, P', stepB b x, by omega, by go_num, Lib.hid ⟨hN.pair, ?_, ?_, hN.below HF.out.pair HF.out.low HF.out.low.size, hN.gb, hN.g⟩, Lib.hid (HO.out.mod hN.mod (fun q hq => QF.isnt HF.out.pair hq (by decide)))⟩, by simp [intOf]; omega⟩
      · have h1 := stepB_len b x
        have h2 := HF.out.len
        omega
      · exact stepB_noacc HF.out.acc x (by rw [← HX.out]; exact HO.out.acc_ hlt)
    · obtain rfl : k = m := by omega
      have HFIN : Hid (FilledPost w (.returned (.tuple #[.pointer (some ⟨gb, 0, none⟩), .pointer (some ⟨g, 0, none⟩)])) wr) := Lib.hid ⟨P, b, by rw [HF.out.gb, HF.out.g], HF.out.pair, by have := HF.out.len; omega, HF.out.acc, HF.out.low⟩
      go_wp2
      exact bodyPost_ret (v := .tuple #[.pointer (some ⟨gb, 0, none⟩), .pointer (some ⟨g, 0, none⟩)]) (by simp [results, Try.results19, go_sem]) rfl HFIN.out
end Go.Proofs.Ytkandhpnenmleaa
