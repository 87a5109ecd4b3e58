/- The ledger's plain state: moves and steps on stacks, totals and counters. -/
import Derived.Test.YtlcalajehnaenaaGreatDoorHLdFit
import Derived.Test.YtlcalajehnaenaaGreatDoorHG0
import Derived.Maps.RangeRun
import Derived.Maps.Keyed
namespace Go.Proofs.YtlcalajehnaenaaGreatDoor
open Go.RowKit
abbrev LK := Fin 2147483648 × Fin 2147483648
def kOf (a i : Int) : LK := (⟨a.toNat % 2147483648, Nat.mod_lt _ (by decide)⟩, ⟨i.toNat % 2147483648, Nat.mod_lt _ (by decide)⟩)
def kEnc (k : LK) : Value := .agg #[.int .i64 (k.1.1 : Int), .int .i64 (k.2.1 : Int)]
theorem kOf_enc {a i : Int} (ha : 0 ≤ a ∧ a < 2147483648) (hi : 0 ≤ i ∧ i < 2147483648) : kEnc (kOf a i) = .agg #[.int .i64 a, .int .i64 i] := by
 have h1 : ((a.toNat % 2147483648 : Nat) : Int) = a := by omega
 have h2 : ((i.toNat % 2147483648 : Nat) : Int) = i := by omega
 show Value.agg #[.int .i64 ((a.toNat % 2147483648 : Nat) : Int), .int .i64 ((i.toNat % 2147483648 : Nat) : Int)] = _
 rw [h1, h2]
theorem kOf_inj {a i a' i' : Int} (ha : 0 ≤ a ∧ a < 2147483648) (hi : 0 ≤ i ∧ i < 2147483648) (ha' : 0 ≤ a' ∧ a' < 2147483648) (hi' : 0 ≤ i' ∧ i' < 2147483648) (h : kOf a i = kOf a' i') : a = a' ∧ i = i' := by
 have h1 := congrArg (fun k : LK => k.1.1) h
 have h2 := congrArg (fun k : LK => k.2.1) h
 dsimp only [kOf] at h1 h2
 omega
structure LSt where
 st : LK → List Lot
 tot : Int → Int
 sh : Nat
 ns : Nat
 nf : Nat
 now : Int
def LSt.put (S : LSt) (k : LK) (ls : List Lot) : LSt := { S with st := fun k' => if k' = k then ls else S.st k' }
def Mv.src (m : Mv) : LK := kOf m.frm m.item
def Mv.tgt (m : Mv) : LK := kOf m.dst m.item
def LSt.id (S : LSt) : Int := (S.sh : Int) * 4294967296 + (S.nf : Int)
def wdP (mx : Int → Bool) (S : LSt) (m : Mv) : Option LSt :=
 if m.frm = 0 then some S
 else if totL (S.st m.src) < m.n then none
 else some (S.put m.src (divL [] [] (S.st m.src) (cntM (mx m.item) (S.st m.src) m.n)).2)
def totP (S : LSt) (m : Mv) : Int := S.tot m.item + (if m.frm = 0 then m.n else 0)
def landP (S : LSt) (m : Mv) (t : Int) : LSt :=
 { S.put m.tgt (putL (S.st m.tgt) ⟨S.id, 0, m.n⟩) with tot := fun i => if i = m.item then t else S.tot i, nf := S.nf + 1 }
def moveP (mx : Int → Bool) (S : LSt) (m : Mv) : Except Int LSt :=
 match wdP mx S m with
 | none => .error 10
 | some S1 => if MaxU < totP S m then .error 4 else if 4096 ≤ (S1.st m.tgt).length then .error 4 else .ok (landP S1 m (totP S m))
def mvsP (mx : Int → Bool) : LSt → List Mv → Except Int LSt
 | S, [] => .ok S
 | S, m :: ms => match moveP mx S m with
   | .error e => .error e
   | .ok S1 => mvsP mx S1 ms
structure LOk (mx : Int → Bool) (K : Int) (S : LSt) : Prop where
 ok : ∀ k, LotsOk (S.st k)
 len : ∀ k, (S.st k).length ≤ 4096
 mix : ∀ k : LK, mx (k.2.1 : Int) = true → totL (S.st k) ≤ K
 tot : ∀ i, 0 ≤ S.tot i ∧ S.tot i ≤ MaxU
 sh : S.sh ≤ 1000
 nf : S.nf ≤ 1000000
 ns : S.ns ≤ 60000
theorem LOk.id {mx : Int → Bool} {K : Int} {S : LSt} (h : LOk mx K S) : 0 ≤ S.id ∧ S.id ≤ 4611686018427387904 := by
 have h1 := h.sh
 have h2 := h.nf
 unfold LSt.id
 omega
theorem LOk.more {mx : Int → Bool} {K K' : Int} {S : LSt} (h : LOk mx K S) (hK : K ≤ K') : LOk mx K' S := ⟨h.ok, h.len, fun k hi => Int.le_trans (h.mix k hi) hK, h.tot, h.sh, h.nf, h.ns⟩
theorem LOk.put {mx : Int → Bool} {K : Int} {S : LSt} (h : LOk mx K S) {k : LK} {ls : List Lot} (h1 : LotsOk ls) (h2 : ls.length ≤ 4096) (h3 : mx (k.2.1 : Int) = true → totL ls ≤ K) : LOk mx K (S.put k ls) := by
 refine ⟨fun k' => ?_, fun k' => ?_, fun k' hi => ?_, h.tot, h.sh, h.nf, h.ns⟩
 ·show LotsOk (if k' = k then ls else S.st k')
  split
  ·exact h1
  ·exact h.ok k'
 ·show (if k' = k then ls else S.st k').length ≤ 4096
  split
  ·exact h2
  ·exact h.len k'
 ·show totL (if k' = k then ls else S.st k') ≤ K
  split
  ·rename_i e
   subst e
   exact h3 hi
  ·exact h.mix k' hi
theorem wdP_left {mx : Bool} {ls : List Lot} {n : Int} (hk : LotsOk ls) (h1 : 1 ≤ n) (hn : n ≤ totL ls) :
 LotsOk (divL [] [] ls (cntM mx ls n)).1 ∧ LotsOk (divL [] [] ls (cntM mx ls n)).2 ∧ totL (divL [] [] ls (cntM mx ls n)).1 = n ∧ totL (divL [] [] ls (cntM mx ls n)).2 = totL ls - n ∧
  (divL [] [] ls (cntM mx ls n)).1.length ≤ ls.length ∧ (divL [] [] ls (cntM mx ls n)).2.length ≤ ls.length := by
 obtain ⟨hc, hs⟩ := cntM_ok mx ls n hk h1 hn
 have hnil : LotsOk [] := fun l hl => by cases hl
 obtain ⟨f1, f2, f3, f4, f5, f6⟩ := divL_facts ls (cntM mx ls n) [] [] hk hc hnil hnil
 rw [hs] at f3 f4
 simp only [totL, List.length_nil, Nat.zero_add, Int.zero_add] at f3 f4 f5 f6
 exact ⟨f1, f2, f3, f4, f5, f6⟩
theorem wdP_ok {mx : Int → Bool} {K : Int} {S S1 : LSt} {m : Mv} (h : LOk mx K S) (hn : 1 ≤ m.n) (hw : wdP mx S m = some S1) : LOk mx K S1 ∧ S1.tot = S.tot ∧ S1.sh = S.sh ∧ S1.nf = S.nf ∧ S1.ns = S.ns ∧ S1.now = S.now := by
 unfold wdP at hw
 split at hw
 ·injection hw with hw
  subst hw
  exact ⟨h, rfl, rfl, rfl, rfl, rfl⟩
 ·split at hw
  ·cases hw
  ·injection hw with hw
   subst hw
   obtain ⟨-, f2, -, f4, -, f6⟩ := wdP_left (mx := mx m.item) (h.ok m.src) hn (by omega)
   exact ⟨h.put f2 (Nat.le_trans f6 (h.len _)) (fun hi => by have := h.mix _ hi; omega), rfl, rfl, rfl, rfl, rfl⟩
theorem LOk.land {mx : Int → Bool} {K : Int} {S : LSt} {m : Mv} {t : Int} (h : LOk mx K S) (hn : 1 ≤ m.n) (hn2 : m.n ≤ MaxU) (ht : 0 ≤ t ∧ t ≤ MaxU) (hl : (S.st m.tgt).length < 4096) (hf : S.nf < 1000000) : LOk mx (K + m.n) (landP S m t) := by
 have hid := h.id
 have hp := (h.more (K' := K + m.n) (by omega)).put (k := m.tgt) (ls := putL (S.st m.tgt) ⟨S.id, 0, m.n⟩)
  (putL_ok (h.ok _) ⟨hid.1, hid.2, Int.le_refl _, by show (0 : Int) ≤ m.n; omega, by show (0 : Int) + m.n ≤ MaxU; omega⟩) (by have := (putL_len (S.st m.tgt) ⟨S.id, 0, m.n⟩).2; omega)
  (fun hi => by rw [putL_tot]; have := h.mix _ hi; show totL _ + m.n ≤ K + m.n; omega)
 exact ⟨hp.ok, hp.len, hp.mix, fun i => by show 0 ≤ (if i = m.item then t else S.tot i) ∧ (if i = m.item then t else S.tot i) ≤ MaxU; split; exact ht; exact h.tot i, h.sh, by show S.nf + 1 ≤ 1000000; omega, h.ns⟩
theorem moveP_ok {mx : Int → Bool} {K : Int} {S S' : LSt} {m : Mv} (h : LOk mx K S) (hn : 1 ≤ m.n) (hn2 : m.n ≤ MaxU) (hf : S.nf < 1000000) (hm : moveP mx S m = .ok S') : LOk mx (K + m.n) S' ∧ S'.nf = S.nf + 1 ∧ S'.sh = S.sh ∧ S'.ns = S.ns ∧ S'.now = S.now := by
 unfold moveP at hm
 cases hw : wdP mx S m with
 | none => rw [hw] at hm; cases hm
 | some S1 =>
   rw [hw] at hm
   obtain ⟨h1, e1, e2, e3, e4, e5⟩ := wdP_ok h hn hw
   dsimp only at hm
   split at hm
   ·cases hm
   ·split at hm
    ·cases hm
    ·injection hm with hm
     subst hm
     have ht := h.tot m.item
     refine ⟨h1.land hn hn2 ?_ (by omega) (by omega), by show S1.nf + 1 = _; rw [e3], e2, e4, e5⟩
     refine ⟨?_, by omega⟩
     unfold totP
     split <;> omega
def sumN : List Mv → Int
 | [] => 0
 | m :: ms => m.n + sumN ms
theorem mvsP_ok {mx : Int → Bool} : ∀ (ms : List Mv) {K : Int} {S S' : LSt}, LOk mx K S → (∀ m ∈ ms, 1 ≤ m.n ∧ m.n ≤ MaxU) → S.nf + ms.length ≤ 1000000 → mvsP mx S ms = .ok S' → LOk mx (K + sumN ms) S' ∧ S'.nf = S.nf + ms.length ∧ S'.sh = S.sh ∧ S'.ns = S.ns ∧ S'.now = S.now
 | [], K, S, S', h, _, _, hm => by
   injection hm with hm
   subst hm
   exact ⟨h.more (by simp [sumN]), rfl, rfl, rfl, rfl⟩
 | m :: ms, K, S, S', h, hn, hf, hm => by
   unfold mvsP at hm
   have hmm := hn m (by simp)
   simp only [List.length_cons] at hf
   cases hw : moveP mx S m with
   | error e => rw [hw] at hm; cases hm
   | ok S1 =>
     rw [hw] at hm
     obtain ⟨h1, e1, e2, e3, e4⟩ := moveP_ok h hmm.1 hmm.2 (by omega) hw
     obtain ⟨h2, g1, g2, g3, g4⟩ := mvsP_ok ms h1 (fun x hx => hn x (by simp [hx])) (by omega) hm
     exact ⟨h2.more (by simp only [sumN]; omega), by simp only [List.length_cons]; omega, g2.trans e2, g3.trans e3, g4.trans e4⟩
theorem mvsP_snoc {mx : Int → Bool} : ∀ (ms : List Mv) (S S1 : LSt) (m : Mv), mvsP mx S ms = .ok S1 → mvsP mx S (ms ++ [m]) = moveP mx S1 m
 | [], S, S1, m, h => by
   injection h with h
   subst h
   simp only [List.nil_append, mvsP]
   cases moveP mx S m <;> rfl
 | x :: ms, S, S1, m, h => by
   unfold mvsP at h
   simp only [List.cons_append, mvsP]
   cases hw : moveP mx S x with
   | error e => rw [hw] at h; cases h
   | ok S2 =>
     rw [hw] at h
     exact mvsP_snoc ms S2 S1 m h
theorem mvsP_fail {mx : Int → Bool} : ∀ (ms : List Mv) (S S1 : LSt) (m : Mv) (l : List Mv) (e : Int), mvsP mx S ms = .ok S1 → moveP mx S1 m = .error e → mvsP mx S (ms ++ m :: l) = .error e
 | [], S, S1, m, l, e, h, h2 => by
   injection h with h
   subst h
   simp only [List.nil_append, mvsP, h2]
 | x :: ms, S, S1, m, l, e, h, h2 => by
   unfold mvsP at h
   simp only [List.cons_append, mvsP]
   cases hw : moveP mx S x with
   | error e' => rw [hw] at h; cases h
   | ok S2 =>
     rw [hw] at h
     exact mvsP_fail ms S2 S1 m l e h h2
end Go.Proofs.YtlcalajehnaenaaGreatDoor
namespace Go.Proofs.YtlcalajehnaenaaGreatDoor
open Go.RowKit
def fromD (m : Mv) (k : LK) : Int := if m.frm ≠ 0 ∧ k = m.src then m.n else 0
def toD (m : Mv) (k : LK) : Int := if k = m.tgt then m.n else 0
theorem moveP_go {mx : Int → Bool} {K : Int} {S : LSt} {m : Mv} (h : LOk mx K S) (hn : 1 ≤ m.n) (hs : m.frm ≠ 0 → m.n ≤ totL (S.st m.src)) (hl : ∀ k, (S.st k).length < 4096) (ht : totP S m ≤ MaxU) :
 ∃ S', moveP mx S m = .ok S' ∧ (∀ k, totL (S'.st k) = totL (S.st k) - fromD m k + toD m k) ∧ (∀ k, (S'.st k).length ≤ (S.st k).length + 1) ∧ ∀ i, S'.tot i = if i = m.item then totP S m else S.tot i := by
 obtain ⟨S1, hw, h1, h2, h3⟩ : ∃ S1, wdP mx S m = some S1 ∧ (∀ k, totL (S1.st k) = totL (S.st k) - fromD m k) ∧ (∀ k, (S1.st k).length ≤ (S.st k).length) ∧ S1.tot = S.tot := by
  unfold wdP
  by_cases hf : m.frm = 0
  ·rw [if_pos hf]
   exact ⟨S, rfl, fun k => by unfold fromD; rw [if_neg (fun e => e.1 hf)]; omega, fun k => Nat.le_refl _, rfl⟩
  ·have hs' := hs hf
   rw [if_neg hf, if_neg (by omega)]
   obtain ⟨-, -, -, f4, -, f6⟩ := wdP_left (mx := mx m.item) (h.ok m.src) hn hs'
   refine ⟨_, rfl, fun k => ?_, fun k => ?_, rfl⟩
   ·show totL (if k = m.src then _ else S.st k) = _
    unfold fromD
    by_cases e : k = m.src
    ·rw [if_pos e, if_pos ⟨hf, e⟩, f4, e]
    ·rw [if_neg e, if_neg (fun x => e x.2)]
     omega
   ·show (if k = m.src then _ else S.st k).length ≤ _
    split
    ·rename_i e
     rw [e]
     exact f6
    ·exact Nat.le_refl _
 have hl1 : ¬ 4096 ≤ (S1.st m.tgt).length := by
  have := h2 m.tgt
  have := hl m.tgt
  omega
 refine ⟨landP S1 m (totP S m), by unfold moveP; rw [hw]; dsimp only; rw [if_neg (by omega), if_neg hl1], fun k => ?_, fun k => ?_, fun i => ?_⟩
 ·show totL (if k = m.tgt then _ else S1.st k) = _
  unfold toD
  split
  ·rename_i e
   rw [putL_tot, ← e, h1 k]
  ·rw [h1 k]
   omega
 ·show (if k = m.tgt then _ else S1.st k).length ≤ _
  have a := h2 k
  split
  ·rename_i e
   subst e
   have := (putL_len (S1.st m.tgt) ⟨S1.id, 0, m.n⟩).2
   omega
  ·omega
 ·show (if i = m.item then totP S m else S1.tot i) = _
  rw [h3]
theorem mvsP_two {mx : Int → Bool} {S S1 S2 : LSt} {a b : Mv} (h1 : moveP mx S a = .ok S1) (h2 : moveP mx S1 b = .ok S2) : mvsP mx S [a, b] = .ok S2 := by
 unfold mvsP
 rw [h1]
 dsimp only
 unfold mvsP
 rw [h2]
 rfl
theorem fromD_ne {m : Mv} {a i : Int} (ha : 0 ≤ a ∧ a < 2147483648) (hi : 0 ≤ i ∧ i < 2147483648) (hf : 0 ≤ m.frm ∧ m.frm < 2147483648) (hit : 0 ≤ m.item ∧ m.item < 2147483648) : fromD m (kOf a i) = if m.frm ≠ 0 ∧ a = m.frm ∧ i = m.item then m.n else 0 := by
 unfold fromD Mv.src
 by_cases h : kOf a i = kOf m.frm m.item
 ·obtain ⟨h1, h2⟩ := kOf_inj ha hi hf hit h
  by_cases h0 : m.frm ≠ 0
  ·rw [if_pos ⟨h0, h⟩, if_pos ⟨h0, h1, h2⟩]
  ·rw [if_neg (fun x => h0 x.1), if_neg (fun x => h0 x.1)]
 ·rw [if_neg (fun x => h x.2), if_neg (fun x => h (by rw [x.2.1, x.2.2]))]
theorem toD_ne {m : Mv} {a i : Int} (ha : 0 ≤ a ∧ a < 2147483648) (hi : 0 ≤ i ∧ i < 2147483648) (hf : 0 ≤ m.dst ∧ m.dst < 2147483648) (hit : 0 ≤ m.item ∧ m.item < 2147483648) : toD m (kOf a i) = if a = m.dst ∧ i = m.item then m.n else 0 := by
 unfold toD Mv.tgt
 by_cases h : kOf a i = kOf m.dst m.item
 ·obtain ⟨h1, h2⟩ := kOf_inj ha hi hf hit h
  rw [if_pos h, if_pos ⟨h1, h2⟩]
 ·rw [if_neg h, if_neg (fun x => h (by rw [x.1, x.2]))]
theorem LOk.free {mx : Int → Bool} {K K' : Int} {S : LSt} (h : LOk mx K S) (hm : ∀ i, mx i = false) : LOk mx K' S := ⟨h.ok, h.len, fun k hi => (by rw [hm] at hi; cases hi), h.tot, h.sh, h.nf, h.ns⟩
end Go.Proofs.YtlcalajehnaenaaGreatDoor
namespace Go.Proofs.YtlcalajehnaenaaGreatDoor
open Go.RowKit
open Go.ChangeMaps (setBlock)
def IIter (w : World) (mb r : Nat) (es : List (Int × Value)) (left : Int → Bool) : Prop :=
 ∃ (l : List MapEntry) (clock : Nat) (seen : Array Nat), w.heap[mb]? = some (.map l.toArray clock) ∧ l.map (fun e => (e.key, e.val)) = es.map (fun p => (Value.int .i64 p.1, p.2)) ∧ (es.map Prod.fst).Nodup ∧ (l.map (·.born)).Nodup ∧ (∀ e ∈ l, e.born < clock) ∧
  w.heap[r]? = some (.mapIter (some mb) clock seen clock) ∧ ∀ e ∈ l, ∀ k, e.key = .int .i64 k → left k = !seen.contains e.born
def iterLeft (w : World) (mb r : Nat) : Nat :=
 match w.heap[mb]?, w.heap[r]? with
 | some (.map es _), some (.mapIter _ _ seen _) => (leftOf es seen).size
 | _, _ => 0
section
variable {P : Program} {w w' : World} {mb r : Nat} {es : List (Int × Value)} {left : Int → Bool}
theorem IIter.keep (h : IIter w mb r es left) (h1 : w'.heap[mb]? = w.heap[mb]?) (h2 : w'.heap[r]? = w.heap[r]?) : IIter w' mb r es left := by
 obtain ⟨l, clock, seen, a1, a2, a3, a4, a5, a6, a7⟩ := h
 exact ⟨l, clock, seen, h1.trans a1, a2, a3, a4, a5, h2.trans a6, a7⟩
theorem IIter.lt (h : IIter w mb r es left) : mb < w.heap.size ∧ r < w.heap.size := by
 obtain ⟨l, clock, seen, a1, a2, a3, a4, a5, a6, a7⟩ := h
 exact ⟨(Array.getElem?_eq_some_iff.1 a1).1, (Array.getElem?_eq_some_iff.1 a6).1⟩
theorem IIter.not_ty {t : TypeId} (h : IIter w mb r es left) : ¬ Ty w r t := by
 obtain ⟨l, clock, seen, a1, a2, a3, a4, a5, a6, a7⟩ := h
 rintro ⟨cs, fr, h⟩
 rw [h] at a6
 cases a6
theorem IIter.ne (h : IIter w mb r es left) : r ≠ mb := by
 obtain ⟨l, clock, seen, a1, a2, a3, a4, a5, a6, a7⟩ := h
 rintro rfl
 rw [a1] at a6
 cases a6
theorem IIter.mod {F : Nat → Prop} (h : IIter w mb r es left) (m : Mod F w w') (h1 : ¬ F mb) (h2 : ¬ F r) : IIter w' mb r es left := h.keep (m.block mb h.lt.1 h1) (m.block r h.lt.2 h2)
theorem IMap.iter (h : IMap w mb es) {t kt e : TypeId} (ht : P.underlying t = some (.map kt e)) : ∃ w', (Instr.range t (.map (some mb))).run P w = .ok (.pointer (some ⟨w.heap.size, 0, none⟩)) w' ∧ IIter w' mb w.heap.size es (fun _ => true) ∧ Below w.heap.size w w' := by
 obtain ⟨l, clock, h1, h2, h3, h4, h5⟩ := h
 have hlt := (Array.getElem?_eq_some_iff.1 h1).1
 refine ⟨_, run_range_map w t kt e mb _ clock ht h1, ⟨l, clock, #[], (Below.heap_alloc w _ mb hlt).trans h1, h2, h3, h4, h5, World.alloc_heap_new w _, fun _ _ _ _ => by simp⟩, (Below.refl _ w).alloc (Nat.le_refl _) _⟩
theorem key_of {l : List MapEntry} (h2 : l.map (fun e => (e.key, e.val)) = es.map (fun p => (Value.int .i64 p.1, p.2))) {e : MapEntry} (he : e ∈ l) : ∃ k v, e.key = .int .i64 k ∧ e.val = v ∧ (k, v) ∈ es := by
 have : (e.key, e.val) ∈ l.map (fun e => (e.key, e.val)) := List.mem_map.2 ⟨e, he, rfl⟩
 rw [h2] at this
 obtain ⟨p, hp, heq⟩ := List.mem_map.1 this
 injection heq with e1 e2
 exact ⟨p.1, p.2, e1.symm, e2.symm, hp⟩
theorem keys_inj (l : List MapEntry) : ∀ {es : List (Int × Value)} (_ : l.map (fun e => (e.key, e.val)) = es.map (fun p => (Value.int .i64 p.1, p.2))) (_ : (es.map Prod.fst).Nodup) {a b : MapEntry} (_ : a ∈ l) (_ : b ∈ l) (_ : a.key = b.key), a = b := by
 induction l with
 | nil => intro es _ _ a b ha; exact absurd ha (by simp)
 | cons e l ih =>
   intro es h2 h3 a b ha hb he
   rcases es with _ | ⟨p, es⟩
   ·simp at h2
   ·simp only [List.map_cons, List.cons.injEq, Prod.mk.injEq] at h2
    obtain ⟨⟨hk, hv⟩, hr⟩ := h2
    rw [List.map_cons, List.nodup_cons] at h3
    have hno : ∀ x ∈ l, x.key ≠ e.key := by
     intro x hx hxe
     obtain ⟨k, v, h4, -, h5⟩ := key_of hr hx
     rw [h4, hk] at hxe
     injection hxe with _ hxe
     exact h3.1 (List.mem_map.2 ⟨(k, v), h5, hxe⟩)
    rcases List.mem_cons.1 ha with rfl | ha'
    ·rcases List.mem_cons.1 hb with rfl | hb
     ·rfl
     ·exact absurd he.symm (hno b hb)
    ·rcases List.mem_cons.1 hb with rfl | hb
     ·exact absurd he (hno a ha')
     ·exact ih hr h3.2 ha' hb he
theorem borns_inj (l : List MapEntry) : ∀ (_ : (l.map (·.born)).Nodup) {a b : MapEntry} (_ : a ∈ l) (_ : b ∈ l) (_ : a.born = b.born), a = b := by
 induction l with
 | nil => intro _ a b ha; exact absurd ha (by simp)
 | cons e l ih =>
   intro h3 a b ha hb he
   rw [List.map_cons, List.nodup_cons] at h3
   have hno : ∀ x ∈ l, x.born ≠ e.born := fun x hx hxe => h3.1 (List.mem_map.2 ⟨x, hx, hxe⟩)
   rcases List.mem_cons.1 ha with rfl | ha'
   ·rcases List.mem_cons.1 hb with rfl | hb
    ·rfl
    ·exact absurd he.symm (hno b hb)
   ·rcases List.mem_cons.1 hb with rfl | hb
    ·exact absurd he (hno a ha')
    ·exact ih h3.2 ha' hb he
theorem IIter.next (h : IIter w mb r es left) :
 ((∀ p ∈ es, left p.1 = false) ∧ ∀ ty, (Instr.next (.pointer (some ⟨r, 0, none⟩)) false ty).run P w = .ok (.tuple #[.bool false]) w) ∨
 ∃ k v w', (k, v) ∈ es ∧ left k = true ∧ (∀ ty, (Instr.next (.pointer (some ⟨r, 0, none⟩)) false ty).run P w = .ok (.tuple #[.bool true, .int .i64 k, v]) w') ∧ (Instr.entry (.pointer (some ⟨r, 0, none⟩))).run P w' = .ok (.tuple #[.int .i64 k, v]) w' ∧
  IIter w' mb r es (fun j => left j && !(j == k)) ∧ w.grownBy w' (some r) ∧ w'.heap.size = w.heap.size ∧ iterLeft w' mb r < iterLeft w mb r := by
 obtain ⟨l, clock, seen, a1, a2, a3, a4, a5, a6, a7⟩ := h
 have hmr : mb ≠ r := by
  rintro rfl
  rw [a1] at a6
  cases a6
 have hrl := (Array.getElem?_eq_some_iff.1 a6).1
 rcases run_next_at (P := P) w 0 r mb clock clock seen l.toArray clock a6 a1 (by simpa using a5) (Nat.le_refl _) with ⟨h0, -⟩ | ⟨e, he, w1, hw1, hrun⟩
 ·left
  refine ⟨fun p hp => ?_, fun ty => ?_⟩
  ·have hm : (Value.int .i64 p.1, p.2) ∈ es.map (fun p => (Value.int .i64 p.1, p.2)) := List.mem_map.2 ⟨p, hp, rfl⟩
   rw [← a2] at hm
   obtain ⟨e, he, heq⟩ := List.mem_map.1 hm
   injection heq with e1 _
   rw [a7 e he p.1 e1]
   cases hc : seen.contains e.born with
   | true => rfl
   | false =>
     have : e ∈ leftOf l.toArray seen := by
      unfold leftOf
      rw [Array.mem_filter]
      exact ⟨by simpa using he, by rw [hc]; rfl⟩
     have : 0 < (leftOf l.toArray seen).size := Array.size_pos_of_mem this
     omega
  ·rcases run_next_at (P := P) w ty r mb clock clock seen l.toArray clock a6 a1 (by simpa using a5) (Nat.le_refl _) with ⟨_, h1⟩ | ⟨e, he, _⟩
   ·exact h1
   ·have : 0 < (leftOf l.toArray seen).size := Array.size_pos_of_mem (by simpa using he)
    omega
 ·right
  obtain ⟨hel, hec⟩ := mem_left he
  have hel' : e ∈ l := by simpa using hel
  obtain ⟨k, v, hk, hv, hkv⟩ := key_of a2 hel'
  have hW : w1.heap = w.heap := by rcases hw1 with rfl | rfl <;> rfl
  have hmb : (setBlock w1 r (.mapIter (some mb) clock (seen.push e.born) clock)).heap[mb]? = some (.map l.toArray clock) := by
   show (w1.heap.setIfInBounds r _)[mb]? = _
   rw [hW, Array.getElem?_setIfInBounds_ne (Ne.symm hmr)]
   exact a1
  have hr' : (setBlock w1 r (.mapIter (some mb) clock (seen.push e.born) clock)).heap[r]? = some (.mapIter (some mb) clock (seen.push e.born) clock) := by
   show (w1.heap.setIfInBounds r _)[r]? = _
   rw [hW]
   simp [hrl]
  rw [hk, hv] at hrun
  refine ⟨k, v, _, hkv, ?_, fun ty => hrun, ?_, ⟨l, clock, seen.push e.born, hmb, a2, a3, a4, a5, hr', ?_⟩, ?_, ?_, ?_⟩
  ·rw [a7 e hel' k hk, hec]
   rfl
  ·have := run_entry_at (P := P) _ r mb clock seen l.toArray clock e hr' hmb hel (by simpa using a4)
   rw [hk, hv] at this
   exact this
  ·intro e2 he2 k2 hk2
   have hcp : (seen.push e.born).contains e2.born = (seen.contains e2.born || (e2.born == e.born)) := by
    rw [Bool.eq_iff_iff]
    simp
   rw [hcp, Bool.not_or, ← a7 e2 he2 k2 hk2]
   show (left k2 && !(k2 == k)) = _
   by_cases hee : e2 = e
   ·subst hee
    rw [hk] at hk2
    injection hk2 with _ hk2
    simp [hk2]
   ·have h1 : (k2 == k) = false := by
     rw [beq_eq_false_iff_ne]
     rintro rfl
     exact hee (keys_inj l a2 a3 he2 hel' (hk2.trans hk.symm))
    have h2 : (e2.born == e.born) = false := by
     rw [beq_eq_false_iff_ne]
     intro h
     exact hee (borns_inj l a4 he2 hel' h)
    rw [h1, h2]
  ·have hos : w1.os = w.os ∧ w1.tape = w.tape ∧ w1.output = w.output := by rcases hw1 with rfl | rfl <;> exact ⟨rfl, rfl, rfl⟩
   refine ⟨hos.1, hos.2.1, hos.2.2, ?_, fun j _ hne => ?_⟩
   ·show w.heap.size ≤ (w1.heap.setIfInBounds r _).size
    rw [hW]
    simp
   ·show (w1.heap.setIfInBounds r _)[j]? = _
    rw [hW, Array.getElem?_setIfInBounds_ne (fun e => hne (by rw [e]))]
  ·show (w1.heap.setIfInBounds r _).size = _
   rw [hW]
   simp
  ·unfold iterLeft
   rw [hmb, hr', a1, a6]
   exact left_shrinks _ _ _ he
end
end Go.Proofs.YtlcalajehnaenaaGreatDoor
namespace Go.Proofs.YtlcalajehnaenaaGreatDoor
open Go.RowKit
theorem imap_at {l1 l2 : List (Int × Value)} {k : Int} {v u : Value} {j : Nat} (hn : ((l1 ++ (k, v) :: l2).map Prod.fst).Nodup) (hj : (l1 ++ (k, v) :: l2)[j]? = some (k, u)) : j = l1.length := by
 obtain ⟨hlt, hj⟩ := List.getElem?_eq_some_iff.1 hj
 have h1 : l1.length < (l1 ++ (k, v) :: l2).length := by simp
 have e1 : ((l1 ++ (k, v) :: l2).map Prod.fst)[j]'(by simpa using hlt) = k := by rw [List.getElem_map, hj]
 have e2 : ((l1 ++ (k, v) :: l2).map Prod.fst)[l1.length]'(by simp) = k := by simp
 exact (List.getElem_inj hn).1 (e1.trans e2.symm)
theorem map_erase {α β : Type} (f : α → β) : ∀ (l : List α) (i : Nat), (l.eraseIdx i).map f = (l.map f).eraseIdx i
 | [], i => by simp
 | a :: l, 0 => by simp
 | a :: l, i + 1 => by simp [map_erase f l i]
theorem IMap.del {P : Program} {w : World} {b : Nat} {l1 l2 : List (Int × Value)} {k : Int} {v : Value} {t kt e ty : TypeId} (h : IMap w b (l1 ++ (k, v) :: l2)) (ht : P.underlying t = some (.map kt e)) (hk : P.underlying kt = some (.int .i64)) :
 ∃ w', (Builtin.delete_ #[t, kt] ty #[.map (some b), .int .i64 k]).run P w = .ok (.tuple #[]) w' ∧ IMap w' b (l1 ++ l2) ∧ w.grownBy w' (some b) ∧ w'.heap.size = w.heap.size := by
 obtain ⟨l, c, hb, hl, hn, hbn, hbc⟩ := h
 have hlt := (Array.getElem?_eq_some_iff.1 hb).1
 have hlen : l.length = (l1 ++ (k, v) :: l2).length := by have := congrArg List.length hl; simpa using this
 rcases imap_find l _ hl k 0 with ⟨h1, h2⟩ | ⟨j, v0, h1, h0, h2, h3, h4⟩
 ·exfalso
  have := List.lookup_eq_none_iff.1 h1 (k, v) (by simp)
  simp at this
 ·obtain rfl := imap_at hn h3
  have hsub : (l.eraseIdx l1.length).Sublist l := List.eraseIdx_sublist _ _
  have hers : (l1 ++ (k, v) :: l2).eraseIdx l1.length = l1 ++ l2 := by
   rw [List.eraseIdx_append_of_length_le (Nat.le_refl _)]
   simp
  refine ⟨_, ?_, ⟨l.eraseIdx l1.length, c, heap_set_same hlt, ?_, ?_, ?_, ?_⟩, grown_setObj w b _, by simp⟩
  ·simp [Builtin.delete_, run_underlying ht, MapKept.run_getObj_map hb, run_checkKey hk, run_findKey hk l k _ h4, MapKept.run_setObj_map _ hb, Result.andThen]
  ·rw [map_erase, hl, ← map_erase, hers]
  ·rw [← hers, map_erase]
   exact hn.eraseIdx _
  ·rw [map_erase]
   exact hbn.eraseIdx _
  ·exact fun e he => hbc e (hsub.subset he)
end Go.Proofs.YtlcalajehnaenaaGreatDoor
namespace Go.Proofs.YtlcalajehnaenaaGreatDoor
open Go.RowKit
open Go.ChangeMaps (setBlock)
structure KeyEnc (P : Program) (kt : TypeId) {K : Type} (enc : K → Value) : Prop where
 keyed : Go.Maps.Keyed P kt
 lit : ∀ k, ∃ l, keyOf P kt (enc k) = some l
 inj : ∀ {a b : K}, enc a = enc b → a = b
section
variable {K : Type} {enc : K → Value}
def GMap (enc : K → Value) (w : World) (b : Nat) (es : List (K × Value)) : Prop :=
 ∃ (l : List MapEntry) (clock : Nat), w.heap[b]? = some (.map l.toArray clock) ∧ l.map (fun e => (e.key, e.val)) = es.map (fun p => (enc p.1, p.2)) ∧ (es.map Prod.fst).Nodup ∧ (l.map (·.born)).Nodup ∧ ∀ e ∈ l, e.born < clock
theorem GMap.block {w : World} {b : Nat} {es : List (K × Value)} (h : GMap enc w b es) : ∃ l c, w.heap[b]? = some (.map l c) := by
 obtain ⟨l, c, h, _⟩ := h
 exact ⟨_, _, h⟩
theorem GMap.lt {w : World} {b : Nat} {es : List (K × Value)} (h : GMap enc w b es) : b < w.heap.size := by
 obtain ⟨l, c, h⟩ := h.block
 exact (Array.getElem?_eq_some_iff.1 h).1
theorem GMap.not_ty {w : World} {b : Nat} {es : List (K × Value)} {t : TypeId} (h : GMap enc w b es) : ¬ Ty w b t := by
 obtain ⟨l, c, h⟩ := h.block
 exact fun k => k.not_map h
theorem GMap.keep {w w' : World} {b : Nat} {es : List (K × Value)} (h : GMap enc w b es) (hb : w'.heap[b]? = w.heap[b]?) : GMap enc w' b es := by
 obtain ⟨l, c, h, r⟩ := h
 exact ⟨l, c, hb.trans h, r⟩
theorem GMap.mod {F : Nat → Prop} {w w' : World} {b : Nat} {es : List (K × Value)} (h : GMap enc w b es) (m : Mod F w w') (hF : ¬ F b) : GMap enc w' b es := h.keep (m.block b h.lt hF)
theorem GMap.all {w w' : World} {b : Nat} {es : List (K × Value)} (h : GMap enc w b es) (m : Below w.heap.size w w') : GMap enc w' b es := h.keep (m.block b h.lt)
theorem GMap.new (enc : K → Value) (w : World) : GMap enc (w.alloc (.map #[] 0)) w.heap.size [] := ⟨[], 0, by rw [World.alloc_heap_new], rfl, by simp, by simp, by simp⟩
theorem GMap.nodup {w : World} {b : Nat} {es : List (K × Value)} (h : GMap enc w b es) : (es.map Prod.fst).Nodup := by
 obtain ⟨l, c, _, _, h, _⟩ := h
 exact h
section
def GIter (enc : K → Value) (w : World) (mb r : Nat) (es : List (K × Value)) (left : K → Bool) : Prop :=
 ∃ (l : List MapEntry) (clock : Nat) (seen : Array Nat), w.heap[mb]? = some (.map l.toArray clock) ∧ l.map (fun e => (e.key, e.val)) = es.map (fun p => (enc p.1, p.2)) ∧ (es.map Prod.fst).Nodup ∧ (l.map (·.born)).Nodup ∧ (∀ e ∈ l, e.born < clock) ∧
  w.heap[r]? = some (.mapIter (some mb) clock seen clock) ∧ ∀ e ∈ l, ∀ k, e.key = enc k → left k = !seen.contains e.born
variable {P : Program} {w : World} {es : List (K × Value)} {w' : World} {mb r : Nat} {left : K → Bool}
theorem GIter.keep (h : GIter enc w mb r es left) (h1 : w'.heap[mb]? = w.heap[mb]?) (h2 : w'.heap[r]? = w.heap[r]?) : GIter enc w' mb r es left := by
 obtain ⟨l, clock, seen, a1, a2, a3, a4, a5, a6, a7⟩ := h
 exact ⟨l, clock, seen, h1.trans a1, a2, a3, a4, a5, h2.trans a6, a7⟩
theorem GIter.lt (h : GIter enc w mb r es left) : mb < w.heap.size ∧ r < w.heap.size := by
 obtain ⟨l, clock, seen, a1, a2, a3, a4, a5, a6, a7⟩ := h
 exact ⟨(Array.getElem?_eq_some_iff.1 a1).1, (Array.getElem?_eq_some_iff.1 a6).1⟩
theorem GIter.not_ty {t : TypeId} (h : GIter enc w mb r es left) : ¬ Ty w r t := by
 obtain ⟨l, clock, seen, a1, a2, a3, a4, a5, a6, a7⟩ := h
 rintro ⟨cs, fr, h⟩
 rw [h] at a6
 cases a6
theorem GIter.ne (h : GIter enc w mb r es left) : r ≠ mb := by
 obtain ⟨l, clock, seen, a1, a2, a3, a4, a5, a6, a7⟩ := h
 rintro rfl
 rw [a1] at a6
 cases a6
theorem GIter.not_map {c : Nat} {l : Array MapEntry} (h : GIter enc w mb r es left) : w.heap[r]? ≠ some (.map l c) := by
 obtain ⟨l, clock, seen, a1, a2, a3, a4, a5, a6, a7⟩ := h
 rw [a6]
 simp
theorem GIter.mod {F : Nat → Prop} (h : GIter enc w mb r es left) (m : Mod F w w') (h1 : ¬ F mb) (h2 : ¬ F r) : GIter enc w' mb r es left := h.keep (m.block mb h.lt.1 h1) (m.block r h.lt.2 h2)
theorem GMap.iter (h : GMap enc w mb es) {t kt e : TypeId} (ht : P.underlying t = some (.map kt e)) : ∃ w', (Instr.range t (.map (some mb))).run P w = .ok (.pointer (some ⟨w.heap.size, 0, none⟩)) w' ∧ GIter enc w' mb w.heap.size es (fun _ => true) ∧ Below w.heap.size w w' := by
 obtain ⟨l, clock, h1, h2, h3, h4, h5⟩ := h
 have hlt := (Array.getElem?_eq_some_iff.1 h1).1
 refine ⟨_, run_range_map w t kt e mb _ clock ht h1, ⟨l, clock, #[], (Below.heap_alloc w _ mb hlt).trans h1, h2, h3, h4, h5, World.alloc_heap_new w _, fun _ _ _ _ => by simp⟩, (Below.refl _ w).alloc (Nat.le_refl _) _⟩
theorem gkey_of {l : List MapEntry} (h2 : l.map (fun e => (e.key, e.val)) = es.map (fun p => (enc p.1, p.2))) {e : MapEntry} (he : e ∈ l) : ∃ k v, e.key = enc k ∧ e.val = v ∧ (k, v) ∈ es := by
 have : (e.key, e.val) ∈ l.map (fun e => (e.key, e.val)) := List.mem_map.2 ⟨e, he, rfl⟩
 rw [h2] at this
 obtain ⟨p, hp, heq⟩ := List.mem_map.1 this
 injection heq with e1 e2
 exact ⟨p.1, p.2, e1.symm, e2.symm, hp⟩
theorem gkeys_inj (hinj : ∀ {a b : K}, enc a = enc b → a = b) (l : List MapEntry) : ∀ {es : List (K × Value)} (_ : l.map (fun e => (e.key, e.val)) = es.map (fun p => (enc p.1, p.2))) (_ : (es.map Prod.fst).Nodup) {a b : MapEntry} (_ : a ∈ l) (_ : b ∈ l) (_ : a.key = b.key), a = b := by
 induction l with
 | nil => intro es _ _ a b ha; exact absurd ha (by simp)
 | cons e l ih =>
   intro es h2 h3 a b ha hb he
   rcases es with _ | ⟨p, es⟩
   ·simp at h2
   ·simp only [List.map_cons, List.cons.injEq, Prod.mk.injEq] at h2
    obtain ⟨⟨hk, hv⟩, hr⟩ := h2
    rw [List.map_cons, List.nodup_cons] at h3
    have hno : ∀ x ∈ l, x.key ≠ e.key := by
     intro x hx hxe
     obtain ⟨k, v, h4, -, h5⟩ := gkey_of hr hx
     rw [h4, hk] at hxe
     have hxe := hinj hxe
     exact h3.1 (List.mem_map.2 ⟨(k, v), h5, hxe⟩)
    rcases List.mem_cons.1 ha with rfl | ha'
    ·rcases List.mem_cons.1 hb with rfl | hb
     ·rfl
     ·exact absurd he.symm (hno b hb)
    ·rcases List.mem_cons.1 hb with rfl | hb
     ·exact absurd he (hno a ha')
     ·exact ih hr h3.2 ha' hb he
end
theorem genc_at {l : List MapEntry} {es : List (K × Value)} (hl : l.map (fun e => (e.key, e.val)) = es.map (fun p => (enc p.1, p.2))) {j : Nat} {e : MapEntry} (hj : l[j]? = some e) : ∃ p, es[j]? = some p ∧ e.key = enc p.1 ∧ e.val = p.2 := by
 have := congrArg (fun q => q[j]?) hl
 simp only [List.getElem?_map, hj, Option.map_some] at this
 cases hp : es[j]? with
 | none => rw [hp] at this; cases this
 | some p =>
   rw [hp] at this
   simp only [Option.map_some, Option.some.injEq, Prod.mk.injEq] at this
   exact ⟨p, rfl, this.1, this.2⟩
theorem gcheck {P : Program} {kt : TypeId} (KE : KeyEnc P kt enc) (em : Bool) (k : K) (w : World) : (Instr.checkKey em 10000 kt (enc k)).run P w = .ok () w := by
 obtain ⟨lit, hlit⟩ := KE.lit k
 exact KE.keyed.check w em hlit
theorem gstays {P : Program} {kt : TypeId} (KE : KeyEnc P kt enc) (k : K) (w : World) : (Instr.keyThatStays (enc k) (enc k)).run P w = .ok (enc k) w := by
 obtain ⟨lit, hlit⟩ := KE.lit k
 exact KE.keyed.stays w hlit
variable [DecidableEq K]
def glk : List (K × Value) → K → Option Value
 | [], _ => none
 | p :: es, k => if p.1 = k then some p.2 else glk es k
def gput : List (K × Value) → K → Value → List (K × Value)
 | [], k, v => [(k, v)]
 | p :: es, k, v => if p.1 = k then (k, v) :: es else p :: gput es k v
def gdel (es : List (K × Value)) (k : K) : List (K × Value) := es.filter fun p => decide (p.1 ≠ k)
theorem glk_cons_ne {p : K × Value} {es : List (K × Value)} {k : K} (h : p.1 ≠ k) : glk (p :: es) k = glk es k := by
 conv => lhs; unfold glk
 rw [if_neg h]
theorem gput_keys (es : List (K × Value)) (k : K) (v : Value) : (gput es k v).map Prod.fst = if k ∈ es.map Prod.fst then es.map Prod.fst else es.map Prod.fst ++ [k] := by
 induction es with
 | nil => simp [gput]
 | cons p es ih =>
   unfold gput
   by_cases h : p.1 = k
   ·simp [h]
   ·rw [if_neg h]
    simp only [List.map_cons, ih, List.mem_cons]
    have h' : ¬ k = p.1 := fun e => h e.symm
    by_cases hm : k ∈ es.map Prod.fst
    ·rw [if_pos hm, if_pos (.inr hm)]
    ·rw [if_neg hm, if_neg (by rintro (e | e); exact h' e; exact hm e)]
     rfl
theorem gput_nodup {es : List (K × Value)} (h : (es.map Prod.fst).Nodup) (k : K) (v : Value) : ((gput es k v).map Prod.fst).Nodup := by
 rw [gput_keys]
 split
 ·exact h
 ·rename_i hk
  rw [List.nodup_append]
  refine ⟨h, by simp, fun a ha b hb => ?_⟩
  rw [List.mem_singleton] at hb
  subst hb
  rintro rfl
  exact hk ha
theorem glk_put (es : List (K × Value)) (k j : K) (v : Value) : glk (gput es k v) j = if j = k then some v else glk es j := by
 induction es with
 | nil =>
   by_cases h : j = k
   ·subst h; simp [gput, glk]
   ·have : ¬ k = j := fun e => h e.symm
    simp [gput, glk, h, this]
 | cons p es ih =>
   unfold gput
   by_cases h : p.1 = k
   ·rw [if_pos h]
    by_cases hj : j = k
    ·subst hj; simp [glk]
    ·have h1 : ¬ k = j := fun e => hj e.symm
     have h2 : ¬ p.1 = j := by rw [h]; exact h1
     simp [glk, hj, h1, h2]
   ·rw [if_neg h]
    by_cases hj : p.1 = j
    ·have : ¬ j = k := by rw [← hj]; exact h
     simp [glk, hj, this]
    ·simp [glk, hj, ih]
theorem glk_none {es : List (K × Value)} {k : K} : glk es k = none ↔ ∀ p ∈ es, p.1 ≠ k := by
 induction es with
 | nil => simp [glk]
 | cons p es ih =>
   unfold glk
   by_cases h : p.1 = k
   ·simp [h]
   ·simp [h, ih]
theorem glk_of_mem {es : List (K × Value)} (hn : (es.map Prod.fst).Nodup) {k : K} {v : Value} (h : (k, v) ∈ es) : glk es k = some v := by
 induction es with
 | nil => simp at h
 | cons p es ih =>
   rw [List.map_cons, List.nodup_cons] at hn
   unfold glk
   rcases List.mem_cons.1 h with rfl | h
   ·simp
   ·rw [if_neg (fun e => hn.1 (by rw [e]; exact List.mem_map.2 ⟨(k, v), h, rfl⟩))]
    exact ih hn.2 h
theorem glk_del {es : List (K × Value)} (k j : K) : glk (gdel es k) j = if j = k then none else glk es j := by
 induction es with
 | nil => simp [gdel, glk]
 | cons p es ih =>
   unfold gdel at ih ⊢
   by_cases h : p.1 = k
   ·rw [List.filter_cons_of_neg (by simp [h]), ih]
    by_cases hj : j = k
    ·simp [hj]
    ·have : ¬ p.1 = j := by rw [h]; exact fun e => hj e.symm
     simp [glk, hj, this]
   ·rw [List.filter_cons_of_pos (by simp [h])]
    by_cases hj : p.1 = j
    ·have : ¬ j = k := by rw [← hj]; exact h
     simp [glk, hj, this]
    ·rw [glk_cons_ne hj, glk_cons_ne hj]
     exact ih
theorem gput_at : ∀ {es : List (K × Value)} {j : Nat} {k : K} {v : Value}, (es.map Prod.fst).Nodup → es[j]? = some (k, v) → ∀ u, gput es k u = es.set j (k, u)
 | [], _, _, _, _, h, _ => by simp at h
 | p :: es, 0, k, v, _, h, u => by
   simp only [List.getElem?_cons_zero, Option.some.injEq] at h
   subst h
   simp [gput]
 | p :: es, j + 1, k, v, hn, h, u => by
   rw [List.map_cons, List.nodup_cons] at hn
   have h' : es[j]? = some (k, v) := by simpa using h
   have hne : p.1 ≠ k := fun e => hn.1 (by rw [e]; exact List.mem_map.2 ⟨(k, v), List.mem_of_getElem? h', rfl⟩)
   unfold gput
   rw [if_neg hne, gput_at hn.2 h' u]
   rfl
theorem gput_new {es : List (K × Value)} {k : K} (h : ∀ p ∈ es, p.1 ≠ k) (v : Value) : gput es k v = es ++ [(k, v)] := by
 induction es with
 | nil => rfl
 | cons p es ih =>
   unfold gput
   rw [if_neg (h p (by simp)), ih (fun q hq => h q (by simp [hq]))]
   rfl
variable {P : Program} {w : World} {b : Nat} {es : List (K × Value)} {t kt e : TypeId}
theorem gfind (KE : KeyEnc P kt enc) (l : List MapEntry) (hl : l.map (fun e => (e.key, e.val)) = es.map (fun p => (enc p.1, p.2))) (hn : (es.map Prod.fst).Nodup) (k : K) (w : World) :
 ((Instr.findKey kt (enc k) l).run P w = .ok none w ∧ glk es k = none) ∨ ∃ j v, (Instr.findKey kt (enc k) l).run P w = .ok (some (j, v)) w ∧ glk es k = some v ∧ es[j]? = some (k, v) := by
 obtain ⟨lit, hlit⟩ := KE.lit k
 rcases KE.keyed.find w hlit l (fun e he => by
  obtain ⟨j, hj, rfl⟩ := List.getElem_of_mem he
  obtain ⟨p, -, h2, -⟩ := genc_at hl (List.getElem?_eq_getElem hj)
  rw [h2]
  exact KE.lit p.1) with ⟨h1, h2⟩ | ⟨j, e, h1, h2, h3⟩
 ·left
  refine ⟨h1, glk_none.2 fun p hp hk => ?_⟩
  have hm : (enc p.1, p.2) ∈ l.map (fun e => (e.key, e.val)) := by rw [hl]; exact List.mem_map.2 ⟨p, hp, rfl⟩
  obtain ⟨e, he, heq⟩ := List.mem_map.1 hm
  injection heq with e1 _
  exact h2 e he (by rw [e1, hk])
 ·right
  obtain ⟨p, hp, h4, h5⟩ := genc_at hl h2
  have hk : p.1 = k := KE.inj (h4.symm.trans h3)
  have hp' : es[j]? = some (k, e.val) := by rw [hp, ← hk, h5]
  exact ⟨j, e.val, h1, glk_of_mem hn (List.mem_of_getElem? hp'), hp'⟩
theorem GMap.look (h : GMap enc w b es) (KE : KeyEnc P kt enc) (ht : P.underlying t = some (.map kt e)) {i : TypeInfo} {z : Value} (hi : P.info? e = some i) (hz : i.zero = some z) (k : K) :
 (Instr.lookup t (.map (some b)) (enc k) false).run P w = .ok ((glk es k).getD z) w := by
 obtain ⟨l, c, hb, hl, hn, _⟩ := h
 rcases gfind KE l hl hn k w with ⟨h1, h2⟩ | ⟨j, v, h1, h2, h3⟩
 ·simp [Instr.lookup, run_underlying ht, MapKept.run_getObj_map hb, gcheck KE, h1, h2, zeroValue, typeInfo, hi, hz, Result.andThen]
 ·simp [Instr.lookup, run_underlying ht, MapKept.run_getObj_map hb, gcheck KE, h1, h2, Result.andThen]
theorem GMap.look2 (h : GMap enc w b es) (KE : KeyEnc P kt enc) (ht : P.underlying t = some (.map kt e)) {i : TypeInfo} {z : Value} (hi : P.info? e = some i) (hz : i.zero = some z) (k : K) :
 (Instr.lookup t (.map (some b)) (enc k) true).run P w = .ok (.tuple #[(glk es k).getD z, .bool (glk es k).isSome]) w := by
 obtain ⟨l, c, hb, hl, hn, _⟩ := h
 rcases gfind KE l hl hn k w with ⟨h1, h2⟩ | ⟨j, v, h1, h2, h3⟩
 ·simp [Instr.lookup, run_underlying ht, MapKept.run_getObj_map hb, gcheck KE, h1, h2, zeroValue, typeInfo, hi, hz, Result.andThen]
 ·simp [Instr.lookup, run_underlying ht, MapKept.run_getObj_map hb, gcheck KE, h1, h2, Result.andThen]
theorem GMap.store (h : GMap enc w b es) (KE : KeyEnc P kt enc) (ht : P.underlying t = some (.map kt e)) (k : K) (v : Value) :
 ∃ w', (Instr.mapUpdate t (.map (some b)) (enc k) v).run P w = .ok () w' ∧ GMap enc w' b (gput es k v) ∧ w.grownBy w' (some b) ∧ w'.heap.size = w.heap.size := by
 obtain ⟨l, c, hb, hl, hn, hbn, hbc⟩ := h
 have hlt := (Array.getElem?_eq_some_iff.1 hb).1
 have hlen : l.length = es.length := by have := congrArg List.length hl; simpa using this
 rcases gfind KE l hl hn k w with ⟨h1, h2⟩ | ⟨j, v0, h1, h2, h3⟩
 ·refine ⟨_, ?_, ⟨l ++ [⟨enc k, v, c⟩], c + 1, heap_set_same hlt, ?_, gput_nodup hn k v, ?_, ?_⟩, grown_setObj w b _, by simp⟩
  ·simp [Instr.mapUpdate, run_underlying ht, MapKept.run_getObj_map hb, gcheck KE, h1, MapKept.run_setObj_map _ hb, Result.andThen]
  ·rw [gput_new (glk_none.1 h2)]
   simp [hl]
  ·rw [List.map_append, List.nodup_append]
   refine ⟨hbn, by simp, fun a ha b hb => ?_⟩
   rw [List.map_singleton, List.mem_singleton] at hb
   obtain ⟨x, hx, rfl⟩ := List.mem_map.1 ha
   have := hbc x hx
   rw [hb]
   show x.born ≠ c
   omega
  ·intro x hx
   rw [List.mem_append, List.mem_singleton] at hx
   rcases hx with hx | rfl
   ·have := hbc x hx; omega
   ·simp
 ·have hj : j < l.length := by
   have := (List.getElem?_eq_some_iff.1 h3).1
   omega
  have hjk : l[j].key = enc k := by
   obtain ⟨p, hp, h4, _⟩ := genc_at hl (List.getElem?_eq_getElem hj)
   rw [h3] at hp
   injection hp with hp
   subst hp
   exact h4
  refine ⟨_, ?_, ⟨l.set j { l[j] with key := enc k, val := v }, c, heap_set_same hlt, ?_, gput_nodup hn k v, ?_, ?_⟩, grown_setObj w b _, by simp⟩
  ·have hm : l.modify j (fun e => { e with key := enc k, val := v }) = l.set j { l[j] with key := enc k, val := v } := by
    apply List.ext_getElem?
    intro i
    rw [List.getElem?_modify, List.getElem?_set]
    split
    ·rename_i hi
     subst hi
     simp [hj]
    ·simp
   simp [Instr.mapUpdate, run_underlying ht, MapKept.run_getObj_map hb, gcheck KE, h1, hj, hjk, gstays KE, MapKept.run_setObj_map _ hb, Result.andThen, hm]
  ·rw [gput_at hn h3 v, List.map_set, List.map_set, hl]
  ·rw [List.map_set]
   have : (l.map (·.born)).set j l[j].born = l.map (·.born) := by
    apply List.ext_getElem?
    intro i
    rw [List.getElem?_set]
    split
    ·rename_i hi
     subst hi
     simp [hj]
    ·rfl
   rw [this]
   exact hbn
  ·intro x hx
   rcases List.mem_or_eq_of_mem_set hx with hx | rfl
   ·exact hbc x hx
   ·exact hbc l[j] (List.getElem_mem hj)
theorem gdel_at {es : List (K × Value)} (hn : (es.map Prod.fst).Nodup) {j : Nat} {k : K} {v : Value} (h : es[j]? = some (k, v)) : gdel es k = es.eraseIdx j := by
 induction es generalizing j with
 | nil => simp at h
 | cons p es ih =>
   rw [List.map_cons, List.nodup_cons] at hn
   unfold gdel at ih ⊢
   rcases j with _ | j
   ·simp only [List.getElem?_cons_zero, Option.some.injEq] at h
    subst h
    rw [List.filter_cons_of_neg (by simp)]
    show _ = es
    rw [List.filter_eq_self]
    intro q hq
    simp only [decide_not, Bool.not_eq_true', decide_eq_false_iff_not]
    exact fun e => hn.1 (by rw [← e]; exact List.mem_map.2 ⟨q, hq, rfl⟩)
   ·have h' : es[j]? = some (k, v) := by simpa using h
    have hne : p.1 ≠ k := fun e => hn.1 (by rw [e]; exact List.mem_map.2 ⟨(k, v), List.mem_of_getElem? h', rfl⟩)
    rw [List.filter_cons_of_pos (by simp [hne]), ih hn.2 h']
    rfl
theorem GMap.del {ty : TypeId} (h : GMap enc w b es) (KE : KeyEnc P kt enc) (ht : P.underlying t = some (.map kt e)) (k : K) :
 ∃ w', (Builtin.delete_ #[t, kt] ty #[.map (some b), enc k]).run P w = .ok (.tuple #[]) w' ∧ GMap enc w' b (gdel es k) ∧ w.grownBy w' (some b) ∧ w'.heap.size = w.heap.size := by
 obtain ⟨l, c, hb, hl, hn, hbn, hbc⟩ := h
 have hlt := (Array.getElem?_eq_some_iff.1 hb).1
 have hlen : l.length = es.length := by have := congrArg List.length hl; simpa using this
 rcases gfind KE l hl hn k w with ⟨h1, h2⟩ | ⟨j, v0, h1, h2, h3⟩
 ·have hd : gdel es k = es := by
   unfold gdel
   rw [List.filter_eq_self]
   intro q hq
   simpa using glk_none.1 h2 q hq
  refine ⟨_, ?_, ⟨l, c, heap_set_same hlt, by rw [hd]; exact hl, by rw [hd]; exact hn, hbn, hbc⟩, grown_setObj w b _, by simp⟩
  simp [Builtin.delete_, run_underlying ht, MapKept.run_getObj_map hb, gcheck KE, h1, MapKept.run_setObj_map _ hb, Result.andThen]
 ·have hj : j < l.length := by
   have := (List.getElem?_eq_some_iff.1 h3).1
   omega
  have hsub : (l.eraseIdx j).Sublist l := List.eraseIdx_sublist _ _
  have hd := gdel_at hn h3
  refine ⟨_, ?_, ⟨l.eraseIdx j, c, heap_set_same hlt, ?_, ?_, ?_, ?_⟩, grown_setObj w b _, by simp⟩
  ·simp [Builtin.delete_, run_underlying ht, MapKept.run_getObj_map hb, gcheck KE, h1, MapKept.run_setObj_map _ hb, Result.andThen]
  ·rw [map_erase, hl, ← map_erase, hd]
  ·rw [hd, map_erase]
   exact hn.eraseIdx _
  ·rw [map_erase]
   exact hbn.eraseIdx _
  ·exact fun e he => hbc e (hsub.subset he)
variable {w' : World} {mb r : Nat} {left : K → Bool}
theorem GIter.next (hinj : ∀ {a b : K}, enc a = enc b → a = b) (h : GIter enc w mb r es left) :
 ((∀ p ∈ es, left p.1 = false) ∧ ∀ ty, (Instr.next (.pointer (some ⟨r, 0, none⟩)) false ty).run P w = .ok (.tuple #[.bool false]) w) ∨
 ∃ k v w', (k, v) ∈ es ∧ left k = true ∧ (∀ ty, (Instr.next (.pointer (some ⟨r, 0, none⟩)) false ty).run P w = .ok (.tuple #[.bool true, enc k, v]) w') ∧ (Instr.entry (.pointer (some ⟨r, 0, none⟩))).run P w' = .ok (.tuple #[enc k, v]) w' ∧
  GIter enc w' mb r es (fun j => left j && !(decide (j = k))) ∧ w.grownBy w' (some r) ∧ w'.heap.size = w.heap.size ∧ iterLeft w' mb r < iterLeft w mb r := by
 obtain ⟨l, clock, seen, a1, a2, a3, a4, a5, a6, a7⟩ := h
 have hmr : mb ≠ r := by
  rintro rfl
  rw [a1] at a6
  cases a6
 have hrl := (Array.getElem?_eq_some_iff.1 a6).1
 rcases run_next_at (P := P) w 0 r mb clock clock seen l.toArray clock a6 a1 (by simpa using a5) (Nat.le_refl _) with ⟨h0, -⟩ | ⟨e, he, w1, hw1, hrun⟩
 ·left
  refine ⟨fun p hp => ?_, fun ty => ?_⟩
  ·have hm : (enc p.1, p.2) ∈ es.map (fun p => (enc p.1, p.2)) := List.mem_map.2 ⟨p, hp, rfl⟩
   rw [← a2] at hm
   obtain ⟨e, he, heq⟩ := List.mem_map.1 hm
   injection heq with e1 _
   rw [a7 e he p.1 e1]
   cases hc : seen.contains e.born with
   | true => rfl
   | false =>
     have : e ∈ leftOf l.toArray seen := by
      unfold leftOf
      rw [Array.mem_filter]
      exact ⟨by simpa using he, by rw [hc]; rfl⟩
     have : 0 < (leftOf l.toArray seen).size := Array.size_pos_of_mem this
     omega
  ·rcases run_next_at (P := P) w ty r mb clock clock seen l.toArray clock a6 a1 (by simpa using a5) (Nat.le_refl _) with ⟨_, h1⟩ | ⟨e, he, _⟩
   ·exact h1
   ·have : 0 < (leftOf l.toArray seen).size := Array.size_pos_of_mem (by simpa using he)
    omega
 ·right
  obtain ⟨hel, hec⟩ := mem_left he
  have hel' : e ∈ l := by simpa using hel
  obtain ⟨k, v, hk, hv, hkv⟩ := gkey_of a2 hel'
  have hW : w1.heap = w.heap := by rcases hw1 with rfl | rfl <;> rfl
  have hmb : (setBlock w1 r (.mapIter (some mb) clock (seen.push e.born) clock)).heap[mb]? = some (.map l.toArray clock) := by
   show (w1.heap.setIfInBounds r _)[mb]? = _
   rw [hW, Array.getElem?_setIfInBounds_ne (Ne.symm hmr)]
   exact a1
  have hr' : (setBlock w1 r (.mapIter (some mb) clock (seen.push e.born) clock)).heap[r]? = some (.mapIter (some mb) clock (seen.push e.born) clock) := by
   show (w1.heap.setIfInBounds r _)[r]? = _
   rw [hW]
   simp [hrl]
  rw [hk, hv] at hrun
  refine ⟨k, v, _, hkv, ?_, fun ty => hrun, ?_, ⟨l, clock, seen.push e.born, hmb, a2, a3, a4, a5, hr', ?_⟩, ?_, ?_, ?_⟩
  ·rw [a7 e hel' k hk, hec]
   rfl
  ·have := run_entry_at (P := P) _ r mb clock seen l.toArray clock e hr' hmb hel (by simpa using a4)
   rw [hk, hv] at this
   exact this
  ·intro e2 he2 k2 hk2
   have hcp : (seen.push e.born).contains e2.born = (seen.contains e2.born || (e2.born == e.born)) := by
    rw [Bool.eq_iff_iff]
    simp
   rw [hcp, Bool.not_or, ← a7 e2 he2 k2 hk2]
   show (left k2 && !(decide (k2 = k))) = _
   by_cases hee : e2 = e
   ·subst hee
    rw [hk] at hk2
    have hk2 := hinj hk2
    simp [hk2]
   ·have h1 : decide (k2 = k) = false := by
     rw [decide_eq_false_iff_not]
     rintro rfl
     exact hee (gkeys_inj hinj l a2 a3 he2 hel' (hk2.trans hk.symm))
    have h2 : (e2.born == e.born) = false := by
     rw [beq_eq_false_iff_ne]
     intro h
     exact hee (borns_inj l a4 he2 hel' h)
    rw [h1, h2]
  ·have hos : w1.os = w.os ∧ w1.tape = w.tape ∧ w1.output = w.output := by rcases hw1 with rfl | rfl <;> exact ⟨rfl, rfl, rfl⟩
   refine ⟨hos.1, hos.2.1, hos.2.2, ?_, fun j _ hne => ?_⟩
   ·show w.heap.size ≤ (w1.heap.setIfInBounds r _).size
    rw [hW]
    simp
   ·show (w1.heap.setIfInBounds r _)[j]? = _
    rw [hW, Array.getElem?_setIfInBounds_ne (fun e => hne (by rw [e]))]
  ·show (w1.heap.setIfInBounds r _).size = _
   rw [hW]
   simp
  ·unfold iterLeft
   rw [hmb, hr', a1, a6]
   exact left_shrinks _ _ _ he
end
end Go.Proofs.YtlcalajehnaenaaGreatDoor
