/- Values of worldmintref02 in memory; write, encode. -/
import Derived.Test.YtahajgmmoefpjaaWireLives
import Derived.Test.YtahajgmmoefpjaaWireMore
import Derived.Test.YtahajgmmoefpjaaRowIs
namespace Go.Proofs.Ytahajgmmoefpjaa
open Go.RowKit

/-- A value (worldmintref02.Val). -/
structure V where
  kind : Int
  u : Nat
  n : Int
  b : List UInt8
  l : List Int
def V0 : V := ⟨0, 0, 0, [], []⟩
def vCells (v : V) (s t : Sl) : Array Value := #[.int .i64 v.kind, .int .u64 (v.u : Int), .int .i64 v.n, .slice s.1 s.2.1 s.2.2, .slice t.1 t.2.1 t.2.2]
/-- What is encoded. -/
def encV (v : V) : List UInt8 :=
  if v.kind = 0 then varint v.u else if v.kind = 1 then encInt v.n else if v.kind = 2 then encBool (v.n == 1) else if v.kind = 3 ∨ v.kind = 4 then encRaw v.b else encInts v.l
/-- Its parts fit. -/
structure FitV (v : V) : Prop where
  u : v.u ≤ 18446744073709551615
  n : InI v.n
  b : v.b.length ≤ 1000
  l : v.l.length ≤ 1000
  li : ∀ j : Nat, -9223372036854775808 ≤ v.l[j]?.getD 0 ∧ v.l[j]?.getD 0 ≤ 9223372036854775807
theorem encV_len {v : V} (h : FitV v) : (encV v).length ≤ 20000 := by
  unfold encV
  have h1 := varint_len10 h.u
  have h2 := encInt_len h.n.1 h.n.2
  have h3 : (encBool (v.n == 1)).length = 1 := by unfold encBool; split <;> rfl
  have h4 : (encRaw v.b).length ≤ 1010 := by
    unfold encRaw; rw [List.length_append]
    have := varint_len10 (n := v.b.length) (by have := h.b; omega)
    have := h.b
    omega
  have h5 : (encInts v.l).length ≤ 10010 := by
    rw [← encIntsTo_all v.l v.l.length (Nat.le_refl _)]
    have := encIntsTo_len v.l (by have := h.l; omega) h.li v.l.length (Nat.le_refl _)
    have := h.l
    omega
  split
  · omega
  · split
    · omega
    · split
      · omega
      · split
        · omega
        · omega

set_option maxRecDepth 100000 in
set_option maxHeartbeats 1000000 in
theorem write_any (B gd : Nat) (bs : List UInt8) (v : V) (s t : Sl) (w : World) (HW : Hid (Wr w B gd bs)) (hf : FitV v) (hb : Hid (BIn w B s v.b)) (hl : Hid (NIn w B t v.l)) (hlen : bs.length ≤ 1000000000) :
    Calls Try.prog 34 #[.pointer (some ⟨gd, 0, none⟩), .agg (vCells v s t)] w fun e w' => e = .returned (.tuple #[]) ∧ Wr w' B gd (bs ++ encV v) ∧ Below B w w' := by
  unfold vCells
  obtain ⟨s1, s2, s3⟩ := s
  obtain ⟨t1, t2, t3⟩ := t
  obtain ⟨kind, u, n, b, l⟩ := v
  simp only at *
  have hba : ∀ o : Obj, Below B w (w.alloc o) := fun o => (Below.refl B w).alloc (by have := HW.out.lt; omega) o
  replace hba := hba (.cells #[.int .i64 kind, .int .u64 (u : Int), .int .i64 n, .slice s1 s2 s3, .slice t1 t2 t3] 47)
  have HWa := Lib.hid (HW.out.all ((Below.refl _ w).alloc (Nat.le_refl _) (.cells #[.int .i64 kind, .int .u64 (u : Int), .int .i64 n, .slice s1 s2 s3, .slice t1 t2 t3] 47)))
  have hBs : B ≤ w.heap.size := by have := HW.out.lt; omega
  have hrb : Rd (w.alloc (.cells #[.int .i64 kind, .int .u64 (u : Int), .int .i64 n, .slice s1 s2 s3, .slice t1 t2 t3] 47)) B s1 s2 (vByte b) := hb.out.rd.alloc hBs _
  have hrl : Rd (w.alloc (.cells #[.int .i64 kind, .int .u64 (u : Int), .int .i64 n, .slice s1 s2 s3, .slice t1 t2 t3] 47)) B t1 t2 (vInt l) := hl.out.rd.alloc hBs _
  have HXb : Hid (b.length = s2) := Lib.hid hb.out.len
  have HXl : Hid (l.length = t2) := Lib.hid hl.out.len
  have hu := hf.u
  have hn1 := hf.n.1
  have hn2 := hf.n.2
  have hb1000 : s2 ≤ 1000 := by have := hf.b; simp only at this; rw [HXb.out] at this; exact this
  have hl1000 : t2 ≤ 1000 := by have := hf.l; simp only at this; rw [HXl.out] at this; exact this
  have hli := Lib.hid hf.li
  simp only at hu hn1 hn2 hli
  clear hf
  by_cases h0 : kind = 0
  · subst h0
    have HE := Lib.hid (show encV ⟨0, u, n, b, l⟩ = varint u from rfl)
    go_enter Try.func34, Try.ntmps34
    go_wp2_with fail
    refine (wuint_any B gd bs u _ rfl _ HWa hu (by omega)).mono ?_
    rintro e w1 ⟨rfl, hW1, hb1⟩
    go_wp2
    go_end0
    exact ⟨rfl, by rw [HE.out]; exact hW1, hba.trans hb1⟩
  by_cases h1 : kind = 1
  · subst h1
    have HE := Lib.hid (show encV ⟨1, u, n, b, l⟩ = encInt n from rfl)
    go_enter Try.func34, Try.ntmps34
    go_wp2_with fail
    refine (wint_any B gd bs n _ HWa hn1 hn2 (by omega)).mono ?_
    rintro e w1 ⟨rfl, hW1, hb1⟩
    go_wp2
    go_end0
    exact ⟨rfl, by rw [HE.out]; exact hW1, hba.trans hb1⟩
  by_cases h2 : kind = 2
  · subst h2
    have HE := Lib.hid (show encV ⟨2, u, n, b, l⟩ = encBool (n == 1) from rfl)
    go_enter Try.func34, Try.ntmps34
    go_wp2_with fail
    refine (wbool_any B gd bs (n == 1) _ HWa (by omega)).mono ?_
    rintro e w1 ⟨rfl, hW1, hb1⟩
    go_wp2
    go_end0
    exact ⟨rfl, by rw [HE.out]; exact hW1, hba.trans hb1⟩
  by_cases h3 : kind = 3
  · subst h3
    have hcv := conv_str (P := Try.prog) (src := 24) (dst := 9) (c := s3) Try.underlying24 Try.underlying5 Try.underlying9 HXb.out hrb
    have HE := Lib.hid (show encV ⟨3, u, n, b, l⟩ = encRaw b from rfl)
    go_enter Try.func34, Try.ntmps34
    go_wp2_with fail
    refine (wtext_any B gd bs ⟨b.toArray⟩ _ HWa (by have := HXb.out; simp [ByteArray.size]; omega) (by omega)).mono ?_
    rintro e w1 ⟨rfl, hW1, hb1⟩
    go_wp2
    go_end0
    exact ⟨rfl, by rw [HE.out]; exact hW1, hba.trans hb1⟩
  by_cases h4 : kind = 4
  · subst h4
    have HE := Lib.hid (show encV ⟨4, u, n, b, l⟩ = encRaw b from rfl)
    go_enter Try.func34, Try.ntmps34
    go_wp2_with fail
    refine (wraw_any B gd bs b _ _ _ B _ HWa HXb (by omega) hrb (Nat.le_refl _) (by omega)).mono ?_
    rintro e w1 ⟨rfl, hW1, hb1⟩
    go_wp2
    go_end0
    exact ⟨rfl, by rw [HE.out]; exact hW1, hba.trans hb1⟩
  · have q0 : (kind == 0) = false := by simpa using h0
    have q1 : (kind == 1) = false := by simpa using h1
    have q2 : (kind == 2) = false := by simpa using h2
    have q3 : (kind == 3) = false := by simpa using h3
    have q4 : (kind == 4) = false := by simpa using h4
    have HE := Lib.hid (show encV ⟨kind, u, n, b, l⟩ = encInts l by unfold encV; simp only; rw [if_neg h0, if_neg h1, if_neg h2, if_neg (by omega)])
    clear h0 h1 h2 h3 h4
    go_enter Try.func34, Try.ntmps34
    go_wp2_with fail
    refine (wints_any B gd bs l _ _ _ B _ HWa HXl (by omega) hrl (Nat.le_refl _) (by omega) hli).mono ?_
    rintro e w1 ⟨rfl, hW1, hb1⟩
    go_wp2
    go_end0
    exact ⟨rfl, by rw [HE.out]; exact hW1, hba.trans hb1⟩

/-- The slice '.slice A n c' holds the values vs, all in blocks below B. -/
def VRow (w : World) (B : Nat) (A : Option Addr) (n : Nat) (vs : List V) : Prop :=
  vs.length = n ∧ ∃ S T : Nat → Sl, (0 < n → ∃ b off, A = some ⟨b, off, none⟩ ∧ b < B ∧ ∀ j, j < n → ∀ i, i < 5 → w.cell? ⟨b, off + j * 5 + i, none⟩ = (vCells (vs[j]?.getD V0) (S j) (T j))[i]?) ∧
    ∀ j, j < n → BIn w B (S j) (vs[j]?.getD V0).b ∧ NIn w B (T j) (vs[j]?.getD V0).l
theorem VRow.keep {w w' : World} {B n : Nat} {A : Option Addr} {vs : List V} (h : VRow w B A n vs) (hk : ∀ b, b < B → w'.heap[b]? = w.heap[b]?) : VRow w' B A n vs := by
  obtain ⟨hl, S, T, h1, h2⟩ := h
  refine ⟨hl, S, T, fun hn => ?_, fun j hj => ⟨(h2 j hj).1.keep hk, (h2 j hj).2.keep hk⟩⟩
  obtain ⟨b, off, e, hb, hc⟩ := h1 hn
  exact ⟨b, off, e, hb, fun j hj i hi => (World.cell?_of_block (w := w) (hk b hb)).trans (hc j hj i hi)⟩
theorem VRow.below {w w' : World} {B B' n : Nat} {A : Option Addr} {vs : List V} (h : VRow w B A n vs) (hb : Below B' w w') (hB : B ≤ B') : VRow w' B A n vs := h.keep fun b hlt => hb.block b (by omega)
theorem VRow.more {w : World} {B B' n : Nat} {A : Option Addr} {vs : List V} (h : VRow w B A n vs) (hB : B ≤ B') : VRow w B' A n vs := by
  obtain ⟨hl, S, T, h1, h2⟩ := h
  refine ⟨hl, S, T, fun hn => ?_, fun j hj => ⟨(h2 j hj).1.more hB, (h2 j hj).2.more hB⟩⟩
  obtain ⟨b, off, e, hb, hc⟩ := h1 hn
  exact ⟨b, off, e, by omega, hc⟩
theorem VRow.at_ {w : World} {B n k : Nat} {A : Option Addr} {vs : List V} (h : VRow w B A n vs) (hk : k < n) :
    ∃ (b off : Nat) (v : V) (s t : Sl), A = some ⟨b, off, none⟩ ∧ b < B ∧ Hid (v = vs[k]?.getD V0) ∧ w.cell? ⟨b, off + k * 5, none⟩ = some (.int .i64 v.kind) ∧ w.cell? ⟨b, off + k * 5 + 1, none⟩ = some (.int .u64 (v.u : Int)) ∧ w.cell? ⟨b, off + k * 5 + 2, none⟩ = some (.int .i64 v.n) ∧
      w.cell? ⟨b, off + k * 5 + 3, none⟩ = some (.slice s.1 s.2.1 s.2.2) ∧ w.cell? ⟨b, off + k * 5 + 4, none⟩ = some (.slice t.1 t.2.1 t.2.2) ∧ Hid (BIn w B s v.b) ∧ Hid (NIn w B t v.l) := by
  obtain ⟨_, S, T, h1, h2⟩ := h
  obtain ⟨b, off, e, hb, hc⟩ := h1 (by omega)
  have c := hc k hk
  refine ⟨b, off, _, S k, T k, e, hb, Lib.hid rfl, ?_, ?_, ?_, ?_, ?_, Lib.hid (h2 k hk).1, Lib.hid (h2 k hk).2⟩
  · simpa [vCells] using c 0 (by decide)
  · simpa [vCells] using c 1 (by decide)
  · simpa [vCells] using c 2 (by decide)
  · simpa [vCells] using c 3 (by decide)
  · simpa [vCells] using c 4 (by decide)
/-- The encoding of the first k values. -/
def encTo (vs : List V) (k : Nat) : List UInt8 := (vs.take k).flatMap encV
theorem encTo_succ (vs : List V) (k : Nat) (hk : k < vs.length) : encTo vs (k + 1) = encTo vs k ++ encV (vs[k]?.getD V0) := by
  unfold encTo
  rw [List.take_succ_eq_append_getElem hk, List.flatMap_append]
  simp [hk]
theorem encTo_len (vs : List V) (hf : ∀ j : Nat, FitV (vs[j]?.getD V0)) : ∀ k, k ≤ vs.length → (encTo vs k).length ≤ 20000 * k
  | 0, _ => by simp [encTo]
  | k + 1, h => by
    rw [encTo_succ vs k (by omega), List.length_append]
    have := encTo_len vs hf k (by omega)
    have := encV_len (hf k)
    omega

set_option maxRecDepth 100000 in
set_option maxHeartbeats 1000000 in
theorem encode_any (A : Option Addr) (n c : Nat) (vs : List V) (w : World) (hV : VRow w w.heap.size A n vs) (hf : Hid (∀ j : Nat, FitV (vs[j]?.getD V0))) (hn : n ≤ 10000) (_hnc : n ≤ c) (_hc : c ≤ 9223372036854775807) :
    Calls Try.prog 35 #[.slice A n c] w fun e w' => ∃ A' n' c', e = .returned (.slice A' n' c') ∧ n' ≤ c' ∧ c' ≤ 9223372036854775807 ∧ n' ≤ 200000000 ∧ Hid ((encTo vs n).length = n') ∧
      w'.ownsRow w.heap.size 5 1 (.slice A' n' c') n' ((encTo vs n).map fun b => Value.int .u8 ((b.toNat : Nat) : Int)) ∧ Rd w' w'.heap.size A' n' (vByte (encTo vs n)) ∧ Below w.heap.size w w' := by
  have HL := Lib.hid hV.1
  go_enter Try.func35, Try.ntmps35
  go_wp2
  go_loopw [4] (fun i wr => ∃ k : Nat, k ≤ n ∧ i = .int .i64 (k : Int) ∧ Hid (Wr wr w.heap.size w.heap.size (encTo vs k)) ∧ Below w.heap.size w wr) (fun i _ => n - (intOf i).toNat)
  case atStart => exact ⟨0, by omega, rfl, Lib.hid (Wr.new w), (Below.refl _ _).alloc (Nat.le_refl _) _⟩
  case round =>
    obtain ⟨k, hk, rfl, HW, hb⟩ := hrel
    have hlen := encTo_len vs hf.out k (by rw [HL.out]; exact hk)
    by_cases hlt : k < n
    · obtain ⟨b, off, v, s, t, rfl, hbB, HV, c0, c1, c2, c3, c4, hs, ht⟩ := (hV.below hb (Nat.le_refl _)).at_ hlt
      have hfv : FitV v := by rw [HV.out]; exact hf.out k
      have HS := Lib.hid (encTo_succ vs k (by rw [HL.out]; exact hlt))
      rw [← HV.out] at HS
      go_wp2_with fail
      refine (write_any _ _ _ v s t _ HW hfv hs ht (by omega)).mono ?_
      rintro e w1 ⟨rfl, hW1, hb1⟩
      go_wp2
      exact ⟨⟨k + 1, by omega, by go_num, Lib.hid (by rw [HS.out]; exact hW1), hb.trans hb1⟩, by simp [intOf]; omega⟩
    · obtain rfl : k = n := by omega
      go_wp2_with fail
      refine (wdone_any _ _ _ _ HW (by omega)).mono ?_
      rintro e w1 ⟨A1, n1, c1, rfl, q1, q2, q3, q4, q5, q6⟩
      go_wp2
      go_ret
      exact ⟨A1, n1, c1, rfl, q1, q2, by rw [← q3.out]; omega, q3, own_lower q4 hb.size, q5, bt hb q6⟩
end Go.Proofs.Ytahajgmmoefpjaa
