/- Plain Lean: reading varints and lists. -/
import Derived.Test.YtgjbbobphfejoaaGreatDoorHG35

namespace Go.Proofs.YtgjbbobphfejoaaGreatDoor
open Go.RowKit

/-- The byte c at place i is refused. -/
def badAt (i : Nat) (c : UInt8) : Bool := (decide (i = 9) && decide (1 < c.toNat)) || (decide (0 < i) && decide (c.toNat = 0))
/-- Reading a varint from place i on: the error, the number, the rest. -/
def decU : Nat → Nat → List UInt8 → Int × Nat × List UInt8
  | _, _, [] => (3, 0, [])
  | i, acc, c :: r => if badAt i c then (2, 0, []) else if c.toNat < 128 then (0, acc + c.toNat * 128 ^ i, r) else decU (i + 1) (acc + c.toNat % 128 * 128 ^ i) r
theorem decU_nil (i acc : Nat) : decU i acc [] = (3, 0, []) := rfl
theorem decU_bad {i acc : Nat} {c : UInt8} {r : List UInt8} (h : badAt i c = true) : decU i acc (c :: r) = (2, 0, []) := by rw [decU, if_pos h]
theorem decU_end {i acc : Nat} {c : UInt8} {r : List UInt8} (h : badAt i c = false) (hc : c.toNat < 128) : decU i acc (c :: r) = (0, acc + c.toNat * 128 ^ i, r) := by rw [decU, if_neg (by simp [h]), if_pos hc]
theorem decU_go {i acc : Nat} {c : UInt8} {r : List UInt8} (h : badAt i c = false) (hc : 128 ≤ c.toNat) : decU i acc (c :: r) = decU (i + 1) (acc + c.toNat % 128 * 128 ^ i) r := by rw [decU, if_neg (by simp [h]), if_neg (by omega)]
/-- An error, and nothing with it; or a rest that is no longer. -/
theorem decU_out : ∀ (bs : List UInt8) (i acc : Nat), (decU i acc bs).1 = 0 ∨ ((decU i acc bs).1 = 2 ∨ (decU i acc bs).1 = 3) ∧ (decU i acc bs).2 = (0, [])
  | [], _, _ => .inr ⟨.inr rfl, rfl⟩
  | c :: r, i, acc => by
    by_cases h : badAt i c = true
    · rw [decU_bad h]; exact .inr ⟨.inl rfl, rfl⟩
    · by_cases hc : c.toNat < 128
      · rw [decU_end (by simpa using h) hc]; exact .inl rfl
      · rw [decU_go (by simpa using h) (by omega)]; exact decU_out r _ _
theorem pow128_le {i : Nat} (h : i ≤ 9) : 128 ^ i ≤ 9223372036854775808 := Nat.le_trans (Nat.pow_le_pow_right (by decide) h) (by decide)
/-- What is read fits. -/
theorem decU_lt : ∀ (bs : List UInt8) (i acc : Nat), i ≤ 9 → acc < 128 ^ i → (decU i acc bs).2.1 ≤ 18446744073709551615 ∧ (decU i acc bs).2.2.length ≤ bs.length
  | [], _, _, _, _ => ⟨by simp [decU], by simp [decU]⟩
  | c :: r, i, acc, hi, ha => by
    have hp := pow128_le hi
    by_cases h : badAt i c = true
    · rw [decU_bad h]; exact ⟨by simp, by simp⟩
    · have h' : badAt i c = false := by simpa using h
      by_cases hc : c.toNat < 128
      · rw [decU_end h' hc]
        refine ⟨?_, by simp⟩
        simp only
        by_cases h9 : i = 9
        · subst h9
          have : c.toNat ≤ 1 := by
            unfold badAt at h'
            simp at h'
            omega
          omega
        · have h8 : 128 ^ i ≤ 128 ^ 8 := Nat.pow_le_pow_right (by decide) (by omega)
          have : c.toNat * 128 ^ i ≤ 127 * 128 ^ 8 := Nat.mul_le_mul (by omega) h8
          omega
      · rw [decU_go h' (by omega)]
        by_cases h9 : i = 9
        · subst h9
          unfold badAt at h'
          simp at h'
          omega
        · have hm : c.toNat % 128 * 128 ^ i ≤ 127 * 128 ^ i := Nat.mul_le_mul (by omega) (Nat.le_refl _)
          have := decU_lt r (i + 1) (acc + c.toNat % 128 * 128 ^ i) (by omega) (by rw [Nat.pow_succ]; omega)
          exact ⟨this.1, by simp only [List.length_cons]; omega⟩
/-- Round trip. -/
theorem decU_varint (n : Nat) : ∀ (i acc : Nat) (r : List UInt8), i ≤ 9 → n * 128 ^ i < 18446744073709551616 → (i = 0 ∨ 0 < n) → decU i acc (varint n ++ r) = (0, acc + n * 128 ^ i, r) := by
  induction n using Nat.strongRecOn with
  | ind n ih =>
    intro i acc r hi hn h0
    by_cases h : n < 128
    · rw [varint_lt h]
      have hc : (UInt8.ofNat n).toNat = n := by rw [UInt8.toNat_ofNat']; omega
      rw [List.singleton_append, decU_end ?_ (by omega), hc]
      unfold badAt
      rw [hc]
      by_cases h9 : i = 9
      · subst h9
        have : n ≤ 1 := by omega
        simp; omega
      · simp [h9]; omega
    · have hc : (UInt8.ofNat (n % 128 + 128)).toNat = n % 128 + 128 := by rw [UInt8.toNat_ofNat']; omega
      have h9 : i ≠ 9 := by
        rintro rfl
        have : 128 * 128 ^ 9 ≤ n * 128 ^ 9 := Nat.mul_le_mul (by omega) (Nat.le_refl _)
        omega
      rw [varint_ge (by omega), List.cons_append, decU_go ?_ (by omega), hc]
      · have e : n = n / 128 * 128 + n % 128 := by omega
        have e2 : n / 128 * 128 ^ (i + 1) + n % 128 * 128 ^ i = n * 128 ^ i := by
          rw [Nat.pow_succ, ← Nat.mul_assoc, Nat.mul_right_comm, ← Nat.add_mul, ← e]
        rw [ih (n / 128) (by omega) (i + 1) _ r (by omega) (by omega) (.inr (by omega)), show (n % 128 + 128) % 128 = n % 128 by omega]
        congr 2
        omega
      · unfold badAt
        rw [hc]
        simp [h9]
theorem decU_enc {n : Nat} (h : n ≤ 18446744073709551615) (r : List UInt8) : decU 0 0 (varint n ++ r) = (0, n, r) := by
  have := decU_varint n 0 0 r (by decide) (by omega) (.inl rfl)
  simpa using this
/-- One encoding. -/
theorem decU_one : ∀ (bs : List UInt8) (i acc v : Nat) (r : List UInt8), i ≤ 9 → decU i acc bs = (0, v, r) → ∃ n, bs = varint n ++ r ∧ v = acc + n * 128 ^ i ∧ (0 < i → 0 < n)
  | [], i, acc, v, r, _, h => by rw [decU_nil] at h; simp at h
  | c :: bs, i, acc, v, r, hi, h => by
    by_cases hb : badAt i c = true
    · rw [decU_bad hb] at h; simp at h
    · have hb' : badAt i c = false := by simpa using hb
      by_cases hc : c.toNat < 128
      · rw [decU_end hb' hc] at h
        injection h with _ h
        injection h with h1 h2
        subst h1 h2
        refine ⟨c.toNat, ?_, rfl, fun h0 => ?_⟩
        · rw [varint_lt hc]; simp
        · unfold badAt at hb'; simp at hb'; omega
      · rw [decU_go hb' (by omega)] at h
        have h9 : i ≠ 9 := by
          rintro rfl
          unfold badAt at hb'; simp at hb'; omega
        obtain ⟨n, e1, e2, e3⟩ := decU_one bs (i + 1) _ v r (by omega) h
        have hn := e3 (by omega)
        have hc2 := c.toNat_lt
        refine ⟨c.toNat % 128 + 128 * n, ?_, ?_, fun _ => by omega⟩
        · rw [varint_ge (by omega), show (c.toNat % 128 + 128 * n) % 128 + 128 = c.toNat by omega, show (c.toNat % 128 + 128 * n) / 128 = n by omega, e1]
          simp
        · rw [e2, Nat.add_mul, Nat.pow_succ, ← Nat.mul_assoc, Nat.mul_right_comm, Nat.mul_comm n 128]
          omega
theorem decU_inv {bs r : List UInt8} {v : Nat} (h : decU 0 0 bs = (0, v, r)) : bs = varint v ++ r := by
  obtain ⟨n, e1, e2, _⟩ := decU_one bs 0 0 v r (by decide) h
  have : v = n := by simpa using e2
  subst this; exact e1
/-- A proper prefix. -/
theorem decU_cut (n : Nat) : ∀ (i acc k : Nat), i ≤ 9 → n * 128 ^ i < 18446744073709551616 → (i = 0 ∨ 0 < n) → k < (varint n).length → decU i acc ((varint n).take k) = (3, 0, []) := by
  induction n using Nat.strongRecOn with
  | ind n ih =>
    intro i acc k hi hn h0 hk
    cases k with
    | zero => simp [decU_nil]
    | succ k =>
      by_cases h : n < 128
      · rw [varint_lt h] at hk; simp at hk
      · have hc : (UInt8.ofNat (n % 128 + 128)).toNat = n % 128 + 128 := by rw [UInt8.toNat_ofNat']; omega
        have h9 : i ≠ 9 := by
          rintro rfl
          have : 128 * 128 ^ 9 ≤ n * 128 ^ 9 := Nat.mul_le_mul (by omega) (Nat.le_refl _)
          omega
        rw [varint_ge (by omega)] at hk ⊢
        rw [List.take_succ_cons, decU_go ?_ (by omega)]
        · have e2 : n / 128 * 128 ^ (i + 1) ≤ n * 128 ^ i := by
            rw [Nat.pow_succ, ← Nat.mul_assoc, Nat.mul_right_comm]
            exact Nat.mul_le_mul (by omega) (Nat.le_refl _)
          exact ih (n / 128) (by omega) (i + 1) _ k (by omega) (by omega) (.inr (by omega)) (by simpa using hk)
        · unfold badAt
          rw [hc]
          simp [h9]
theorem decU_prefix {n : Nat} (h : n ≤ 18446744073709551615) {k : Nat} (hk : k < (varint n).length) : decU 0 0 ((varint n).take k) = (3, 0, []) :=
  decU_cut n 0 0 k (by decide) (by omega) (.inl rfl) hk

/-- Reading bytes: the length, then the bytes. -/
def decRaw (bs : List UInt8) : Int × List UInt8 × List UInt8 :=
  if (decU 0 0 bs).1 ≠ 0 then ((decU 0 0 bs).1, [], []) else if (decU 0 0 bs).2.2.length < (decU 0 0 bs).2.1 then (3, [], []) else (0, (decU 0 0 bs).2.2.take (decU 0 0 bs).2.1, (decU 0 0 bs).2.2.drop (decU 0 0 bs).2.1)
/-- Reading k signed numbers. -/
def decK : Nat → List UInt8 → Int × List Int × List UInt8
  | 0, r => (0, [], r)
  | k + 1, r => if (decU 0 0 r).1 ≠ 0 then ((decU 0 0 r).1, [], []) else if (decK k (decU 0 0 r).2.2).1 ≠ 0 then ((decK k (decU 0 0 r).2.2).1, [], []) else (0, unzigI (decU 0 0 r).2.1 :: (decK k (decU 0 0 r).2.2).2.1, (decK k (decU 0 0 r).2.2).2.2)
def decInts (bs : List UInt8) : Int × List Int × List UInt8 :=
  if (decU 0 0 bs).1 ≠ 0 then ((decU 0 0 bs).1, [], []) else if (decU 0 0 bs).2.2.length < (decU 0 0 bs).2.1 then (3, [], []) else decK (decU 0 0 bs).2.1 (decU 0 0 bs).2.2
def decBool (bs : List UInt8) : Int × Bool × List UInt8 :=
  match bs with
  | [] => (3, false, [])
  | c :: r => if 1 < c.toNat then (2, false, []) else (0, decide (c.toNat = 1), r)
end Go.Proofs.YtgjbbobphfejoaaGreatDoor

/- The walks of wire's Reader. -/
namespace Go.Proofs.YtgjbbobphfejoaaGreatDoor
open Go.RowKit

/-- A Reader at block gd: at no error the bytes that are left. -/
def Rdr (w : World) (B gd : Nat) (rest : List UInt8) (err : Int) : Prop :=
  gd < B ∧ B ≤ w.heap.size ∧ ∃ A n c, Blk w gd 118 #[.slice A n c, .int .i64 err] ∧ n ≤ c ∧ c ≤ 9223372036854775807 ∧ (err = 0 → rest.length = n ∧ n ≤ 70368744177664 ∧ Rd w B A n (vByte rest))
theorem Rdr.grown {w w' : World} {B gd : Nat} {rest : List UInt8} {err : Int} {row : Option Nat} (h : Rdr w B gd rest err) (hg : w.grownBy w' row) (hr : ∀ r, row = some r → B ≤ r) : Rdr w' B gd rest err := by
  obtain ⟨k1, k2, A, n, c, h1, h2, h3, h4⟩ := h
  have hne : ∀ b, b < B → some b ≠ row := fun b hb e => by have := hr b e.symm; omega
  refine ⟨k1, Nat.le_trans k2 hg.size, A, n, c, h1.grown hg (hne gd k1), h2, h3, fun e => ⟨(h4 e).1, (h4 e).2.1, ?_⟩⟩
  exact (h4 e).2.2.keep fun b hb => hg.block b (by omega) (hne b hb)
theorem Rdr.all {w w' : World} {B gd : Nat} {rest : List UInt8} {err : Int} (h : Rdr w B gd rest err) (hb : Below w.heap.size w w') : Rdr w' B gd rest err :=
  h.grown (only_of_below hb none) (fun _ e => by cases e)
theorem Rdr.more {w : World} {B B' gd : Nat} {rest : List UInt8} {err : Int} (h : Rdr w B gd rest err) (hB : B ≤ B') (hB' : B' ≤ w.heap.size) : Rdr w B' gd rest err := by
  obtain ⟨k1, k2, A, n, c, h1, h2, h3, h4⟩ := h
  exact ⟨by omega, hB', A, n, c, h1, h2, h3, fun e => ⟨(h4 e).1, (h4 e).2.1, (h4 e).2.2.more hB⟩⟩
theorem Rdr.lt {w : World} {B gd : Nat} {rest : List UInt8} {err : Int} (h : Rdr w B gd rest err) : gd < B ∧ B ≤ w.heap.size := ⟨h.1, h.2.1⟩
/-- The row of what is left does not lie in the Reader's own block. -/
theorem rd_set {w : World} {B gd n m c k : Nat} {A A' : Option Addr} {bs : List UInt8} {T : TypeId} {err : Int} {u : Value} (hR : Rd w B A n (vByte bs)) (hD : Blk w gd T #[.slice A' m c, .int .i64 err]) : Rd (w.setCell ⟨gd, k, none⟩ u) B A n (vByte bs) := by
  intro h
  obtain ⟨b, off, e, hb, hc⟩ := hR h
  have hne : b ≠ gd := by
    rintro rfl
    have h0 := hc 0 h
    rw [Nat.add_zero, Blk.cell hD off] at h0
    rcases off with _ | _ | off <;> simp [vByte] at h0
  exact ⟨b, off, e, hb, fun j hj => (World.cell?_of_block (w := w) (Below.heap_setCell w _ u b hne)).trans (hc j hj)⟩
/-- An error is recorded. -/
theorem Rdr.fail {w : World} {B gd : Nat} {rest : List UInt8} {err : Int} (h : Rdr w B gd rest err) (e : Int) (he : e ≠ 0) : Rdr (w.setCell ⟨gd, 1, none⟩ (.int .i64 e)) B gd [] e := by
  obtain ⟨k1, k2, A, n, c, h1, h2, h3, h4⟩ := h
  exact ⟨k1, by simpa [World.setCell] using k2, A, n, c, by simpa using h1.set_ 1 (.int .i64 e), h2, h3, fun h => absurd h he⟩

set_option maxRecDepth 100000 in
set_option maxHeartbeats 400000 in
theorem octet_err (B gd : Nat) (rest : List UInt8) (err : Int) (w : World) (HR : Hid (Rdr w B gd rest err)) (he : err ≠ 0) :
    Calls Tryz.prog 149 #[.pointer (some ⟨gd, 0, none⟩)] w fun e w' => e = .returned (.int .u8 0) ∧ w = w' := by
  obtain ⟨k1, k2, A, n, c, h1, h2, h3, h4⟩ := HR.out
  have hc1 : w.cell? ⟨gd, 1, none⟩ = some (.int .i64 err) := by simpa using h1.cell 1
  have hb : (err != 0) = true := by simpa using he
  clear h1 h4 he
  go_enter Tryz.func149, Tryz.ntmps149
  go_wp2
  go_ret
  exact ⟨rfl, rfl⟩

set_option maxRecDepth 100000 in
set_option maxHeartbeats 400000 in
theorem octet_nil (B gd : Nat) (w : World) (HR : Hid (Rdr w B gd [] 0)) :
    Calls Tryz.prog 149 #[.pointer (some ⟨gd, 0, none⟩)] w fun e w' => e = .returned (.int .u8 0) ∧ Rdr w' B gd [] 3 ∧ w.grownBy w' (some gd) := by
  obtain ⟨k1, k2, A, n, c, h1, h2, h3, h4⟩ := HR.out
  have hc0 : w.cell? ⟨gd, 0, none⟩ = some (.slice A n c) := by simpa using h1.cell 0
  have hc1 : w.cell? ⟨gd, 1, none⟩ = some (.int .i64 0) := by simpa using h1.cell 1
  have hf1 : w.frozen? ⟨gd, 1, none⟩ = false := h1.frozen 1
  have hn : ((n : Int) == 0) = true := by have := (h4 rfl).1; simp at this; simp; omega
  have HF := Lib.hid (HR.out.fail 3 (by decide))
  clear h1 h4
  go_enter Tryz.func149, Tryz.ntmps149
  go_wp2
  go_ret
  exact ⟨rfl, HF.out, only_set (only_refl _ _) (.inl rfl) _⟩

theorem Rdr.step {w : World} {B gd n c bk off : Nat} {b : UInt8} {r : List UInt8} (hB : Blk w gd 118 #[.slice (some ⟨bk, off, none⟩) n c, .int .i64 0]) (k1 : gd < B) (k2 : B ≤ w.heap.size) (hR : Rd w B (some ⟨bk, off, none⟩) n (vByte (b :: r))) (hl : (b :: r).length = n) (hn : 1 ≤ n) (hnc : n ≤ c) (hc : c ≤ 9223372036854775807) (hm : n ≤ 70368744177664)
    (o' : Nat) (ho : c ≠ 1 → o' = off + 1) : Rdr (w.setCell ⟨gd, 0, none⟩ (.slice (some ⟨bk, o', none⟩) (n - 1) (c - 1))) B gd r 0 := by
  refine ⟨k1, by simpa [World.setCell] using k2, some ⟨bk, o', none⟩, n - 1, c - 1, by simpa using hB.set_ 0 (.slice (some ⟨bk, o', none⟩) (n - 1) (c - 1)), by omega, by omega, fun _ => ⟨by simp at hl; omega, by omega, ?_⟩⟩
  refine rd_set (T := 118) (A' := some ⟨bk, off, none⟩) (m := n) (c := c) (err := 0) ?_ hB
  intro h0
  have := ho (by omega)
  subst this
  obtain ⟨b', off', e, hb, hcell⟩ := hR (by omega)
  cases e
  exact ⟨bk, off + 1, rfl, hb, fun j hj => by
    rw [Nat.add_right_comm, Nat.add_assoc, hcell (j + 1) (by omega)]
    simp [vByte]⟩
set_option maxRecDepth 100000 in
set_option maxHeartbeats 400000 in
theorem octet_cons (B gd : Nat) (b : UInt8) (r : List UInt8) (w : World) (HR : Hid (Rdr w B gd (b :: r) 0)) :
    Calls Tryz.prog 149 #[.pointer (some ⟨gd, 0, none⟩)] w fun e w' => e = .returned (.int .u8 ((b.toNat : Nat) : Int)) ∧ Rdr w' B gd r 0 ∧ w.grownBy w' (some gd) := by
  obtain ⟨k1, k2, A, n, c, h1, h2, h3, h4⟩ := HR.out
  have hc0 : w.cell? ⟨gd, 0, none⟩ = some (.slice A n c) := by simpa using h1.cell 0
  have hc1 : w.cell? ⟨gd, 1, none⟩ = some (.int .i64 0) := by simpa using h1.cell 1
  have hf0 : w.frozen? ⟨gd, 0, none⟩ = false := h1.frozen 0
  obtain ⟨hl, hmx, hR⟩ := h4 rfl
  have hn1 : 1 ≤ n := by simp at hl; omega
  have hn : ((n : Int) == 0) = false := by simp; omega
  obtain ⟨bk, off, rfl, hbk, hcell⟩ := hR (by omega)
  have hcb : w.cell? ⟨bk, off, none⟩ = some (.int .u8 ((b.toNat : Nat) : Int)) := by simpa [vByte] using hcell 0 (by omega)
  have hcp : 1 ≤ c := by omega
  have HL := Lib.hid hl
  have HH := Lib.hid h1
  have HHR := Lib.hid hR
  clear hR h1 h4 hcell hl
  go_enter Tryz.func149, Tryz.ntmps149
  go_wp2
  · go_ret
    have hc1' : c = 1 := by assumption
    subst hc1'
    exact ⟨rfl, Rdr.step (c := 1) HH.out k1 k2 HHR.out HL.out hn1 h2 (by omega) hmx off (fun h => absurd rfl h), only_set (only_refl _ _) (.inl rfl) _⟩
  · go_ret
    exact ⟨rfl, Rdr.step HH.out k1 k2 HHR.out HL.out hn1 h2 (by omega) hmx (off + 1) (fun _ => rfl), only_set (only_refl _ _) (.inl rfl) _⟩

/-- Reading in a state. -/
def readU (rest : List UInt8) (err : Int) : Int × Nat × List UInt8 := if err = 0 then decU 0 0 rest else (err, 0, [])
theorem Rdr.any {w : World} {B gd : Nat} {rest : List UInt8} {err : Int} (h : Rdr w B gd rest err) (he : err ≠ 0) (rest' : List UInt8) : Rdr w B gd rest' err := by
  obtain ⟨k1, k2, A, n, c, h1, h2, h3, h4⟩ := h
  exact ⟨k1, k2, A, n, c, h1, h2, h3, fun h => absurd h he⟩
theorem Rdr.err_cell {w : World} {B gd : Nat} {rest : List UInt8} {err : Int} (h : Rdr w B gd rest err) : w.cell? ⟨gd, 1, none⟩ = some (.int .i64 err) ∧ w.frozen? ⟨gd, 1, none⟩ = false := by
  obtain ⟨_, _, A, n, c, h1, h2, h3, h4⟩ := h
  exact ⟨by simpa using h1.cell 1, h1.frozen 1⟩
theorem bad_cases {i : Nat} {c : UInt8} (h : badAt i c = true) :
    (((i : Int) == 9) = true ∧ 1 < ((c.toNat : Nat) : Int)) ∨ (((i : Int) == 9) = false ∧ 0 < (i : Int) ∧ (((c.toNat : Nat) : Int) == 0) = true) ∨ (((i : Int) == 9) = true ∧ ((c.toNat : Nat) : Int) ≤ 1 ∧ 0 < (i : Int) ∧ (((c.toNat : Nat) : Int) == 0) = true) := by
  unfold badAt at h
  simp at h ⊢
  omega
theorem ok_cases {i : Nat} {c : UInt8} (h : badAt i c = false) :
    (((i : Int) == 9) = true ∧ ((c.toNat : Nat) : Int) ≤ 1 ∧ 0 < (i : Int) ∧ (((c.toNat : Nat) : Int) == 0) = false) ∨ (((i : Int) == 9) = false ∧ 0 < (i : Int) ∧ (((c.toNat : Nat) : Int) == 0) = false) ∨ (((i : Int) == 9) = false ∧ (i : Int) ≤ 0) := by
  unfold badAt at h
  simp at h ⊢
  omega

set_option maxRecDepth 100000 in
set_option maxHeartbeats 400000 in
theorem ruint_any (B gd : Nat) (rest : List UInt8) (err : Int) (w : World) (HR : Hid (Rdr w B gd rest err)) :
    Calls Tryz.prog 77 #[.pointer (some ⟨gd, 0, none⟩)] w fun e w' => e = .returned (.int .u64 (((readU rest err).2.1 : Nat) : Int)) ∧ Rdr w' B gd (readU rest err).2.2 (readU rest err).1 ∧ w.grownBy w' (some gd) := by
  by_cases he : err = 0
  · subst he
    have HU := Lib.hid (show readU rest 0 = decU 0 0 rest from rfl)
    go_enter Tryz.func77, Tryz.ntmps77
    go_wp2
    go_loopw [3, 4] (fun nv iv wr => ∃ i acc : Nat, ∃ cur : List UInt8, i ≤ 9 ∧ iv = .int .i64 (i : Int) ∧ nv = .int .u64 (acc : Int) ∧ Hid (acc < 128 ^ i) ∧ acc ≤ 18446744073709551615 ∧ Hid (decU i acc cur = decU 0 0 rest) ∧ Hid (Rdr wr B gd cur 0) ∧ w.grownBy wr (some gd)) (fun _ iv _ => 10 - (intOf iv).toNat)
    case atStart => exact ⟨0, 0, rest, by omega, rfl, rfl, Lib.hid (by decide), by omega, Lib.hid rfl, HR, only_refl _ _⟩
    case round =>
      obtain ⟨i, acc, cur, hi, rfl, rfl, HA, hacc, HD, HRr, ho⟩ := hrel
      cases cur with
      | nil =>
        go_wp2_with fail
        refine (octet_nil B gd _ HRr).mono ?_
        rintro e w1 ⟨rfl, hR1, ho1⟩
        obtain ⟨hc1, hf1⟩ := hR1.err_cell
        go_wp2
        go_ret
        rw [HU.out, ← HD.out, decU_nil]
        exact ⟨rfl, hR1, ho.trans ho1⟩
      | cons c r =>
        go_wp2_with fail
        refine (octet_cons B gd c r _ HRr).mono ?_
        rintro e w1 ⟨rfl, hR1, ho1⟩
        replace ho := ho.trans ho1
        obtain ⟨hc1, hf1⟩ := hR1.err_cell
        have hcl := c.toNat_lt
        cases hbad : badAt i c with
        | true =>
          have HF := Lib.hid (hR1.fail 2 (by decide))
          rw [decU_bad hbad] at HD
          rcases bad_cases hbad with ⟨q1, q2⟩ | ⟨q1, q2, q3⟩ | ⟨q1, q2, q3, q4⟩
          all_goals
            clear hbad ho1
            go_wp2
            go_ret
            rw [HU.out, ← HD.out]
            exact ⟨rfl, HF.out, only_set ho (.inl rfl) _⟩
        | false =>
          rcases ok_cases hbad with ⟨q1, q2, q3, q4⟩ | ⟨q1, q2, q3⟩ | ⟨q1, q2⟩
          all_goals
            clear ho1
            have HB := Lib.hid (or_step (c := c) hi HA.out (fun h => by subst h; unfold badAt at hbad; simp at hbad; omega))
            by_cases hc : c.toNat < 128
            · rw [decU_end hbad hc] at HD
              clear hbad
              go_wp2
              go_ret
              rw [HU.out, ← HD.out, HB.out, Nat.mod_eq_of_lt hc]
              exact ⟨rfl, hR1, ho⟩
            · first
                | (exfalso; omega)
                | (rw [decU_go hbad (by omega)] at HD
                   have hi9 : i ≠ 9 := by rintro rfl; unfold badAt at hbad; simp at hbad; omega
                   have HA2 : Hid (acc + c.toNat % 128 * 128 ^ i < 128 ^ (i + 1)) := by
                     refine Lib.hid ?_
                     have h1 := HA.out
                     have h2 : c.toNat % 128 * 128 ^ i ≤ 127 * 128 ^ i := Nat.mul_le_mul (by omega) (Nat.le_refl _)
                     rw [Nat.pow_succ]; omega
                   have hle : acc + c.toNat % 128 * 128 ^ i ≤ 18446744073709551615 := by
                     have h1 := HA2.out
                     have h2 : 128 ^ (i + 1) ≤ 128 ^ 9 := Nat.pow_le_pow_right (by decide) (by omega)
                     omega
                   have HLE := Lib.hid hle
                   clear hbad hle
                   go_wp2
                   exact ⟨⟨i + 1, _, r, by omega, by go_num, congrArg (Value.int .u64) HB.out, HA2, HLE.out, HD, Lib.hid hR1, ho⟩, by simp [intOf]; omega⟩)
  · have HU := Lib.hid (show readU rest err = (err, 0, []) from if_neg he)
    obtain ⟨hc1, hf1⟩ := HR.out.err_cell
    have hq : (err != 0) = true := by simpa using he
    go_enter Tryz.func77, Tryz.ntmps77
    go_wp2
    go_loopw [3, 4] (fun nv iv wr => nv = .int .u64 0 ∧ iv = .int .i64 0 ∧ wr = w) (fun _ _ _ => 0)
    case atStart => exact ⟨rfl, rfl, rfl⟩
    case round =>
      obtain ⟨rfl, rfl, rfl⟩ := hrel
      go_wp2_with fail
      refine (octet_err B gd rest err _ HR he).mono ?_
      rintro e w1 ⟨rfl, rfl⟩
      clear he
      go_wp2
      go_ret
      rw [HU.out]
      exact ⟨rfl, HR.out.any (by simpa using hq) _, only_refl _ _⟩

end Go.Proofs.YtgjbbobphfejoaaGreatDoor
