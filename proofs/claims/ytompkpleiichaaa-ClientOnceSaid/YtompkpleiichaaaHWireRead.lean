/- Plain Lean: reading varints and lists. -/
import Derived.Test.YtompkpleiichaaaHG24

namespace Go.Proofs.Ytompkpleiichaaa
open Go.RowKit

/-- The byte c at place i is refused. -/
def badAt (i : Nat) (c : UInt8) : Bool := (decide (i = 9) && decide (1 < c.toNat)) || (decide (0 < i) && decide (c.toNat = 0))
/-- Reading a varint from place i on: the error, the number, the rest. -/
def decU : Nat → Nat → List UInt8 → Int × Nat × List UInt8
  | _, _, [] => (3, 0, [])
  | i, acc, c :: r => if badAt i c then (2, 0, []) else if c.toNat < 128 then (0, acc + c.toNat * 128 ^ i, r) else decU (i + 1) (acc + c.toNat % 128 * 128 ^ i) r
theorem decU_nil (i acc : Nat) : decU i acc [] = (3, 0, []) := rfl
theorem decU_bad {i acc : Nat} {c : UInt8} {r : List UInt8} (h : badAt i c = true) : decU i acc (c :: r) = (2, 0, []) := by rw [decU, if_pos h]
theorem decU_end {i acc : Nat} {c : UInt8} {r : List UInt8} (h : badAt i c = false) (hc : c.toNat < 128) : decU i acc (c :: r) = (0, acc + c.toNat * 128 ^ i, r) := by rw [decU, if_neg (by simp [h]), if_pos hc]
theorem decU_go {i acc : Nat} {c : UInt8} {r : List UInt8} (h : badAt i c = false) (hc : 128 ≤ c.toNat) : decU i acc (c :: r) = decU (i + 1) (acc + c.toNat % 128 * 128 ^ i) r := by rw [decU, if_neg (by simp [h]), if_neg (by omega)]
/-- An error, and nothing with it; or a rest that is no longer. -/
theorem decU_out : ∀ (bs : List UInt8) (i acc : Nat), (decU i acc bs).1 = 0 ∨ ((decU i acc bs).1 = 2 ∨ (decU i acc bs).1 = 3) ∧ (decU i acc bs).2 = (0, [])
  | [], _, _ => .inr ⟨.inr rfl, rfl⟩
  | c :: r, i, acc => by
    by_cases h : badAt i c = true
    · rw [decU_bad h]; exact .inr ⟨.inl rfl, rfl⟩
    · by_cases hc : c.toNat < 128
      · rw [decU_end (by simpa using h) hc]; exact .inl rfl
      · rw [decU_go (by simpa using h) (by omega)]; exact decU_out r _ _
theorem pow128_le {i : Nat} (h : i ≤ 9) : 128 ^ i ≤ 9223372036854775808 := Nat.le_trans (Nat.pow_le_pow_right (by decide) h) (by decide)
/-- What is read fits. -/
theorem decU_lt : ∀ (bs : List UInt8) (i acc : Nat), i ≤ 9 → acc < 128 ^ i → (decU i acc bs).2.1 ≤ 18446744073709551615 ∧ (decU i acc bs).2.2.length ≤ bs.length
  | [], _, _, _, _ => ⟨by simp [decU], by simp [decU]⟩
  | c :: r, i, acc, hi, ha => by
    have hp := pow128_le hi
    by_cases h : badAt i c = true
    · rw [decU_bad h]; exact ⟨by simp, by simp⟩
    · have h' : badAt i c = false := by simpa using h
      by_cases hc : c.toNat < 128
      · rw [decU_end h' hc]
        refine ⟨?_, by simp⟩
        simp only
        by_cases h9 : i = 9
        · subst h9
          have : c.toNat ≤ 1 := by
            unfold badAt at h'
            simp at h'
            omega
          omega
        · have h8 : 128 ^ i ≤ 128 ^ 8 := Nat.pow_le_pow_right (by decide) (by omega)
          have : c.toNat * 128 ^ i ≤ 127 * 128 ^ 8 := Nat.mul_le_mul (by omega) h8
          omega
      · rw [decU_go h' (by omega)]
        by_cases h9 : i = 9
        · subst h9
          unfold badAt at h'
          simp at h'
          omega
        · have hm : c.toNat % 128 * 128 ^ i ≤ 127 * 128 ^ i := Nat.mul_le_mul (by omega) (Nat.le_refl _)
          have := decU_lt r (i + 1) (acc + c.toNat % 128 * 128 ^ i) (by omega) (by rw [Nat.pow_succ]; omega)
          exact ⟨this.1, by simp only [List.length_cons]; omega⟩
/-- Round trip. -/
theorem decU_varint (n : Nat) : ∀ (i acc : Nat) (r : List UInt8), i ≤ 9 → n * 128 ^ i < 18446744073709551616 → (i = 0 ∨ 0 < n) → decU i acc (varint n ++ r) = (0, acc + n * 128 ^ i, r) := by
  induction n using Nat.strongRecOn with
  | ind n ih =>
    intro i acc r hi hn h0
    by_cases h : n < 128
    · rw [varint_lt h]
      have hc : (UInt8.ofNat n).toNat = n := by rw [UInt8.toNat_ofNat']; omega
      rw [List.singleton_append, decU_end ?_ (by omega), hc]
      unfold badAt
      rw [hc]
      by_cases h9 : i = 9
      · subst h9
        have : n ≤ 1 := by omega
        simp; omega
      · simp [h9]; omega
    · have hc : (UInt8.ofNat (n % 128 + 128)).toNat = n % 128 + 128 := by rw [UInt8.toNat_ofNat']; omega
      have h9 : i ≠ 9 := by
        rintro rfl
        have : 128 * 128 ^ 9 ≤ n * 128 ^ 9 := Nat.mul_le_mul (by omega) (Nat.le_refl _)
        omega
      rw [varint_ge (by omega), List.cons_append, decU_go ?_ (by omega), hc]
      · have e : n = n / 128 * 128 + n % 128 := by omega
        have e2 : n / 128 * 128 ^ (i + 1) + n % 128 * 128 ^ i = n * 128 ^ i := by
          rw [Nat.pow_succ, ← Nat.mul_assoc, Nat.mul_right_comm, ← Nat.add_mul, ← e]
        rw [ih (n / 128) (by omega) (i + 1) _ r (by omega) (by omega) (.inr (by omega)), show (n % 128 + 128) % 128 = n % 128 by omega]
        congr 2
        omega
      · unfold badAt
        rw [hc]
        simp [h9]
theorem decU_enc {n : Nat} (h : n ≤ 18446744073709551615) (r : List UInt8) : decU 0 0 (varint n ++ r) = (0, n, r) := by
  have := decU_varint n 0 0 r (by decide) (by omega) (.inl rfl)
  simpa using this
/-- One encoding. -/
theorem decU_one : ∀ (bs : List UInt8) (i acc v : Nat) (r : List UInt8), i ≤ 9 → decU i acc bs = (0, v, r) → ∃ n, bs = varint n ++ r ∧ v = acc + n * 128 ^ i ∧ (0 < i → 0 < n)
  | [], i, acc, v, r, _, h => by rw [decU_nil] at h; simp at h
  | c :: bs, i, acc, v, r, hi, h => by
    by_cases hb : badAt i c = true
    · rw [decU_bad hb] at h; simp at h
    · have hb' : badAt i c = false := by simpa using hb
      by_cases hc : c.toNat < 128
      · rw [decU_end hb' hc] at h
        injection h with _ h
        injection h with h1 h2
        subst h1 h2
        refine ⟨c.toNat, ?_, rfl, fun h0 => ?_⟩
        · rw [varint_lt hc]; simp
        · unfold badAt at hb'; simp at hb'; omega
      · rw [decU_go hb' (by omega)] at h
        have h9 : i ≠ 9 := by
          rintro rfl
          unfold badAt at hb'; simp at hb'; omega
        obtain ⟨n, e1, e2, e3⟩ := decU_one bs (i + 1) _ v r (by omega) h
        have hn := e3 (by omega)
        have hc2 := c.toNat_lt
        refine ⟨c.toNat % 128 + 128 * n, ?_, ?_, fun _ => by omega⟩
        · rw [varint_ge (by omega), show (c.toNat % 128 + 128 * n) % 128 + 128 = c.toNat by omega, show (c.toNat % 128 + 128 * n) / 128 = n by omega, e1]
          simp
        · rw [e2, Nat.add_mul, Nat.pow_succ, ← Nat.mul_assoc, Nat.mul_right_comm, Nat.mul_comm n 128]
          omega
theorem decU_inv {bs r : List UInt8} {v : Nat} (h : decU 0 0 bs = (0, v, r)) : bs = varint v ++ r := by
  obtain ⟨n, e1, e2, _⟩ := decU_one bs 0 0 v r (by decide) h
  have : v = n := by simpa using e2
  subst this; exact e1
/-- A proper prefix. -/
theorem decU_cut (n : Nat) : ∀ (i acc k : Nat), i ≤ 9 → n * 128 ^ i < 18446744073709551616 → (i = 0 ∨ 0 < n) → k < (varint n).length → decU i acc ((varint n).take k) = (3, 0, []) := by
  induction n using Nat.strongRecOn with
  | ind n ih =>
    intro i acc k hi hn h0 hk
    cases k with
    | zero => simp [decU_nil]
    | succ k =>
      by_cases h : n < 128
      · rw [varint_lt h] at hk; simp at hk
      · have hc : (UInt8.ofNat (n % 128 + 128)).toNat = n % 128 + 128 := by rw [UInt8.toNat_ofNat']; omega
        have h9 : i ≠ 9 := by
          rintro rfl
          have : 128 * 128 ^ 9 ≤ n * 128 ^ 9 := Nat.mul_le_mul (by omega) (Nat.le_refl _)
          omega
        rw [varint_ge (by omega)] at hk ⊢
        rw [List.take_succ_cons, decU_go ?_ (by omega)]
        · have e2 : n / 128 * 128 ^ (i + 1) ≤ n * 128 ^ i := by
            rw [Nat.pow_succ, ← Nat.mul_assoc, Nat.mul_right_comm]
            exact Nat.mul_le_mul (by omega) (Nat.le_refl _)
          exact ih (n / 128) (by omega) (i + 1) _ k (by omega) (by omega) (.inr (by omega)) (by simpa using hk)
        · unfold badAt
          rw [hc]
          simp [h9]
theorem decU_prefix {n : Nat} (h : n ≤ 18446744073709551615) {k : Nat} (hk : k < (varint n).length) : decU 0 0 ((varint n).take k) = (3, 0, []) :=
  decU_cut n 0 0 k (by decide) (by omega) (.inl rfl) hk

/-- Reading bytes: the length, then the bytes. -/
def decRaw (bs : List UInt8) : Int × List UInt8 × List UInt8 :=
  if (decU 0 0 bs).1 ≠ 0 then ((decU 0 0 bs).1, [], []) else if (decU 0 0 bs).2.2.length < (decU 0 0 bs).2.1 then (3, [], []) else (0, (decU 0 0 bs).2.2.take (decU 0 0 bs).2.1, (decU 0 0 bs).2.2.drop (decU 0 0 bs).2.1)
/-- Reading k signed numbers. -/
def decK : Nat → List UInt8 → Int × List Int × List UInt8
  | 0, r => (0, [], r)
  | k + 1, r => if (decU 0 0 r).1 ≠ 0 then ((decU 0 0 r).1, [], []) else if (decK k (decU 0 0 r).2.2).1 ≠ 0 then ((decK k (decU 0 0 r).2.2).1, [], []) else (0, unzigI (decU 0 0 r).2.1 :: (decK k (decU 0 0 r).2.2).2.1, (decK k (decU 0 0 r).2.2).2.2)
def decInts (bs : List UInt8) : Int × List Int × List UInt8 :=
  if (decU 0 0 bs).1 ≠ 0 then ((decU 0 0 bs).1, [], []) else if (decU 0 0 bs).2.2.length < (decU 0 0 bs).2.1 then (3, [], []) else decK (decU 0 0 bs).2.1 (decU 0 0 bs).2.2
def decBool (bs : List UInt8) : Int × Bool × List UInt8 :=
  match bs with
  | [] => (3, false, [])
  | c :: r => if 1 < c.toNat then (2, false, []) else (0, decide (c.toNat = 1), r)
end Go.Proofs.Ytompkpleiichaaa
