/- Plain facts on dice: no program in sight. -/
import Derived.Test.YtklkppmmnlachaaHashInj
namespace Go.Proofs.Ytklkppmmnlachaa
open Go.RowKit

/-- What Reduce returns: the result and whether the word is accepted. -/
def redOk (w n : Int) : Bool := decide (1 ≤ n ∧ (w / n + 1) * n ≤ 18446744073709551616)
def redVal (w n : Int) : Int := if redOk w n then w % n else 0

theorem redOk_iff {w n : Int} (hn : 1 ≤ n) : redOk w n = true ↔ w < 18446744073709551616 - 18446744073709551616 % n := by
  unfold redOk
  rw [decide_eq_true_iff]
  have h1 : (w / n + 1) * n ≤ 18446744073709551616 ↔ w / n + 1 ≤ 18446744073709551616 / n := (Int.le_ediv_iff_mul_le (by omega)).symm
  have h2 : w / n < 18446744073709551616 / n ↔ w < 18446744073709551616 / n * n := Int.ediv_lt_iff_lt_mul (by omega)
  have h3 : 18446744073709551616 / n * n = 18446744073709551616 - 18446744073709551616 % n := by
    have := Int.mul_ediv_add_emod 18446744073709551616 n
    rw [Int.mul_comm] at this
    omega
  rw [← h3, ← h2]
  constructor
  · rintro ⟨_, h⟩; have := h1.1 h; omega
  · intro h; exact ⟨hn, h1.2 (by omega)⟩

theorem over_eq {n : Int} (hn : 1 ≤ n) (h63 : n ≤ 9223372036854775807) : (IntKind.u64.wrap (18446744073709551615 % n + 1)).tmod n = 18446744073709551616 % n := by
  have h1 : 0 ≤ 18446744073709551615 % n := Int.emod_nonneg _ (by omega)
  have h2 : 18446744073709551615 % n < n := Int.emod_lt_of_pos _ (by omega)
  rw [wrap_u64, Int.emod_eq_of_lt (by omega) (by omega), Int.tmod_eq_emod_of_nonneg (by omega)]
  rw [show (18446744073709551616 : Int) = 18446744073709551615 + 1 from rfl]
  exact Int.emod_add_emod _ _ _

theorem red_no {w n : Int} (hn : 1 ≤ n) (h63 : n ≤ 9223372036854775807) (h1 : 0 < (IntKind.u64.wrap (18446744073709551615 % n + 1)).tmod n)
    (h2 : IntKind.u64.wrap (-(IntKind.u64.wrap (18446744073709551615 % n + 1)).tmod n) ≤ w) : redOk w n = false := by
  rw [over_eq hn h63] at h1 h2
  have h3 : 18446744073709551616 % n < n := Int.emod_lt_of_pos _ (by omega)
  rw [wrap_u64] at h2
  rw [Bool.eq_false_iff]
  intro h
  have := (redOk_iff hn).1 h
  omega
theorem red_yes {w n : Int} (hn : 1 ≤ n) (h63 : n ≤ 9223372036854775807) (h1 : 0 < (IntKind.u64.wrap (18446744073709551615 % n + 1)).tmod n)
    (h2 : w < IntKind.u64.wrap (-(IntKind.u64.wrap (18446744073709551615 % n + 1)).tmod n)) : redOk w n = true := by
  rw [over_eq hn h63] at h1 h2
  have h3 : 18446744073709551616 % n < n := Int.emod_lt_of_pos _ (by omega)
  rw [wrap_u64] at h2
  exact (redOk_iff hn).2 (by omega)
theorem red_yes0 {w n : Int} (hw1 : w ≤ 18446744073709551615) (hn : 1 ≤ n) (h63 : n ≤ 9223372036854775807) (h1 : (IntKind.u64.wrap (18446744073709551615 % n + 1)).tmod n ≤ 0) : redOk w n = true := by
  rw [over_eq hn h63] at h1
  have h3 : 0 ≤ 18446744073709551616 % n := Int.emod_nonneg _ (by omega)
  exact (redOk_iff hn).2 (by omega)
theorem red_val {w n : Int} (hn : 1 ≤ n) (h63 : n ≤ 9223372036854775807) (h : redOk w n = true) : wrap64 (w % n) = redVal w n := by
  have h1 : 0 ≤ w % n := Int.emod_nonneg _ (by omega)
  have h2 : w % n < n := Int.emod_lt_of_pos _ (by omega)
  unfold redVal wrap64
  rw [if_pos h]
  omega
theorem red_zero {w n : Int} (h : redOk w n = false) : redVal w n = 0 := by unfold redVal; rw [h]; rfl

theorem rred_iff {w n : Int} (hn : 1 ≤ n) (h63 : n ≤ 9223372036854775807) : redOk w n = true ↔ IntKind.u64.wrap (n - 1 - w % n) ≤ 18446744073709551615 - w := by
  have h1 : 0 ≤ w % n := Int.emod_nonneg _ (by omega)
  have h2 : w % n < n := Int.emod_lt_of_pos _ (by omega)
  rw [wrap_u64, Int.emod_eq_of_lt (by omega) (by omega)]
  unfold redOk
  rw [decide_eq_true_iff]
  have h3 : (w / n + 1) * n = w - w % n + n := by
    have := Int.mul_ediv_add_emod w n
    rw [Int.add_mul, Int.one_mul, Int.mul_comm]
    omega
  rw [h3]
  omega

theorem redVal_range {w n : Int} (hn : 1 ≤ n) : 0 ≤ redVal w n ∧ redVal w n < n := by
  unfold redVal
  split
  · exact ⟨Int.emod_nonneg _ (by omega), Int.emod_lt_of_pos _ (by omega)⟩
  · omega
theorem redOk_small {w n : Int} (hn : n < 1) : redOk w n = false := decide_eq_false (by omega)
theorem redVal_small {w n : Int} (hn : n < 1) : redVal w n = 0 := red_zero (redOk_small hn)

end Go.Proofs.Ytklkppmmnlachaa
