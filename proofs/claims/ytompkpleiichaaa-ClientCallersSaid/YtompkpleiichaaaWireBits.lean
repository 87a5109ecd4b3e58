/- Plain Lean: what the bit operations of package wire come to. -/
import Derived.Test.YtompkpleiichaaaWirePlain
import Derived.Test.YtompkpleiichaaaHashInj
namespace Go.Proofs.Ytompkpleiichaaa
open Go.RowKit

theorem not64 (x : Nat) (hx : x < 18446744073709551616) : (BitVec.ofNat 64 x ^^^ BitVec.allOnes 64).toNat = 18446744073709551615 - x := by
  rw [BitVec.xor_allOnes, BitVec.toNat_not, BitVec.toNat_ofNat]
  omega
theorem zig_bits {n : Int} (h1 : -9223372036854775808 ≤ n) (h2 : n ≤ 9223372036854775807) :
    bits BinOp.xor IntKind.u64 (IntKind.u64.wrap (IntKind.u64.wrap n * 2)) (IntKind.u64.wrap (n / 9223372036854775808)) = ((zigI n : Nat) : Int) := by
  rw [bits_xor_u64]
  simp only [wrap_u64]
  unfold zigI
  by_cases h : n < 0
  · rw [if_pos h]
    have e1 : n / 9223372036854775808 % 18446744073709551616 = 18446744073709551615 := by omega
    have e2 : n % 18446744073709551616 * 2 % 18446744073709551616 = ((18446744073709551616 + 2 * n).toNat : Int) := by omega
    have e3 : BitVec.ofInt 64 18446744073709551615 = BitVec.allOnes 64 := by decide +kernel
    rw [e1, e2, e3, BitVec.ofInt_natCast, not64 _ (by omega)]
    omega
  · rw [if_neg h]
    have e1 : n / 9223372036854775808 % 18446744073709551616 = 0 := by omega
    have e2 : n % 18446744073709551616 * 2 % 18446744073709551616 = ((2 * n).toNat : Int) := by omega
    rw [e1, e2, BitVec.ofInt_natCast, show BitVec.ofInt 64 0 = 0#64 by decide +kernel, BitVec.xor_zero, BitVec.toNat_ofNat]
    omega
theorem bits_and_one (n : Nat) : bits BinOp.and IntKind.u64 (n : Int) 1 = ((n % 2 : Nat) : Int) := by
  show IntKind.u64.wrap ((BitVec.ofInt 64 (n : Int) &&& BitVec.ofInt 64 1).toNat : Int) = _
  rw [wrap_u64, BitVec.toNat_and, BitVec.ofInt_natCast, BitVec.toNat_ofNat, show (BitVec.ofInt 64 1).toNat = 1 by decide +kernel, Nat.and_one_is_mod]
  omega
theorem unzig_bits {n : Nat} (h : n ≤ 18446744073709551615) :
    bits BinOp.xor IntKind.i64 ((n : Int) / 2) (wrap64 (-wrap64 (bits BinOp.and IntKind.u64 (n : Int) 1))) = unzigI n := by
  rw [bits_and_one n]
  show IntKind.i64.wrap ((BitVec.ofInt 64 ((n : Int) / 2) ^^^ BitVec.ofInt 64 (wrap64 (-wrap64 ((n % 2 : Nat) : Int)))).toNat : Int) = _
  unfold unzigI
  have ew : ∀ x : Int, IntKind.i64.wrap x = (x + 9223372036854775808) % 18446744073709551616 - 9223372036854775808 := by
    intro x
    simp [IntKind.wrap, IntKind.bits, IntKind.signed]
    omega
  have e0 : BitVec.ofInt 64 ((n : Int) / 2) = BitVec.ofNat 64 (n / 2) := by rw [show (n : Int) / 2 = ((n / 2 : Nat) : Int) by omega, BitVec.ofInt_natCast]
  rw [e0]
  by_cases h2 : n % 2 = 1
  · rw [if_pos h2, h2]
    have e1 : wrap64 (-wrap64 ((1 : Nat) : Int)) = -1 := by decide +kernel
    have e3 : BitVec.ofInt 64 (-1) = BitVec.allOnes 64 := by decide +kernel
    rw [e1, e3, not64 _ (by omega), ew]
    omega
  · rw [if_neg h2]
    have e1 : wrap64 (-wrap64 ((n % 2 : Nat) : Int)) = 0 := by rw [show n % 2 = 0 by omega]; decide +kernel
    rw [e1, show BitVec.ofInt 64 0 = 0#64 by decide +kernel, BitVec.xor_zero, BitVec.toNat_ofNat, ew]
    omega
theorem and127_fin : ∀ n : Fin 256, bits BinOp.and IntKind.u8 ((n.val : Nat) : Int) 127 = ((n.val % 128 : Nat) : Int) := by decide +kernel
theorem and127 (c : UInt8) : bits BinOp.and IntKind.u8 ((c.toNat : Nat) : Int) 127 = ((c.toNat % 128 : Nat) : Int) := and127_fin ⟨c.toNat, c.toNat_lt⟩
theorem or_step {i acc : Nat} {c : UInt8} (hi : i ≤ 9) (ha : acc < 128 ^ i) (h9 : i = 9 → c.toNat % 128 ≤ 1) :
    bits BinOp.or IntKind.u64 (acc : Int) (IntKind.u64.wrap (IntKind.u64.wrap (bits BinOp.and IntKind.u8 ((c.toNat : Nat) : Int) 127) * 2 ^ (7 * i))) = ((acc + c.toNat % 128 * 128 ^ i : Nat) : Int) := by
  rw [and127]
  have hm : c.toNat % 128 < 128 := Nat.mod_lt _ (by decide)
  generalize c.toNat % 128 = x at *
  have hp : (128 : Nat) ^ i = 2 ^ (7 * i) := by rw [show (128 : Nat) = 2 ^ 7 from rfl, ← Nat.pow_mul]
  have hbound : 2 ^ (7 * i) * x < 18446744073709551616 := by
    by_cases e : i = 9
    · subst e
      have := h9 rfl
      have : 2 ^ (7 * 9) * x ≤ 2 ^ (7 * 9) * 1 := Nat.mul_le_mul (Nat.le_refl _) this
      omega
    · have h8 : 2 ^ (7 * i) ≤ 2 ^ 56 := Nat.pow_le_pow_right (by decide) (by omega)
      have : 2 ^ (7 * i) * x ≤ 2 ^ 56 * 127 := Nat.mul_le_mul h8 (by omega)
      omega
  have hacc : acc < 18446744073709551616 := by
    have : 128 ^ i ≤ 128 ^ 9 := Nat.pow_le_pow_right (by decide) hi
    omega
  rw [wrap_u64, wrap_u64]
  have e2 : ((x : Int) % 18446744073709551616 * 2 ^ (7 * i)) % 18446744073709551616 = ((2 ^ (7 * i) * x : Nat) : Int) := by
    rw [Int.emod_eq_of_lt (a := (x : Int)) (by omega) (by omega)]
    rw [show ((x : Int) * 2 ^ (7 * i)) = ((2 ^ (7 * i) * x : Nat) : Int) from by push_cast; exact Int.mul_comm _ _]
    exact Int.emod_eq_of_lt (by omega) (by omega)
  rw [hp] at ha ⊢
  rw [e2, u64_or_nat _ _ (by omega) (by omega)]
  congr 1
  rw [Nat.or_comm, ← Nat.two_pow_add_eq_or_of_lt (by omega), Nat.mul_comm x]
  omega
end Go.Proofs.Ytompkpleiichaaa
