/- The walk of worldmintref02.Vals. -/
import Derived.Test.YtompkpleiichaaaWireVals
namespace Go.Proofs.Ytompkpleiichaaa
open Go.RowKit

/-- A value as Vals makes them. -/
structure GoodV (v : V) : Prop where
  fit : FitV v
  small : v.b.length ≤ 9 ∧ v.l.length ≤ 4
  norm : v = ⟨0, v.u, 0, [], []⟩ ∨ v = ⟨1, 0, v.n, [], []⟩ ∨ v = ⟨2, 0, 0, [], []⟩ ∨ v = ⟨2, 0, 1, [], []⟩ ∨ v = ⟨3, 0, 0, v.b, []⟩ ∨ v = ⟨4, 0, 0, v.b, []⟩ ∨ v = ⟨5, 0, 0, [], v.l⟩

theorem tdiv6 {x : Int} (h1 : -9223372036854775808 ≤ x) (h2 : x ≤ 9223372036854775807) : -9223372036854775808 ≤ x.tdiv 6 ∧ x.tdiv 6 ≤ 9223372036854775807 := by
  by_cases h : 0 ≤ x
  · rw [Int.tdiv_eq_ediv_of_nonneg h]; omega
  · obtain ⟨y, rfl⟩ : ∃ y, x = -y := ⟨-x, by omega⟩
    rw [Int.neg_tdiv, Int.tdiv_eq_ediv_of_nonneg (by omega)]; omega
theorem byte_of_wf8 (z : Int) : ∃ y : UInt8, IntKind.u8.wrap z = ((y.toNat : Nat) : Int) := by
  have h : 0 ≤ IntKind.u8.wrap z ∧ IntKind.u8.wrap z < 256 := by
    simp [IntKind.wrap, IntKind.bits, IntKind.signed]
    omega
  exact ⟨UInt8.ofNat (IntKind.u8.wrap z).toNat, by rw [UInt8.toNat_ofNat']; omega⟩
theorem good_snoc {vs : List V} {v : V} (h : ∀ y ∈ vs, GoodV y) (hv : GoodV v) : ∀ y ∈ vs ++ [v], GoodV y := by
  intro y hy
  rcases List.mem_append.1 hy with h1 | h1
  · exact h y h1
  · rw [List.mem_singleton] at h1; subst h1; exact hv
theorem inI0 : InI 0 := ⟨by decide, by decide⟩
theorem inI1 : InI 1 := ⟨by decide, by decide⟩
theorem wrap_byte (z : Int) : ∃ y : UInt8, IntKind.u8.wrap z = ((y.toNat : Nat) : Int) := byte_of_wf8 z
theorem good0 {u : Nat} (h : u ≤ 18446744073709551615) : GoodV ⟨0, u, 0, [], []⟩ := ⟨⟨h, inI0, by simp, by simp, by simp⟩, by simp, .inl rfl⟩
theorem good1 {n : Int} (h : InI n) : GoodV ⟨1, 0, n, [], []⟩ := ⟨⟨by simp, h, by simp, by simp, by simp⟩, by simp, .inr (.inl rfl)⟩
theorem good2 {n : Int} (h1 : 0 ≤ n) (h2 : n ≤ 1) : GoodV ⟨2, 0, n, [], []⟩ := by
  rcases (show n = 0 ∨ n = 1 by omega) with rfl | rfl
  · exact ⟨⟨by simp, inI0, by simp, by simp, by simp⟩, by simp, .inr (.inr (.inl rfl))⟩
  · exact ⟨⟨by simp, inI1, by simp, by simp, by simp⟩, by simp, .inr (.inr (.inr (.inl rfl)))⟩
theorem good34 {k : Int} {b : List UInt8} (hk : k = 3 ∨ k = 4) (hb : b.length ≤ 9) : GoodV ⟨k, 0, 0, b, []⟩ := by
  refine ⟨⟨by simp, inI0, by simp only; omega, by simp, by simp⟩, ⟨hb, by simp⟩, ?_⟩
  rcases hk with rfl | rfl
  · exact .inr (.inr (.inr (.inr (.inl rfl))))
  · exact .inr (.inr (.inr (.inr (.inr (.inl rfl)))))
theorem good5 {l : List Int} (hl : l.length ≤ 4) (hr : ∀ j : Nat, -9223372036854775808 ≤ l[j]?.getD 0 ∧ l[j]?.getD 0 ≤ 9223372036854775807) : GoodV ⟨5, 0, 0, [], l⟩ :=
  ⟨⟨by simp, inI0, by simp, by simp only; omega, hr⟩, ⟨by simp, hl⟩, .inr (.inr (.inr (.inr (.inr (.inr rfl)))))⟩
theorem shr_u64 (x : Int) (m : Nat) : ∃ u : Nat, (u : Int) = IntKind.u64.wrap x / 2 ^ m ∧ u ≤ 18446744073709551615 := by
  have h0 : 0 ≤ IntKind.u64.wrap x ∧ IntKind.u64.wrap x ≤ 18446744073709551615 := by rw [wrap_u64]; omega
  obtain ⟨y, hy⟩ := Int.eq_ofNat_of_zero_le h0.1
  rw [hy] at h0 ⊢
  exact ⟨y / 2 ^ m, by rw [Int.natCast_ediv, Int.natCast_pow]; rfl, Nat.le_trans (Nat.div_le_self _ _) (by omega)⟩
theorem shr_i64 {x : Int} (m : Nat) (h : InI x) : InI (x / 2 ^ m) := by
  obtain ⟨h1, h2⟩ := h
  have hp : (0 : Int) < 2 ^ m := Int.pow_pos (by decide)
  constructor
  · rw [Int.le_ediv_iff_mul_le hp]
    have : (-9223372036854775808 : Int) * 2 ^ m ≤ -9223372036854775808 * 1 := Int.mul_le_mul_of_nonpos_left (by decide) (by omega)
    omega
  · have : x / 2 ^ m ≤ 9223372036854775807 / 2 ^ m := Int.ediv_le_ediv hp h2
    have h3 : (9223372036854775807 : Int) / 2 ^ m ≤ 9223372036854775807 := Int.ediv_le_self _ (by decide)
    omega
theorem range_snoc {bs : List Int} {x : Int} (h : ∀ i : Nat, -9223372036854775808 ≤ bs[i]?.getD 0 ∧ bs[i]?.getD 0 ≤ 9223372036854775807) (hx : InI x) : ∀ i : Nat, -9223372036854775808 ≤ (bs ++ [x])[i]?.getD 0 ∧ (bs ++ [x])[i]?.getD 0 ≤ 9223372036854775807 := by
  intro i
  by_cases hi : i < bs.length
  · rw [List.getElem?_append_left hi]; exact h i
  · rw [List.getElem?_append_right (by omega)]
    by_cases h2 : i = bs.length
    · subst h2; simp only [Nat.sub_self, List.getElem?_cons_zero, Option.getD_some]; exact hx
    · rw [List.getElem?_eq_none (by simp; omega)]; simp
end Go.Proofs.Ytompkpleiichaaa
