/- book: the small functions. -/
import Derived.Test.YtkandhpnenmleaaHBkW

namespace Go.Proofs.Ytkandhpnenmleaa
open Go.RowKit

theorem bel2 (w : World) (a b : Obj) : Below w.heap.size w ((w.alloc a).alloc b) := ((Below.refl _ w).alloc (Nat.le_refl _) a).alloc (by simp) b
theorem bet1_any (i1 a1 : Int) (b1 : Bool) (p1 n1 l1 i2 a2 : Int) (b2 : Bool) (p2 n2 l2 : Int) (w : World) :
    Calls Try.prog 27 #[.agg #[.int .i64 i1, .int .i64 a1, .bool b1, .int .i64 p1, .int .i64 n1, .int .i64 l1], .agg #[.int .i64 i2, .int .i64 a2, .bool b2, .int .i64 p2, .int .i64 n2, .int .i64 l2]] w fun e w' => e = .returned (.bool (decide (p2 < p1) || (decide (p1 = p2) && decide (i1 < i2)))) ∧ Below w.heap.size w w' := by
  go_enter Try.func27, Try.ntmps27
  by_cases h1 : p2 < p1
  · go_wp2
    go_ret
    exact ⟨by simp [h1], bel2 w _ _⟩
  · by_cases h2 : p1 = p2
    · go_wp2
      go_ret
      exact ⟨by simp, bel2 w _ _⟩
    · go_wp2
      go_ret
      exact ⟨by simp [h1], bel2 w _ _⟩
theorem bet2_any (i1 a1 : Int) (b1 : Bool) (p1 n1 l1 i2 a2 : Int) (b2 : Bool) (p2 n2 l2 : Int) (w : World) :
    Calls Try.prog 28 #[.agg #[.int .i64 i1, .int .i64 a1, .bool b1, .int .i64 p1, .int .i64 n1, .int .i64 l1], .agg #[.int .i64 i2, .int .i64 a2, .bool b2, .int .i64 p2, .int .i64 n2, .int .i64 l2]] w fun e w' => e = .returned (.bool (decide (p1 < p2) || (decide (p1 = p2) && decide (i1 < i2)))) ∧ Below w.heap.size w w' := by
  go_enter Try.func28, Try.ntmps28
  by_cases h1 : p1 < p2
  · go_wp2
    go_ret
    exact ⟨by simp [h1], bel2 w _ _⟩
  · by_cases h2 : p1 = p2
    · go_wp2
      go_ret
      exact ⟨by simp, bel2 w _ _⟩
    · go_wp2
      go_ret
      exact ⟨by simp [h1], bel2 w _ _⟩
theorem acc_any (x y : Ord) (w : World) :
    Calls Try.prog 31 #[.agg #[.int .i64 x.id, .int .i64 x.acc, .bool x.buy, .int .i64 x.price, .int .i64 x.n, .int .i64 x.left], .agg #[.int .i64 y.id, .int .i64 y.acc, .bool y.buy, .int .i64 y.price, .int .i64 y.n, .int .i64 y.left]] w fun e w' => e = .returned (.bool (acceptsB x y)) ∧ Below w.heap.size w w' := by
  obtain ⟨i1, a1, b1, p1, n1, l1⟩ := x
  obtain ⟨i2, a2, b2, p2, n2, l2⟩ := y
  dsimp only
  go_enter Try.func31, Try.ntmps31
  cases b1
  · go_wp2
    go_ret
    exact ⟨by simp [acceptsB], bel2 w _ _⟩
  · go_wp2
    go_ret
    exact ⟨by simp [acceptsB], bel2 w _ _⟩
def sideN (buy : Bool) : Int := if buy then 0 else 1
theorem side_any (b : Bool) (w : World) : Calls Try.prog 30 #[.bool b] w fun e w' => e = .returned (.int .i64 (sideN b)) ∧ w = w' := by
  go_enter Try.func30, Try.ntmps30
  cases b
  · go_wp2
    go_ret
    exact ⟨rfl, rfl⟩
  · go_wp2
    go_ret
    exact ⟨rfl, rfl⟩
theorem inr_any (n : Int) (w : World) : Calls Try.prog 29 #[.int .i64 n] w fun e w' => e = .returned (.bool (inR n)) ∧ w = w' := by
  go_enter Try.func29, Try.ntmps29
  by_cases h : 1 ≤ n
  · go_wp2
    go_ret
    exact ⟨by simp [inR, h], rfl⟩
  · go_wp2
    go_ret
    exact ⟨by simp [inR]; omega, rfl⟩
end Go.Proofs.Ytkandhpnenmleaa
