/- Weights and the place of a roll among them, plain. -/
import Derived.Test.YtklkppmmnlachaaDiceShufR
namespace Go.Proofs.Ytklkppmmnlachaa
open Go.RowKit

/-- The sum of the weights from a sum on, or 0 if they are not possible. -/
def sumG : List Int → Int → Int
  | [], s => s
  | x :: xs, s => if x < 0 ∨ 1152921504606846976 - s < x then 0 else sumG xs (s + x)
/-- The place of r among the weights. -/
def idxW : List Int → Int → Nat
  | [], _ => 0
  | x :: xs, r => if r < x then 0 else idxW xs (r - x) + 1
/-- The sum of the first k. -/
def preW (ws : List Int) (k : Nat) : Int := (ws.take k).sum
def elW (ws : List Int) (k : Nat) : Int := ws[k]?.getD 0
theorem preW_zero (ws : List Int) : preW ws 0 = 0 := by simp [preW]
theorem preW_succ (ws : List Int) (k : Nat) : preW ws (k + 1) = preW ws k + elW ws k := by
  unfold preW elW
  by_cases h : k < ws.length
  · rw [List.take_add_one, List.getElem?_eq_getElem h]
    simp only [Option.toList, List.sum_append, List.sum_cons, List.sum_nil, Option.getD_some]; omega
  · rw [List.take_of_length_le (by omega), List.take_of_length_le (by omega), List.getElem?_eq_none (by omega)]; simp
theorem drop_el {ws : List Int} {k : Nat} (h : k < ws.length) : ws.drop k = elW ws k :: ws.drop (k + 1) := by
  unfold elW
  rw [List.drop_eq_getElem_cons h, List.getElem?_eq_getElem h]; rfl
/-- The first k weights are possible. -/
def GoodW (ws : List Int) (k : Nat) : Prop := ∀ i, i < k → 0 ≤ elW ws i ∧ elW ws i ≤ 1152921504606846976 - preW ws i
theorem GoodW.zero (ws : List Int) : GoodW ws 0 := fun i h => absurd h (by omega)
theorem GoodW.succ {ws : List Int} {k : Nat} (h : GoodW ws k) (h0 : 0 ≤ elW ws k) (h1 : elW ws k ≤ 1152921504606846976 - preW ws k) : GoodW ws (k + 1) := by
  intro i hi
  rcases (show i < k ∨ i = k by omega) with h' | rfl
  · exact h i h'
  · exact ⟨h0, h1⟩
theorem GoodW.range {ws : List Int} {k : Nat} (h : GoodW ws k) : 0 ≤ preW ws k ∧ preW ws k ≤ 1152921504606846976 := by
  induction k with
  | zero => rw [preW_zero]; omega
  | succ k ih =>
    have := ih (fun i hi => h i (by omega))
    have := h k (by omega)
    rw [preW_succ]; omega
theorem GoodW.mono {ws : List Int} {n : Nat} (h : GoodW ws n) {i j : Nat} (hij : i ≤ j) (hj : j ≤ n) : preW ws i ≤ preW ws j := by
  induction j with
  | zero => obtain rfl : i = 0 := by omega
            omega
  | succ j ih =>
    rcases (show i = j + 1 ∨ i ≤ j by omega) with rfl | h'
    · omega
    · have := ih h' (by omega)
      have := h j (by omega)
      rw [preW_succ]; omega
theorem sumG_bad {ws : List Int} {k : Nat} (hk : k < ws.length) (hb : elW ws k < 0 ∨ 1152921504606846976 - preW ws k < elW ws k) : sumG (ws.drop k) (preW ws k) = 0 := by
  rw [drop_el hk, sumG, if_pos hb]
theorem sumG_go {ws : List Int} {k : Nat} (hk : k < ws.length) (h0 : 0 ≤ elW ws k) (h1 : elW ws k ≤ 1152921504606846976 - preW ws k) : sumG (ws.drop (k + 1)) (preW ws (k + 1)) = sumG (ws.drop k) (preW ws k) := by
  rw [drop_el hk, sumG, if_neg (by omega), preW_succ]
theorem sumG_end (ws : List Int) : sumG (ws.drop ws.length) (preW ws ws.length) = preW ws ws.length := by simp [sumG]
/-- Either all are possible and the sum is the whole, or the sum is 0. -/
theorem sumG_cases (ws : List Int) (k : Nat) (hk : k ≤ ws.length) (hg : GoodW ws k) : (GoodW ws ws.length ∧ sumG (ws.drop k) (preW ws k) = preW ws ws.length) ∨ sumG (ws.drop k) (preW ws k) = 0 := by
  induction h : ws.length - k generalizing k with
  | zero => obtain rfl : k = ws.length := by omega
            exact .inl ⟨hg, sumG_end ws⟩
  | succ n ih =>
    by_cases hb : elW ws k < 0 ∨ 1152921504606846976 - preW ws k < elW ws k
    · exact .inr (sumG_bad (by omega) hb)
    · have h0 : 0 ≤ elW ws k := by omega
      have h1 : elW ws k ≤ 1152921504606846976 - preW ws k := by omega
      rw [← sumG_go (by omega) h0 h1]
      exact ih (k + 1) (by omega) (hg.succ h0 h1) (by omega)
/-- Places of the roll. -/
theorem idxW_at {ws : List Int} {r : Int} {k i : Nat} (hi : k + i < ws.length) (hlo : ∀ j, j < i → preW ws (k + j + 1) ≤ r) (hhi : r < preW ws (k + i + 1)) : idxW (ws.drop k) (r - preW ws k) = i := by
  induction i generalizing k with
  | zero =>
    rw [drop_el (by omega), idxW, if_pos]
    have := preW_succ ws k
    simp only [Nat.add_zero] at hhi
    omega
  | succ i ih =>
    have h0 := hlo 0 (by omega)
    have hs := preW_succ ws k
    simp only [Nat.add_zero] at h0
    rw [drop_el (by omega), idxW, if_neg (by omega), show r - preW ws k - elW ws k = r - preW ws (k + 1) by omega]
    rw [ih (k := k + 1) (by omega) (fun j hj => by have := hlo (j + 1) (by omega); rwa [show k + (j + 1) + 1 = k + 1 + j + 1 by omega] at this) (by rwa [show k + 1 + i + 1 = k + (i + 1) + 1 by omega])]
def sumW (ws : List Int) : Int := sumG ws 0
theorem sumW_eq (ws : List Int) : sumW ws = sumG (ws.drop 0) (preW ws 0) := by simp [sumW, preW_zero]
def pickVal (key at_ : Int) (ws : List Int) : Int := if sumW ws = 0 then 0 else if rollErr key at_ (sumW ws) = 0 then idxW ws (rollVal key at_ (sumW ws)) else 0
def pickErr (key at_ : Int) (ws : List Int) : Int := if sumW ws = 0 then 1 else rollErr key at_ (sumW ws)
def pickAt (key at_ : Int) (ws : List Int) : Int := if sumW ws = 0 then at_ else rollAt key at_ (sumW ws)
end Go.Proofs.Ytklkppmmnlachaa
