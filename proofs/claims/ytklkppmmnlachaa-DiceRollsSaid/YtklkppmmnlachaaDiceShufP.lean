/- What Shuffle, Pick and Hit promise, plain. -/
import Derived.Test.YtklkppmmnlachaaDicePick
namespace Go.Proofs.Ytklkppmmnlachaa
open Go.RowKit

theorem rollErr_cases {key a n : Int} (hn : 1 ≤ n) : rollErr key a n = 0 ∨ rollErr key a n = 4 := by
  unfold rollErr
  rw [if_neg (by omega)]
  split <;> simp
theorem swapL_mem {l : List Int} {i j : Nat} (hi : i < l.length) (hj : j < l.length) {x : Int} (hx : x ∈ l) : x ∈ swapL l i j := by
  obtain ⟨m, hm, rfl⟩ := List.mem_iff_getElem.1 hx
  unfold swapL
  rw [List.getElem?_eq_getElem hi, List.getElem?_eq_getElem hj, Option.getD_some, Option.getD_some]
  by_cases h1 : m = i
  · subst h1
    exact List.mem_iff_getElem.2 ⟨j, by simpa using hj, by rw [List.getElem_set_self]⟩
  · by_cases h2 : m = j
    · subst h2
      exact List.mem_iff_getElem.2 ⟨i, by simpa using hi, by rw [List.getElem_set_ne h1, List.getElem_set_self]⟩
    · exact List.mem_iff_getElem.2 ⟨m, by simpa using hm, by rw [List.getElem_set_ne (fun e => h2 e.symm), List.getElem_set_ne (fun e => h1 e.symm)]⟩
theorem shufG_err (key : Int) (i : Nat) (a : Int) (l : List Int) : (shufG key i a l).1 = 0 ∨ (shufG key i a l).1 = 4 := by
  induction i generalizing a l with
  | zero => exact .inl rfl
  | succ i ih =>
    rw [shufG]
    split
    · rcases rollErr_cases (key := key) (a := a) (n := ((i + 1 : Nat) : Int) + 1) (by omega) with h | h
      · contradiction
      · exact .inr h
    · exact ih _ _
theorem shufG_length (key : Int) (i : Nat) (a : Int) (l : List Int) : (shufG key i a l).2.2.length = l.length := by
  induction i generalizing a l with
  | zero => rfl
  | succ i ih =>
    rw [shufG]
    split
    · rfl
    · rw [ih, swapL_length]
theorem shufG_at (key : Int) (i : Nat) (a : Int) (l : List Int) (h : -9223372036854775808 ≤ a ∧ a ≤ 9223372036854775807) : -9223372036854775808 ≤ (shufG key i a l).2.1 ∧ (shufG key i a l).2.1 ≤ 9223372036854775807 := by
  induction i generalizing a l with
  | zero => exact h
  | succ i ih =>
    rw [shufG]
    split
    · exact rollAt_range (key := key) (n := ((i + 1 : Nat) : Int) + 1) h
    · exact ih _ _ (rollAt_range h)
theorem shufG_mem (key : Int) (i : Nat) (a : Int) (l : List Int) (hi : i < l.length) {x : Int} (hx : x ∈ l) : x ∈ (shufG key i a l).2.2 := by
  induction i generalizing a l with
  | zero => exact hx
  | succ i ih =>
    rw [shufG]
    split
    · exact hx
    · have hr := rollVal_range (key := key) (at_ := a) (n := ((i + 1 : Nat) : Int) + 1) (by omega)
      exact ih _ _ (by rw [swapL_length]; omega) (swapL_mem hi (by omega) hx)
theorem shuf_has (key a : Int) (n i : Nat) (hi : i < n) : (i : Int) ∈ (shufG key (n - 1) a (idL n)).2.2 :=
  shufG_mem key (n - 1) a (idL n) (by simp [idL]; omega) (by simp only [idL, List.mem_map, List.mem_range]; exact ⟨i, hi, rfl⟩)
theorem shufR_at {key a n : Int} (h : -9223372036854775808 ≤ a ∧ a ≤ 9223372036854775807) : -9223372036854775808 ≤ (shufR key a n).2.1 ∧ (shufR key a n).2.1 ≤ 9223372036854775807 := by
  unfold shufR
  split
  · exact h
  · exact shufG_at _ _ _ _ h
theorem hitAt_range {key a num den : Int} (h : -9223372036854775808 ≤ a ∧ a ≤ 9223372036854775807) : -9223372036854775808 ≤ hitAt key a num den ∧ hitAt key a num den ≤ 9223372036854775807 := by
  unfold hitAt
  split
  · exact h
  · exact rollAt_range h
theorem pickAt_range {key a : Int} {ws : List Int} (h : -9223372036854775808 ≤ a ∧ a ≤ 9223372036854775807) : -9223372036854775808 ≤ pickAt key a ws ∧ pickAt key a ws ≤ 9223372036854775807 := by
  unfold pickAt
  split
  · exact h
  · exact rollAt_range h
theorem hit_no {key a den : Int} (hd : 1 ≤ den) : hitVal key a 0 den = false := by
  unfold hitVal
  split
  · rfl
  · have := (rollVal_range (key := key) (at_ := a) hd).1
    rw [decide_eq_false (by omega), Bool.and_false]
theorem hit_yes {key a den : Int} (hd : 1 ≤ den) (h : hitErr key a den den = 0) : hitVal key a den den = true := by
  have hb : hitBad den den = false := by simp [hitBad]; omega
  unfold hitErr at h
  rw [hb] at h
  unfold hitVal
  rw [hb]
  have := (rollVal_range (key := key) (at_ := a) hd).2
  simp only [Bool.false_eq_true, if_false] at h ⊢
  rw [h, decide_eq_true this]
  rfl
theorem idxW_good {ws : List Int} {k : Nat} {r : Int} (hk : k ≤ ws.length) (h0 : preW ws k ≤ r) (h1 : r < preW ws ws.length) : ∃ i, k + i < ws.length ∧ idxW (ws.drop k) (r - preW ws k) = i ∧ 0 < elW ws (k + i) := by
  induction h : ws.length - k generalizing k with
  | zero => obtain rfl : k = ws.length := by omega
            omega
  | succ n ih =>
    have hs := preW_succ ws k
    rw [drop_el (by omega), idxW]
    split
    · exact ⟨0, by omega, rfl, by rw [Nat.add_zero]; omega⟩
    · obtain ⟨i, a1, a2, a3⟩ := ih (k := k + 1) (by omega) (by omega) (by omega)
      refine ⟨i + 1, by omega, ?_, by rw [show k + (i + 1) = k + 1 + i by omega]; exact a3⟩
      rw [show r - preW ws k - elW ws k = r - preW ws (k + 1) by omega, a2]
/-- Few small weights. -/
theorem small_good {ws : List Int} (h : ∀ j, j < ws.length → 0 ≤ elW ws j ∧ elW ws j ≤ 4) (hl : ws.length ≤ 8) (k : Nat) (hk : k ≤ ws.length) : GoodW ws k ∧ preW ws k ≤ 4 * k := by
  induction k with
  | zero => exact ⟨GoodW.zero ws, by rw [preW_zero]; omega⟩
  | succ k ih =>
    obtain ⟨g, p⟩ := ih (by omega)
    have := h k (by omega)
    exact ⟨g.succ this.1 (by omega), by rw [preW_succ]; omega⟩
theorem small_sum {ws : List Int} (h : ∀ j, j < ws.length → 0 ≤ elW ws j ∧ elW ws j ≤ 4) (hl : ws.length ≤ 8) : sumW ws = preW ws ws.length := by
  have hg := (small_good h hl ws.length (Nat.le_refl _)).1
  rw [sumW_eq]
  have key : ∀ k, k ≤ ws.length → sumG (ws.drop k) (preW ws k) = preW ws ws.length := by
    intro k hk
    induction h' : ws.length - k generalizing k with
    | zero => obtain rfl : k = ws.length := by omega
              exact sumG_end ws
    | succ n ih =>
      have := hg k (by omega)
      rw [← sumG_go (by omega) this.1 this.2]
      exact ih (k + 1) (by omega) (by omega)
  exact key 0 (Nat.zero_le _)
/-- What the law asks of Pick. -/
theorem pick_law {ws : List Int} {key a : Int} (h : ∀ j, j < ws.length → 0 ≤ elW ws j ∧ elW ws j ≤ 4) (hl : ws.length ≤ 8) :
    ((pickErr key a ws == 1) = (preW ws ws.length == 0)) ∧ (pickErr key a ws = 0 → ∃ i : Nat, pickVal key a ws = (i : Int) ∧ i < ws.length ∧ elW ws i ≠ 0) := by
  have hs := small_sum h hl
  have hr := (small_good h hl ws.length (Nat.le_refl _)).1.range
  unfold pickErr pickVal
  rw [hs]
  by_cases hz : preW ws ws.length = 0
  · rw [if_pos hz, hz]
    exact ⟨rfl, fun e => by omega⟩
  · rw [if_neg hz, if_neg hz]
    refine ⟨?_, fun e => ?_⟩
    · rw [show (preW ws ws.length == 0) = false by simpa using hz]
      rcases rollErr_cases (key := key) (a := a) (n := preW ws ws.length) (by omega) with e | e <;> rw [e] <;> rfl
    · rw [if_pos e]
      have hv := rollVal_range (key := key) (at_ := a) (n := preW ws ws.length) (by omega)
      obtain ⟨i, a1, a2, a3⟩ := idxW_good (ws := ws) (k := 0) (Nat.zero_le _) (by rw [preW_zero]; exact hv.1) hv.2
      rw [List.drop_zero, preW_zero, Int.sub_zero] at a2
      rw [Nat.zero_add] at a1 a3
      exact ⟨i, by rw [a2], a1, by omega⟩
end Go.Proofs.Ytklkppmmnlachaa
