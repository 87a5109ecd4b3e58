/- book: the blocks of a book. -/
import Derived.Test.YtkandhpnenmleaaHBkP

namespace Go.Proofs.Ytkandhpnenmleaa
open Go.RowKit

def idsV (l : List Nat) : List Value := l.map fun (k : Nat) => Value.int .i64 (k : Int)
/-- A slice of numbers in a block of one's own, at whatever place. -/
def IRow (W : World) (B : Nat) (s : Sl) (l : List Nat) : Prop :=
  l.length = s.2.1 ∧ s.2.1 ≤ s.2.2 ∧ s.2.2 ≤ 9223372036854775807 ∧ (0 < s.2.2 → ∃ g off cur, s.1 = some ⟨g, off, none⟩ ∧ B ≤ g ∧ W.heap[g]? = some (.cells cur 3 (0, 0)) ∧ off + s.2.2 ≤ cur.size ∧ ∀ j, j < s.2.1 → cur[off + j]? = (idsV l)[j]?)
section
variable {W W' : World} {B : Nat} {s : Sl} {l : List Nat} {F : Nat → Prop}
theorem IRow.len (h : IRow W B s l) : l.length = s.2.1 := h.1
theorem IRow.nil (W : World) (B : Nat) : IRow W B (none, 0, 0) [] := ⟨rfl, Nat.le_refl _, by simp, fun h => absurd h (by simp)⟩
theorem IRow.own {A : Option Addr} {n c : Nat} (h : W.ownsRow B 3 1 (.slice A n c) n (idsV l)) : IRow W B (A, n, c) l := by
  obtain ⟨h1, h2⟩ := h
  have hl : l.length = n := by simpa [idsV] using h1
  rcases h2 with ⟨h3, h4⟩ | ⟨g, cap, cur, h3, h4, h5, h6, h7, h8, h9⟩
  · injection h3 with h3 h5 h6
    subst h3 h5 h6
    exact ⟨hl, Nat.le_refl _, by simp, fun h => absurd h (by simp)⟩
  · injection h3 with h3 h10 h11
    subst h3 h11
    refine ⟨hl, h6, by simpa [maxLen] using h7, fun _ => ⟨g, 0, cur, rfl, h4, h5, by dsimp only; omega, fun j hj => ?_⟩⟩
    dsimp only at hj
    rw [← h9, List.getElem?_take_of_lt (by omega), Nat.zero_add, Array.getElem?_toList]
theorem IRow.ty (h : IRow W B s l) (hc : 0 < s.2.2) {g : Nat} (hg : (slV s).ownBlock = some g) : Ty W g 3 ∧ B ≤ g ∧ g < W.heap.size := by
  obtain ⟨g', off, cur, h1, h2, h3, -⟩ := h.2.2.2 hc
  unfold slV at hg
  rw [h1] at hg
  injection hg with hg
  dsimp only at hg
  subst hg
  exact ⟨⟨cur, _, h3⟩, h2, (Array.getElem?_eq_some_iff.1 h3).1⟩
/-- The block of a slice with room; none without room. -/
def blkOf (s : Sl) : Option Nat := if 0 < s.2.2 then (slV s).ownBlock else none
theorem IRow.at_ (h : IRow W B s l) {g : Nat} (hg : blkOf s = some g) : Ty W g 3 ∧ B ≤ g ∧ g < W.heap.size := by
  unfold blkOf at hg
  split at hg
  · exact h.ty (by assumption) hg
  · cases hg
theorem IRow.mod (h : IRow W B s l) (m : Mod F W W') (hF : ∀ g, blkOf s = some g → ¬ F g) : IRow W' B s l := by
  refine ⟨h.1, h.2.1, h.2.2.1, fun hc => ?_⟩
  obtain ⟨g, off, cur, h1, h2, h3, h4⟩ := h.2.2.2 hc
  have hb : blkOf s = some g := by unfold blkOf; rw [if_pos hc]; unfold slV; rw [h1]; rfl
  exact ⟨g, off, cur, h1, h2, (m.block g (Array.getElem?_eq_some_iff.1 h3).1 (hF g hb)).trans h3, h4⟩
theorem IRow.all (h : IRow W B s l) (hb : Below W.heap.size W W') : IRow W' B s l := h.mod (F := fun _ => False) (Mod.of_below _ hb) (fun _ _ hf => hf)
theorem IRow.cell {A : Option Addr} {n c : Nat} (h : IRow W B (A, n, c) l) {j : Nat} (hj : j < n) : ∃ g off, A = some ⟨g, off, none⟩ ∧ B ≤ g ∧ g < W.heap.size ∧ W.cell? ⟨g, off + j, none⟩ = some (.int .i64 (((l[j]?).getD 0 : Nat) : Int)) ∧ W.frozen? ⟨g, off + j, none⟩ = false := by
  obtain ⟨h1, h2, h3, h4⟩ := h
  dsimp only at h1 h2 h4
  obtain ⟨g, off, cur, a1, a2, a3, a4, a5⟩ := h4 (by omega)
  have hjl : j < l.length := by omega
  refine ⟨g, off, a1, a2, (Array.getElem?_eq_some_iff.1 a3).1, ?_, ?_⟩
  · simp only [World.cell?, a3]
    rw [a5 j hj]
    unfold idsV
    rw [List.getElem?_map, List.getElem?_eq_getElem hjl]
    rfl
  · simp [World.frozen?, a3]
theorem IRow.nin (h : IRow W B s l) : NIn W W.heap.size s (l.map fun (k : Nat) => (k : Int)) := by
  obtain ⟨A, n, c⟩ := s
  refine ⟨by simpa using h.1, h.2.1, h.2.2.1, fun hn => ?_⟩
  dsimp only at hn
  obtain ⟨g, off, cur, h1, h2, h3, h4, h5⟩ := h.2.2.2 (by have h9 := h.2.1; dsimp only at h9 ⊢; omega)
  dsimp only at h1 h4 h5
  refine ⟨g, off, h1, (Array.getElem?_eq_some_iff.1 h3).1, fun j hj => ?_⟩
  dsimp only at hj
  have hjl : j < l.length := by rw [h.1]; exact hj
  simp only [World.cell?, h3]
  rw [h5 j hj]
  unfold idsV vInt
  rw [List.getElem?_map, List.getElem?_map, List.getElem?_eq_getElem hjl]
  rfl
end
end Go.Proofs.Ytkandhpnenmleaa
