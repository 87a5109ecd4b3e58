/- A row of cells of one element's type that is only read (nil let in). -/
import Derived.Test.YtompkpleiichaaaFrame2
namespace Go.Proofs.Ytompkpleiichaaa
open Go.RowKit

def RowT (w : World) (t : TypeId) (A : Option Addr) (xs : List Value) : Prop := 0 < xs.length → ∃ b off cs fr, A = some ⟨b, off, none⟩ ∧ w.heap[b]? = some (.cells cs t fr) ∧ ∀ j, j < xs.length → cs[off + j]? = xs[j]?
section
variable {w w' : World} {t : TypeId} {A : Option Addr} {xs : List Value} {F : Nat → Prop}
theorem RowT.nil (w : World) (t : TypeId) (A : Option Addr) : RowT w t A [] := fun h => absurd h (by simp)
theorem RowT.mod (h : RowT w t A xs) (m : Mod F w w') (hF : ∀ b, F b → ¬ Ty w b t) : RowT w' t A xs := by
  intro hn
  obtain ⟨b, off, cs, fr, e, hh, hc⟩ := h hn
  exact ⟨b, off, cs, fr, e, (m.block b (Array.getElem?_eq_some_iff.1 hh).1 (fun hf => hF b hf ⟨_, _, hh⟩)).trans hh, hc⟩
theorem RowT.all (h : RowT w t A xs) (hb : Below w.heap.size w w') : RowT w' t A xs := h.mod (F := fun _ => False) (Mod.of_below _ hb) (fun _ hf => hf.elim)
theorem RowT.cells (h : RowT w t A xs) (h0 : 0 < xs.length) : ∃ b off, A = some ⟨b, off, none⟩ ∧ b < w.heap.size ∧ Ty w b t ∧ ∀ j, j < xs.length → w.cell? ⟨b, off + j, none⟩ = xs[j]? := by
  obtain ⟨b, off, cs, fr, e, hh, hc⟩ := h h0
  exact ⟨b, off, e, (Array.getElem?_eq_some_iff.1 hh).1, ⟨_, _, hh⟩, fun j hj => by rw [← hc j hj]; simp [World.cell?, hh]⟩
theorem RowT.of_own {base size n m c : Nat} (h : w.ownsRow base t size (.slice A m c) n xs) : RowT w t A xs := by
  intro h0
  have hl := h.1
  rcases h.2 with ⟨h2, hn⟩ | ⟨g, cap, cur, h2, _, hh, hnc, hm, hcs, htk⟩
  · subst hn
    rw [Nat.zero_mul] at hl
    omega
  · injection h2 with h2 _ _
    subst h2
    refine ⟨g, 0, cur, _, rfl, hh, fun j hj => ?_⟩
    rw [Nat.zero_add, ← htk, List.getElem?_take, if_pos (by omega)]
    simp
theorem RowT.drop (h : RowT w t A xs) (k : Nat) (h0 : k < xs.length) : ∃ b off, A = some ⟨b, off, none⟩ ∧ RowT w t (some ⟨b, off + k, none⟩) (xs.drop k) := by
  obtain ⟨b, off, cs, fr, e, hh, hc⟩ := h (by omega)
  refine ⟨b, off, e, fun hn => ⟨b, off + k, cs, fr, rfl, hh, fun j hj => ?_⟩⟩
  rw [List.length_drop] at hj
  rw [List.getElem?_drop, ← hc (k + j) (by omega), Nat.add_assoc]
theorem RowT.take (h : RowT w t A xs) (k : Nat) : RowT w t A (xs.take k) := by
  intro hn
  rw [List.length_take] at hn
  obtain ⟨b, off, cs, fr, e, hh, hc⟩ := h (by omega)
  refine ⟨b, off, cs, fr, e, hh, fun j hj => ?_⟩
  rw [List.length_take] at hj
  rw [hc j (by omega), List.getElem?_take, if_pos (by omega)]
end
theorem flatT_length {α : Type} (f : α → List Value) (size : Nat) (hf : ∀ x, (f x).length = size) (l : List α) : (l.flatMap f).length = l.length * size := by
  induction l with
  | nil => simp
  | cons x l ih => rw [List.flatMap_cons, List.length_append, hf, ih, List.length_cons, Nat.succ_mul, Nat.add_comm]
theorem flatT_at {α : Type} (f : α → List Value) (size : Nat) (hf : ∀ x, (f x).length = size) (l : List α) : ∀ (k i : Nat) (hk : k < l.length) (_ : i < size), (l.flatMap f)[k * size + i]? = (f l[k])[i]? := by
  induction l with
  | nil => intro k i hk; simp at hk
  | cons x l ih =>
    intro k i hk hi
    rw [List.flatMap_cons]
    rcases k with _ | k
    · rw [Nat.zero_mul, Nat.zero_add, List.getElem?_append_left (by rw [hf]; exact hi)]
      rfl
    · rw [List.getElem?_append_right (by rw [hf, Nat.succ_mul]; omega), hf, show (k + 1) * size + i - size = k * size + i by rw [Nat.succ_mul]; omega]
      exact ih k i (by simpa using hk) hi
theorem flatT_set {α : Type} (f : α → List Value) (size : Nat) (hf : ∀ x, (f x).length = size) (x : α) (i : Nat) (hi : i < size) (v : Value) (l : List α) : ∀ (k : Nat) (hk : k < l.length) (_ : f x = (f l[k]).set i v), (l.flatMap f).set (k * size + i) v = (l.set k x).flatMap f := by
  induction l with
  | nil => intro k hk; simp at hk
  | cons y l ih =>
    intro k hk hx
    rw [List.flatMap_cons]
    rcases k with _ | k
    · rw [Nat.zero_mul, Nat.zero_add, List.set_append_left _ _ (by rw [hf]; exact hi), List.set_cons_zero, List.flatMap_cons, hx]
      rfl
    · rw [List.set_append_right _ _ (by rw [hf, Nat.succ_mul]; omega), hf, show (k + 1) * size + i - size = k * size + i by rw [Nat.succ_mul]; omega, List.set_cons_succ, List.flatMap_cons, ih k (by simpa using hk) hx]
/-- The cells of one element of a row of structs. -/
theorem RowT.at_ {α : Type} {w : World} {t : TypeId} {A : Option Addr} (f : α → List Value) (size : Nat) (hf : ∀ x, (f x).length = size) {l : List α} (h : RowT w t A (l.flatMap f)) (hs : 0 < size) {k : Nat} (hk : k < l.length) : ∃ b off, A = some ⟨b, off, none⟩ ∧ b < w.heap.size ∧ Ty w b t ∧ ∀ i, i < size → w.cell? ⟨b, off + (k * size + i), none⟩ = (f l[k])[i]? := by
  have hl := flatT_length f size hf l
  have hk1 : (k + 1) * size ≤ l.length * size := Nat.mul_le_mul_right _ hk
  rw [Nat.succ_mul] at hk1
  obtain ⟨b, off, e, hb, ht, hc⟩ := h.cells (by omega)
  exact ⟨b, off, e, hb, ht, fun i hi => by rw [hc _ (by omega), flatT_at f size hf l k i hk hi]⟩
end Go.Proofs.Ytompkpleiichaaa
