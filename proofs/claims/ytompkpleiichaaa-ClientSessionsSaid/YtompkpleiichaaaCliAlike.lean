/- client: pairs that are alike stay so. -/
import Derived.Test.YtompkpleiichaaaCliPool
namespace Go.Proofs.Ytompkpleiichaaa
open Go.RowKit

theorem Alike.mono {K K' : Nat} {L : List Pr} (h : Alike K L) (hK : K ≤ K') : Alike K' L := fun p hp => ⟨(h p hp).1, Nat.le_trans (h p hp).2.1 hK, fun id s hs => by have := (h p hp).2.2 id s hs; omega⟩
theorem Alike.set {K x : Nat} {L : List Pr} {p' : Pr} (h : Alike K L) (h1 : sigP p'.cl = sigR p'.rl) (h2 : p'.rl.length ≤ K + 1) (h3 : ∀ id s, sigR p'.rl id = some s → s.2.1 ≤ (K : Int) + 1) : Alike (K + 4) (L.set x p') := fun p hp => by
  rcases List.mem_or_eq_of_mem_set hp with hp | rfl
  · exact h.mono (by omega) p hp
  · exact ⟨h1, by omega, fun id s hs => by have := h3 id s hs; omega⟩
theorem Alike.add {K : Nat} {L : List Pr} {p' : Pr} (h : Alike K L) (h1 : sigP p'.cl = sigR p'.rl) (h2 : p'.rl.length ≤ K) (h3 : ∀ id s, sigR p'.rl id = some s → s.2.1 ≤ (K : Int)) : Alike (K + 4) (L ++ [p']) := fun p hp => by
  rw [List.mem_append, List.mem_singleton] at hp
  rcases hp with hp | rfl
  · exact h.mono (by omega) p hp
  · exact ⟨h1, by omega, fun id s hs => by have := h3 id s hs; omega⟩
section
variable {σ : Int → Option CSt} {K : Int}
theorem upd_bnd {id : Int} {t : CSt} (h : ∀ i s, σ i = some s → s.2.1 ≤ K) (ht : t.2.1 ≤ K + 1) : ∀ i s, upd σ id t i = some s → s.2.1 ≤ K + 1 := by
  intro i s hs
  unfold upd at hs
  split at hs
  · injection hs with hs
    subst hs
    exact ht
  · have := h i s hs
    omega
theorem join_bnd {id key : Int} (hK : 0 ≤ K) (h : ∀ i s, σ i = some s → s.2.1 ≤ K) : ∀ i s, joinS σ id key i = some s → s.2.1 ≤ K + 1 := by
  intro i s hs
  unfold joinS at hs
  split at hs
  · exact upd_bnd h (by dsimp only; omega) i s hs
  · have := h i s hs
    omega
theorem an_bnd {id num : Int} {n : Nat} {bs : List UInt8} (h : ∀ i s, σ i = some s → s.2.1 ≤ K) : ∀ i s, anSt σ id num n bs i = some s → s.2.1 ≤ K + 1 := by
  intro i s hs
  unfold anSt at hs
  rcases ht : σ id with _ | t
  · rw [ht] at hs
    have := h i s hs
    omega
  · rw [ht] at hs
    have := h id t ht
    exact upd_bnd h (by dsimp only; omega) i s hs
theorem ac_bnd {r : Rq} (h : ∀ i s, σ i = some s → s.2.1 ≤ K) : ∀ i s, acSt σ r i = some s → s.2.1 ≤ K + 1 := by
  intro i s hs
  unfold acSt at hs
  split at hs
  · rcases ht : σ r.cl with _ | t
    · rw [ht] at hs
      have := h i s hs
      omega
    · rw [ht] at hs
      have := h r.cl t ht
      refine upd_bnd h ?_ i s hs
      dsimp only
      unfold accNew
      split <;> dsimp only <;> omega
  · have := h i s hs
    omega
end
theorem mem_set_self {L : List Pr} {x : Nat} {p' : Pr} (hx : x < L.length) : p' ∈ L.set x p' := List.mem_iff_getElem.2 ⟨x, by rw [List.length_set]; exact hx, by rw [List.getElem_set_self]⟩
theorem Pool.toS' {W w w' : World} {L : List Pr} {x : Nat} {p : Pr} {σ : Int → Option CSt} (h : Pool W w L) (hx : x < L.length) (hp : L[x] = p) (hn : PNext p.g p.mb p.cl σ w w') : ∃ cl', sigP cl' = σ ∧ Pool W w' (L.set x ⟨p.g, p.mb, cl', p.gm, p.rv, p.rl⟩) := by
  subst hp
  exact h.toS hx hn
theorem Pool.toR' {W w w' : World} {L : List Pr} {x : Nat} {p : Pr} {σ : Int → Option CSt} (h : Pool W w (L.set x p)) (hx : x < L.length) (hn : RNext p.gm p.rv p.rl.length σ w w') : ∃ rv' rl', sigR rl' = σ ∧ rl'.length ≤ p.rl.length + 1 ∧ Pool W w' (L.set x ⟨p.g, p.mb, p.cl, p.gm, rv', rl'⟩) := by
  have hx' : x < (L.set x p).length := by rw [List.length_set]; exact hx
  have he : (L.set x p)[x] = p := List.getElem_set_self ..
  have := h.toR hx' (by rw [he]; exact hn)
  rw [he] at this
  obtain ⟨rv', rl', a, b, c⟩ := this
  rw [List.set_set] at c
  exact ⟨rv', rl', a, b, c⟩
/-- What the end of a round reads of a pair. -/
structure Shown (w : World) (g gm : Nat) (q : Pr) : Prop where
  eg : q.g = g
  egm : q.gm = gm
  ses : SesAt w g q.mb q.cl
  ref : RSes w gm q.rv q.rl
  sig : sigP q.cl = sigR q.rl
  len : q.rl.length ≤ 1000000
theorem Pool.shown {W w : World} {L : List Pr} {K x : Nat} (h : Pool W w L) (ha : Alike K L) (hK : K ≤ 1000) (hx : x < L.length) : Shown w (L[x]).g (L[x]).gm (L[x]) :=
  ⟨rfl, rfl, h.ses _ (List.getElem_mem hx), h.ref _ (List.getElem_mem hx), (ha _ (List.getElem_mem hx)).1, by have := (ha _ (List.getElem_mem hx)).2.1; omega⟩
theorem set_same {L : List Pr} {x y : Nat} {p p2 p' : Pr} (hx : x < L.length) (hy : y < L.length) (hp : L[x] = p) (hp2 : L[y] = p2) (h1 : p'.g = p.g) (h2 : p'.gm = p.gm) : ((L.set x p')[y]'(by rw [List.length_set]; exact hy)).g = p2.g ∧ ((L.set x p')[y]'(by rw [List.length_set]; exact hy)).gm = p2.gm ∧ ((L.set x p')[x]'(by rw [List.length_set]; exact hx)).g = p.g ∧ ((L.set x p')[x]'(by rw [List.length_set]; exact hx)).gm = p.gm := by
  rw [List.getElem_set, List.getElem_set_self]
  refine ⟨?_, ?_, h1, h2⟩
  · split
    · rename_i e
      subst e
      rw [hp] at hp2
      rw [h1, hp2]
    · rw [hp2]
  · split
    · rename_i e
      subst e
      rw [hp] at hp2
      rw [h2, hp2]
    · rw [hp2]
theorem Pool.shownSet {W w : World} {L : List Pr} {K x y : Nat} {p p2 p' : Pr} (h : Pool W w (L.set x p')) (ha : Alike K (L.set x p')) (hK : K ≤ 1000) (hx : x < L.length) (hy : y < L.length) (hp : L[x] = p) (hp2 : L[y] = p2) (h1 : p'.g = p.g) (h2 : p'.gm = p.gm) :
    Shown w p.g p.gm ((L.set x p')[x]'(by rw [List.length_set]; exact hx)) ∧ Shown w p2.g p2.gm ((L.set x p')[y]'(by rw [List.length_set]; exact hy)) := by
  obtain ⟨e1, e2, e3, e4⟩ := set_same hx hy hp hp2 h1 h2
  have a := h.shown ha hK (x := x) (by rw [List.length_set]; exact hx)
  have b := h.shown ha hK (x := y) (by rw [List.length_set]; exact hy)
  rw [e3, e4] at a
  rw [e1, e2] at b
  exact ⟨a, b⟩
end Go.Proofs.Ytompkpleiichaaa
