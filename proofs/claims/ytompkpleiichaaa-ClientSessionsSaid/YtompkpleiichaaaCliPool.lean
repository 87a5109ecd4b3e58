/- client: pairs of Sessions, the package's and the reference's, side by side. -/
import Derived.Test.YtompkpleiichaaaCliSig
namespace Go.Proofs.Ytompkpleiichaaa
open Go.RowKit

structure Pr where
  g : Nat
  mb : Nat
  cl : List Cl
  gm : Nat
  rv : Value
  rl : List RCl
def Pr.F (p : Pr) (b : Nat) : Prop := SesF p.g p.mb p.cl b ∨ RSesF p.gm p.rv b
structure Pool (W w : World) (L : List Pr) : Prop where
  below : Below W.heap.size W w
  ses : ∀ p ∈ L, SesAt w p.g p.mb p.cl
  ref : ∀ p ∈ L, RSes w p.gm p.rv p.rl
  ge : ∀ p ∈ L, ∀ b, p.F b → W.heap.size ≤ b
  apart : ∀ i j (hi : i < L.length) (hj : j < L.length), i ≠ j → ∀ b, (L[i]).F b → ¬ (L[j]).F b
/-- The pairs are alike, and small. -/
def Alike (K : Nat) (L : List Pr) : Prop := ∀ p ∈ L, sigP p.cl = sigR p.rl ∧ p.rl.length ≤ K ∧ ∀ id s, sigR p.rl id = some s → s.2.1 ≤ K
theorem SesAt.tyF {w : World} {g mb : Nat} {cl : List Cl} (h : SesAt w g mb cl) : ∀ b, SesF g mb cl b → b = mb ∨ Ty w b 87 ∨ Ty w b 94 ∨ Ty w b 104 := by
  rintro b (rfl | rfl | ⟨c, hc, (rfl | e)⟩)
  · exact .inr (.inl h.blk.ty)
  · exact .inl rfl
  · exact .inr (.inr (.inl (h.ok c hc).1.ty))
  · exact .inr (.inr (.inr (Ty.of_own (h.ok c hc).2.1 e)))
theorem SesAt.notF {w : World} {g mb b : Nat} {t : TypeId} {cl : List Cl} (h : SesAt w g mb cl) (hb : Ty w b t) (h1 : t ≠ 87) (h2 : t ≠ 94) (h3 : t ≠ 104) : ¬ SesF g mb cl b := fun hf => by
  rcases h.tyF b hf with rfl | e | e | e
  · exact h.map.not_ty hb
  · exact h1 (Ty.unique hb e)
  · exact h2 (Ty.unique hb e)
  · exact h3 (Ty.unique hb e)
theorem SesAt.apartR {w : World} {g mb gm : Nat} {cl : List Cl} {rv : Value} {rl : List RCl} (h : SesAt w g mb cl) (hr : RSes w gm rv rl) : ∀ b, RSesF gm rv b → ¬ SesF g mb cl b := fun b hb => by
  rcases hr.tyF b hb with e | e
  · exact h.notF e (by decide) (by decide) (by decide)
  · exact h.notF e (by decide) (by decide) (by decide)
theorem Pool.all {W w w' : World} {L : List Pr} (h : Pool W w L) (hb : Below w.heap.size w w') : Pool W w' L := ⟨bt h.below hb, fun p hp => (h.ses p hp).all hb, fun p hp => (h.ref p hp).all hb, h.ge, h.apart⟩
theorem Pool.ltF {W w : World} {L : List Pr} (h : Pool W w L) {p : Pr} (hp : p ∈ L) : ∀ b, p.F b → b < w.heap.size := by
  rintro b (hb | hb)
  · exact (h.ses p hp).ltF b hb
  · exact (h.ref p hp).ltF b hb
theorem mem_set_cases {α : Type} {l : List α} {i : Nat} {x y : α} (h : y ∈ l.set i x) : y = x ∨ ∃ j, ∃ hj : j < l.length, j ≠ i ∧ y = l[j] := by
  obtain ⟨j, hj, rfl⟩ := List.getElem_of_mem h
  rw [List.length_set] at hj
  rw [List.getElem_set]
  split
  · exact .inl rfl
  · rename_i hne
    exact .inr ⟨j, hj, fun e => hne e.symm, rfl⟩
section
variable {W w w' : World} {L : List Pr} {i : Nat}
/-- What a step of the pair i needs: only blocks of the pair turn. -/
theorem Pool.step {F : Nat → Prop} {p' : Pr} (h : Pool W w L) (hi : i < L.length) (m : Mod F w w') (hF : ∀ b, F b → (L[i]).F b) (hB : ∀ b, F b → ¬ Ty w b 5) (hO : ∀ b, F b → ¬ Ty w b 112)
    (hS : SesAt w' p'.g p'.mb p'.cl) (hR : RSes w' p'.gm p'.rv p'.rl) (hN : ∀ b, p'.F b → (L[i]).F b ∨ w.heap.size ≤ b) : Pool W w' (L.set i p') := by
  refine ⟨m.below h.below h.below.size (fun b hb => h.ge _ (List.getElem_mem hi) b (hF b hb)), ?_, ?_, ?_, ?_⟩
  · intro p hp
    rcases mem_set_cases hp with rfl | ⟨j, hj, hne, rfl⟩
    · exact hS
    · exact (h.ses _ (List.getElem_mem hj)).mod m (fun b hb hf => h.apart i j hi hj (Ne.symm hne) b (hF b hf) (.inl hb)) hB
  · intro p hp
    rcases mem_set_cases hp with rfl | ⟨j, hj, hne, rfl⟩
    · exact hR
    · exact (h.ref _ (List.getElem_mem hj)).mod m (fun b hb hf => h.apart i j hi hj (Ne.symm hne) b (hF b hf) (.inr hb)) hB hO
  · intro p hp b hb
    rcases mem_set_cases hp with rfl | ⟨j, hj, hne, rfl⟩
    · exact (hN b hb).elim (h.ge _ (List.getElem_mem hi) b) (fun hb => Nat.le_trans h.below.size hb)
    · exact h.ge _ (List.getElem_mem hj) b hb
  · intro a c ha hc hne b hb hb'
    rw [List.length_set] at ha hc
    rw [List.getElem_set] at hb hb'
    split at hb
    · rename_i e
      subst e
      rw [if_neg hne] at hb'
      rcases hN b hb with hb | hb
      · exact h.apart i c hi hc hne b hb hb'
      · have := h.ltF (List.getElem_mem hc) b hb'
        omega
    · split at hb'
      · rename_i e
        subst e
        rcases hN b hb' with hb' | hb'
        · exact h.apart a i ha hi hne b hb hb'
        · have := h.ltF (List.getElem_mem ha) b hb
          omega
      · exact h.apart a c ha hc hne b hb hb'
theorem Pool.toS {σ : Int → Option CSt} (h : Pool W w L) (hi : i < L.length) (hn : PNext (L[i]).g (L[i]).mb (L[i]).cl σ w w') : ∃ cl', sigP cl' = σ ∧ Pool W w' (L.set i ⟨(L[i]).g, (L[i]).mb, cl', (L[i]).gm, (L[i]).rv, (L[i]).rl⟩) := by
  obtain ⟨cl', hS, hs, m, hF⟩ := hn
  have hs0 := h.ses _ (List.getElem_mem hi)
  have hr0 := h.ref _ (List.getElem_mem hi)
  refine ⟨cl', hs, h.step hi m (fun b hb => .inl hb) hs0.noB (fun b hb ht => hs0.notF ht (by decide) (by decide) (by decide) hb) hS (hr0.mod m (hs0.apartR hr0) hs0.noB (fun b hb ht => hs0.notF ht (by decide) (by decide) (by decide) hb)) ?_⟩
  rintro b (hb | hb)
  · exact (hF b hb).imp (fun h => .inl h) (fun h => h)
  · exact .inl (.inr hb)
theorem Pool.toR {σ : Int → Option CSt} (h : Pool W w L) (hi : i < L.length) (hn : RNext (L[i]).gm (L[i]).rv (L[i]).rl.length σ w w') : ∃ rv' rl', sigR rl' = σ ∧ rl'.length ≤ (L[i]).rl.length + 1 ∧ Pool W w' (L.set i ⟨(L[i]).g, (L[i]).mb, (L[i]).cl, (L[i]).gm, rv', rl'⟩) := by
  obtain ⟨rv', rl', hS, hlen, hs, m, hF⟩ := hn
  have hs0 := h.ses _ (List.getElem_mem hi)
  have hr0 := h.ref _ (List.getElem_mem hi)
  refine ⟨rv', rl', hs, hlen, h.step hi m (fun b hb => .inr hb) hr0.noB hr0.noO (hs0.mod m (fun b hb hf => hs0.apartR hr0 b hf hb) hr0.noB) hS ?_⟩
  rintro b (hb | hb)
  · exact .inl (.inl hb)
  · rcases hb with e | e
    · exact .inl (.inr (.inl e))
    · rcases hF with hF | hF
      · exact .inl (.inr (.inr (hF ▸ e)))
      · exact .inr (hF b e)
theorem Pool.add {p : Pr} (h : Pool W w L) (hS : SesAt w p.g p.mb p.cl) (hR : RSes w p.gm p.rv p.rl) {w0 : World} (h0 : ∀ q ∈ L, ∀ b, q.F b → b < w0.heap.size) (hW : W.heap.size ≤ w0.heap.size) (hnew : ∀ b, p.F b → w0.heap.size ≤ b) : Pool W w (L ++ [p]) := by
  refine ⟨h.below, ?_, ?_, ?_, ?_⟩
  · intro q hq
    rw [List.mem_append, List.mem_singleton] at hq
    rcases hq with hq | rfl
    · exact h.ses q hq
    · exact hS
  · intro q hq
    rw [List.mem_append, List.mem_singleton] at hq
    rcases hq with hq | rfl
    · exact h.ref q hq
    · exact hR
  · intro q hq b hb
    rw [List.mem_append, List.mem_singleton] at hq
    rcases hq with hq | rfl
    · exact h.ge q hq b hb
    · exact Nat.le_trans hW (hnew b hb)
  · intro a c ha hc hne b hb hb'
    rw [List.length_append, List.length_singleton] at ha hc
    rw [List.getElem_append] at hb hb'
    split at hb
    · rename_i ha'
      split at hb'
      · rename_i hc'
        exact h.apart a c ha' hc' hne b hb hb'
      · have h1 := h0 _ (List.getElem_mem ha') b hb
        have h2 := hnew b (by simpa using hb')
        omega
    · split at hb'
      · rename_i hc'
        have h1 := h0 _ (List.getElem_mem hc') b hb'
        have h2 := hnew b (by simpa using hb)
        omega
      · omega
end
end Go.Proofs.Ytompkpleiichaaa
