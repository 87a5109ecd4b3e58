/- Part 1 of the texts that ProofLower needs: PfMkP PfSndP PfClA Range PfClB PfOptP PfCBound PfMkW PfClTry PfClSeq PfClBest PfMk. -/
import Derived.RangeFuncNested
import Derived.RangeFuncBound
import Derived.RangeFuncCalls
import Derived.RangeFuncLeaves
import Derived.RangeFuncBox
import Derived.Shelf.Abstract
import Derived.Shelf.RegionOpen
import Derived.WalkKit
import Derived.OwnWalkIn
import Derived.TacticsInMore
import Derived.LoopNIn
import Derived.LoopIn
import Derived.Deep.DeepCutAuto
import Derived.Laws.EntriesVeiled
import Derived.Test.YtikfcpkobgejmaaGProofChecks15

/- proof: what Make builds, plain: a tree that Check accepts. -/
namespace Go.Proofs.Ytikfcpkobgejmaa
open Go.RowKit

/-- The nodes from i up to j are those below a node at which D is decided. -/
def Built (n : Nat) (L : List Bd) (v : Int) (N : List Nd) : Nat → Nat → List Int → Nat → Prop
  | 0, _, _, _ => False
  | f + 1, i, D, j => (∃ s, ndAt N i = ⟨-1, 0, 0, s, List.replicate n 0⟩ ∧ boundP L D (List.replicate n 0) ≤ v ∧ j = i + 1) ∨
      ∃ (b i2 : Nat) (s : Sl), ndAt N i = ⟨(b : Int), ((i + 1 : Nat) : Int), (i2 : Int), s, []⟩ ∧ possB L D (b : Int) = true ∧ Built n L v N f (i + 1) (D.set b 1) i2 ∧ Built n L v N f i2 (D.set b 2) j
theorem Built.lt {n : Nat} {L : List Bd} {v : Int} {N : List Nd} : ∀ {f i j : Nat} {D : List Int}, Built n L v N f i D j → i < j
  | 0, _, _, _, h => h.elim
  | f + 1, i, j, D, h => by
    rcases h with ⟨s, -, -, rfl⟩ | ⟨b, i2, s, -, -, h1, h2⟩
    · omega
    · have := h1.lt
      have := h2.lt
      omega
theorem Built.size {n : Nat} {L : List Bd} {v : Int} {N : List Nd} : ∀ {f i j : Nat} {D : List Int}, Built n L v N f i D j → j + 1 ≤ i + 2 ^ f
  | 0, _, _, _, h => h.elim
  | f + 1, i, j, D, h => by
    have hp : 0 < 2 ^ f := Nat.pow_pos (by decide)
    rw [Nat.pow_succ]
    rcases h with ⟨s, -, -, rfl⟩ | ⟨b, i2, s, -, -, h1, h2⟩
    · omega
    · have := h1.size
      have := h2.size
      omega
theorem Built.congr {n : Nat} {L : List Bd} {v : Int} {N N' : List Nd} : ∀ {f i j : Nat} {D : List Int}, Built n L v N f i D j → (∀ t, i ≤ t → t < j → (ndAt N' t).bid = (ndAt N t).bid ∧ (ndAt N' t).inn = (ndAt N t).inn ∧ (ndAt N' t).out = (ndAt N t).out ∧ (ndAt N' t).prices = (ndAt N t).prices) → Built n L v N' f i D j
  | 0, _, _, _, h, _ => h.elim
  | f + 1, i, j, D, h, he => by
    rcases h with ⟨s, h1, h2, rfl⟩ | ⟨b, i2, s, h1, h2, h3, h4⟩
    · obtain ⟨e1, e2, e3, e4⟩ := he i (Nat.le_refl _) (by omega)
      rw [h1] at e1 e2 e3 e4
      refine .inl ⟨(ndAt N' i).s, ?_, h2, rfl⟩
      generalize ndAt N' i = x at *
      cases x
      simp only at e1 e2 e3 e4
      simp only [Nd.mk.injEq]
      exact ⟨e1, e2, e3, trivial, e4⟩
    · have l3 := h3.lt
      have l4 := h4.lt
      obtain ⟨e1, e2, e3, e4⟩ := he i (Nat.le_refl _) (by omega)
      rw [h1] at e1 e2 e3 e4
      refine .inr ⟨b, i2, (ndAt N' i).s, ?_, h2, h3.congr (fun t ht1 ht2 => he t (by omega) (by omega)), h4.congr (fun t ht1 ht2 => he t (by omega) (by omega))⟩
      generalize ndAt N' i = x at *
      cases x
      simp only at e1 e2 e3 e4
      simp only [Nd.mk.injEq]
      exact ⟨e1, e2, e3, trivial, e4⟩
theorem Built.more {n : Nat} {L : List Bd} {v : Int} {N : List Nd} : ∀ {f i j : Nat} {D : List Int}, Built n L v N f i D j → Built n L v N (f + 1) i D j
  | 0, _, _, _, h => h.elim
  | f + 1, i, j, D, h => by
    rcases h with h | ⟨b, i2, s, h1, h2, h3, h4⟩
    · exact .inl h
    · exact .inr ⟨b, i2, s, h1, h2, h3.more, h4.more⟩
theorem Built.fuel {n : Nat} {L : List Bd} {v : Int} {N : List Nd} : ∀ {f i j : Nat} {D : List Int}, Built n L v N f i D j → ∀ (g : Nat), j ≤ i + g → Built n L v N g i D j
  | 0, _, _, _, h => h.elim
  | f + 1, i, j, D, h => by
    intro g hg
    have hl := h.lt
    obtain ⟨g, rfl⟩ : ∃ k, g = k + 1 := ⟨g - 1, by omega⟩
    rcases h with h | ⟨b, i2, s, h1, h2, h3, h4⟩
    · exact .inl h
    · have l3 := h3.lt
      have l4 := h4.lt
      exact .inr ⟨b, i2, s, h1, h2, h3.fuel _ (by omega), h4.fuel _ (by omega)⟩
theorem priB_zeros (n : Nat) : priB (List.replicate n 0) = true := by
  unfold priB
  rw [List.all_eq_true]
  intro p hp
  rw [List.eq_of_mem_replicate hp]
  decide
theorem Built.holds {n : Nat} {L : List Bd} {v : Int} {N : List Nd} : ∀ {f i j : Nat} {D : List Int}, Built n L v N f i D j → holdsF n L v N f i D = true
  | 0, _, _, _, h => h.elim
  | f + 1, i, j, D, h => by
    rw [holdsF]
    rcases h with ⟨s, h1, h2, -⟩ | ⟨b, i2, s, h1, h2, h3, h4⟩
    · rw [h1]
      simp only [if_true]
      unfold leafB
      simp [priB_zeros, h2]
    · rw [h1]
      dsimp only
      rw [if_neg (by omega), if_neg (by rw [h2]; simp), Int.toNat_natCast, Int.toNat_natCast, Int.toNat_natCast, h3.holds, h4.holds]
      rfl
theorem Built.kids {n : Nat} {L : List Bd} {v : Int} {N : List Nd} {M : Nat} : ∀ {f i j : Nat} {D : List Int}, Built n L v N f i D j → j ≤ M → ∀ t, i ≤ t → t < j → kidOk M t (ndAt N t) = true
  | 0, _, _, _, h => h.elim
  | f + 1, i, j, D, h => by
    intro hM t ht1 ht2
    rcases h with ⟨s, h1, h2, rfl⟩ | ⟨b, i2, s, h1, h2, h3, h4⟩
    · obtain rfl : t = i := by omega
      rw [h1]
      rfl
    · have l3 := h3.lt
      have l4 := h4.lt
      by_cases e : t = i
      · subst e
        rw [h1]
        unfold kidOk
        dsimp only
        simp only [Bool.or_eq_true, Bool.and_eq_true, decide_eq_true_eq]
        omega
      · by_cases e2 : t < i2
        · exact h3.kids (by omega) t (by omega) e2
        · exact h4.kids hM t (by omega) ht2
theorem Built.cnt {n : Nat} {L : List Bd} {v : Int} {N : List Nd} : ∀ {f i j : Nat} {D : List Int}, Built n L v N f i D j → ∀ t : Nat, cnt N j t = cnt N i t + if i < t ∧ t < j then 1 else 0
  | 0, _, _, _, h => h.elim
  | f + 1, i, j, D, h => by
    intro t
    rcases h with ⟨s, h1, h2, rfl⟩ | ⟨b, i2, s, h1, h2, h3, h4⟩
    · rw [cnt_succ, h1, if_neg (by omega)]
      rfl
    · have l3 := h3.lt
      have l4 := h4.lt
      rw [h4.cnt t, h3.cnt t, cnt_succ, h1]
      unfold kid
      dsimp only
      rw [if_neg (by omega)]
      (repeat' split) <;> omega
theorem cnt_zero (N : List Nd) (t : Nat) : cnt N 0 t = 0 := rfl
/-- What is built is accepted. -/
theorem Built.proof {n : Nat} {L : List Bd} {win : List Int} {N : List Nd} {f : Nat} (h : Built n L (valueB L win) N f 0 (List.replicate L.length 0) N.length) (hf : f ≤ 11) : N.length ≤ 2047 ∧ 0 < N.length ∧ proofB n L win (valueB L win) N = true := by
  have h1 := h.size
  have h2 : 2 ^ f ≤ 2 ^ 11 := Nat.pow_le_pow_right (by decide) hf
  have hl := h.lt
  refine ⟨by omega, hl, ?_⟩
  unfold proofB treeB
  simp only [Bool.and_eq_true, decide_eq_true_eq, List.all_eq_true, List.mem_range, true_and]
  refine ⟨⟨⟨fun t ht => h.kids (Nat.le_refl _) t (Nat.zero_le _) ht, fun t ht => ?_⟩, hl⟩, ?_⟩
  · rw [h.cnt t, cnt_zero]
    by_cases e : t = 0
    · subst e
      rfl
    · rw [if_pos (by omega)]
      omega
  · exact (h.fuel N.length (by omega)).holds
end Go.Proofs.Ytikfcpkobgejmaa

/- law 29: the plain laws of feasible choices and of bounds: nothing is worth more than a certificate's value. -/
namespace Go.Proofs.Ytikfcpkobgejmaa
open Go.RowKit

/-- A feasible choice. -/
def FeasP (L : List Bd) (C : List Int) : Prop := (∀ x ∈ C, 0 ≤ x ∧ x < (L.length : Int)) ∧ C.Pairwise fun x y => x < y ∧ confB (bdAt L y.toNat) (bdAt L x.toNat) = false
theorem feasGo_spec {L : List Bd} : ∀ (C : List Int) (last : Int) (seen : List Bd), -1 ≤ last → (feasGo L last seen C = true ↔ (∀ x ∈ C, last < x ∧ x < (L.length : Int) ∧ seen.any (confB (bdAt L x.toNat)) = false) ∧ C.Pairwise fun x y => x < y ∧ confB (bdAt L y.toNat) (bdAt L x.toNat) = false)
  | [], _, _, _ => by simp [feasGo]
  | i :: t, last, seen, hl => by
    by_cases h1 : i ≤ last ∨ (L.length : Int) ≤ i
    · rw [feasGo_bad h1]
      simp only [Bool.false_eq_true, false_iff]
      rintro ⟨h2, -⟩
      have := h2 i (by simp)
      omega
    · obtain ⟨k, rfl⟩ : ∃ k : Nat, i = (k : Int) := ⟨i.toNat, by omega⟩
      have hk : k < L.length := by omega
      rw [feasGo_at (by omega) hk]
      have hb : bdAt L ((k : Int)).toNat = L[k] := by rw [Int.toNat_natCast, bdAt_eq hk]
      cases hc : seen.any (confB L[k]) with
      | true =>
        simp only [if_true, Bool.false_eq_true, false_iff]
        rintro ⟨h2, -⟩
        have := (h2 k (by simp)).2.2
        rw [hb, hc] at this
        cases this
      | false =>
        simp only [Bool.false_eq_true, if_false]
        rw [feasGo_spec t k (seen ++ [L[k]]) (by omega), List.pairwise_cons]
        constructor
        · rintro ⟨h2, h3⟩
          refine ⟨fun x hx => ?_, fun y hy => ?_, h3⟩
          · rcases List.mem_cons.1 hx with rfl | hx
            · exact ⟨by omega, by omega, by rw [hb]; exact hc⟩
            · obtain ⟨h4, h5, h6⟩ := h2 x hx
              rw [List.any_append, Bool.or_eq_false_iff] at h6
              exact ⟨by omega, h5, h6.1⟩
          · obtain ⟨h4, h5, h6⟩ := h2 y hy
            rw [List.any_append, Bool.or_eq_false_iff] at h6
            refine ⟨h4, ?_⟩
            have := h6.2
            rw [hb]
            simpa using this
        · rintro ⟨h2, h3, h4⟩
          refine ⟨fun x hx => ?_, h4⟩
          obtain ⟨h5, h6, h7⟩ := h2 x (by simp [hx])
          obtain ⟨h8, h9⟩ := h3 x hx
          refine ⟨h8, h6, ?_⟩
          rw [List.any_append, h7]
          rw [hb] at h9
          simpa using h9
theorem feasB_iff {L : List Bd} {C : List Int} : feasB L C = true ↔ FeasP L C := by
  unfold feasB FeasP
  rw [feasGo_spec C (-1) [] (by omega)]
  constructor
  · rintro ⟨h1, h2⟩
    exact ⟨fun x hx => by have := (h1 x hx).1; have := (h1 x hx).2.1; omega, h2⟩
  · rintro ⟨h1, h2⟩
    exact ⟨fun x hx => ⟨by have := (h1 x hx).1; omega, (h1 x hx).2, rfl⟩, h2⟩
theorem FeasP.nodup {L : List Bd} {C : List Int} (h : FeasP L C) : C.Nodup := h.2.imp (fun hxy e => by omega)
theorem FeasP.apart {L : List Bd} {C : List Int} (h : FeasP L C) {x y : Int} (hx : x ∈ C) (hy : y ∈ C) (hne : x ≠ y) : confB (bdAt L x.toNat) (bdAt L y.toNat) = false := by
  obtain ⟨i, hi, rfl⟩ := List.getElem_of_mem hx
  obtain ⟨j, hj, rfl⟩ := List.getElem_of_mem hy
  have hp := List.pairwise_iff_getElem.1 h.2
  rcases Nat.lt_trichotomy i j with hij | hij | hij
  · rw [confB_comm]
    exact (hp i j hi hj hij).2
  · subst hij
    exact absurd rfl hne
  · exact (hp j i hj hi hij).2
theorem sum_mem {X : List Int} {n : Nat} (hn : X.Nodup) (hr : ∀ x ∈ X, 0 ≤ x ∧ x < (n : Int)) (f : Nat → Int) : (X.map fun x => f x.toNat).sum = ((List.range n).map fun (k : Nat) => if (k : Int) ∈ X then f k else 0).sum := by
  have hp : X.Perm (((List.range n).filter fun (k : Nat) => decide ((k : Int) ∈ X)).map fun k : Nat => (k : Int)) := by
    rw [List.perm_ext_iff_of_nodup hn]
    · intro x
      rw [List.mem_map]
      constructor
      · intro hx
        have := hr x hx
        have e : ((x.toNat : Nat) : Int) = x := by omega
        exact ⟨x.toNat, by simp only [List.mem_filter, List.mem_range, decide_eq_true_eq, e]; exact ⟨by omega, hx⟩, e⟩
      · rintro ⟨k, hk, rfl⟩
        simp only [List.mem_filter, List.mem_range, decide_eq_true_eq] at hk
        exact hk.2
    · rw [List.nodup_iff_pairwise_ne]
      refine List.Pairwise.map (R := fun a b : Nat => a ≠ b) _ (fun a b hab e => hab (by omega)) ?_
      exact List.Pairwise.filter _ (List.nodup_iff_pairwise_ne.1 List.nodup_range)
  have h2 := hp.map (fun x => f x.toNat)
  have h3 : ((((List.range n).filter fun (k : Nat) => decide ((k : Int) ∈ X)).map fun k : Nat => (k : Int)).map fun x => f x.toNat).sum = ((List.range n).map fun (k : Nat) => if (k : Int) ∈ X then f k else 0).sum := by
    rw [List.map_map]
    generalize List.range n = R
    induction R with
    | nil => rfl
    | cons a t ih =>
      rw [List.filter_cons]
      by_cases hd : (a : Int) ∈ X
      · rw [decide_eq_true hd, if_pos rfl]
        simp only [List.map_cons, List.sum_cons, ih, if_pos hd]
        simp
      · rw [decide_eq_false hd, if_neg (by simp)]
        simp only [List.map_cons, List.sum_cons, ih, if_neg hd]
        omega
  rw [← h3]
  exact perm_sum h2
theorem sum_le {α : Type} {R : List α} {f g : α → Int} (h : ∀ a ∈ R, f a ≤ g a) : (R.map f).sum ≤ (R.map g).sum := by
  induction R with
  | nil => simp
  | cons a t ih =>
    have h1 := h a (by simp)
    have h2 := ih (fun b hb => h b (by simp [hb]))
    simp only [List.map_cons, List.sum_cons]
    omega
theorem sum_add {α : Type} (R : List α) (f g : α → Int) : (R.map fun a => f a + g a).sum = (R.map f).sum + (R.map g).sum := by
  induction R with
  | nil => simp
  | cons a t ih =>
    simp only [List.map_cons, List.sum_cons, ih]
    omega
theorem sum_flat (X : List Int) (g : Int → List Int) (f : Int → Int) : ((X.flatMap g).map f).sum = (X.map fun x => ((g x).map f).sum).sum := by
  induction X with
  | nil => simp
  | cons a t ih => rw [List.flatMap_cons, List.map_append, List.sum_append, ih]; rfl
theorem nodup_flat {g : Int → List Int} : ∀ {X : List Int}, (∀ x ∈ X, (g x).Nodup) → X.Pairwise (fun x y => ∀ a ∈ g x, a ∉ g y) → (X.flatMap g).Nodup
  | [], _, _ => by simp
  | x :: t, h1, h2 => by
    rw [List.pairwise_cons] at h2
    rw [List.flatMap_cons, List.nodup_append]
    refine ⟨h1 x (by simp), nodup_flat (fun y hy => h1 y (by simp [hy])) h2.2, fun a ha b hb e => ?_⟩
    subst e
    obtain ⟨y, hy, hay⟩ := List.mem_flatMap.1 hb
    exact h2.1 y hy a ha hay
theorem lots_nodup {n : Int} : ∀ {xs : List Int} {last : Int}, lotsBad n last xs = false → xs.Nodup ∧ ∀ x ∈ xs, last < x
  | [], _, _ => by simp
  | x :: t, last, h => by
    simp only [lotsBad, Bool.or_eq_false_iff, decide_eq_false_iff_not] at h
    obtain ⟨⟨h1, h2⟩, h3⟩ := h
    obtain ⟨h4, h5⟩ := lots_nodup h3
    refine ⟨List.nodup_cons.2 ⟨fun hx => by have := h5 x hx; omega, h4⟩, fun y hy => ?_⟩
    rcases List.mem_cons.1 hy with rfl | hy
    · omega
    · have := h5 y hy
      omega
theorem valid_lots {n : Int} {L : List Bd} (h : validE n L = 0) : ∀ b ∈ L, b.lots.Nodup := fun b hb => by
  unfold validE at h
  split at h
  · cases h
  · split at h
    · cases h
    · have h1 := firstE_ok h b hb
      unfold bidE at h1
      split at h1
      · cases h1
      · split at h1
        · cases h1
        · split at h1
          · cases h1
          · split at h1
            · cases h1
            · rename_i h2
              exact (lots_nodup (by simpa using h2)).1
theorem bdAt_lots {L : List Bd} (h : ∀ b ∈ L, b.lots.Nodup) (k : Nat) : (bdAt L k).lots.Nodup := by
  by_cases hk : k < L.length
  · rw [bdAt_eq hk]
    exact h _ (List.getElem_mem hk)
  · unfold bdAt
    rw [List.getElem?_eq_none (by omega)]
    exact List.nodup_nil
theorem valueB_sum {L : List Bd} {C : List Int} (h : ∀ x ∈ C, 0 ≤ x ∧ x < (L.length : Int)) : valueB L C = (C.map fun x => (bdAt L x.toNat).price).sum := by
  unfold valueB
  congr 1
  apply List.map_congr_left
  intro x hx
  obtain ⟨h1, h2⟩ := h x hx
  obtain ⟨k, rfl⟩ : ∃ k : Nat, x = (k : Int) := ⟨x.toNat, by omega⟩
  have hk : k < L.length := by omega
  unfold priceAt
  rw [if_pos (by omega), Int.toNat_natCast, List.getElem?_eq_getElem hk, bdAt_eq hk]
  rfl
/-- A choice agrees with what is decided. -/
structure Agree (L : List Bd) (D : List Int) (C : List Int) : Prop where
  len : D.length = L.length
  vals : ∀ k : Nat, k < L.length → D[k]?.getD 0 = 0 ∨ D[k]?.getD 0 = 1 ∨ D[k]?.getD 0 = 2
  win : ∀ k : Nat, k < L.length → D[k]?.getD 0 = 1 → (k : Int) ∈ C
  lose : ∀ k : Nat, k < L.length → D[k]?.getD 0 = 2 → (k : Int) ∉ C
theorem Agree.start (L : List Bd) (C : List Int) : Agree L (List.replicate L.length 0) C := by
  have h0 : ∀ k : Nat, (List.replicate L.length (0 : Int))[k]?.getD 0 = 0 := fun k => by
    rw [List.getElem?_replicate]
    split <;> rfl
  exact ⟨by simp, fun k _ => .inl (h0 k), fun k _ h => absurd (by rw [← h, h0]) (show ¬ (1 : Int) = 0 by decide), fun k _ h => absurd (by rw [← h, h0]) (show ¬ (2 : Int) = 0 by decide)⟩
theorem Agree.on {L : List Bd} {D C : List Int} (h : Agree L D C) {b : Nat} (hb : b < L.length) (h0 : D[b]?.getD 0 = 0) : Agree L (D.set b (if (b : Int) ∈ C then 1 else 2)) C := by
  have hl : b < D.length := by rw [h.len]; exact hb
  refine ⟨by rw [List.length_set]; exact h.len, fun k hk => ?_, fun k hk => ?_, fun k hk => ?_⟩
  · rw [set_getD hl]
    split
    · split
      · exact .inr (.inl rfl)
      · exact .inr (.inr rfl)
    · exact h.vals k hk
  · rw [set_getD hl]
    split
    · rename_i e
      subst e
      split
      · intro _
        assumption
      · intro hh
        cases hh
    · exact h.win k hk
  · rw [set_getD hl]
    split
    · rename_i e
      subst e
      split
      · intro hh
        cases hh
      · intro _
        assumption
    · exact h.lose k hk
theorem surF_list (L : List Bd) (D P : List Int) : ∀ (k : Nat) (B : List Int), B.Nodup → (B.map (surF L D P k).1).sum ≤ (surF L D P k).2
  | 0, B, _ => by
    have h0 : ∀ B : List Int, (B.map fun _ => (0 : Int)).sum ≤ 0 := fun B => by
      induction B with
      | nil => simp
      | cons a t ih => simp only [List.map_cons, List.sum_cons]; omega
    exact h0 B
  | k + 1, B, hB => by
    have ih := surF_list L D P k B hB
    unfold surF
    split
    · rename_i hc
      dsimp only
      have hu : ∀ (B : List Int), B.Nodup → (B.map fun y => if y = (bdAt L k).bidder then ownB (bdAt L k) P else (surF L D P k).1 y).sum = (B.map (surF L D P k).1).sum + if (bdAt L k).bidder ∈ B then ownB (bdAt L k) P - (surF L D P k).1 (bdAt L k).bidder else 0 := fun B => by
        induction B with
        | nil => intro _; simp
        | cons a t iht =>
          intro hB
          rw [List.nodup_cons] at hB
          have h1 := iht hB.2
          simp only [List.map_cons, List.sum_cons, h1, List.mem_cons]
          by_cases e : a = (bdAt L k).bidder
          · subst e
            rw [if_pos rfl, if_neg hB.1, if_pos (.inl rfl)]
            omega
          · rw [if_neg e]
            by_cases h2 : (bdAt L k).bidder ∈ t
            · rw [if_pos h2, if_pos (.inr h2)]
              omega
            · rw [if_neg h2, if_neg (fun h => h.elim (fun h => e h.symm) h2)]
              omega
      rw [hu B hB]
      have := hc.2
      split <;> omega
    · exact ih
theorem surF_ge (L : List Bd) (D P : List Int) : ∀ (k i : Nat), i < k → possB L D (i : Int) = true → ownB (bdAt L i) P ≤ (surF L D P k).1 (bdAt L i).bidder
  | 0, i, hi, _ => absurd hi (by omega)
  | k + 1, i, hi, hp => by
    unfold surF
    split
    · rename_i hc
      dsimp only
      split
      · rename_i e
        rcases Nat.lt_or_eq_of_le (Nat.lt_succ_iff.1 hi) with h | rfl
        · have := surF_ge L D P k i h hp
          rw [e] at this
          have := hc.2
          omega
        · exact Int.le_refl _
      · rename_i e
        rcases Nat.lt_or_eq_of_le (Nat.lt_succ_iff.1 hi) with h | rfl
        · exact surF_ge L D P k i h hp
        · exact absurd rfl e
    · rename_i hc
      rcases Nat.lt_or_eq_of_le (Nat.lt_succ_iff.1 hi) with h | rfl
      · exact surF_ge L D P k i h hp
      · exact Int.not_lt.1 (fun h => hc ⟨hp, h⟩)
/-- A leaf's bound is not less than the value of a choice that agrees. -/
theorem leaf_sound {n : Nat} {L : List Bd} {D C P : List Int} (hB : BidsOk n L) (hlots : ∀ b ∈ L, b.lots.Nodup) (hF : FeasP L C) (hP : PriOk P) (hn : P.length = n) (hA : Agree L D C) : valueB L C ≤ boundP L D P := by
  obtain ⟨C', hC'⟩ : ∃ C', C.filter (fun x => decide (D[x.toNat]?.getD 0 = 0)) = C' := ⟨_, rfl⟩
  have hmem : ∀ x, x ∈ C' ↔ x ∈ C ∧ D[x.toNat]?.getD 0 = 0 := fun x => by rw [← hC', List.mem_filter, decide_eq_true_eq]
  have hnd : C'.Nodup := by rw [← hC']; exact hF.nodup.filter _
  have hr' : ∀ x ∈ C', 0 ≤ x ∧ x < (L.length : Int) := fun x hx => hF.1 x ((hmem x).1 hx).1
  have hposs : ∀ x ∈ C', possB L D x = true := fun x hx => by
    obtain ⟨h1, h2⟩ := (hmem x).1 hx
    obtain ⟨h3, h4⟩ := hr' x hx
    obtain ⟨k, rfl⟩ : ∃ k : Nat, x = (k : Int) := ⟨x.toNat, by omega⟩
    have hk : k < L.length := by omega
    rw [Int.toNat_natCast] at h2
    rw [possB_in hk, h2]
    simp only [decide_true, Bool.true_and, Bool.not_eq_true']
    unfold takenB
    rw [List.any_eq_false]
    intro i hi
    rw [List.mem_range] at hi
    intro hh
    rw [Bool.and_eq_true, decide_eq_true_eq] at hh
    have hw := hA.win i hi hh.1
    have hne : (i : Int) ≠ (k : Int) := fun e => by
      have : i = k := by omega
      subst this
      rw [h2] at hh
      exact absurd hh.1 (by decide)
    have := hF.apart hw h1 hne
    rw [Int.toNat_natCast, Int.toNat_natCast, bdAt_eq hk] at this
    rw [this] at hh
    exact absurd hh.2 (by decide)
  -- the value in two parts
  have e1 : valueB L C = winSum L D L.length + (C'.map fun x => (bdAt L x.toNat).price).sum := by
    rw [valueB_sum hF.1, sum_mem hF.nodup hF.1 (fun k => (bdAt L k).price), sum_mem hnd hr' (fun k => (bdAt L k).price)]
    unfold winSum
    rw [← sum_add]
    congr 1
    apply List.map_congr_left
    intro k hk
    rw [List.mem_range] at hk
    by_cases hc : (k : Int) ∈ C
    · rw [if_pos hc]
      rcases hA.vals k hk with h | h | h
      · rw [if_neg (by omega), if_pos ((hmem k).2 ⟨hc, by rw [Int.toNat_natCast]; exact h⟩)]
        omega
      · rw [if_pos h, if_neg (fun hm => by have := ((hmem k).1 hm).2; rw [Int.toNat_natCast] at this; omega)]
        omega
      · exact absurd hc (hA.lose k hk h)
    · rw [if_neg hc, if_neg (fun h => hc (hA.win k hk h)), if_neg (fun hm => hc ((hmem k).1 hm).1)]
      rfl
  have e2 : (C'.map fun x => (bdAt L x.toNat).price).sum = (C'.map fun x => ownB (bdAt L x.toNat) P).sum + (C'.map fun x => costTo P (bdAt L x.toNat).lots (bdAt L x.toNat).lots.length).sum := by
    rw [← sum_add]
    congr 1
    apply List.map_congr_left
    intro x _
    unfold ownB
    omega
  have e3 : (C'.map fun x => ownB (bdAt L x.toNat) P).sum ≤ (surF L D P L.length).2 := by
    have hbn : (C'.map fun x => (bdAt L x.toNat).bidder).Nodup := by
      rw [List.nodup_iff_pairwise_ne, List.pairwise_map]
      rw [← hC']
      refine (hF.2.filter _).imp ?_
      rintro x y ⟨-, h⟩ e
      unfold confB at h
      rw [Bool.or_eq_false_iff, decide_eq_false_iff_not] at h
      exact h.1 e.symm
    have h1 := surF_list L D P L.length _ hbn
    rw [List.map_map] at h1
    refine Int.le_trans (sum_le (fun x hx => ?_)) h1
    obtain ⟨h3, h4⟩ := hr' x hx
    have hp := hposs x hx
    obtain ⟨k, rfl⟩ : ∃ k : Nat, x = (k : Int) := ⟨x.toNat, by omega⟩
    exact surF_ge L D P L.length k (by omega) hp
  have e4 : (C'.map fun x => costTo P (bdAt L x.toNat).lots (bdAt L x.toNat).lots.length).sum ≤ freeSum P (winLots L D L.length) P.length := by
    have h1 : (C'.map fun x => costTo P (bdAt L x.toNat).lots (bdAt L x.toNat).lots.length).sum = ((C'.flatMap fun x => (bdAt L x.toNat).lots).map fun x => P[x.toNat]?.getD 0).sum := by
      rw [sum_flat]
      congr 1
      apply List.map_congr_left
      intro x _
      unfold costTo
      rw [List.take_length]
    have hdis : ∀ {x y : Int}, x ∈ C → y ∈ C → x ≠ y → ∀ a ∈ (bdAt L x.toNat).lots, a ∉ (bdAt L y.toNat).lots := fun {x y} hx hy hne a ha hb => by
      have := hF.apart hx hy hne
      unfold confB at this
      rw [Bool.or_eq_false_iff, List.any_eq_false] at this
      exact this.2 a hb (by simpa using ha)
    have hnd2 : (C'.flatMap fun x => (bdAt L x.toNat).lots).Nodup := by
      refine nodup_flat (fun x _ => bdAt_lots hlots _) ?_
      have hp := List.nodup_iff_pairwise_ne.1 hnd
      refine List.Pairwise.imp_of_mem (fun {x y} hx hy hne => ?_) hp
      exact hdis ((hmem x).1 hx).1 ((hmem y).1 hy).1 hne
    have hr2 : ∀ a ∈ (C'.flatMap fun x => (bdAt L x.toNat).lots), 0 ≤ a ∧ a < (P.length : Int) := fun a ha => by
      obtain ⟨x, hx, hax⟩ := List.mem_flatMap.1 ha
      rw [hn]
      exact (bd_ok hB x.toNat).2.2.2.2 a hax
    rw [h1, sum_mem hnd2 hr2 (fun k => P[k]?.getD 0)]
    unfold freeSum
    refine sum_le (fun j _ => ?_)
    by_cases hx : (j : Int) ∈ (C'.flatMap fun x => (bdAt L x.toNat).lots)
    · rw [if_pos hx, if_neg]
      · exact Int.le_refl _
      · intro ht
        obtain ⟨x, hxc, hjx⟩ := List.mem_flatMap.1 hx
        unfold winLots at ht
        obtain ⟨i, hi, hji⟩ := List.mem_flatMap.1 ht
        rw [List.mem_range] at hi
        split at hji
        · rename_i hd
          have hic := hA.win i hi hd
          obtain ⟨hxC, hx0⟩ := (hmem x).1 hxc
          have hne : (i : Int) ≠ x := fun e => by
            rw [← e, Int.toNat_natCast, hd] at hx0
            cases hx0
          exact hdis hic hxC hne (j : Int) (by rw [Int.toNat_natCast]; exact hji) hjx
        · cases hji
    · rw [if_neg hx]
      split
      · exact Int.le_refl _
      · exact (pri_at hP j).1
  unfold boundP
  omega
/-- Nothing that agrees is worth more than the value of a certificate that holds. -/
theorem holds_sound {n : Nat} {L : List Bd} {C : List Int} {v : Int} {N : List Nd} (hB : BidsOk n L) (hlots : ∀ b ∈ L, b.lots.Nodup) (hF : FeasP L C) : ∀ (f i : Nat) (D : List Int), holdsF n L v N f i D = true → Agree L D C → valueB L C ≤ v
  | 0, _, _, h, _ => by cases h
  | f + 1, i, D, h, hA => by
    rw [holdsF] at h
    split at h
    · unfold leafB at h
      simp only [Bool.and_eq_true, decide_eq_true_eq] at h
      obtain ⟨⟨-, h1, h2⟩, h3⟩ := h
      exact Int.le_trans (leaf_sound hB hlots hF (priB_ok h1) (by omega) hA) h3
    · split at h
      · cases h
      · rename_i h1
        obtain ⟨x, hx⟩ : ∃ x, (ndAt N i).bid = x := ⟨_, rfl⟩
        rw [hx] at h h1
        have hp : possB L D x = true := by
          cases hp : possB L D x with
          | true => rfl
          | false => exact absurd (.inr hp) h1
        rw [Bool.and_eq_true] at h
        obtain ⟨k, hk, rfl⟩ : ∃ k : Nat, k < L.length ∧ x = (k : Int) := by
          by_cases hr : 0 ≤ x ∧ x < (L.length : Int)
          · exact ⟨x.toNat, by omega, by omega⟩
          · rw [possB_out (by omega)] at hp
            cases hp
        rw [possB_in hk, Bool.and_eq_true, decide_eq_true_eq] at hp
        rw [Int.toNat_natCast] at h
        have hon := hA.on hk hp.1
        by_cases hc : (k : Int) ∈ C
        · rw [if_pos hc] at hon
          exact holds_sound hB hlots hF f _ _ h.1 hon
        · rw [if_neg hc] at hon
          exact holds_sound hB hlots hF f _ _ h.2 hon
/-- A certificate that is accepted: no feasible choice is worth more. -/
theorem check_sound {n : Nat} {L : List Bd} {win C : List Int} {v : Int} {N : List Nd} {w : World} {s : Sl} (HL : Bds w s L) (h : checkE (n : Int) L win v N = 0) (hF : feasB L C = true) : valueB L C ≤ v ∧ v = valueB L win ∧ feasB L win = true := by
  unfold checkE at h
  split at h
  · rename_i hv
    split at h
    · rename_i hw
      split at h
      · cases h
      · split at h
        · rename_i hp
          unfold proofB at hp
          simp only [Bool.and_eq_true, decide_eq_true_eq] at hp
          obtain ⟨h1, -, h2⟩ := hp
          have hok := (valid_ok hv HL).2.2.2
          exact ⟨holds_sound hok (valid_lots hv) (feasB_iff.1 hF) _ _ _ h2 (Agree.start L C), h1, hw⟩
        · cases h
    · cases h
  · rename_i hv
    exact absurd h hv
end Go.Proofs.Ytikfcpkobgejmaa

/- clear: the closures of best and choices. -/
namespace Go.Proofs.Ytikfcpkobgejmaa
open Go.RowKit

theorem enough_any (x most : Int) (gm : Nat) (w : World) (h0 : w.cell? ⟨gm, 0, none⟩ = some (.int .i64 most)) :
    Calls Try.prog 69 #[.int .i64 x, .pointer (some ⟨gm, 0, none⟩)] w fun e w' => e = .returned (.bool (decide (most < x))) ∧ w = w' := by
  go_enter Try.func69, Try.ntmps69
  go_wp2
  go_ret
  exact ⟨rfl, rfl⟩

set_option maxRecDepth 100000 in
set_option maxHeartbeats 2000000 in
theorem conf79_any (A : Option Addr) (m c : Nat) (L : List Bd) (i j gl gi : Nat) (w : World) (HL : Hid (Bds w (A, m, c) L)) (hi : i < m) (hj : j < m) (HN : Hid (∀ b ∈ L, b.s.2.1 ≤ 1000000)) (c1 : w.cell? ⟨gl, 0, none⟩ = some (.slice A m c)) (c2 : w.cell? ⟨gi, 0, none⟩ = some (.int .i64 (i : Int))) (hgl : gl < w.heap.size) (hgi : gi < w.heap.size) :
    Calls Try.prog 79 #[.int .i64 (j : Int), .pointer (some ⟨gl, 0, none⟩), .pointer (some ⟨gi, 0, none⟩)] w fun e w' => e = .returned (.bool (confB (bdAt L i) (bdAt L j))) ∧ Below w.heap.size w w' := by
  have hlen := HL.out.rows.len
  dsimp only at hlen
  have hil : i < L.length := by rw [hlen]; exact hi
  have hjl : j < L.length := by rw [hlen]; exact hj
  obtain ⟨b, off, bi, pr, sA, sn, sc, lots, hA, hbw, d0, d1, d2, hin, he⟩ := HL.out.get hil
  obtain ⟨b2, off2, bi2, pr2, sA2, sn2, sc2, lots2, hA2, -, f0, f1, f2, hin2, he2⟩ := HL.out.get hjl
  subst hA
  injection hA2 with hA2
  injection hA2 with hb2 ho2 _
  subst hb2 ho2
  have hs1 : sn ≤ 1000000 := by
    have := HN.out _ (List.getElem_mem hil)
    rw [← bdAt_eq hil, he] at this
    exact this
  have hs2 : sn2 ≤ 1000000 := by
    have := HN.out _ (List.getElem_mem hjl)
    rw [← bdAt_eq hjl, he2] at this
    exact this
  rw [he, he2]
  have HBL : Hid (∀ w', Below w.heap.size w w' → (fun w' => w'.cell? ⟨gl, 0, none⟩ = some (.slice (some ⟨b, off, none⟩) m c) ∧ w'.cell? ⟨gi, 0, none⟩ = some (.int .i64 (i : Int)) ∧ (w'.cell? ⟨b, off + i * 3, none⟩ = some (.int .i64 bi) ∧ w'.cell? ⟨b, off + i * 3 + 1, none⟩ = some (.int .i64 pr) ∧ w'.cell? ⟨b, off + i * 3 + 2, none⟩ = some (.slice sA sn sc)) ∧ (w'.cell? ⟨b, off + j * 3, none⟩ = some (.int .i64 bi2) ∧ w'.cell? ⟨b, off + j * 3 + 1, none⟩ = some (.int .i64 pr2) ∧ w'.cell? ⟨b, off + j * 3 + 2, none⟩ = some (.slice sA2 sn2 sc2))) w') := Lib.hid (fun w' hb => ⟨(hb.cell (p := ⟨gl, 0, none⟩) hgl).trans c1, (hb.cell (p := ⟨gi, 0, none⟩) hgi).trans c2, ⟨(hb.cell (p := ⟨b, off + i * 3, none⟩) hbw).trans d0, (hb.cell (p := ⟨b, off + i * 3 + 1, none⟩) hbw).trans d1, (hb.cell (p := ⟨b, off + i * 3 + 2, none⟩) hbw).trans d2⟩, ⟨(hb.cell (p := ⟨b, off + j * 3, none⟩) hbw).trans f0, (hb.cell (p := ⟨b, off + j * 3 + 1, none⟩) hbw).trans f1, (hb.cell (p := ⟨b, off + j * 3 + 2, none⟩) hbw).trans f2⟩⟩)
  have HI1 := Lib.hid hin
  have HI2 := Lib.hid hin2
  have hii : (i : Int) < (m : Int) := by omega
  have hjj : (j : Int) < (m : Int) := by omega
  have hS1 : Below w.heap.size w w.drew := below_drewN (Below.refl _ _) 1
  clear hlen hil hjl d0 d1 d2 f0 f1 f2 hin hin2 he he2 hbw c1 c2 hgl hgi
  go_enter Try.func79, Try.ntmps79
  go_wp2
  refine wp_region_held_drew (S := (fun w' => w'.cell? ⟨gl, 0, none⟩ = some (.slice (some ⟨b, off, none⟩) m c) ∧ w'.cell? ⟨gi, 0, none⟩ = some (.int .i64 (i : Int)) ∧ (w'.cell? ⟨b, off + i * 3, none⟩ = some (.int .i64 bi) ∧ w'.cell? ⟨b, off + i * 3 + 1, none⟩ = some (.int .i64 pr) ∧ w'.cell? ⟨b, off + i * 3 + 2, none⟩ = some (.slice sA sn sc)) ∧ (w'.cell? ⟨b, off + j * 3, none⟩ = some (.int .i64 bi2) ∧ w'.cell? ⟨b, off + j * 3 + 1, none⟩ = some (.int .i64 pr2) ∧ w'.cell? ⟨b, off + j * 3 + 2, none⟩ = some (.slice sA2 sn2 sc2)))) (by kernel_rfl) ⟨(HBL.out _ hS1).1, (HBL.out _ hS1).2.1, (HBL.out _ hS1).2.2.1, (HBL.out _ hS1).2.2.2⟩ (fun hHeld => ?_)
  refine takeH 0 (some 5) (v := ?_) (by rfl) (by rfl) (by kernel_rfl) (by kernel_rfl) (by kernel_rfl) (fun _ _ _ h => h) ?_ (by assumption) ?_
  rotate_left
  · (intro o ho w hSw; obtain ⟨z0, z1, ⟨z2, z3, z4⟩, z5, z6, z7⟩ := hSw; cases ho; go_simp; try with_reducible rfl)
  try simp only [Act.put, List.setIfInBounds_toArray, List.set_cons_zero, List.set_cons_succ]
  refine takeH 1 (some 6) (v := ?_) (by rfl) (by rfl) (by kernel_rfl) (by kernel_rfl) (by kernel_rfl) (fun _ _ _ h => h) ?_ (by assumption) ?_
  rotate_left
  · (intro o ho w hSw; obtain ⟨z0, z1, ⟨z2, z3, z4⟩, z5, z6, z7⟩ := hSw; cases ho; go_simp; try with_reducible rfl)
  try simp only [Act.put, List.setIfInBounds_toArray, List.set_cons_zero, List.set_cons_succ]
  refine takeH 2 (some 7) (v := ?_) (by rfl) (by rfl) (by kernel_rfl) (by kernel_rfl) (by kernel_rfl) (fun _ _ _ h => h) ?_ (by assumption) ?_
  rotate_left
  · (intro o ho w hSw; obtain ⟨z0, z1, ⟨z2, z3, z4⟩, z5, z6, z7⟩ := hSw; cases ho; go_simp; try with_reducible rfl)
  try simp only [Act.put, List.setIfInBounds_toArray, List.set_cons_zero, List.set_cons_succ]
  refine takeH 3 (some 8) (v := ?_) (by rfl) (by rfl) (by kernel_rfl) (by kernel_rfl) (by kernel_rfl) (fun _ _ _ h => h) ?_ (by assumption) ?_
  rotate_left
  · (intro o ho w hSw; obtain ⟨z0, z1, ⟨z2, z3, z4⟩, z5, z6, z7⟩ := hSw; cases ho; go_simp; try with_reducible rfl)
  try simp only [Act.put, List.setIfInBounds_toArray, List.set_cons_zero, List.set_cons_succ]
  refine takeH 4 (some 9) (v := ?_) (by rfl) (by rfl) (by kernel_rfl) (by kernel_rfl) (by kernel_rfl) (fun _ _ _ h => h) ?_ (by assumption) ?_
  rotate_left
  · (intro o ho w hSw; obtain ⟨z0, z1, ⟨z2, z3, z4⟩, z5, z6, z7⟩ := hSw; cases ho; go_simp; try with_reducible rfl)
  try simp only [Act.put, List.setIfInBounds_toArray, List.set_cons_zero, List.set_cons_succ]
  refine takeH 5 (some 10) (v := ?_) (by rfl) (by rfl) (by kernel_rfl) (by kernel_rfl) (by kernel_rfl) (fun _ _ _ h => h) ?_ (by assumption) ?_
  rotate_left
  · (intro o ho w hSw; obtain ⟨z0, z1, ⟨z2, z3, z4⟩, z5, z6, z7⟩ := hSw; cases ho; go_simp; try with_reducible rfl)
  try simp only [Act.put, List.setIfInBounds_toArray, List.set_cons_zero, List.set_cons_succ]
  refine takeH 6 (some 11) (v := ?_) (by rfl) (by rfl) (by kernel_rfl) (by kernel_rfl) (by kernel_rfl) (fun _ _ _ h => h) ?_ (by assumption) ?_
  rotate_left
  · (intro o ho w hSw; obtain ⟨z0, z1, ⟨z2, z3, z4⟩, z5, z6, z7⟩ := hSw; cases ho; go_simp; try with_reducible rfl)
  try simp only [Act.put, List.setIfInBounds_toArray, List.set_cons_zero, List.set_cons_succ]
  refine takeH 7 (some 12) (v := ?_) (by rfl) (by rfl) (by kernel_rfl) (by kernel_rfl) (by kernel_rfl) (fun _ _ _ h => h) ?_ (by assumption) ?_
  rotate_left
  · (intro o ho w hSw; obtain ⟨z0, z1, ⟨z2, z3, z4⟩, z5, z6, z7⟩ := hSw; cases ho; go_simp; try with_reducible rfl)
  try simp only [Act.put, List.setIfInBounds_toArray, List.set_cons_zero, List.set_cons_succ]
  refine wpAnyH_ready (rs := [8]) (by kernel_rfl) (by simp) ?_
  refine AllReadyH.cons rfl (fun K hK => ?_) AllReadyH.nil
  go_simp
  go_at_call 71
  (refine (conflict_raw bi pr sA sn sc lots bi2 pr2 sA2 sn2 sc2 lots2 _ (Lib.hid (NIn.all HI1.out hS1)) (Lib.hid (NIn.all HI2.out hS1)) hs1 hs2).mono ?_)
  rintro e w2 ⟨rfl, hb2⟩
  have hS2 := bt hS1 hb2
  clear hb2
  go_wp2
  refine hK.out _ _ ?_ (fun hh8 => ?_)
  · exact ⟨(HBL.out _ hS2).1, (HBL.out _ hS2).2.1, (HBL.out _ hS2).2.2.1, (HBL.out _ hS2).2.2.2⟩
  clear hK K
  try simp only [Act.put, List.setIfInBounds_toArray, List.set_cons_zero, List.set_cons_succ]
  refine takeH 9 (some 4) (v := ?_) (by rfl) (by rfl) (by kernel_rfl) (by kernel_rfl) (by kernel_rfl) (fun _ _ _ h => h) ?_ (by assumption) ?_
  rotate_left
  · (intro o ho w hSw; obtain ⟨z0, z1, ⟨z2, z3, z4⟩, z5, z6, z7⟩ := hSw; cases ho; go_simp; try with_reducible rfl)
  try simp only [Act.put, List.setIfInBounds_toArray, List.set_cons_zero, List.set_cons_succ]
  refine wpAnyH_done (by kernel_rfl) ?_ _
  go_wp2
  go_ret
  exact ⟨rfl, hS2⟩

/-- Does bid i conflict with a choice? -/
def cfl (L : List Bd) (C : List Int) (i : Nat) : Bool := C.any fun x => confB (bdAt L i) (bdAt L x.toNat)
set_option maxHeartbeats 2000000 in
theorem idxK_any (A : Option Addr) (m c : Nat) (L : List Bd) (i gl gi : Nat) (A2 : Option Addr) (n c2 : Nat) (xs : List Int) (w : World) (HX : Hid (NIn w w.heap.size (A2, n, c2) xs)) (HL : Hid (Bds w (A, m, c) L)) (hi : i < m) (hn : n ≤ 1000000) (HN : Hid (∀ b ∈ L, b.s.2.1 ≤ 1000000)) (HR : Hid (∀ t, t < n → 0 ≤ xs[t]?.getD 0 ∧ xs[t]?.getD 0 < (m : Int)))
    (hq1 : Hid (w.cell? ⟨gl, 0, none⟩ = some (.slice A m c))) (hq2 : Hid (w.cell? ⟨gi, 0, none⟩ = some (.int .i64 (i : Int)))) (hgl : gl < w.heap.size) (hgi : gi < w.heap.size) :
    Calls Try.prog 81 #[.slice A2 n c2, .func (.func 79) #[] #[.pointer (some ⟨gl, 0, none⟩), .pointer (some ⟨gi, 0, none⟩)]] w fun e w' => e = .returned (.int .i64 (idxP (fun x => confB (bdAt L i) (bdAt L x.toNat)) xs)) ∧ Below w.heap.size w w' := by
  go_enter Try.func81, Try.ntmps81
  go_wp2
  go_loopw [8] (fun iv wr => ∃ j : Nat, j ≤ n ∧ iv = .int .i64 (j : Int) ∧ Hid (∀ t, t < j → confB (bdAt L i) (bdAt L (xs[t]?.getD 0).toNat) = false) ∧ Hid (Below w.heap.size w wr)) (fun iv _ => n - (intOf iv).toNat)
  case atStart => exact ⟨0, by omega, rfl, Lib.hid (fun t ht => absurd ht (by omega)), Lib.hid (Below.refl _ _)⟩
  case round =>
    obtain ⟨j, hj, rfl, HNO, HB⟩ := hrel
    have HXL := Lib.hid HX.out.len
    dsimp only at HXL
    by_cases hlt : j < n
    · obtain ⟨b, off, rfl, hbl, hc⟩ := (NIn.all HX.out HB.out).cell hlt
      obtain ⟨y, hy⟩ : ∃ y : Nat, xs[j]?.getD 0 = (y : Int) := ⟨(xs[j]?.getD 0).toNat, by have := (HR.out j hlt).1; omega⟩
      have hym : y < m := by have := (HR.out j hlt).2; omega
      rw [hy] at hc
      have HY := Lib.hid hy
      have HLr := Lib.hid (HL.out.all HB.out)
      have hp1 := (HB.out.cell (p := ⟨gl, 0, none⟩) hgl).trans hq1.out
      have hp2 := (HB.out.cell (p := ⟨gi, 0, none⟩) hgi).trans hq2.out
      have hgl2 := Nat.lt_of_lt_of_le hgl HB.out.size
      have hgi2 := Nat.lt_of_lt_of_le hgi HB.out.size
      have hct := conf79_any A m c L i y gl gi wr HLr hi hym HN hp1 hp2 hgl2 hgi2
      clear hy hp1 hp2 hgl2 hgi2 HLr
      obtain ⟨q, hq⟩ : ∃ q, confB (bdAt L i) (bdAt L y) = q := ⟨_, rfl⟩
      rw [hq] at hct
      have HQ := Lib.hid hq
      have HCT := Lib.hid hct
      clear hq hct
      cases q with
      | false =>
        go_wp2_with (go_at_call 79; refine HCT.out.mono ?_; clear HCT; rintro e w2 ⟨rfl, hb2⟩)
        exact ⟨⟨j + 1, by omega, by go_num, Lib.hid (fun t ht => by
          rcases Nat.lt_or_eq_of_le (Nat.lt_succ_iff.1 ht) with h | rfl
          · exact HNO.out t h
          · rw [HY.out]
            exact HQ.out), Lib.hid (bt HB.out hb2)⟩, by simp [intOf]; omega⟩
      | true =>
        go_wp2_with (go_at_call 79; refine HCT.out.mono ?_; clear HCT; rintro e w2 ⟨rfl, hb2⟩)
        go_ret
        have hj2 : j < xs.length := by rw [HXL.out]; exact hlt
        have hf : xs.findIdx? (fun x => confB (bdAt L i) (bdAt L x.toNat)) = some j := by
          rw [List.findIdx?_eq_some_iff_getElem]
          refine ⟨hj2, ?_, fun t ht => ?_⟩
          · have h1 := HY.out
            rw [List.getElem?_eq_getElem hj2] at h1
            simp only [Option.getD_some] at h1
            rw [h1]
            exact HQ.out
          · have h1 := HNO.out t ht
            rw [List.getElem?_eq_getElem (by omega)] at h1
            simpa using h1
        exact ⟨by unfold idxP; rw [hf]; rfl, bt HB.out hb2⟩
    · obtain rfl : j = n := by omega
      go_wp2
      go_ret
      have hf : xs.findIdx? (fun x => confB (bdAt L i) (bdAt L x.toNat)) = none := by
        rw [List.findIdx?_eq_none_iff]
        intro r hr
        obtain ⟨t, ht, rfl⟩ := List.getElem_of_mem hr
        have h1 := HNO.out t (by rw [← HXL.out]; exact ht)
        rw [List.getElem?_eq_getElem ht] at h1
        simpa using h1
      exact ⟨by unfold idxP; rw [hf]; rfl, HB.out⟩
theorem contK_any (A : Option Addr) (m c : Nat) (L : List Bd) (i gl gi : Nat) (A2 : Option Addr) (n c2 : Nat) (xs : List Int) (w : World) (HX : Hid (NIn w w.heap.size (A2, n, c2) xs)) (HL : Hid (Bds w (A, m, c) L)) (hi : i < m) (hn : n ≤ 1000000) (HN : Hid (∀ b ∈ L, b.s.2.1 ≤ 1000000)) (HR : Hid (∀ t, t < n → 0 ≤ xs[t]?.getD 0 ∧ xs[t]?.getD 0 < (m : Int)))
    (hq1 : Hid (w.cell? ⟨gl, 0, none⟩ = some (.slice A m c))) (hq2 : Hid (w.cell? ⟨gi, 0, none⟩ = some (.int .i64 (i : Int)))) (hgl : gl < w.heap.size) (hgi : gi < w.heap.size) :
    Calls Try.prog 78 #[.slice A2 n c2, .func (.func 79) #[] #[.pointer (some ⟨gl, 0, none⟩), .pointer (some ⟨gi, 0, none⟩)]] w fun e w' => e = .returned (.bool (cfl L xs i)) ∧ Below w.heap.size w w' := by
  unfold cfl
  rw [← idxP_nonneg]
  generalize hr : idxP (fun x => confB (bdAt L i) (bdAt L x.toNat)) xs = r
  have HI := Lib.hid hr
  clear hr
  go_enter Try.func78, Try.ntmps78
  go_wp2_with (go_at_call 81; refine (idxK_any A m c L i gl gi _ _ _ xs _ HX HL hi hn HN HR hq1 hq2 hgl hgi).mono ?_; rw [HI.out]; rintro e w2 ⟨rfl, hb2⟩)
  go_ret
  exact ⟨rfl, hb2⟩
end Go.Proofs.Ytikfcpkobgejmaa

/- A range over a function whose iterator keeps a state in memory: one law for the caller. -/
namespace Go.Proofs.Ytikfcpkobgejmaa
open Go.RowKit Go.Shelf

/-- How a round's body may be left: going on in the next state, or leaving by a jump. -/
def statePost (B : Nat) (I : World → Prop) (Ix : Code → World → Prop) (W : World) : Exit → Act → World → Prop
  | .normal, _, W' => KeepsFrom B W W' ∧ I W'
  | .ret, _, W' => KeepsFrom B W W' ∧ Ix .ret W'
  | .exit id, _, W' => KeepsFrom B W W' ∧ Ix (.exit id) W'
  | .goto t, _, W' => KeepsFrom B W W' ∧ Ix (.goto t) W'
  | .panic _, _, _ => False
  | .outgrown, _, _ => False

/-- The iterator's promise: 'Iy s x W': it stands at yield with the value x, in state s; a round that goes on leads to 'I (nxt s x)'; R: what the law keeps of the loop's own record. -/
def SeqState {α β : Type} (F : Fence) (n : Nat) (P : Program) (gf : Nat) (lb : Array Value) (encs : α → Array Value) (B : Nat) (I : β → World → Prop) (Iy : β → α → World → Prop) (nxt : β → α → β) (Ix : Code → β → World → Prop) (s0 : β) (Fin : β → Prop) : Prop :=
  ∀ (l : Nat) (R : World → Prop) (Rx : Code → World → Prop), (∀ W W', R W → KeepsFrom B W W' → R W') →
    (∀ s x W, Iy s x W → R W → YieldAt F (n - 1) P l (encs x) W fun e W' => (e = .returned (.bool true) ∧ I (nxt s x) W' ∧ R W') ∨ (e = .returned (.bool false) ∧ ∃ c, Ix c (nxt s x) W' ∧ Rx c W')) →
    ∀ W, I s0 W → R W → CallsIn F n P gf (#[.func (.yield l) #[] #[]] ++ lb) W fun e W' => (∃ v, e = .returned v) ∧ ((∃ s, Fin s ∧ I s W' ∧ R W') ∨ ∃ c s, Ix c s W' ∧ Rx c W')

variable {F : Fence} {n : Nat} {P : Program}

theorem range_state {α β : Type} {g : Operand} {ps : Array Tmp} {assign body : Code} {Q : Exit → Act → World → Prop} {a : Act} {w : World}
    (hro : F.round = none) (h1 : 1 ≤ n) {gf : Nat} {lb : Array Value} (hg : a.eval g = .func (.func gf) #[] lb) (hFg : F.fn gf) (eg : ∀ args w, (callFunc gf args).run P w = .ok (.enter gf args) w)
    {encs : α → Array Value} (hps : ∀ x, (encs x).size = ps.size)
    (I : β → World → Prop) (Iy : β → α → World → Prop) (nxt : β → α → β) (Ix : Code → β → World → Prop) (s0 : β) (Fin : β → Prop)
    (hseq : SeqState F (n - 1) P gf lb encs w.heap.size I Iy nxt Ix s0 Fin)
    (hI : OwnFrom w.heap.size I) (hIy : ∀ x, OwnFrom w.heap.size (fun s => Iy s x)) (hIx : ∀ c, OwnFrom w.heap.size (Ix c)) (h0 : I s0 w) (a₁ : α → Act)
    (hassign : ∀ (l : Nat) (x : α) (W : World) (K : Act → World → Prop), K (a₁ x) W →
      assign.wpIn (F.inRound l) (n - 1 - 1) P (Exit.then K (fun _ _ _ => False)) { tmps := (ps.zip (encs x)).foldl (fun t (p, v) => t.setIfInBounds p v) a.tmps, defers := [] } W)
    (hbody : ∀ (l : Nat) (s : β) (x : α) (W : World), Iy s x W → body.wpIn (F.inRound l) (n - 1 - 1) P (statePost w.heap.size (I (nxt s x)) (fun c => Ix c (nxt s x)) W) (a₁ x) W)
    (hdone : ∀ (D : Nat) (s : β) (W : World), w.heap.size ≤ D → Fin s → I s W → W.heap[D]? = some (.deferred (some [])) → Q .normal { a with defers := { target := .collected D, args := #[] } :: a.defers } W)
    (hstop : ∀ (D : Nat) (c : Code) (s : β) (W : World), w.heap.size ≤ D → Ix c s W → W.heap[D]? = some (.deferred (some [])) → c.wpIn F n P Q { a with defers := { target := .collected D, args := #[] } :: a.defers } W) :
    (Code.rangeFunc g ps assign body).wpIn F n P Q a w := by
  refine wpIn_rangeFunc ?_
  intro fn hfn
  rw [hro]
  obtain ⟨rec, hrec⟩ : ∃ rec : LoopState → Option Code → Loop, rec = fun st pe => { state := st, pending := pe, fn, tmps := a.tmps, params := ps, assign, body, defers := w.heap.size } := ⟨_, rfl⟩
  obtain ⟨W1, hW1⟩ : ∃ W1, (w.alloc (.deferred (some []))).alloc (.loop (rec .ready none)) = W1 := ⟨_, rfl⟩
  have hL1 : W1.heap[w.heap.size + 1]? = some (.loop (rec .ready none)) := by
    rw [← hW1]; have := World.alloc_heap_new (w.alloc (.deferred (some []))) (.loop (rec .ready none)); rwa [World.size_alloc] at this
  have hK1 : W1.heap[w.heap.size]? = some (.deferred (some [])) := by
    rw [← hW1]; exact (Below.heap_alloc _ _ _ (by simp)).trans (World.alloc_heap_new w _)
  have hI1 : I s0 W1 := by rw [← hW1]; exact hI.alloc _ (hI.alloc _ h0)
  refine ⟨w.heap.size + 1, [{ target := .collected w.heap.size, args := #[] }], W1, { target := .fn (.func gf) lb, args := #[.func (.yield (w.heap.size + 1)) #[] #[]] }, W1, gf,
    #[.func (.yield (w.heap.size + 1)) #[] #[]] ++ lb, W1, ?_, ?_, ?_, ?_, fun _ => h1, ?_⟩
  · rw [← hW1, hrec]; exact run_enterLoop_outer _ _ _ _ _
  · simp only [resolve, hg]
    simp [go_sem]
  · intro f' hf'; simp [Target.leads] at hf'; subst hf'; exact hFg
  · simp [invoke, go_sem, eg]
  · -- the record's two blocks are kept by whatever keeps what is no cells
    have hput : ∀ (W : World) (o o' : Obj), W.heap[w.heap.size + 1]? = some o → W.heap[w.heap.size]? = some (.deferred (some [])) →
        (W.putObj (w.heap.size + 1) o').heap[w.heap.size + 1]? = some o' ∧ (W.putObj (w.heap.size + 1) o').heap[w.heap.size]? = some (.deferred (some [])) := fun W o o' hl hk =>
      ⟨World.putObj_heap_same (Array.getElem?_eq_some_iff.1 hl).1, (World.putObj_heap_other (by omega)).trans hk⟩
    refine (hseq (w.heap.size + 1)
      (fun W => W.heap[w.heap.size + 1]? = some (.loop (rec .ready none)) ∧ W.heap[w.heap.size]? = some (.deferred (some [])))
      (fun c W => W.heap[w.heap.size + 1]? = some (.loop (rec .done (some c))) ∧ W.heap[w.heap.size]? = some (.deferred (some [])))
      (fun W W' hR hk => ⟨hk.same _ _ (by omega) hR.1 rfl, hk.same _ _ (Nat.le_refl _) hR.2 rfl⟩) ?_ W1 hI1 ⟨hL1, hK1⟩).mono ?_
    · -- one round
      rintro s x W hi ⟨hl, hk⟩
      have hy := run_yield (P := P) (args := encs x) hl (by rw [hrec]; exact hps x)
      rw [hrec] at hy
      refine ⟨fn, _, assign, body, hy, roundIn_of_wpIn hfn (hassign _ x W _ ⟨_, run_beginRound hl (by rw [hrec]), ?_⟩)⟩
      obtain ⟨hl2, hk2⟩ := hput W _ (.loop { rec .ready none with state := .busy }) hl hk
      refine wpIn_mono (hbody _ s x _ ((hIy x).putObj _ hi (by omega) hl rfl)) ?_
      have fin : ∀ (jump : Option Code) (W3 : World), KeepsFrom w.heap.size (W.putObj (w.heap.size + 1) (.loop { rec .ready none with state := .busy })) W3 →
          (Instr.endRound (w.heap.size + 1) jump).run P W3 = .ok (.bool jump.isNone) (W3.putObj (w.heap.size + 1) (.loop (rec (if jump.isNone then .ready else .done) jump))) ∧
          W3.heap[w.heap.size + 1]? = some (.loop { rec .ready none with state := .busy }) ∧
          (W3.putObj (w.heap.size + 1) (.loop (rec (if jump.isNone then .ready else .done) jump))).heap[w.heap.size + 1]? = some (.loop (rec (if jump.isNone then .ready else .done) jump)) ∧
          (W3.putObj (w.heap.size + 1) (.loop (rec (if jump.isNone then .ready else .done) jump))).heap[w.heap.size]? = some (.deferred (some [])) := fun jump W3 hk3 => by
        have hl3 := hk3.same _ _ (by omega) hl2 rfl
        have hd3 := hk3.same _ _ (Nat.le_refl _) hk2 rfl
        have hrun := run_endRound (P := P) jump hl3
        obtain ⟨h4, h5⟩ := hput W3 _ (.loop (rec (if jump.isNone then .ready else .done) jump)) hl3 hd3
        refine ⟨?_, hl3, h4, h5⟩
        rw [hrun, hrec]
      rintro e a3 W3 hp
      cases e with
      | normal =>
        obtain ⟨hk3, hi3⟩ := hp
        obtain ⟨hr, hl3, hl4, hk4⟩ := fin none W3 hk3
        exact ⟨_, _, hr, .inl ⟨rfl, hI.putObj _ hi3 (by omega) hl3 rfl, hl4, hk4⟩⟩
      | ret =>
        obtain ⟨hk3, hi3⟩ := hp
        obtain ⟨hr, hl3, hl4, hk4⟩ := fin (some .ret) W3 hk3
        exact ⟨_, _, hr, .inr ⟨rfl, .ret, (hIx _).putObj _ hi3 (by omega) hl3 rfl, hl4, hk4⟩⟩
      | exit id =>
        obtain ⟨hk3, hi3⟩ := hp
        obtain ⟨hr, hl3, hl4, hk4⟩ := fin (some (.exit id)) W3 hk3
        exact ⟨_, _, hr, .inr ⟨rfl, .exit id, (hIx _).putObj _ hi3 (by omega) hl3 rfl, hl4, hk4⟩⟩
      | goto t =>
        obtain ⟨hk3, hi3⟩ := hp
        obtain ⟨hr, hl3, hl4, hk4⟩ := fin (some (.goto t)) W3 hk3
        exact ⟨_, _, hr, .inr ⟨rfl, .goto t, (hIx _).putObj _ hi3 (by omega) hl3 rfl, hl4, hk4⟩⟩
      | panic ch => exact hp.elim
      | outgrown => exact hp.elim
    · -- behind the iterator
      rintro e W2 ⟨⟨v, rfl⟩, (⟨s, hS, hi, hl, hk⟩ | ⟨c, s, hi, hl, hk⟩)⟩
      · have hrun := run_endLoop (P := P) hl (by rw [hrec]; simp)
        rw [hrec] at hrun
        exact ⟨none, _, hrun, hdone _ s _ (Nat.le_refl _) hS (hI.putObj _ hi (by omega) hl rfl) ((World.putObj_heap_other (by omega)).trans hk)⟩
      · have hrun := run_endLoop (P := P) hl (by rw [hrec]; simp)
        rw [hrec] at hrun
        exact ⟨some c, _, hrun, hstop _ c s _ (Nat.le_refl _) ((hIx c).putObj _ hi (by omega) hl rfl) ((World.putObj_heap_other (by omega)).trans hk)⟩

end Go.Proofs.Ytikfcpkobgejmaa

/- clear: what best computes, plain; the blocks that choices' iterator and best's loop hold. -/
namespace Go.Proofs.Ytikfcpkobgejmaa
open Go.RowKit Go.Shelf

/-- The sum of the prices from an index on. -/
def restS (L : List Bd) (i : Nat) : Int := ((L.drop i).map Bd.price).sum
theorem restS_end (L : List Bd) : restS L L.length = 0 := by simp [restS]
theorem restS_at {L : List Bd} {i : Nat} (h : i < L.length) : restS L i = (bdAt L i).price + restS L (i + 1) := by
  unfold restS
  rw [List.drop_eq_getElem_cons h, List.map_cons, List.sum_cons, bdAt_eq h]
theorem restS_ok {L : List Bd} (h : ∀ b ∈ L, 0 ≤ b.price ∧ b.price ≤ 1099511627776) : ∀ k i, i + k = L.length → 0 ≤ restS L i ∧ restS L i ≤ 1099511627776 * k
  | 0, i, hi => by rw [show i = L.length by omega, restS_end]; omega
  | k + 1, i, hi => by
    have h1 := restS_ok h k (i + 1) (by omega)
    have hil : i < L.length := by omega
    have h2 := h _ (List.getElem_mem hil)
    rw [restS_at hil, bdAt_eq hil]
    omega
/-- What a round of best does with a choice. -/
def stepB (v : Int) (C : List Int) (st : List Int × Int) : List Int × Int := if st.2 < v then (C, v) else st
/-- The choices that begin with C and go on at i, k of the bids being left. -/
def loopB (L : List Bd) : Nat → Nat → List Int → Int → List Int × Int → List Int × Int
  | 0, _, _, _, st => st
  | k + 1, i, C, v, st => if st.2 < v + restS L i then
      (if cfl L C i then loopB L k (i + 1) C v st else loopB L k (i + 1) C v (loopB L k (i + 1) (C ++ [(i : Int)]) (v + (bdAt L i).price) (stepB (v + (bdAt L i).price) (C ++ [(i : Int)]) st))) else st
def bestS (L : List Bd) : List Int × Int := loopB L L.length 0 [] 0 (stepB 0 [] ([], 0))
theorem loopB_no {L : List Bd} {k i : Nat} {C : List Int} {v : Int} {st : List Int × Int} (h : ¬ st.2 < v + restS L i) : loopB L k i C v st = st := by
  cases k with
  | zero => rfl
  | succ k => rw [loopB, if_neg h]
theorem loopB_skip {L : List Bd} {k i : Nat} {C : List Int} {v : Int} {st : List Int × Int} (h : st.2 < v + restS L i) (hc : cfl L C i = true) : loopB L (k + 1) i C v st = loopB L k (i + 1) C v st := by rw [loopB, if_pos h, if_pos hc]
theorem loopB_take {L : List Bd} {k i : Nat} {C : List Int} {v : Int} {st : List Int × Int} (h : st.2 < v + restS L i) (hc : cfl L C i = false) : loopB L (k + 1) i C v st = loopB L k (i + 1) C v (loopB L k (i + 1) (C ++ [(i : Int)]) (v + (bdAt L i).price) (stepB (v + (bdAt L i).price) (C ++ [(i : Int)]) st)) := by rw [loopB, if_pos h, if_neg (by rw [hc]; decide)]

theorem own_take {w : World} {base e n c k : Nat} {A : Option Addr} {xs : List Value} (h : w.ownsRow base e 1 (.slice A n c) n xs) (hk : k ≤ n) : w.ownsRow base e 1 (.slice A k c) k (xs.take k) := by
  obtain ⟨h1, h2⟩ := h
  refine ⟨by rw [List.length_take, h1]; omega, ?_⟩
  rcases h2 with ⟨h3, h4⟩ | ⟨g, cap, cur, h3, h4, h5, h6, h7, h8, h9⟩
  · injection h3 with h5 h6 h7
    subst h5 h7
    have : k = 0 := by omega
    subst this
    exact .inl ⟨rfl, rfl⟩
  · injection h3 with h10 h11 h12
    subst h10 h12
    refine .inr ⟨g, c, cur, rfl, h4, h5, by omega, h7, h8, ?_⟩
    rw [← h9, List.take_take]
    congr 1
    omega
theorem OwnI.cut {w : World} {B n c k : Nat} {A : Option Addr} {xs : List Int} (h : OwnI w B A n c xs) (hk : k ≤ n) : OwnI w B A k c (xs.take k) := by
  unfold OwnI
  rw [List.map_take]
  exact own_take h hk
theorem OwnI.len {w : World} {B n c : Nat} {A : Option Addr} {xs : List Int} (h : OwnI w B A n c xs) : xs.length = n := by
  have := h.1
  simpa using this
theorem OwnI.modI {w w' : World} {F : Nat → Prop} {B n c : Nat} {A : Option Addr} {xs : List Int} (h : OwnI w B A n c xs) (m : Mod F w w') (hne : ∀ g, (Value.slice A n c).ownBlock = some g → ¬ F g) : OwnI w' B A n c xs := m.own h hne

/-- Best's own blocks: found, most, the bids, enough. -/
structure ClB (w : World) (A : Option Addr) (m c : Nat) (Fs : Sl) (st : List Int × Int) (W : World) : Prop where
  fb : Blk W w.heap.size 22 #[slV Fs]
  fo : OwnI W w.heap.size Fs.1 Fs.2.1 Fs.2.2 st.1
  mb : Blk W (w.heap.size + 1) 3 #[.int .i64 st.2]
  lb : Blk W (w.heap.size + 2) 40 #[.slice A m c]
  eb : Blk W (w.heap.size + 3) 124 #[.func (.func 69) #[] #[.pointer (some ⟨w.heap.size + 1, 0, none⟩)]]
  fd : ∀ b, (slV Fs).ownBlock = some b → b ≠ w.heap.size + 1
  below : Below w.heap.size w W
/-- The numbers of the loop's record and of the iterator's blocks. -/
structure ItN where
  l : Nat
  gy : Nat
  gr : Nat
  rr : Nat
  gc : Nat
  gt : Nat
def restV (L : List Bd) : Array Value := ((List.range (L.length + 1)).map fun j => Value.int .i64 (restS L j)).toArray
theorem restV_at (L : List Bd) {j : Nat} (h : j ≤ L.length) : (restV L)[j]? = some (.int .i64 (restS L j)) := by
  unfold restV
  rw [List.getElem?_toArray, List.getElem?_map, List.getElem?_range (by omega)]
  rfl
/-- The iterator's blocks. -/
structure ClT (w : World) (m : Nat) (L : List Bd) (q : ItN) (V : Sl) (C : List Int) (W : World) : Prop where
  yb : Blk W q.gy 68 #[.func (.yield q.l) #[] #[]]
  rb : Blk W q.gr 22 #[.slice (some ⟨q.rr, 0, none⟩) (m + 1) (m + 1)]
  ra : Blk W q.rr 3 (restV L)
  cb : Blk W q.gc 22 #[slV V]
  co : OwnI W w.heap.size V.1 V.2.1 V.2.2 C
  tb : Blk W q.gt 131 #[.func (.func 77) #[] #[.pointer (some ⟨q.gy, 0, none⟩), .pointer (some ⟨q.gc, 0, none⟩), .pointer (some ⟨w.heap.size + 2, 0, none⟩), .pointer (some ⟨w.heap.size + 3, 0, none⟩), .pointer (some ⟨q.gr, 0, none⟩), .pointer (some ⟨q.gt, 0, none⟩)]]
/-- They are all apart. -/
structure ItN.apart (w : World) (q : ItN) : Prop where
  hy : w.heap.size + 3 < q.gy ∧ q.gy ≠ q.gc
  hr : w.heap.size + 3 < q.gr ∧ q.gr ≠ q.gc
  hrr : w.heap.size + 3 < q.rr ∧ q.rr ≠ q.gc
  hc : w.heap.size + 3 < q.gc
  ht : w.heap.size + 3 < q.gt ∧ q.gt ≠ q.gc
/-- Best's blocks and the iterator's, and what the loop keeps of its record. -/
structure ClS (w : World) (A : Option Addr) (m c : Nat) (L : List Bd) (q : ItN) (R : World → Prop) (Fs V : Sl) (st : List Int × Int) (C : List Int) (W : World) : Prop where
  b : ClB w A m c Fs st W
  t : ClT w m L q V C W
  ap : q.apart w
  vd : ∀ b, (slV V).ownBlock = some b → b ≠ w.heap.size + 1 ∧ b ≠ q.rr ∧ (slV Fs).ownBlock ≠ some b
  r : R W
/-- No cells, at or beyond B. -/
def Rec (B : Nat) (W : World) (b : Nat) : Prop := B ≤ b ∧ ∃ o, W.heap[b]? = some o ∧ o.isCells = false
theorem Rec.not_ty {B : Nat} {W : World} {b : Nat} {t : TypeId} (h : Rec B W b) (h' : Ty W b t) : False := by
  obtain ⟨-, o, h1, h2⟩ := h
  obtain ⟨cs, fr, h3⟩ := h'
  rw [h1] at h3
  injection h3 with h3
  rw [h3] at h2
  cases h2
theorem Rec.not_blk {B : Nat} {W : World} {b t : Nat} {cs : Array Value} (h : Rec B W b) (h' : Blk W b t cs) : False := h.not_ty h'.ty
theorem Rec.not_own {B : Nat} {W : World} {b base e size n : Nat} {v : Value} {xs : List Value} (h : Rec B W b) (h' : W.ownsRow base e size v n xs) (hv : v.ownBlock = some b) : False := h.not_ty (own_ty h' hv)
/-- What a round of best's loop may turn. -/
def F0 (w : World) (B : Nat) (W : World) (b : Nat) : Prop := b = w.heap.size ∨ b = w.heap.size + 1 ∨ Rec B W b
/-- What try may turn. -/
def FT (w : World) (q : ItN) (V : Sl) (B : Nat) (W : World) (b : Nat) : Prop := b = w.heap.size ∨ b = w.heap.size + 1 ∨ b = q.gc ∨ (slV V).ownBlock = some b ∨ Rec B W b
theorem FT.of0 {w : World} {q : ItN} {V : Sl} {B : Nat} {W : World} {b : Nat} (h : F0 w B W b) : FT w q V B W b := by
  rcases h with h | h | h
  · exact .inl h
  · exact .inr (.inl h)
  · exact .inr (.inr (.inr (.inr h)))
theorem FT.trans {w : World} {q : ItN} {V V' : Sl} {B : Nat} {W W' W'' : World} (h : Mod (FT w q V B W) W W') (hv : ∀ b, (slV V').ownBlock = some b → (slV V).ownBlock = some b ∨ W.heap.size ≤ b) (k : Mod (FT w q V' B W') W' W'') : Mod (FT w q V B W) W W'' := by
  refine h.trans k (fun b hb => ?_)
  rcases hb with hb | hb | hb | hb | ⟨hB, o, h1, h2⟩
  · exact .inl (.inl hb)
  · exact .inl (.inr (.inl hb))
  · exact .inl (.inr (.inr (.inl hb)))
  · exact (hv b hb).elim (fun h => .inl (.inr (.inr (.inr (.inl h))))) .inr
  · rcases Nat.lt_or_ge b W.heap.size with hlt | hge
    · by_cases hf : FT w q V B W b
      · exact .inl hf
      · rw [h.block b hlt hf] at h1
        exact .inl (.inr (.inr (.inr (.inr ⟨hB, o, h1, h2⟩))))
    · exact .inr hge

section
variable {w W W' : World} {A : Option Addr} {m c : Nat} {L : List Bd} {q : ItN} {R : World → Prop} {Fs V : Sl} {st : List Int × Int} {C : List Int} {F : Nat → Prop} {B : Nat}
theorem ClB.lt (h : ClB w A m c Fs st W) : w.heap.size + 3 < W.heap.size := h.eb.lt
/-- What is not best's is turned. -/
theorem ClB.mod (h : ClB w A m c Fs st W) (k : Mod F W W') (h0 : ¬ F w.heap.size) (h1 : ¬ F (w.heap.size + 1)) (h2 : ¬ F (w.heap.size + 2)) (h3 : ¬ F (w.heap.size + 3)) (hf : ∀ b, (slV Fs).ownBlock = some b → ¬ F b) (hF : ∀ b, F b → w.heap.size ≤ b) : ClB w A m c Fs st W' :=
  ⟨k.blk h.fb h0, h.fo.modI k hf, k.blk h.mb h1, k.blk h.lb h2, k.blk h.eb h3, h.fd, Mod.below h.below k h.below.size hF⟩
theorem ClT.mod (h : ClT w m L q V C W) (k : Mod F W W') (hy : ¬ F q.gy) (hr : ¬ F q.gr) (hrr : ¬ F q.rr) (hc : ¬ F q.gc) (ht : ¬ F q.gt) (hv : ∀ b, (slV V).ownBlock = some b → ¬ F b) : ClT w m L q V C W' :=
  ⟨k.blk h.yb hy, k.blk h.rb hr, k.blk h.ra hrr, k.blk h.cb hc, h.co.modI k hv, k.blk h.tb ht⟩
theorem ClS.all (h : ClS w A m c L q R Fs V st C W) (hR : ∀ W W', R W → KeepsFrom B W W' → R W') (hb : Below W.heap.size W W') : ClS w A m c L q R Fs V st C W' := by
  have k : Mod (fun _ => False) W W' := Mod.of_below _ hb
  exact ⟨h.b.mod k id id id id (fun _ _ => id) (fun _ hf => hf.elim), h.t.mod k id id id id id (fun _ _ => id), h.ap, h.vd, hR _ _ h.r ⟨hb.size, fun k _ _ hk _ => (hb.block k (Array.getElem?_eq_some_iff.1 hk).1).trans hk⟩⟩
/-- The choice is stored anew. -/
theorem ClS.put {V' : Sl} {C' : List Int} (h : ClS w A m c L q R Fs V st C W) (hR : ∀ W W', R W → KeepsFrom B W W' → R W') (hV : OwnI W w.heap.size V'.1 V'.2.1 V'.2.2 C') (hd : ∀ b, (slV V').ownBlock = some b → b ≠ w.heap.size + 1 ∧ b ≠ q.rr ∧ (slV Fs).ownBlock ≠ some b) : ClS w A m c L q R Fs V' st C' (W.setCell ⟨q.gc, 0, none⟩ (slV V')) := by
  have k : Mod (fun b => b = q.gc) W (W.setCell ⟨q.gc, 0, none⟩ (slV V')) := (Mod.refl (fun b => b = q.gc) W).set (p := ⟨q.gc, 0, none⟩) (.inl rfl) _
  have hty := h.t.cb.ty
  have hne : ∀ {A n c xs}, OwnI W w.heap.size A n c xs → ∀ b, (Value.slice A n c).ownBlock = some b → ¬ b = q.gc := fun {A n c xs} ho b hb e => by
    rw [e] at hb
    exact absurd (hty.unique (own_ty ho hb)) (by decide)
  obtain ⟨hy, hr, hrr, hc, ht⟩ := h.ap
  refine ⟨h.b.mod k (by omega) (by omega) (by omega) (by omega) (hne h.b.fo) (fun b hb => by rw [hb]; omega), ⟨k.blk h.t.yb hy.2, k.blk h.t.rb hr.2, k.blk h.t.ra hrr.2, ?_, hV.modI k (hne hV), k.blk h.t.tb ht.2⟩, h.ap, hd, hR _ _ h.r ((KeepsOthers.setCell _ _ _).from _)⟩
  have := Blk.set_ h.t.cb 0 (slV V')
  exact this
end
end Go.Proofs.Ytikfcpkobgejmaa

/- clear: what best finds is feasible, and nothing feasible is worth more. -/
namespace Go.Proofs.Ytikfcpkobgejmaa
open Go.RowKit

def GoodS (L : List Bd) (st : List Int × Int) : Prop := FeasP L st.1 ∧ valueB L st.1 = st.2
theorem FeasP.nil (L : List Bd) : FeasP L [] := ⟨fun _ h => absurd h (by simp), List.Pairwise.nil⟩
theorem valueB_app (L : List Bd) (C E : List Int) : valueB L (C ++ E) = valueB L C + valueB L E := by
  unfold valueB
  rw [List.map_append, List.sum_append]
theorem priceAt_nat {L : List Bd} {i : Nat} (hi : i < L.length) : priceAt L (i : Int) = (bdAt L i).price := by
  unfold priceAt
  rw [if_pos (by omega), Int.toNat_natCast, List.getElem?_eq_getElem hi, bdAt_eq hi]
  rfl
theorem valueB_one {L : List Bd} {i : Nat} (hi : i < L.length) : valueB L [(i : Int)] = (bdAt L i).price := by
  unfold valueB
  rw [List.map_singleton, priceAt_nat hi]
  simp
theorem FeasP.snoc {L : List Bd} {C : List Int} (h : FeasP L C) {i : Nat} (hi : i < L.length) (hlt : ∀ x ∈ C, x < (i : Int)) (hc : cfl L C i = false) : FeasP L (C ++ [(i : Int)]) := by
  refine ⟨fun x hx => ?_, ?_⟩
  · rcases List.mem_append.1 hx with hx | hx
    · exact h.1 x hx
    · rw [List.mem_singleton] at hx
      omega
  · rw [List.pairwise_append]
    refine ⟨h.2, List.pairwise_singleton _ _, fun x hx y hy => ?_⟩
    rw [List.mem_singleton] at hy
    subst hy
    unfold cfl at hc
    rw [List.any_eq_false] at hc
    exact ⟨hlt x hx, by rw [Int.toNat_natCast]; simpa using hc x hx⟩
theorem rest_ge {L : List Bd} (hp : ∀ b ∈ L, 0 ≤ b.price ∧ b.price ≤ 1099511627776) : ∀ (k i : Nat) (E : List Int), i + k = L.length → E.Pairwise (fun x y => x < y) → (∀ x ∈ E, (i : Int) ≤ x ∧ x < (L.length : Int)) → valueB L E ≤ restS L i
  | 0, i, E, hi, _, hE => by
    cases E with
    | nil => rw [show i = L.length by omega, restS_end]; simp [valueB]
    | cons x t =>
      have := hE x (by simp)
      omega
  | k + 1, i, E, hi, hs, hE => by
    have hil : i < L.length := by omega
    have h0 := hp _ (List.getElem_mem hil)
    rw [← bdAt_eq hil] at h0
    rw [restS_at hil]
    have h1 := restS_ok hp k (i + 1) (by omega)
    cases E with
    | nil =>
      have : valueB L [] = 0 := rfl
      omega
    | cons x t =>
      rw [List.pairwise_cons] at hs
      have hx := hE x (by simp)
      by_cases e : x = (i : Int)
      · subst e
        have h2 := rest_ge hp k (i + 1) t (by omega) hs.2 (fun y hy => by have := hs.1 y hy; have := hE y (by simp [hy]); omega)
        have h3 := valueB_app L [(i : Int)] t
        rw [valueB_one hil] at h3
        have h4 : valueB L ((i : Int) :: t) = valueB L ([(i : Int)] ++ t) := rfl
        omega
      · have h2 := rest_ge hp k (i + 1) (x :: t) (by omega) (List.pairwise_cons.2 hs) (fun y hy => by
          have h3 := hE y hy
          rcases List.mem_cons.1 hy with rfl | hy
          · omega
          · have := hs.1 y hy
            omega)
        omega
theorem loopB_mono (L : List Bd) : ∀ (k i : Nat) (C : List Int) (v : Int) (st : List Int × Int), st.2 ≤ (loopB L k i C v st).2
  | 0, _, _, _, _ => Int.le_refl _
  | k + 1, i, C, v, st => by
    rw [loopB]
    split
    · split
      · exact loopB_mono L k _ _ _ _
      · refine Int.le_trans ?_ (loopB_mono L k _ _ _ _)
        refine Int.le_trans ?_ (loopB_mono L k _ _ _ _)
        unfold stepB
        split
        · dsimp only
          omega
        · exact Int.le_refl _
    · exact Int.le_refl _
theorem loopB_good {L : List Bd} : ∀ (k i : Nat) (C : List Int) (v : Int) (st : List Int × Int), i + k = L.length → FeasP L C → (∀ x ∈ C, x < (i : Int)) → valueB L C = v → GoodS L st → GoodS L (loopB L k i C v st)
  | 0, _, _, _, _, _, _, _, _, hg => hg
  | k + 1, i, C, v, st, hi, hF, hlt, hv, hg => by
    have hil : i < L.length := by omega
    have hlt2 : ∀ x ∈ C, x < ((i + 1 : Nat) : Int) := fun x hx => by have := hlt x hx; omega
    rw [loopB]
    split
    · cases hc : cfl L C i with
      | true =>
        rw [if_pos rfl]
        exact loopB_good k _ _ _ _ (by omega) hF hlt2 hv hg
      | false =>
        rw [if_neg (by decide)]
        have hF2 := hF.snoc hil hlt hc
        have hv2 : valueB L (C ++ [(i : Int)]) = v + (bdAt L i).price := by rw [valueB_app, valueB_one hil, hv]
        refine loopB_good k _ _ _ _ (by omega) hF hlt2 hv (loopB_good k _ _ _ _ (by omega) hF2 (fun x hx => ?_) hv2 ?_)
        · rcases List.mem_append.1 hx with hx | hx
          · exact hlt2 x hx
          · rw [List.mem_singleton] at hx
            omega
        · unfold stepB
          split
          · exact ⟨hF2, hv2⟩
          · exact hg
    · exact hg
theorem loopB_max {L : List Bd} (hp : ∀ b ∈ L, 0 ≤ b.price ∧ b.price ≤ 1099511627776) : ∀ (k i : Nat) (C : List Int) (v : Int) (st : List Int × Int), i + k = L.length → valueB L C = v → v ≤ st.2 → ∀ E : List Int, FeasP L (C ++ E) → (∀ x ∈ E, (i : Int) ≤ x) → valueB L (C ++ E) ≤ (loopB L k i C v st).2
  | 0, i, C, v, st, hi, hv, hst, E, hF, hE => by
    cases E with
    | nil =>
      rw [List.append_nil, hv]
      exact hst
    | cons x t =>
      have h1 := hE x (by simp)
      have h2 := hF.1 x (by simp)
      omega
  | k + 1, i, C, v, st, hi, hv, hst, E, hF, hE => by
    have hil : i < L.length := by omega
    have hFE : E.Pairwise (fun x y => x < y) := by
      have := (List.pairwise_append.1 hF.2).2.1
      exact this.imp (fun h => h.1)
    have hER : ∀ x ∈ E, (i : Int) ≤ x ∧ x < (L.length : Int) := fun x hx => ⟨hE x hx, (hF.1 x (by simp [hx])).2⟩
    rw [loopB]
    split
    · -- does E begin with i?
      have hno : (i : Int) ∉ E → ∀ x ∈ E, ((i + 1 : Nat) : Int) ≤ x := fun hn x hx => by
        have h1 := hE x hx
        by_cases e : x = (i : Int)
        · subst e
          exact absurd hx hn
        · omega
      cases hc : cfl L C i with
      | true =>
        rw [if_pos rfl]
        refine loopB_max hp k _ _ _ _ (by omega) hv hst E hF (hno (fun hm => ?_))
        unfold cfl at hc
        obtain ⟨x, hx, hxc⟩ := List.any_eq_true.1 hc
        have := ((List.pairwise_append.1 hF.2).2.2 x hx (i : Int) hm).2
        rw [Int.toNat_natCast] at this
        rw [this] at hxc
        cases hxc
      | false =>
        rw [if_neg (by decide)]
        obtain ⟨st', hst'⟩ : ∃ st', loopB L k (i + 1) (C ++ [(i : Int)]) (v + (bdAt L i).price) (stepB (v + (bdAt L i).price) (C ++ [(i : Int)]) st) = st' := ⟨_, rfl⟩
        have hs1 : st.2 ≤ (stepB (v + (bdAt L i).price) (C ++ [(i : Int)]) st).2 ∧ v + (bdAt L i).price ≤ (stepB (v + (bdAt L i).price) (C ++ [(i : Int)]) st).2 := by
          unfold stepB
          split
          · dsimp only
            omega
          · omega
        have hm1 := loopB_mono L k (i + 1) (C ++ [(i : Int)]) (v + (bdAt L i).price) (stepB (v + (bdAt L i).price) (C ++ [(i : Int)]) st)
        rw [hst'] at hm1 ⊢
        by_cases hm : (i : Int) ∈ E
        · cases E with
          | nil => cases hm
          | cons x t =>
            rw [List.pairwise_cons] at hFE
            have hx : x = (i : Int) := by
              have h1 := hE x (by simp)
              rcases List.mem_cons.1 hm with h | h
              · exact h.symm
              · have := hFE.1 _ h
                omega
            subst hx
            have e1 : C ++ (i : Int) :: t = (C ++ [(i : Int)]) ++ t := by simp
            rw [e1] at hF ⊢
            have h2 := loopB_max hp k (i + 1) (C ++ [(i : Int)]) (v + (bdAt L i).price) (stepB (v + (bdAt L i).price) (C ++ [(i : Int)]) st) (by omega) (by rw [valueB_app, valueB_one hil, hv]) hs1.2 t hF (fun y hy => by have := hFE.1 y hy; omega)
            rw [hst'] at h2
            exact Int.le_trans h2 (loopB_mono L k _ _ _ _)
        · exact loopB_max hp k _ _ _ _ (by omega) hv (by omega) E hF (hno hm)
    · rename_i hno
      have h1 := rest_ge hp (k + 1) i E hi hFE hER
      rw [valueB_app, hv]
      omega
theorem best_good (L : List Bd) : GoodS L (bestS L) := by
  unfold bestS
  have h0 : stepB 0 [] (([] : List Int), (0 : Int)) = ([], 0) := rfl
  rw [h0]
  exact loopB_good _ _ _ _ _ (by omega) (FeasP.nil L) (fun _ h => absurd h (by simp)) rfl ⟨FeasP.nil L, rfl⟩
theorem best_max {L : List Bd} (hp : ∀ b ∈ L, 0 ≤ b.price ∧ b.price ≤ 1099511627776) {C : List Int} (hF : feasB L C = true) : valueB L C ≤ (bestS L).2 := by
  have h0 : stepB 0 [] (([] : List Int), (0 : Int)) = ([], 0) := rfl
  have := loopB_max hp L.length 0 [] 0 ([], 0) (by omega) rfl (Int.le_refl _) C (by simpa using feasB_iff.1 hF) (fun x hx => by have := ((feasB_iff.1 hF).1 x hx).1; omega)
  unfold bestS
  rw [h0]
  simpa using this
theorem best_feas (L : List Bd) : feasB L (bestS L).1 = true ∧ valueB L (bestS L).1 = (bestS L).2 := ⟨feasB_iff.2 (best_good L).1, (best_good L).2⟩
end Go.Proofs.Ytikfcpkobgejmaa

/- clear: Bound; what it says of a leaf. -/
namespace Go.Proofs.Ytikfcpkobgejmaa
open Go.RowKit

theorem rep0 (m k : Nat) : (List.replicate m (0 : Int))[k]?.getD 0 = 0 := by
  rw [List.getElem?_replicate]
  split <;> rfl
theorem poss0 {L : List Bd} {k : Nat} (hk : k < L.length) : possB L (List.replicate L.length 0) (k : Int) = true := by
  rw [possB_in hk, rep0]
  have ht : takenB L (List.replicate L.length 0) L[k] = false := by
    unfold takenB
    rw [List.any_eq_false]
    intro i _
    rw [rep0]
    simp
  rw [ht]
  rfl
theorem win0 (L : List Bd) (m : Nat) : ∀ k, winSum L (List.replicate m 0) k = 0
  | 0 => rfl
  | k + 1 => by rw [winSum_succ, win0 L m k, rep0]; rfl
theorem lots0 (L : List Bd) (m : Nat) : ∀ k, winLots L (List.replicate m 0) k = []
  | 0 => rfl
  | k + 1 => by rw [winLots_succ, lots0 L m k, rep0]; rfl
theorem bound0 (L : List Bd) (P : List Int) : boundP L (List.replicate L.length 0) P = freeSum P [] P.length + (surF L (List.replicate L.length 0) P L.length).2 := by
  unfold boundP
  rw [win0, lots0, Int.zero_add]
set_option maxRecDepth 100000 in
set_option maxHeartbeats 8000000 in
theorem cbound_any (n : Nat) (A : Option Addr) (m c : Nat) (Ap : Option Addr) (np cp : Nat) (L : List Bd) (P : List Int) (w : World) (HL : Hid (Bds w (A, m, c) L)) (HP : Hid (NIn w w.heap.size (Ap, np, cp) P)) (HV : Hid (validE (n : Int) L = 0)) (hnp : np = n) (hm : m ≤ 10) (hn : n ≤ 8) (HB : Hid (BidsOk n L)) (HQ : Hid (PriOk P)) :
    Calls Try.prog 25 #[.int .i64 (n : Int), .slice A m c, .slice Ap np cp] w fun e w' => e = .returned (.tuple #[.int .i64 (boundP L (List.replicate L.length 0) P), .int .i64 0]) ∧ Below w.heap.size w w' := by
  subst hnp
  rw [bound0]
  have HLEN := Lib.hid HL.out.rows.len
  have HPL := Lib.hid HP.out.len
  dsimp only at HLEN HPL
  have HVA := Lib.hid (valid_any (np : Int) (A, m, c) L w HL)
  rw [HV.out] at HVA
  unfold slV at HVA
  dsimp only at HVA
  have HRES : Hid (freeSum P [] P.length + (surF L (List.replicate L.length 0) P L.length).2 = freeSum P [] np + (surF L (List.replicate L.length 0) P m).2) := Lib.hid (by rw [HPL.out, HLEN.out])
  rw [HRES.out]
  have HPO : Hid (∀ q, q < m → possB L (List.replicate L.length 0) (q : Int) = true) := Lib.hid (fun q hq => poss0 (by rw [HLEN.out]; exact hq))
  clear HRES
  obtain ⟨D, hD⟩ : ∃ D, List.replicate L.length (0 : Int) = D := ⟨_, rfl⟩
  rw [hD] at HPO ⊢
  clear hD
  have hmk := @run_makeMap Try.prog
  have HMK := Lib.hid hmk
  clear hmk
  go_enter Try.func25, Try.ntmps25
  go_wp2_with fail
  refine HVA.out.mono ?_
  rintro e w1 ⟨rfl, hb1⟩
  have HB1 := Lib.hid hb1
  clear hb1 HVA
  have hnn : ((np : Int) != (np : Int)) = false := by simp
  go_wp2
  go_loop [9, 31] (fun v i => ∃ j : Nat, j ≤ np ∧ i = .int .i64 (j : Int) ∧ v = .int .i64 (freeSum P [] j)) (fun _ i => np - (intOf i).toNat)
  case atStart => exact ⟨0, by omega, rfl, by simp [freeSum]⟩
  case round =>
    obtain ⟨j, hj, rfl, rfl⟩ := hrel
    have hf := freeSum_ok HQ.out [] j
    have HSF := Lib.hid (freeSum_succ P [] j)
    obtain ⟨fs, hfs⟩ : ∃ fs, freeSum P [] j = fs := ⟨_, rfl⟩
    rw [hfs] at hf HSF ⊢
    have HFS := Lib.hid hfs
    clear hfs
    by_cases hlt2 : j < np
    · obtain ⟨b2, o2, hA2, -, hc2⟩ := (NIn.all HP.out HB1.out).cell (k := j) hlt2
      dsimp only at hA2
      subst hA2
      have hpj := pri_at HQ.out j
      obtain ⟨pj, hpj2⟩ : ∃ pj, P[j]?.getD 0 = pj := ⟨_, rfl⟩
      rw [hpj2] at hc2 hpj HSF
      have HF2 : Hid (freeSum P [] (j + 1) = fs + pj) := Lib.hid (by rw [HSF.out, if_neg (by simp)])
      have hji : (j : Int) < (np : Int) := by omega
      obtain ⟨hp1, hp2⟩ := hpj
      have hp3 : ¬ pj < 0 := by omega
      have hp4 : ¬ (1099511627776 : Int) < pj := by omega
      clear hpj2 HSF
      go_wp2
      exact ⟨⟨j + 1, by omega, by go_num, by rw [HF2.out]⟩, by simp [intOf]; omega⟩
    obtain rfl : j = np := by omega
    have HM0 := Lib.hid (MapI.new w1)
    have HB2 := Lib.hid (HB1.out.alloc HB1.out.size (.map #[] 0))
    obtain ⟨hf1, hf2⟩ := hf
    have hf3 : fs ≤ 8796093022208 := by omega
    have hmk := HMK.out
    clear HSF hf2
    go_wp2
    obtain ⟨sm, hsm⟩ : ∃ sm, w1.heap.size = sm := ⟨_, rfl⟩
    have hsw : w.heap.size ≤ sm := by have := HB1.out.size; omega
    have HM0 : Hid (MapI (w1.alloc (.map #[] 0)) sm (fun _ => 0)) := by rw [← hsm]; exact HM0
    rw [hsm]
    generalize w1.alloc (.map #[] 0) = w2 at *
    clear hmk hsm HMK HB1
    go_loopw [9, 48] (fun v i wr => ∃ q : Nat, q ≤ m ∧ i = .int .i64 (q : Int) ∧ v = .int .i64 (fs + (surF L D P q).2) ∧ Hid (MapI wr sm (surF L D P q).1) ∧ Hid (Below w.heap.size w wr)) (fun _ i _ => m - (intOf i).toNat)
    case atStart => exact ⟨0, by omega, rfl, by simp [surF], HM0, HB2⟩
    case round =>
      obtain ⟨q, hq, rfl, rfl, HM, HBW⟩ := hrel
      have hsu := surF_ok HB.out HQ.out D q
      by_cases hlt3 : q < m
      rotate_left
      · obtain rfl : q = m := by omega
        have HE : Hid (freeSum P [] j + (surF L D P q).2 = fs + (surF L D P q).2) := Lib.hid (by rw [HFS.out])
        go_wp2
        exact bodyPost_ret (v := .tuple #[.int .i64 (fs + (surF L D P q).2), .int .i64 0]) (by simp [results, Try.results25, go_sem]) rfl ⟨by rw [HE.out], HBW.out⟩
      obtain ⟨b, off, bi, pr, sA, sn, sc, lots, rfl, hbw, c0, c1, c2, hin, he⟩ := HL.out.get (k := q) (by rw [HLEN.out]; exact hlt3)
      have hbo := bd_ok HB.out q
      have how := ownB_ok HB.out HQ.out q
      have hfb := hsu.1 bi
      have hsu2 := hsu.2
      have HNX : Hid (surF L D P (q + 1) = if possB L D (q : Int) = true ∧ (surF L D P q).1 bi < ownB ⟨bi, pr, (sA, sn, sc), lots⟩ P then (fun y => if y = bi then ownB ⟨bi, pr, (sA, sn, sc), lots⟩ P else (surF L D P q).1 y, (surF L D P q).2 + (ownB ⟨bi, pr, (sA, sn, sc), lots⟩ P - (surF L D P q).1 bi)) else surF L D P q) := Lib.hid (by
        conv => lhs; unfold surF
        rw [he])
      rw [he] at hbo how
      dsimp only at hbo
      obtain ⟨hp0, hp1, hs8, -, hlx⟩ := hbo
      have HLX := Lib.hid hlx
      have HOW : Hid (ownB ⟨bi, pr, (sA, sn, sc), lots⟩ P = pr - costTo P lots lots.length) := Lib.hid rfl
      obtain ⟨own, hown⟩ : ∃ own, ownB ⟨bi, pr, (sA, sn, sc), lots⟩ P = own := ⟨_, rfl⟩
      rw [hown] at how HOW HNX
      obtain ⟨fb, hfb2⟩ : ∃ fb, (surF L D P q).1 bi = fb := ⟨_, rfl⟩
      rw [hfb2] at hfb HNX
      obtain ⟨sq, hsq⟩ : ∃ sq, (surF L D P q).2 = sq := ⟨_, rfl⟩
      rw [hsq] at hsu2 HNX ⊢
      have HFB := Lib.hid hfb2
      have HSQ := Lib.hid hsq
      have q0 := (HBW.out.cell (p := ⟨b, off + q * 3, none⟩) hbw).trans c0
      have q1 := (HBW.out.cell (p := ⟨b, off + q * 3 + 1, none⟩) hbw).trans c1
      have q2 := (HBW.out.cell (p := ⟨b, off + q * 3 + 2, none⟩) hbw).trans c2
      have hbx := (Below.refl wr.heap.size wr).alloc (Nat.le_refl _) (.cells #[.int .i64 bi, .int .i64 pr, .slice sA sn sc] 70)
      have HB3 : Hid (Below w.heap.size w (wr.alloc (.cells #[.int .i64 bi, .int .i64 pr, .slice sA sn sc] 70))) := Lib.hid (bt HBW.out hbx)
      have HK3 := Lib.hid (Blk.new wr 70 #[.int .i64 bi, .int .i64 pr, .slice sA sn sc])
      have HM3 := Lib.hid (HM.out.all hbx)
      have HIN := Lib.hid hin
      have hlen := hin.len
      dsimp only at hlen
      have HSN := Lib.hid hlen
      have HPS := Lib.hid (HPO.out q hlt3)
      have hqi : (q : Int) < (m : Int) := by omega
      clear he hin c0 c1 c2 hlen hown hfb2 hsq hsu hbx hlx
      go_wp2
      obtain ⟨gx, hgx⟩ : ∃ gx, wr.heap.size = gx := ⟨_, rfl⟩
      obtain ⟨w3, hw3⟩ : ∃ w3, wr.alloc (.cells #[.int .i64 bi, .int .i64 pr, .slice sA sn sc] 70) = w3 := ⟨_, rfl⟩
      rw [hw3] at HB3 HK3 HM3 ⊢
      rw [hgx] at HK3 ⊢
      have x0 := HK3.out.cell 0
      simp at x0
      clear hw3 hgx q0 q1 q2
      go_loop [15, 57] (fun v i => ∃ t : Nat, t ≤ sn ∧ i = .int .i64 (t : Int) ∧ v = .int .i64 (pr - costTo P lots t)) (fun _ i => sn - (intOf i).toNat)
      case atStart => exact ⟨0, by omega, rfl, by simp [costTo]⟩
      case round =>
        obtain ⟨t, ht, rfl, rfl⟩ := hrel
        have hct := costTo_ok HQ.out lots t
        by_cases hlt4 : t < sn
        · have htl : t < lots.length := by rw [HSN.out]; exact hlt4
          have hcs := costTo_succ (P := P) htl
          obtain ⟨b2, o2, hA2, -, hc2⟩ := (NIn.all HIN.out HB3.out).cell (k := t) hlt4
          dsimp only at hA2
          subst hA2
          have hxm := HLX.out _ (List.getElem_mem htl)
          obtain ⟨x, hx⟩ : ∃ x, lots[t]?.getD 0 = x := ⟨_, rfl⟩
          have hx' : lots[t] = x := by
            rw [List.getElem?_eq_getElem htl] at hx
            exact hx
          rw [hx'] at hxm
          rw [hx] at hc2 hcs
          obtain ⟨xn, rfl⟩ : ∃ xn : Nat, x = (xn : Int) := ⟨x.toNat, by omega⟩
          have hxj : xn < j := by omega
          obtain ⟨b3, o3, hA3, -, hc3⟩ := (NIn.all HP.out HB3.out).cell (k := xn) hxj
          dsimp only at hA3
          subst hA3
          have hpx := pri_at HQ.out xn
          have e1 : ((xn : Int)).toNat = xn := by omega
          rw [e1] at hcs
          obtain ⟨px, hpx2⟩ : ∃ px, P[xn]?.getD 0 = px := ⟨_, rfl⟩
          rw [hpx2] at hc3 hcs hpx
          obtain ⟨ct, hct2⟩ : ∃ ct, costTo P lots t = ct := ⟨_, rfl⟩
          rw [hct2] at hct hcs ⊢
          have HCS := Lib.hid hcs
          have ht8 : (t : Int) ≤ 8 := by omega
          have hxi : (xn : Int) < (j : Int) := by omega
          have hti : (t : Int) < (sn : Int) := by omega
          clear hcs hx hx' hpx2 hct2 e1 hxm htl
          go_wp2
          exact ⟨⟨t + 1, by omega, by go_num, by rw [HCS.out, Int.sub_sub]⟩, by simp [intOf]; omega⟩
        · obtain rfl : t = sn := by omega
          have hoe : pr - costTo P lots t = own := by rw [HOW.out, HSN.out]
          rw [hoe]
          have hlk := HM3.out.look bi
          rw [HFB.out] at hlk
          clear hoe hct
          by_cases hmore : fb < own
          · obtain ⟨w5, hst5, hm5, hg5, hz5⟩ := HM3.out.add bi own
            have HN2 : Hid (surF L D P (q + 1) = (fun y => if y = bi then own else (surF L D P q).1 y, sq + (own - fb))) := Lib.hid (by rw [HNX.out, if_pos ⟨HPS.out, hmore⟩])
            have HM4 : Hid (MapI w5 sm (surF L D P (q + 1)).1) := Lib.hid (by rw [HN2.out]; exact hm5)
            have HB5 : Hid (Below w.heap.size w w5) := Lib.hid (below_of_only HB3.out hg5 HB3.out.size hsw)
            have hmo : 0 < own - fb := by omega
            have hq10 : (q : Int) ≤ 10 := by omega
            clear hm5 hg5 hz5 HNX
            go_wp2
            exact ⟨⟨q + 1, by omega, by go_num, by rw [HN2.out]; go_num, HM4, HB5⟩, by simp [intOf]; omega⟩
          · have HN2 : Hid (surF L D P (q + 1) = surF L D P q) := Lib.hid (by rw [HNX.out, if_neg (fun h => hmore h.2)])
            have HM4 : Hid (MapI w3 sm (surF L D P (q + 1)).1) := Lib.hid (by rw [HN2.out]; exact HM3.out)
            have hmo : ¬ 0 < own - fb := by omega
            clear HNX
            go_wp2
            exact ⟨⟨q + 1, by omega, by go_num, by rw [HN2.out, HSQ.out], HM4, HB3⟩, by simp [intOf]; omega⟩
/-- A single leaf is accepted exactly if its bound is at most the value. -/
theorem leaf_check {n : Nat} {L : List Bd} {win P : List Int} {s : Sl} (hv : validE (n : Int) L = 0) (hf : feasB L win = true) (hp : priB P = true) (hn : P.length = n) :
    checkE (n : Int) L win (valueB L win) [⟨-1, 0, 0, s, P⟩] = if boundP L (List.replicate L.length 0) P ≤ valueB L win then 0 else 20 := by
  unfold checkE
  rw [if_pos hv, if_pos hf, if_neg (by simp)]
  have ht : treeB [⟨-1, 0, 0, s, P⟩] = true := rfl
  have hh : holdsF n L (valueB L win) [⟨-1, 0, 0, s, P⟩] 1 0 (List.replicate L.length 0) = decide (boundP L (List.replicate L.length 0) P ≤ valueB L win) := by
    show (if (-1 : Int) = -1 then _ else _) = _
    rw [if_pos rfl]
    show leafB n L (List.replicate L.length 0) (valueB L win) ⟨-1, 0, 0, s, P⟩ = _
    simp only [leafB]
    rw [hp, hn]
    simp
  have hpb : proofB (n : Int).toNat L win (valueB L win) [⟨-1, 0, 0, s, P⟩] = decide (boundP L (List.replicate L.length 0) P ≤ valueB L win) := by
    unfold proofB
    rw [Int.toNat_natCast, ht]
    show (decide _ && (true && holdsF n L (valueB L win) [⟨-1, 0, 0, s, P⟩] 1 0 (List.replicate L.length 0))) = _
    rw [hh]
    simp
  rw [hpb]
  by_cases h : boundP L (List.replicate L.length 0) P ≤ valueB L win
  · rw [if_pos h, decide_eq_true h, if_pos rfl]
  · rw [if_neg h, decide_eq_false h, if_neg (by simp)]
end Go.Proofs.Ytikfcpkobgejmaa

/- proof: the blocks that Make's build holds. -/
namespace Go.Proofs.Ytikfcpkobgejmaa
open Go.RowKit

/-- A row of one's own of nodes. -/
structure NdsW (w : World) (B : Nat) (A : Option Addr) (k c : Nat) (N : List Nd) : Prop where
  len : N.length = k
  row : w.ownsRow B 55 4 (.slice A k c) k (N.flatMap Nd.cells)
  ok : ∀ x ∈ N, TI w x.s x.prices
/-- Blocks of nodes or of a certificate alone. -/
def NPT (w : World) (b : Nat) : Prop := Ty w b 55 ∨ Ty w b 44
theorem NPT.not {w : World} {b t : Nat} (h : NPT w b) (h1 : t ≠ 55) (h2 : t ≠ 44) : ¬ Ty w b t := fun ht => h.elim (fun h => h1 (ht.unique h)) (fun h => h2 (ht.unique h))
section
variable {w w' : World} {B k c : Nat} {A : Option Addr} {N : List Nd} {F : Nat → Prop}
theorem NdsW.mod (h : NdsW w B A k c N) (m : Mod F w w') (hF : ∀ b, F b → ¬ Ty w b 3 ∧ ¬ Ty w b 55) : NdsW w' B A k c N := ⟨h.len, m.own h.row (fun g hg hf => (hF g hf).2 (own_ty h.row hg)), fun x hx => (h.ok x hx).mod m (fun b hf => (hF b hf).1)⟩
theorem NdsW.all (h : NdsW w B A k c N) (hb : Below w.heap.size w w') : NdsW w' B A k c N := h.mod (F := fun _ => False) (Mod.of_below _ hb) (fun _ hf => hf.elim)
theorem NdsW.nds (h : NdsW w B A k c N) : Nds w (A, k, c) N := ⟨Rows.of_own Nd.cells_length h.row (by decide), fun x hx => (h.ok x hx).nin⟩
theorem NdsW.ty (h : NdsW w B A k c N) : ∀ b, (Value.slice A k c).ownBlock = some b → Ty w b 55 := fun _ hb => own_ty h.row hb
theorem NdsW.cellAt {g j : Nat} (h : NdsW w B (some ⟨g, 0, none⟩) k c N) (hj : j < k) : w.cell? ⟨g, j * 4, none⟩ = some (.int .i64 (ndAt N j).bid) ∧ w.cell? ⟨g, j * 4 + 1, none⟩ = some (.int .i64 (ndAt N j).inn) ∧ w.cell? ⟨g, j * 4 + 2, none⟩ = some (.int .i64 (ndAt N j).out) ∧ w.cell? ⟨g, j * 4 + 3, none⟩ = some (slV (ndAt N j).s) := by
  have hjl : j < N.length := by rw [h.len]; exact hj
  obtain ⟨b, o, hA, -, c0, c1, c2, c3, -⟩ := h.nds.cell hjl
  dsimp only at hA
  injection hA with hA
  injection hA with hA hA2 _
  subst hA hA2
  rw [Nat.zero_add] at c0 c1 c2 c3
  rw [ndAt_eq hjl]
  exact ⟨c0, c1, c2, c3⟩
/-- A node is stored whole. -/
theorem NdsW.put {g j : Nat} (h : NdsW w B (some ⟨g, 0, none⟩) k c N) (hj : j < k) (x : Nd) (hx : TI w x.s x.prices) : NdsW ((((w.setCell ⟨g, j * 4, none⟩ (.int .i64 x.bid)).setCell ⟨g, j * 4 + 1, none⟩ (.int .i64 x.inn)).setCell ⟨g, j * 4 + 2, none⟩ (.int .i64 x.out)).setCell ⟨g, j * 4 + 3, none⟩ (slV x.s)) B (some ⟨g, 0, none⟩) k c (N.set j x) ∧ Mod (fun b => b = g) w ((((w.setCell ⟨g, j * 4, none⟩ (.int .i64 x.bid)).setCell ⟨g, j * 4 + 1, none⟩ (.int .i64 x.inn)).setCell ⟨g, j * 4 + 2, none⟩ (.int .i64 x.out)).setCell ⟨g, j * 4 + 3, none⟩ (slV x.s)) := by
  have hjl : j < N.length := by rw [h.len]; exact hj
  have ht : Ty w g 55 := own_ty h.row rfl
  have hm : Mod (fun b => b = g) w ((((w.setCell ⟨g, j * 4, none⟩ (.int .i64 x.bid)).setCell ⟨g, j * 4 + 1, none⟩ (.int .i64 x.inn)).setCell ⟨g, j * 4 + 2, none⟩ (.int .i64 x.out)).setCell ⟨g, j * 4 + 3, none⟩ (slV x.s)) :=
    ((((Mod.refl (fun b => b = g) w).set (p := ⟨g, j * 4, none⟩) (.inl rfl) _).set (p := ⟨g, j * 4 + 1, none⟩) (.inl rfl) _).set (p := ⟨g, j * 4 + 2, none⟩) (.inl rfl) _).set (p := ⟨g, j * 4 + 3, none⟩) (.inl rfl) _
  have hF : ∀ b, b = g → ¬ Ty w b 3 := fun b e => by rw [e]; exact ht.not (by decide)
  refine ⟨⟨by rw [List.length_set]; exact h.len, own_set4 h.row hjl x, fun y hy => ?_⟩, hm⟩
  rcases List.mem_or_eq_of_mem_set hy with h1 | h1
  · exact (h.ok y h1).mod hm hF
  · rw [h1]
    exact hx.mod hm hF
/-- The prices of a node are stored. -/
theorem NdsW.setP {g j : Nat} (h : NdsW w B (some ⟨g, 0, none⟩) k c N) (hj : j < k) (s : Sl) (P : List Int) (hx : TI w s P) : NdsW (w.setCell ⟨g, j * 4 + 3, none⟩ (slV s)) B (some ⟨g, 0, none⟩) k c (N.set j ⟨(ndAt N j).bid, (ndAt N j).inn, (ndAt N j).out, s, P⟩) ∧ Mod (fun b => b = g) w (w.setCell ⟨g, j * 4 + 3, none⟩ (slV s)) := by
  have hjl : j < N.length := by rw [h.len]; exact hj
  have ht : Ty w g 55 := own_ty h.row rfl
  have hm : Mod (fun b => b = g) w (w.setCell ⟨g, j * 4 + 3, none⟩ (slV s)) := (Mod.refl (fun b => b = g) w).set (p := ⟨g, j * 4 + 3, none⟩) (.inl rfl) _
  have hF : ∀ b, b = g → ¬ Ty w b 3 := fun b e => by rw [e]; exact ht.not (by decide)
  have hs := (h.row.stored (j * 4 + 3) (slV s)).1
  refine ⟨⟨by rw [List.length_set]; exact h.len, ?_, fun y hy => ?_⟩, hm⟩
  · rw [← flatT_set Nd.cells 4 Nd.cells_length (⟨(ndAt N j).bid, (ndAt N j).inn, (ndAt N j).out, s, P⟩ : Nd) 3 (by decide) (slV s) N j hjl (by rw [ndAt_eq hjl]; rfl)]
    exact hs
  · rcases List.mem_or_eq_of_mem_set hy with h1 | h1
    · exact (h.ok y h1).mod hm hF
    · rw [h1]
      exact hx.mod hm hF
end
/-- What build captures. -/
structure MkB (n : Nat) (A : Option Addr) (m c : Nat) (v : Int) (gp gn gl gv gb : Nat) (W : World) : Prop where
  kn : Blk W gn 3 #[.int .i64 (n : Int)]
  kl : Blk W gl 40 #[.slice A m c]
  kv : Blk W gv 3 #[.int .i64 v]
  kb : Blk W gb 97 #[.func (.func 52) #[] #[.pointer (some ⟨gp, 0, none⟩), .pointer (some ⟨gn, 0, none⟩), .pointer (some ⟨gl, 0, none⟩), .pointer (some ⟨gv, 0, none⟩), .pointer (some ⟨gb, 0, none⟩)]]
theorem MkB.mod {n m c gp gn gl gv gb : Nat} {A : Option Addr} {v : Int} {W W' : World} {F : Nat → Prop} (h : MkB n A m c v gp gn gl gv gb W) (k : Mod F W W') (hF : ∀ b, F b → NPT W b) : MkB n A m c v gp gn gl gv gb W' :=
  ⟨k.blk h.kn (fun hf => (hF _ hf).not (by decide) (by decide) h.kn.ty), k.blk h.kl (fun hf => (hF _ hf).not (by decide) (by decide) h.kl.ty), k.blk h.kv (fun hf => (hF _ hf).not (by decide) (by decide) h.kv.ty), k.blk h.kb (fun hf => (hF _ hf).not (by decide) (by decide) h.kb.ty)⟩
/-- Where build stands. -/
structure MK (w0 : World) (n : Nat) (A : Option Addr) (m c : Nat) (v : Int) (gp gn gl gv gb : Nat) (V : Sl) (N : List Nd) (W : World) : Prop where
  b : MkB n A m c v gp gn gl gv gb W
  p : Blk W gp 44 #[.int .i64 v, slV V]
  nd : NdsW W w0.heap.size V.1 V.2.1 V.2.2 N
  ge : w0.heap.size ≤ gp
  below : Below w0.heap.size w0 W
def FM (gp : Nat) (V : Sl) (b : Nat) : Prop := b = gp ∨ (slV V).ownBlock = some b
section
variable {w0 W W' : World} {n m c gp gn gl gv gb : Nat} {A : Option Addr} {v : Int} {V : Sl} {N : List Nd}
theorem MK.npt (h : MK w0 n A m c v gp gn gl gv gb V N W) : ∀ b, FM gp V b → NPT W b := fun b hb => hb.elim (fun e => .inr (by rw [e]; exact h.p.ty)) (fun e => .inl (h.nd.ty b e))
theorem MK.low (h : MK w0 n A m c v gp gn gl gv gb V N W) : ∀ b, FM gp V b → w0.heap.size ≤ b := fun b hb => hb.elim (fun e => by rw [e]; exact h.ge) (fun e => (own_ge h.nd.row e).1)
theorem MK.all (h : MK w0 n A m c v gp gn gl gv gb V N W) (hb : Below W.heap.size W W') : MK w0 n A m c v gp gn gl gv gb V N W' :=
  ⟨h.b.mod (F := fun _ => False) (Mod.of_below _ hb) (fun _ hf => hf.elim), h.p.all hb, h.nd.all hb, h.ge, bt h.below hb⟩
theorem TI.npt {s : Sl} {xs : List Int} {F : Nat → Prop} (h : TI W s xs) (k : Mod F W W') (hF : ∀ b, F b → NPT W b) : TI W' s xs := h.mod k (fun b hb => (hF b hb).not (by decide) (by decide))
/-- The row of nodes is a new one, and it is stored. -/
theorem MK.app {W1 : World} {V1 : Sl} {N1 : List Nd} (h : MK w0 n A m c v gp gn gl gv gb V N W) (hm : Mod (fun b => (slV V).ownBlock = some b) W W1) (hN : NdsW W1 w0.heap.size V1.1 V1.2.1 V1.2.2 N1) : MK w0 n A m c v gp gn gl gv gb V1 N1 (W1.setCell ⟨gp, 1, none⟩ (slV V1)) ∧ Blk W1 gp 44 #[.int .i64 v, slV V] ∧ Mod (FM gp V) W (W1.setCell ⟨gp, 1, none⟩ (slV V1)) := by
  have hp1 : Blk W1 gp 44 #[.int .i64 v, slV V] := hm.blk h.p (fun hf => absurd ((h.nd.ty _ hf).unique h.p.ty) (by decide))
  have hk : Mod (fun b => b = gp) W1 (W1.setCell ⟨gp, 1, none⟩ (slV V1)) := (Mod.refl (fun b => b = gp) W1).set (p := ⟨gp, 1, none⟩) (.inl rfl) _
  have hpt : ∀ b, b = gp → ¬ Ty W1 b 3 ∧ ¬ Ty W1 b 55 := fun b e => by rw [e]; exact ⟨hp1.ty.not (by decide), hp1.ty.not (by decide)⟩
  have hb1 : MkB n A m c v gp gn gl gv gb W1 := h.b.mod hm (fun b hb => .inl (h.nd.ty b hb))
  have hlow := Mod.below h.below hm h.below.size (fun b hb => (own_ge h.nd.row hb).1)
  refine ⟨⟨hb1.mod hk (fun b e => .inr (by rw [e]; exact hp1.ty)), by have := hp1.set_ 1 (slV V1); exact this, hN.mod hk hpt, h.ge, Mod.below hlow hk hlow.size (fun b e => by rw [e]; exact h.ge)⟩, hp1, (hm.mono (fun b hb => .inl (.inr hb))).trans hk (fun b e => .inl (.inl e))⟩
/-- The row of nodes is turned in place. -/
theorem MK.row {g k cn : Nat} {N1 : List Nd} (h : MK w0 n A m c v gp gn gl gv gb (some ⟨g, 0, none⟩, k, cn) N W) (hm : Mod (fun b => b = g) W W') (hN : NdsW W' w0.heap.size (some ⟨g, 0, none⟩) k cn N1) : MK w0 n A m c v gp gn gl gv gb (some ⟨g, 0, none⟩, k, cn) N1 W' := by
  have hty := h.nd.ty g rfl
  have hg := (own_ge h.nd.row (g := g) rfl).1
  exact ⟨h.b.mod hm (fun b e => .inl (by rw [e]; exact hty)), hm.blk h.p (fun e => absurd (h.p.ty.unique (by rw [e]; exact hty)) (by decide)), hN, h.ge, Mod.below h.below hm h.below.size (fun b e => by rw [e]; exact hg)⟩
end
/-- What is decided of the bids: those that win are apart. -/
structure Dec (L : List Bd) (D : List Int) : Prop where
  len : D.length = L.length
  vals : ∀ k : Nat, k < L.length → D[k]?.getD 0 = 0 ∨ D[k]?.getD 0 = 1 ∨ D[k]?.getD 0 = 2
  ap : ∀ i j : Nat, i < j → j < L.length → D[i]?.getD 0 = 1 → D[j]?.getD 0 = 1 → confB (bdAt L j) (bdAt L i) = false
theorem Dec.start (L : List Bd) : Dec L (List.replicate L.length 0) := by
  have h0 : ∀ k : Nat, (List.replicate L.length (0 : Int))[k]?.getD 0 = 0 := fun k => by
    rw [List.getElem?_replicate]
    split <;> rfl
  exact ⟨by simp, fun k _ => .inl (h0 k), fun i j _ _ h _ => absurd (by rw [← h, h0]) (show ¬ (1 : Int) = 0 by decide)⟩
theorem Dec.win {L : List Bd} {D : List Int} (h : Dec L D) {k : Nat} (hk : k < L.length) (hp : possB L D (k : Int) = true) : Dec L (D.set k 1) := by
  have hl : k < D.length := by rw [h.len]; exact hk
  rw [possB_in hk, Bool.and_eq_true, decide_eq_true_eq, Bool.not_eq_true'] at hp
  obtain ⟨-, hp⟩ := hp
  unfold takenB at hp
  rw [List.any_eq_false] at hp
  have hap : ∀ i, i < L.length → D[i]?.getD 0 = 1 → confB (bdAt L i) (bdAt L k) = false := fun i hi h1 => by
    have := hp i (List.mem_range.2 hi)
    rw [Bool.and_eq_true, decide_eq_true_eq, ← bdAt_eq hk] at this
    cases hc : confB (bdAt L i) (bdAt L k) with
    | false => rfl
    | true => exact absurd ⟨h1, hc⟩ this
  refine ⟨by rw [List.length_set]; exact h.len, fun j hj => ?_, fun i j hij hj h1 h2 => ?_⟩
  · rw [set_getD hl]
    split
    · exact .inr (.inl rfl)
    · exact h.vals j hj
  · rw [set_getD hl] at h1 h2
    by_cases e1 : i = k
    · subst e1
      rw [if_neg (by omega)] at h2
      exact hap j hj h2
    · rw [if_neg e1] at h1
      by_cases e2 : j = k
      · subst e2
        rw [confB_comm]
        exact hap i (by omega) h1
      · rw [if_neg e2] at h2
        exact h.ap i j hij hj h1 h2
theorem Dec.lose {L : List Bd} {D : List Int} (h : Dec L D) {k : Nat} (hk : k < L.length) : Dec L (D.set k 2) := by
  have hl : k < D.length := by rw [h.len]; exact hk
  refine ⟨by rw [List.length_set]; exact h.len, fun j hj => ?_, fun i j hij hj h1 h2 => ?_⟩
  · rw [set_getD hl]
    split
    · exact .inr (.inr rfl)
    · exact h.vals j hj
  · rw [set_getD hl] at h1 h2
    split at h1
    · cases h1
    · split at h2
      · cases h2
      · exact h.ap i j hij hj h1 h2
theorem freeSum_zeros (n : Nat) (T : List Int) : ∀ k, freeSum (List.replicate n 0) T k = 0
  | 0 => rfl
  | k + 1 => by
    rw [freeSum_succ, freeSum_zeros n T k, rep0]
    split <;> rfl
theorem surF_none {L : List Bd} {D P : List Int} : ∀ k : Nat, (∀ i, i < k → possB L D (i : Int) = false) → (surF L D P k).2 = 0
  | 0, _ => rfl
  | k + 1, h => by
    unfold surF
    rw [if_neg (by rw [h k (by omega)]; simp)]
    exact surF_none k (fun i hi => h i (by omega))
/-- Where the bound of prices 0 is greater than the best value, a bid is possible. -/
theorem Dec.more {L : List Bd} {D : List Int} {n : Nat} (h : Dec L D) (hp : ∀ b ∈ L, 0 ≤ b.price ∧ b.price ≤ 1099511627776) (hb : (bestS L).2 < boundP L D (List.replicate n 0)) : ∃ k, k < L.length ∧ possB L D (k : Int) = true ∧ ∀ t, t < k → possB L D (t : Int) = false := by
  have hex : ∃ k, k < L.length ∧ possB L D (k : Int) = true := by
    rcases Classical.em (∃ k, k < L.length ∧ possB L D (k : Int) = true) with h1 | h1
    · exact h1
    exfalso
    have hno : ∀ i, i < L.length → possB L D (i : Int) = false := fun i hi => by
      cases hc : possB L D (i : Int) with
      | false => rfl
      | true => exact absurd ⟨i, hi, hc⟩ h1
    unfold boundP at hb
    rw [surF_none _ hno, freeSum_zeros] at hb
    obtain ⟨C, hC⟩ : ∃ C : List Int, ((List.range L.length).filter fun k => decide (D[k]?.getD 0 = 1)).map (fun k : Nat => (k : Int)) = C := ⟨_, rfl⟩
    have hmem : ∀ k : Nat, k < L.length → ((k : Int) ∈ C ↔ D[k]?.getD 0 = 1) := fun k hk => by
      rw [← hC, List.mem_map]
      constructor
      · rintro ⟨j, hj, e⟩
        have : j = k := by omega
        subst this
        simpa using (List.mem_filter.1 hj).2
      · intro hd
        exact ⟨k, List.mem_filter.2 ⟨List.mem_range.2 hk, by simpa using hd⟩, rfl⟩
    have hr : ∀ x ∈ C, 0 ≤ x ∧ x < (L.length : Int) := fun x hx => by
      rw [← hC] at hx
      obtain ⟨j, hj, rfl⟩ := List.mem_map.1 hx
      have := List.mem_range.1 (List.mem_filter.1 hj).1
      omega
    have hF : FeasP L C := by
      refine ⟨hr, ?_⟩
      rw [← hC, List.pairwise_map]
      have hp1 : (List.range L.length).Pairwise (fun a b => a < b) := List.pairwise_lt_range
      refine List.Pairwise.imp_of_mem (fun {a b} ha hb hab => ?_) (hp1.filter fun k => decide (D[k]?.getD 0 = 1))
      obtain ⟨ha1, ha2⟩ := List.mem_filter.1 ha
      obtain ⟨hb1, hb2⟩ := List.mem_filter.1 hb
      refine ⟨by omega, ?_⟩
      rw [Int.toNat_natCast, Int.toNat_natCast]
      exact h.ap a b hab (List.mem_range.1 hb1) (by simpa using ha2) (by simpa using hb2)
    have hv : valueB L C = winSum L D L.length := by
      rw [valueB_sum hr, sum_mem hF.nodup hr (fun k => (bdAt L k).price)]
      unfold winSum
      congr 1
      apply List.map_congr_left
      intro k hk
      rw [List.mem_range] at hk
      by_cases hd : D[k]?.getD 0 = 1
      · rw [if_pos ((hmem k hk).2 hd), if_pos hd]
      · rw [if_neg (fun hh => hd ((hmem k hk).1 hh)), if_neg hd]
    have := best_max hp (feasB_iff.2 hF)
    omega
  obtain ⟨k, hk, hpk⟩ := hex
  induction k using Nat.strongRecOn with
  | ind k ih =>
    rcases Classical.em (∃ t, t < k ∧ possB L D (t : Int) = true) with ⟨t, ht, hpt⟩ | hno
    · exact ih t ht (by omega) hpt
    · exact ⟨k, hk, hpk, fun t ht => by
        cases hc : possB L D (t : Int) with
        | false => rfl
        | true => exact absurd ⟨t, ht, hc⟩ hno⟩
end Go.Proofs.Ytikfcpkobgejmaa

/- clear: try, the recursion of choices. -/
namespace Go.Proofs.Ytikfcpkobgejmaa
open Go.RowKit Go.Shelf
attribute [local go_sem] Oper.semAt_some

def TryPost (w : World) (A : Option Addr) (m c : Nat) (L : List Bd) (q : ItN) (R : World → Prop) (B : Nat) (V : Sl) (C : List Int) (st' : List Int × Int) (W : World) (e : Ending) (W' : World) : Prop :=
  e = .returned (.bool true) ∧ ∃ Fs' V', ClS w A m c L q R Fs' V' st' C W' ∧ Mod (FT w q V B W) W W' ∧ ∀ b, (slV V').ownBlock = some b → (slV V).ownBlock = some b ∨ W.heap.size ≤ b
/-- What try may turn, of cells' blocks. -/
theorem FT.at_ {w : World} {q : ItN} {V : Sl} {B : Nat} {W : World} {b : Nat} {t : TypeId} (hb : Ty W b t) (h : FT w q V B W b) : b = w.heap.size ∨ b = w.heap.size + 1 ∨ b = q.gc ∨ (slV V).ownBlock = some b := by
  rcases h with h | h | h | h | h
  · exact .inl h
  · exact .inr (.inl h)
  · exact .inr (.inr (.inl h))
  · exact .inr (.inr (.inr h))
  · exact (h.not_ty hb).elim
/-- What stands at the head of try's loop. -/
structure LI (w : World) (A : Option Addr) (m c : Nat) (L : List Bd) (q : ItN) (R : World → Prop) (B : Nat) (V : Sl) (C : List Int) (v : Int) (T : List Int × Int) (W : World) (i gi : Nat) (st' : List Int × Int) (Fs' V' : Sl) (wr : World) : Prop where
  s : ClS w A m c L q R Fs' V' st' C wr
  bi : Blk wr gi 3 #[.int .i64 (i : Int)]
  ge : W.heap.size ≤ gi ∧ (slV V').ownBlock ≠ some gi
  eq : loopB L (m - i) i C v st' = T
  mo : Mod (FT w q V B W) W wr
  ow : ∀ b, (slV V').ownBlock = some b → (slV V).ownBlock = some b ∨ W.heap.size ≤ b
theorem ownBlock_cut (A : Option Addr) (n n' c : Nat) : (slV (A, n, c)).ownBlock = (slV (A, n', c)).ownBlock := by cases A <;> rfl
def leftP (m : Nat) (p : Value) (wr : World) : Nat := match p with
  | .pointer (some a) => (match wr.cell? a with | some (.int _ x) => m - x.toNat | _ => 0)
  | _ => 0
theorem leftP_at {m gi i : Nat} {wr : World} (h : Blk wr gi 3 #[.int .i64 (i : Int)]) : leftP m (.pointer (some ⟨gi, 0, none⟩)) wr = m - i := by
  have h0 : wr.cell? ⟨gi, 0, none⟩ = some (.int .i64 (i : Int)) := h.cell 0
  simp [leftP, h0]
section
variable {w W W' : World} {A : Option Addr} {m c : Nat} {L : List Bd} {q : ItN} {R : World → Prop} {Fs V : Sl} {st : List Int × Int} {C : List Int} {B : Nat}
theorem LI.all {v : Int} {T : List Int × Int} {wr wr' : World} {i gi : Nat} {V' : Sl} (h : LI w A m c L q R B V C v T W i gi st Fs V' wr) (hR : ∀ W W', R W → KeepsFrom B W W' → R W') (hb : Below wr.heap.size wr wr') : LI w A m c L q R B V C v T W i gi st Fs V' wr' :=
  ⟨h.s.all hR hb, h.bi.all hb, h.ge, h.eq, h.mo.then_below hb, h.ow⟩
/-- The next number of the loop, in a box of its own. -/
theorem LI.next {v : Int} {T : List Int × Int} {wr : World} {i : Nat} {V' : Sl} (hR : ∀ W W', R W → KeepsFrom B W W' → R W') (s : ClS w A m c L q R Fs V' st C wr) (eq : loopB L (m - (i + 1)) (i + 1) C v st = T) (mo : Mod (FT w q V B W) W wr) (ow : ∀ b, (slV V').ownBlock = some b → (slV V).ownBlock = some b ∨ W.heap.size ≤ b) :
    LI w A m c L q R B V C v T W (i + 1) wr.heap.size st Fs V' (wr.alloc (.cells #[.int .i64 ((i : Int) + 1)] 3)) := by
  have hb : Below wr.heap.size wr (wr.alloc (.cells #[.int .i64 ((i : Int) + 1)] 3)) := (Below.refl _ _).alloc (Nat.le_refl _) _
  refine ⟨s.all hR hb, ?_, ⟨mo.size, fun e => ?_⟩, eq, mo.then_below hb, ow⟩
  · have := Blk.new wr 3 #[.int .i64 ((i : Int) + 1)]
    rw [show ((i + 1 : Nat) : Int) = (i : Int) + 1 by omega]
    exact this
  · have := (own_ge s.t.co e).2
    omega
/-- A choice is taken up. -/
theorem ClS.push {W6 : World} {A6 : Option Addr} {n6 c6 : Nat} {C6 : List Int} (h : ClS w A m c L q R Fs V st C W) (hR : ∀ W W', R W → KeepsFrom B W W' → R W') (hmod : Mod (fun b => (slV V).ownBlock = some b) W W6) (hnew : ∀ g, (Value.slice A6 n6 c6).ownBlock = some g → (slV V).ownBlock = some g ∨ W.heap.size ≤ g) (ho : OwnI W6 w.heap.size A6 n6 c6 C6) :
    ClS w A m c L q R Fs (A6, n6, c6) st C6 (W6.setCell ⟨q.gc, 0, none⟩ (.slice A6 n6 c6)) ∧ Blk W6 q.gc 22 #[slV V] ∧ Mod (FT w q V B W) W (W6.setCell ⟨q.gc, 0, none⟩ (.slice A6 n6 c6)) := by
  have hown : ∀ b, (slV V).ownBlock = some b → Ty W b 3 := fun b hb => own_ty h.t.co hb
  have hn : ∀ {b t cs}, Blk W b t cs → t ≠ 3 → ¬ (slV V).ownBlock = some b := fun {b t cs} hb ht e => ht (hb.ty.unique (hown b e))
  have hb6 : ClB w A m c Fs st W6 := h.b.mod hmod (hn h.b.fb (by decide)) (fun e => (h.vd _ e).1 rfl) (hn h.b.lb (by decide)) (hn h.b.eb (by decide)) (fun b hb e => (h.vd b e).2.2 hb) (fun b hb => (own_ge h.t.co hb).1)
  have hr6 : R W6 := hR _ _ h.r ⟨hmod.size, fun k o _ hk ho => (hmod.block k (Array.getElem?_eq_some_iff.1 hk).1 (fun e => by
    obtain ⟨cs, fr, h3⟩ := hown k e
    rw [hk] at h3
    injection h3 with h3
    rw [h3] at ho
    cases ho)).trans hk⟩
  have hc6 := hmod.blk h.t.cb (hn h.t.cb (by decide))
  have hd6 : ∀ b, (slV (A6, n6, c6)).ownBlock = some b → b ≠ w.heap.size + 1 ∧ b ≠ q.rr ∧ (slV Fs).ownBlock ≠ some b := fun b hb => by
    rcases hnew b hb with h1 | h1
    · exact h.vd b h1
    · refine ⟨fun e => ?_, fun e => ?_, fun e => ?_⟩
      · have := h.b.mb.lt
        omega
      · have := h.t.ra.lt
        omega
      · have := (own_ge h.b.fo e).2
        omega
  have k : Mod (fun b => b = q.gc) W6 (W6.setCell ⟨q.gc, 0, none⟩ (.slice A6 n6 c6)) := (Mod.refl (fun b => b = q.gc) W6).set (p := ⟨q.gc, 0, none⟩) (.inl rfl) _
  have hty := hc6.ty
  have hne : ∀ {A n c xs}, OwnI W6 w.heap.size A n c xs → ∀ b, (Value.slice A n c).ownBlock = some b → ¬ b = q.gc := fun {A n c xs} ho b hb e => by
    rw [e] at hb
    exact absurd (hty.unique (own_ty ho hb)) (by decide)
  obtain ⟨hy, hr, hrr, hc, ht⟩ := h.ap
  refine ⟨⟨hb6.mod k (by omega) (by omega) (by omega) (by omega) (hne hb6.fo) (fun b hb => by rw [hb]; omega), ⟨?_, ?_, ?_, ?_, ho.modI k (hne ho), ?_⟩, h.ap, hd6, hR _ _ hr6 ((KeepsOthers.setCell _ _ _).from _)⟩, hc6, ?_⟩
  · exact k.blk (hmod.blk h.t.yb (hn h.t.yb (by decide))) hy.2
  · exact k.blk (hmod.blk h.t.rb (hn h.t.rb (by decide))) hr.2
  · exact k.blk (hmod.blk h.t.ra (fun e => (h.vd _ e).2.1 rfl)) hrr.2
  · exact Blk.set_ hc6 0 _
  · exact k.blk (hmod.blk h.t.tb (hn h.t.tb (by decide))) ht.2
  · exact (hmod.mono (fun b hb => .inl (.inr (.inr (.inr (.inl hb)))))).trans k (fun b hb => .inl (.inr (.inr (.inl hb))))
end

set_option maxRecDepth 100000 in
set_option maxHeartbeats 8000000 in
theorem try_any (w : World) (A : Option Addr) (m c : Nat) (L : List Bd) (q : ItN) (R : World → Prop) (B : Nat) (HL : Hid (Bds w (A, m, c) L)) (hm : m ≤ 10) (HN : Hid (∀ b ∈ L, b.s.2.1 ≤ 1000000)) (HPR : Hid (∀ b ∈ L, 0 ≤ b.price ∧ b.price ≤ 1099511627776))
    (HR : Hid (∀ W W', R W → KeepsFrom B W W' → R W'))
    (HY : Hid (∀ (st : List Int × Int) (Fs V : Sl) (C : List Int) (v : Int) (W : World), C.length ≤ 10 → ClS w A m c L q R Fs V st C W → YieldAt Fence.wide 4 Try.prog q.l #[slV V, .int .i64 v] W fun e W' => e = .returned (.bool true) ∧ ∃ Fs', ClS w A m c L q R Fs' V (stepB v C st) C W' ∧ Mod (F0 w B W) W W')) :
    ∀ (k from_ : Nat) (C : List Int) (v : Int) (st : List Int × Int) (Fs V : Sl) (W : World), from_ + k = m → Hid (ClS w A m c L q R Fs V st C W) → 0 ≤ v → Hid (v + restS L from_ ≤ 10995116277760) → Hid (C.length ≤ from_ ∧ ∀ x ∈ C, 0 ≤ x ∧ x < (m : Int)) →
    Calls Try.prog 77 #[.int .i64 (from_ : Int), .int .i64 v, .pointer (some ⟨q.gy, 0, none⟩), .pointer (some ⟨q.gc, 0, none⟩), .pointer (some ⟨w.heap.size + 2, 0, none⟩), .pointer (some ⟨w.heap.size + 3, 0, none⟩), .pointer (some ⟨q.gr, 0, none⟩), .pointer (some ⟨q.gt, 0, none⟩)] W (TryPost w A m c L q R B V C (loopB L k from_ C v (stepB v C st)) W) := by
  intro k
  induction k using Nat.strongRecOn with
  | ind k ih =>
  intro from_ C v st Fs V W hk HS hv0 HV HC
  have hlen := HL.out.rows.len
  dsimp only at hlen
  have HLM := Lib.hid hlen
  clear hlen
  obtain ⟨Af, nf, cf⟩ := Fs
  obtain ⟨Ac, nc, cc⟩ := V
  have HGC : Hid (q.gc < W.heap.size ∧ w.heap.size + 3 < W.heap.size) := Lib.hid ⟨HS.out.t.cb.lt, HS.out.b.lt⟩
  have hy := HY.out st _ _ C v W (by have := HC.out.1; omega) HS.out
  have y0 := HS.out.t.yb.cell 0
  have y1 := HS.out.t.cb.cell 0
  unfold slV at hy y1
  dsimp only at hy y1
  simp at y0 y1
  obtain ⟨fn, tmps, assign, body, hy1, hy2⟩ := hy
  obtain ⟨T, hT⟩ : ∃ T, loopB L k from_ C v (stepB v C st) = T := ⟨_, rfl⟩
  rw [hT]
  have HIH := Lib.hid ih
  clear ih
  go_enter Try.func77, Try.ntmps77
  go_upto_region 1 with (fail)
  refine (wpIn_wide (n := 5)).1 ?_
  gi_wp2_with (refine hy2.mono ?_; clear hy2; rintro e W1 ⟨rfl, Fs1, hS1, hM1⟩)
  clear y0 y1 hy1
  go_wp2
  have HI0 : Hid (LI w A m c L q R B (Ac, nc, cc) C v T W from_ W1.heap.size (stepB v C st) Fs1 (Ac, nc, cc) (W1.alloc (.cells #[.int .i64 (from_ : Int)] 3))) := Lib.hid (by
    have hb : Below W1.heap.size W1 (W1.alloc (.cells #[.int .i64 (from_ : Int)] 3)) := (Below.refl _ _).alloc (Nat.le_refl _) _
    refine ⟨hS1.all HR.out hb, Blk.new _ _ _, ⟨hM1.size, fun e => ?_⟩, ?_, (hM1.mono (fun b hb => .inl (FT.of0 hb))).then_below hb, fun b hb => .inl hb⟩
    · have := (own_ge hS1.t.co e).2
      omega
    · rw [show m - from_ = k by omega]
      exact hT)
  clear hT hS1 hM1 HS
--@1
  go_loopw [11] (fun p wr => ∃ (i gi : Nat) (st' : List Int × Int) (Fs' V' : Sl), p = .pointer (some ⟨gi, 0, none⟩) ∧ from_ ≤ i ∧ i ≤ m ∧ Hid (LI w A m c L q R B (Ac, nc, cc) C v T W i gi st' Fs' V' wr)) (fun p wr => leftP m p wr)
  case atStart => exact ⟨from_, _, _, Fs1, (Ac, nc, cc), rfl, Nat.le_refl _, by omega, HI0⟩
  case round =>
    clear HI0
    obtain ⟨i, gi, st', ⟨A1, n1, c1⟩, ⟨A2, n2, c2⟩, rfl, hfi, him, HI⟩ := hrel
    rcases st' with ⟨found, mo⟩
    have HLP := Lib.hid (leftP_at (m := m) HI.out.bi)
    by_cases hi : i < m
    rotate_left
    · obtain rfl : i = m := by omega
      have HC4 : Hid ((fun w' => w'.cell? ⟨gi, 0, none⟩ = some (.int .i64 (i : Int)) ∧ w'.cell? ⟨w.heap.size + 2, 0, none⟩ = some (.slice A i c)) wr.drew) := Lib.hid ⟨HI.out.bi.cell 0, HI.out.s.b.lb.cell 0⟩
      have HF : Hid (TryPost w A i c L q R B (Ac, nc, cc) C T W (.returned (.bool true)) wr.drew) := Lib.hid (by
        have hb : Below wr.heap.size wr wr.drew := below_drewN (Below.refl _ _) 1
        have h := HI.out.all HR.out hb
        have he := h.eq
        rw [Nat.sub_self] at he
        have he2 : (found, mo) = T := he
        subst he2
        exact ⟨rfl, _, _, h.s, h.mo, h.ow⟩)
      clear HIH HI
      go_wp2
      refine wp_region_held_drew (S := (fun w' => w'.cell? ⟨gi, 0, none⟩ = some (.int .i64 (i : Int)) ∧ w'.cell? ⟨w.heap.size + 2, 0, none⟩ = some (.slice A i c))) (by kernel_rfl) HC4.out (fun hHeld => ?_)
      refine takeH 0 (some 19) (v := ?_) (by rfl) (by rfl) (by kernel_rfl) (by kernel_rfl) (by kernel_rfl) (fun _ _ _ h => h) ?_ (by assumption) ?_
      rotate_left
      · (intro o ho w hSw; obtain ⟨z0, z1⟩ := hSw; cases ho; go_simp; try with_reducible rfl)
      try simp only [Act.put, List.setIfInBounds_toArray, List.set_cons_zero, List.set_cons_succ]
      refine takeH 1 (some 20) (v := ?_) (by rfl) (by rfl) (by kernel_rfl) (by kernel_rfl) (by kernel_rfl) (fun _ _ _ h => h) ?_ (by assumption) ?_
      rotate_left
      · (intro o ho w hSw; obtain ⟨z0, z1⟩ := hSw; cases ho; go_simp; try with_reducible rfl)
      try simp only [Act.put, List.setIfInBounds_toArray, List.set_cons_zero, List.set_cons_succ]
      refine takeH 2 (some 21) (v := ?_) (by rfl) (by rfl) (by kernel_rfl) (by kernel_rfl) (by kernel_rfl) (fun _ _ _ h => h) ?_ (by assumption) ?_
      rotate_left
      · (intro o ho w hSw; obtain ⟨z0, z1⟩ := hSw; cases ho; go_simp; try with_reducible rfl)
      try simp only [Act.put, List.setIfInBounds_toArray, List.set_cons_zero, List.set_cons_succ]
      refine takeH 3 (some 22) (v := .bool false) (by rfl) (by rfl) (by kernel_rfl) (by kernel_rfl) (by kernel_rfl) (fun _ _ _ h => h) ?_ (by assumption) ?_
      skip
      · (intro o ho w hSw; obtain ⟨z0, z1⟩ := hSw; cases ho; go_simp; try with_reducible rfl)
      try simp only [Act.put, List.setIfInBounds_toArray, List.set_cons_zero, List.set_cons_succ]
      refine takeH 4 (some 23) (v := .bool false) (by rfl) (by rfl) (by kernel_rfl) (by kernel_rfl) (by kernel_rfl) (fun _ _ _ h => h) ?_ (by assumption) ?_
      skip
      · (intro o ho w hSw; obtain ⟨z0, z1⟩ := hSw; cases ho; go_simp; try with_reducible rfl)
      try simp only [Act.put, List.setIfInBounds_toArray, List.set_cons_zero, List.set_cons_succ]
      first
      | refine skipH 5 (some 24) (by rfl) (by rfl) (by kernel_rfl) (by kernel_rfl) (by kernel_rfl) (fun _ _ _ h => h) (by assumption) ?_
      | refine takeH 5 (some 24) (v := ?_) (by rfl) (by rfl) (by kernel_rfl) (by kernel_rfl) (by kernel_rfl) (fun _ _ _ h => h) ?_ (by assumption) ?_
        rotate_left
        · (intro o ho w hSw; obtain ⟨z0, z1⟩ := hSw; cases ho; go_simp; try with_reducible rfl)
      try simp only [Act.put, List.setIfInBounds_toArray, List.set_cons_zero, List.set_cons_succ]
      first
      | refine skipH 6 (some 25) (by rfl) (by rfl) (by kernel_rfl) (by kernel_rfl) (by kernel_rfl) (fun _ _ _ h => h) (by assumption) ?_
      | refine takeH 6 (some 25) (v := ?_) (by rfl) (by rfl) (by kernel_rfl) (by kernel_rfl) (by kernel_rfl) (fun _ _ _ h => h) ?_ (by assumption) ?_
        rotate_left
        · (intro o ho w hSw; obtain ⟨z0, z1⟩ := hSw; cases ho; go_simp; try with_reducible rfl)
      try simp only [Act.put, List.setIfInBounds_toArray, List.set_cons_zero, List.set_cons_succ]
      first
      | refine skipH 7 (some 26) (by rfl) (by rfl) (by kernel_rfl) (by kernel_rfl) (by kernel_rfl) (fun _ _ _ h => h) (by assumption) ?_
      | refine takeH 7 (some 26) (v := ?_) (by rfl) (by rfl) (by kernel_rfl) (by kernel_rfl) (by kernel_rfl) (fun _ _ _ h => h) ?_ (by assumption) ?_
        rotate_left
        · (intro o ho w hSw; obtain ⟨z0, z1⟩ := hSw; cases ho; go_simp; try with_reducible rfl)
      try simp only [Act.put, List.setIfInBounds_toArray, List.set_cons_zero, List.set_cons_succ]
      first
      | refine skipH 8 (some 27) (by rfl) (by rfl) (by kernel_rfl) (by kernel_rfl) (by kernel_rfl) (fun _ _ _ h => h) (by assumption) ?_
      | refine takeH 8 (some 27) (v := ?_) (by rfl) (by rfl) (by kernel_rfl) (by kernel_rfl) (by kernel_rfl) (fun _ _ _ h => h) ?_ (by assumption) ?_
        rotate_left
        · (intro o ho w hSw; obtain ⟨z0, z1⟩ := hSw; cases ho; go_simp; try with_reducible rfl)
      try simp only [Act.put, List.setIfInBounds_toArray, List.set_cons_zero, List.set_cons_succ]
      first
      | refine skipH 9 (some 28) (by rfl) (by rfl) (by kernel_rfl) (by kernel_rfl) (by kernel_rfl) (fun _ _ _ h => h) (by assumption) ?_
      | refine takeH 9 (some 28) (v := ?_) (by rfl) (by rfl) (by kernel_rfl) (by kernel_rfl) (by kernel_rfl) (fun _ _ _ h => h) ?_ (by assumption) ?_
        rotate_left
        · (intro o ho w hSw; obtain ⟨z0, z1⟩ := hSw; cases ho; go_simp; try with_reducible rfl)
      try simp only [Act.put, List.setIfInBounds_toArray, List.set_cons_zero, List.set_cons_succ]
      first
      | refine skipH 10 (some 29) (by rfl) (by rfl) (by kernel_rfl) (by kernel_rfl) (by kernel_rfl) (fun _ _ _ h => h) (by assumption) ?_
      | refine takeH 10 (some 29) (v := ?_) (by rfl) (by rfl) (by kernel_rfl) (by kernel_rfl) (by kernel_rfl) (fun _ _ _ h => h) ?_ (by assumption) ?_
        rotate_left
        · (intro o ho w hSw; obtain ⟨z0, z1⟩ := hSw; cases ho; go_simp; try with_reducible rfl)
      try simp only [Act.put, List.setIfInBounds_toArray, List.set_cons_zero, List.set_cons_succ]
      first
      | refine skipH 11 (some 30) (by rfl) (by rfl) (by kernel_rfl) (by kernel_rfl) (by kernel_rfl) (fun _ _ _ h => h) (by assumption) ?_
      | refine takeH 11 (some 30) (v := ?_) (by rfl) (by rfl) (by kernel_rfl) (by kernel_rfl) (by kernel_rfl) (fun _ _ _ h => h) ?_ (by assumption) ?_
        rotate_left
        · (intro o ho w hSw; obtain ⟨z0, z1⟩ := hSw; cases ho; go_simp; try with_reducible rfl)
      try simp only [Act.put, List.setIfInBounds_toArray, List.set_cons_zero, List.set_cons_succ]
      first
      | refine skipH 12 (some 31) (by rfl) (by rfl) (by kernel_rfl) (by kernel_rfl) (by kernel_rfl) (fun _ _ _ h => h) (by assumption) ?_
      | refine takeH 12 (some 31) (v := ?_) (by rfl) (by rfl) (by kernel_rfl) (by kernel_rfl) (by kernel_rfl) (fun _ _ _ h => h) ?_ (by assumption) ?_
        rotate_left
        · (intro o ho w hSw; obtain ⟨z0, z1⟩ := hSw; cases ho; go_simp; try with_reducible rfl)
      try simp only [Act.put, List.setIfInBounds_toArray, List.set_cons_zero, List.set_cons_succ]
      refine takeH 13 (some 32) (v := .bool false) (by rfl) (by rfl) (by kernel_rfl) (by kernel_rfl) (by kernel_rfl) (fun _ _ _ h => h) ?_ (by assumption) ?_
      skip
      · (intro o ho w hSw; obtain ⟨z0, z1⟩ := hSw; cases ho; go_simp; try with_reducible rfl)
      try simp only [Act.put, List.setIfInBounds_toArray, List.set_cons_zero, List.set_cons_succ]
      refine wpAnyH_done (by kernel_rfl) ?_ _
      clear hHeld HC4
      go_wp2
      go_ret
      exact HF.out
    obtain ⟨x, hx⟩ : ∃ x, restS L i = x := ⟨_, rfl⟩
    have HX := Lib.hid hx
    have hlx : i < L.length := by rw [HLM.out]; exact hi
    have hrx := restS_ok HPR.out (L.length - i) i (by omega)
    have hvx : 0 ≤ v + x ∧ v + x ≤ 10995116277760 := by
      rw [hx] at hrx
      have hmono : ∀ (d a : Nat), a + d = i → restS L i ≤ restS L a := fun d => by
        induction d with
        | zero => intro a ha; rw [show a = i by omega]; exact Int.le_refl _
        | succ d ihd =>
          intro a ha
          have h1 := ihd (a + 1) (by omega)
          have h2 := restS_at (L := L) (i := a) (by omega)
          have h3 := HPR.out _ (List.getElem_mem (show a < L.length by omega))
          rw [bdAt_eq (by omega)] at h2
          omega
      have h4 := hmono (i - from_) from_ (by omega)
      have h5 := HV.out
      omega
    have HC4 : Hid ((fun w' => w'.cell? ⟨gi, 0, none⟩ = some (.int .i64 (i : Int)) ∧ w'.cell? ⟨w.heap.size + 2, 0, none⟩ = some (.slice A m c) ∧ w'.cell? ⟨w.heap.size + 3, 0, none⟩ = some (.func (.func 69) #[] #[.pointer (some ⟨w.heap.size + 1, 0, none⟩)]) ∧ w'.cell? ⟨q.gr, 0, none⟩ = some (.slice (some ⟨q.rr, 0, none⟩) (m + 1) (m + 1)) ∧ w'.cell? ⟨q.rr, i, none⟩ = some (.int .i64 x) ∧ w'.cell? ⟨w.heap.size + 1, 0, none⟩ = some (.int .i64 mo)) wr.drew) := Lib.hid ⟨HI.out.bi.cell 0, HI.out.s.b.lb.cell 0, HI.out.s.b.eb.cell 0, HI.out.s.t.rb.cell 0, by rw [← HX.out]; exact (HI.out.s.t.ra.cell i).trans (restV_at L (by omega)), HI.out.s.b.mb.cell 0⟩
    obtain ⟨hvx0, hvx1⟩ := hvx
    have hii : (i : Int) < (m : Int) := by omega
    have hi1 : (i : Int) < (m : Int) + 1 := by omega
    clear hx hrx
    rcases hE : decide (mo < v + x) with _ | _
    · have HF : Hid (TryPost w A m c L q R B (Ac, nc, cc) C T W (.returned (.bool true)) wr.drew) := Lib.hid (by
        have hb : Below wr.heap.size wr wr.drew := below_drewN (Below.refl _ _) 1
        have h := HI.out.all HR.out hb
        have he := h.eq
        rw [loopB_no (by rw [HX.out]; simpa using hE)] at he
        subst he
        exact ⟨rfl, _, _, h.s, h.mo, h.ow⟩)
      clear HIH HI
      go_wp2
      refine wp_region_held_drew (S := (fun w' => w'.cell? ⟨gi, 0, none⟩ = some (.int .i64 (i : Int)) ∧ w'.cell? ⟨w.heap.size + 2, 0, none⟩ = some (.slice A m c) ∧ w'.cell? ⟨w.heap.size + 3, 0, none⟩ = some (.func (.func 69) #[] #[.pointer (some ⟨w.heap.size + 1, 0, none⟩)]) ∧ w'.cell? ⟨q.gr, 0, none⟩ = some (.slice (some ⟨q.rr, 0, none⟩) (m + 1) (m + 1)) ∧ w'.cell? ⟨q.rr, i, none⟩ = some (.int .i64 x) ∧ w'.cell? ⟨w.heap.size + 1, 0, none⟩ = some (.int .i64 mo))) (by kernel_rfl) HC4.out (fun hHeld => ?_)
      refine takeH 0 (some 19) (v := ?_) (by rfl) (by rfl) (by kernel_rfl) (by kernel_rfl) (by kernel_rfl) (fun _ _ _ h => h) ?_ (by assumption) ?_
      rotate_left
      · (intro o ho w hSw; obtain ⟨z0, z1, z2, z3, z4, z5⟩ := hSw; cases ho; go_simp; try with_reducible rfl)
      try simp only [Act.put, List.setIfInBounds_toArray, List.set_cons_zero, List.set_cons_succ]
      refine takeH 1 (some 20) (v := ?_) (by rfl) (by rfl) (by kernel_rfl) (by kernel_rfl) (by kernel_rfl) (fun _ _ _ h => h) ?_ (by assumption) ?_
      rotate_left
      · (intro o ho w hSw; obtain ⟨z0, z1, z2, z3, z4, z5⟩ := hSw; cases ho; go_simp; try with_reducible rfl)
      try simp only [Act.put, List.setIfInBounds_toArray, List.set_cons_zero, List.set_cons_succ]
      refine takeH 2 (some 21) (v := ?_) (by rfl) (by rfl) (by kernel_rfl) (by kernel_rfl) (by kernel_rfl) (fun _ _ _ h => h) ?_ (by assumption) ?_
      rotate_left
      · (intro o ho w hSw; obtain ⟨z0, z1, z2, z3, z4, z5⟩ := hSw; cases ho; go_simp; try with_reducible rfl)
      try simp only [Act.put, List.setIfInBounds_toArray, List.set_cons_zero, List.set_cons_succ]
      refine takeH 3 (some 22) (v := .bool true) (by rfl) (by rfl) (by kernel_rfl) (by kernel_rfl) (by kernel_rfl) (fun _ _ _ h => h) ?_ (by assumption) ?_
      skip
      · (intro o ho w hSw; obtain ⟨z0, z1, z2, z3, z4, z5⟩ := hSw; cases ho; go_simp; try with_reducible rfl)
      try simp only [Act.put, List.setIfInBounds_toArray, List.set_cons_zero, List.set_cons_succ]
      refine takeH 4 (some 23) (v := .bool true) (by rfl) (by rfl) (by kernel_rfl) (by kernel_rfl) (by kernel_rfl) (fun _ _ _ h => h) ?_ (by assumption) ?_
      skip
      · (intro o ho w hSw; obtain ⟨z0, z1, z2, z3, z4, z5⟩ := hSw; cases ho; go_simp; try with_reducible rfl)
      try simp only [Act.put, List.setIfInBounds_toArray, List.set_cons_zero, List.set_cons_succ]
      first
      | refine skipH 5 (some 24) (by rfl) (by rfl) (by kernel_rfl) (by kernel_rfl) (by kernel_rfl) (fun _ _ _ h => h) (by assumption) ?_
      | refine takeH 5 (some 24) (v := ?_) (by rfl) (by rfl) (by kernel_rfl) (by kernel_rfl) (by kernel_rfl) (fun _ _ _ h => h) ?_ (by assumption) ?_
        rotate_left
        · (intro o ho w hSw; obtain ⟨z0, z1, z2, z3, z4, z5⟩ := hSw; cases ho; go_simp; try with_reducible rfl)
      try simp only [Act.put, List.setIfInBounds_toArray, List.set_cons_zero, List.set_cons_succ]
      first
      | refine skipH 6 (some 25) (by rfl) (by rfl) (by kernel_rfl) (by kernel_rfl) (by kernel_rfl) (fun _ _ _ h => h) (by assumption) ?_
      | refine takeH 6 (some 25) (v := ?_) (by rfl) (by rfl) (by kernel_rfl) (by kernel_rfl) (by kernel_rfl) (fun _ _ _ h => h) ?_ (by assumption) ?_
        rotate_left
        · (intro o ho w hSw; obtain ⟨z0, z1, z2, z3, z4, z5⟩ := hSw; cases ho; go_simp; try with_reducible rfl)
      try simp only [Act.put, List.setIfInBounds_toArray, List.set_cons_zero, List.set_cons_succ]
      first
      | refine skipH 7 (some 26) (by rfl) (by rfl) (by kernel_rfl) (by kernel_rfl) (by kernel_rfl) (fun _ _ _ h => h) (by assumption) ?_
      | refine takeH 7 (some 26) (v := ?_) (by rfl) (by rfl) (by kernel_rfl) (by kernel_rfl) (by kernel_rfl) (fun _ _ _ h => h) ?_ (by assumption) ?_
        rotate_left
        · (intro o ho w hSw; obtain ⟨z0, z1, z2, z3, z4, z5⟩ := hSw; cases ho; go_simp; try with_reducible rfl)
      try simp only [Act.put, List.setIfInBounds_toArray, List.set_cons_zero, List.set_cons_succ]
      first
      | refine skipH 8 (some 27) (by rfl) (by rfl) (by kernel_rfl) (by kernel_rfl) (by kernel_rfl) (fun _ _ _ h => h) (by assumption) ?_
      | refine takeH 8 (some 27) (v := ?_) (by rfl) (by rfl) (by kernel_rfl) (by kernel_rfl) (by kernel_rfl) (fun _ _ _ h => h) ?_ (by assumption) ?_
        rotate_left
        · (intro o ho w hSw; obtain ⟨z0, z1, z2, z3, z4, z5⟩ := hSw; cases ho; go_simp; try with_reducible rfl)
      try simp only [Act.put, List.setIfInBounds_toArray, List.set_cons_zero, List.set_cons_succ]
      first
      | refine skipH 9 (some 28) (by rfl) (by rfl) (by kernel_rfl) (by kernel_rfl) (by kernel_rfl) (fun _ _ _ h => h) (by assumption) ?_
      | refine takeH 9 (some 28) (v := ?_) (by rfl) (by rfl) (by kernel_rfl) (by kernel_rfl) (by kernel_rfl) (fun _ _ _ h => h) ?_ (by assumption) ?_
        rotate_left
        · (intro o ho w hSw; obtain ⟨z0, z1, z2, z3, z4, z5⟩ := hSw; cases ho; go_simp; try with_reducible rfl)
      try simp only [Act.put, List.setIfInBounds_toArray, List.set_cons_zero, List.set_cons_succ]
      first
      | refine skipH 10 (some 29) (by rfl) (by rfl) (by kernel_rfl) (by kernel_rfl) (by kernel_rfl) (fun _ _ _ h => h) (by assumption) ?_
      | refine takeH 10 (some 29) (v := ?_) (by rfl) (by rfl) (by kernel_rfl) (by kernel_rfl) (by kernel_rfl) (fun _ _ _ h => h) ?_ (by assumption) ?_
        rotate_left
        · (intro o ho w hSw; obtain ⟨z0, z1, z2, z3, z4, z5⟩ := hSw; cases ho; go_simp; try with_reducible rfl)
      try simp only [Act.put, List.setIfInBounds_toArray, List.set_cons_zero, List.set_cons_succ]
      first
      | refine skipH 11 (some 30) (by rfl) (by rfl) (by kernel_rfl) (by kernel_rfl) (by kernel_rfl) (fun _ _ _ h => h) (by assumption) ?_
      | refine takeH 11 (some 30) (v := .int .i64 (v + x)) (by rfl) (by rfl) (by kernel_rfl) (by kernel_rfl) (by kernel_rfl) (fun _ _ _ h => h) ?_ (by assumption) ?_
        skip
        · (intro o ho w hSw; obtain ⟨z0, z1, z2, z3, z4, z5⟩ := hSw; cases ho; go_simp; rw [IntKind.wrap_i64]; omega)
      try simp only [Act.put, List.setIfInBounds_toArray, List.set_cons_zero, List.set_cons_succ]
      refine wpAnyH_ready (rs := [12]) (by kernel_rfl) (by simp) ?_
      refine AllReadyH.cons rfl (fun K hK => ?_) AllReadyH.nil
      go_simp
      go_at_call 69
      (refine (enough_any (v + x) mo (w.heap.size + 1) _ hHeld.2.2.2.2.2).mono ?_)
      rw [hE]
      rintro e w4 ⟨rfl, rfl⟩
      go_wp2
      refine hK.out _ _ ?_ (fun hh4 => ?_)
      · exact hHeld
      clear hK K
      try simp only [Act.put, List.setIfInBounds_toArray, List.set_cons_zero, List.set_cons_succ]
      refine takeH 13 (some 32) (v := ?_) (by rfl) (by rfl) (by kernel_rfl) (by kernel_rfl) (by kernel_rfl) (fun _ _ _ h => h) ?_ (by assumption) ?_
      rotate_left
      · (intro o ho w hSw; obtain ⟨z0, z1, z2, z3, z4, z5⟩ := hSw; cases ho; go_simp; try with_reducible rfl)
      try simp only [Act.put, List.setIfInBounds_toArray, List.set_cons_zero, List.set_cons_succ]
      refine wpAnyH_done (by kernel_rfl) ?_ _
      clear hHeld hh4 HC4
      go_wp2
      go_ret
      exact HF.out
    have HE : Hid (mo < v + restS L i) := Lib.hid (by rw [HX.out]; simpa using hE)
    go_wp2
    refine wp_region_held_drew (S := (fun w' => w'.cell? ⟨gi, 0, none⟩ = some (.int .i64 (i : Int)) ∧ w'.cell? ⟨w.heap.size + 2, 0, none⟩ = some (.slice A m c) ∧ w'.cell? ⟨w.heap.size + 3, 0, none⟩ = some (.func (.func 69) #[] #[.pointer (some ⟨w.heap.size + 1, 0, none⟩)]) ∧ w'.cell? ⟨q.gr, 0, none⟩ = some (.slice (some ⟨q.rr, 0, none⟩) (m + 1) (m + 1)) ∧ w'.cell? ⟨q.rr, i, none⟩ = some (.int .i64 x) ∧ w'.cell? ⟨w.heap.size + 1, 0, none⟩ = some (.int .i64 mo))) (by kernel_rfl) HC4.out (fun hHeld => ?_)
    refine takeH 0 (some 19) (v := ?_) (by rfl) (by rfl) (by kernel_rfl) (by kernel_rfl) (by kernel_rfl) (fun _ _ _ h => h) ?_ (by assumption) ?_
    rotate_left
    · (intro o ho w hSw; obtain ⟨z0, z1, z2, z3, z4, z5⟩ := hSw; cases ho; go_simp; try with_reducible rfl)
    try simp only [Act.put, List.setIfInBounds_toArray, List.set_cons_zero, List.set_cons_succ]
    refine takeH 1 (some 20) (v := ?_) (by rfl) (by rfl) (by kernel_rfl) (by kernel_rfl) (by kernel_rfl) (fun _ _ _ h => h) ?_ (by assumption) ?_
    rotate_left
    · (intro o ho w hSw; obtain ⟨z0, z1, z2, z3, z4, z5⟩ := hSw; cases ho; go_simp; try with_reducible rfl)
    try simp only [Act.put, List.setIfInBounds_toArray, List.set_cons_zero, List.set_cons_succ]
    refine takeH 2 (some 21) (v := ?_) (by rfl) (by rfl) (by kernel_rfl) (by kernel_rfl) (by kernel_rfl) (fun _ _ _ h => h) ?_ (by assumption) ?_
    rotate_left
    · (intro o ho w hSw; obtain ⟨z0, z1, z2, z3, z4, z5⟩ := hSw; cases ho; go_simp; try with_reducible rfl)
    try simp only [Act.put, List.setIfInBounds_toArray, List.set_cons_zero, List.set_cons_succ]
    refine takeH 3 (some 22) (v := .bool true) (by rfl) (by rfl) (by kernel_rfl) (by kernel_rfl) (by kernel_rfl) (fun _ _ _ h => h) ?_ (by assumption) ?_
    skip
    · (intro o ho w hSw; obtain ⟨z0, z1, z2, z3, z4, z5⟩ := hSw; cases ho; go_simp; try with_reducible rfl)
    try simp only [Act.put, List.setIfInBounds_toArray, List.set_cons_zero, List.set_cons_succ]
    refine takeH 4 (some 23) (v := .bool true) (by rfl) (by rfl) (by kernel_rfl) (by kernel_rfl) (by kernel_rfl) (fun _ _ _ h => h) ?_ (by assumption) ?_
    skip
    · (intro o ho w hSw; obtain ⟨z0, z1, z2, z3, z4, z5⟩ := hSw; cases ho; go_simp; try with_reducible rfl)
    try simp only [Act.put, List.setIfInBounds_toArray, List.set_cons_zero, List.set_cons_succ]
    first
    | refine skipH 5 (some 24) (by rfl) (by rfl) (by kernel_rfl) (by kernel_rfl) (by kernel_rfl) (fun _ _ _ h => h) (by assumption) ?_
    | refine takeH 5 (some 24) (v := ?_) (by rfl) (by rfl) (by kernel_rfl) (by kernel_rfl) (by kernel_rfl) (fun _ _ _ h => h) ?_ (by assumption) ?_
      rotate_left
      · (intro o ho w hSw; obtain ⟨z0, z1, z2, z3, z4, z5⟩ := hSw; cases ho; go_simp; try with_reducible rfl)
    try simp only [Act.put, List.setIfInBounds_toArray, List.set_cons_zero, List.set_cons_succ]
    first
    | refine skipH 6 (some 25) (by rfl) (by rfl) (by kernel_rfl) (by kernel_rfl) (by kernel_rfl) (fun _ _ _ h => h) (by assumption) ?_
    | refine takeH 6 (some 25) (v := ?_) (by rfl) (by rfl) (by kernel_rfl) (by kernel_rfl) (by kernel_rfl) (fun _ _ _ h => h) ?_ (by assumption) ?_
      rotate_left
      · (intro o ho w hSw; obtain ⟨z0, z1, z2, z3, z4, z5⟩ := hSw; cases ho; go_simp; try with_reducible rfl)
    try simp only [Act.put, List.setIfInBounds_toArray, List.set_cons_zero, List.set_cons_succ]
    first
    | refine skipH 7 (some 26) (by rfl) (by rfl) (by kernel_rfl) (by kernel_rfl) (by kernel_rfl) (fun _ _ _ h => h) (by assumption) ?_
    | refine takeH 7 (some 26) (v := ?_) (by rfl) (by rfl) (by kernel_rfl) (by kernel_rfl) (by kernel_rfl) (fun _ _ _ h => h) ?_ (by assumption) ?_
      rotate_left
      · (intro o ho w hSw; obtain ⟨z0, z1, z2, z3, z4, z5⟩ := hSw; cases ho; go_simp; try with_reducible rfl)
    try simp only [Act.put, List.setIfInBounds_toArray, List.set_cons_zero, List.set_cons_succ]
    first
    | refine skipH 8 (some 27) (by rfl) (by rfl) (by kernel_rfl) (by kernel_rfl) (by kernel_rfl) (fun _ _ _ h => h) (by assumption) ?_
    | refine takeH 8 (some 27) (v := ?_) (by rfl) (by rfl) (by kernel_rfl) (by kernel_rfl) (by kernel_rfl) (fun _ _ _ h => h) ?_ (by assumption) ?_
      rotate_left
      · (intro o ho w hSw; obtain ⟨z0, z1, z2, z3, z4, z5⟩ := hSw; cases ho; go_simp; try with_reducible rfl)
    try simp only [Act.put, List.setIfInBounds_toArray, List.set_cons_zero, List.set_cons_succ]
    first
    | refine skipH 9 (some 28) (by rfl) (by rfl) (by kernel_rfl) (by kernel_rfl) (by kernel_rfl) (fun _ _ _ h => h) (by assumption) ?_
    | refine takeH 9 (some 28) (v := ?_) (by rfl) (by rfl) (by kernel_rfl) (by kernel_rfl) (by kernel_rfl) (fun _ _ _ h => h) ?_ (by assumption) ?_
      rotate_left
      · (intro o ho w hSw; obtain ⟨z0, z1, z2, z3, z4, z5⟩ := hSw; cases ho; go_simp; try with_reducible rfl)
    try simp only [Act.put, List.setIfInBounds_toArray, List.set_cons_zero, List.set_cons_succ]
    first
    | refine skipH 10 (some 29) (by rfl) (by rfl) (by kernel_rfl) (by kernel_rfl) (by kernel_rfl) (fun _ _ _ h => h) (by assumption) ?_
    | refine takeH 10 (some 29) (v := ?_) (by rfl) (by rfl) (by kernel_rfl) (by kernel_rfl) (by kernel_rfl) (fun _ _ _ h => h) ?_ (by assumption) ?_
      rotate_left
      · (intro o ho w hSw; obtain ⟨z0, z1, z2, z3, z4, z5⟩ := hSw; cases ho; go_simp; try with_reducible rfl)
    try simp only [Act.put, List.setIfInBounds_toArray, List.set_cons_zero, List.set_cons_succ]
    first
    | refine skipH 11 (some 30) (by rfl) (by rfl) (by kernel_rfl) (by kernel_rfl) (by kernel_rfl) (fun _ _ _ h => h) (by assumption) ?_
    | refine takeH 11 (some 30) (v := .int .i64 (v + x)) (by rfl) (by rfl) (by kernel_rfl) (by kernel_rfl) (by kernel_rfl) (fun _ _ _ h => h) ?_ (by assumption) ?_
      skip
      · (intro o ho w hSw; obtain ⟨z0, z1, z2, z3, z4, z5⟩ := hSw; cases ho; go_simp; rw [IntKind.wrap_i64]; omega)
    try simp only [Act.put, List.setIfInBounds_toArray, List.set_cons_zero, List.set_cons_succ]
    refine wpAnyH_ready (rs := [12]) (by kernel_rfl) (by simp) ?_
    refine AllReadyH.cons rfl (fun K hK => ?_) AllReadyH.nil
    go_simp
    go_at_call 69
    (refine (enough_any (v + x) mo (w.heap.size + 1) _ hHeld.2.2.2.2.2).mono ?_)
    rw [hE]
    rintro e w4 ⟨rfl, rfl⟩
    go_wp2
    refine hK.out _ _ ?_ (fun hh4 => ?_)
    · exact hHeld
    clear hK K
    try simp only [Act.put, List.setIfInBounds_toArray, List.set_cons_zero, List.set_cons_succ]
    refine takeH 13 (some 32) (v := ?_) (by rfl) (by rfl) (by kernel_rfl) (by kernel_rfl) (by kernel_rfl) (fun _ _ _ h => h) ?_ (by assumption) ?_
    rotate_left
    · (intro o ho w hSw; obtain ⟨z0, z1, z2, z3, z4, z5⟩ := hSw; cases ho; go_simp; try with_reducible rfl)
    try simp only [Act.put, List.setIfInBounds_toArray, List.set_cons_zero, List.set_cons_succ]
    refine wpAnyH_done (by kernel_rfl) ?_ _
    clear hHeld hh4 HC4 hE
--@2
    have hb5 : Below wr.heap.size wr wr.drew := below_drewN (Below.refl _ _) 1
    obtain ⟨w5, hw5⟩ : ∃ w5, wr.drew = w5 := ⟨_, rfl⟩
    rw [hw5] at hb5 ⊢
    have HI5 := Lib.hid (HI.out.all HR.out hb5)
    clear hw5 hb5 HI
    have q0 := HI5.out.s.t.cb.cell 0
    unfold slV at q0
    dsimp only at q0
    simp at q0
    have HN2 : Hid (C.length = n2) := Lib.hid HI5.out.s.t.co.len
    have hn2 : n2 ≤ 10 := by
      have h1 := HI5.out.s.t.co.len
      dsimp only at h1
      have := HC.out.1
      omega
    have hcon := contK_any A m c L i (w.heap.size + 2) gi A2 n2 c2 C w5 (Lib.hid HI5.out.s.t.co.nin) (Lib.hid (HL.out.all HI5.out.s.b.below)) hi (by omega) HN (Lib.hid (fun t ht => by
      have h1 := HI5.out.s.t.co.len
      dsimp only at h1
      rw [List.getElem?_eq_getElem (by omega)]
      exact HC.out.2 _ (List.getElem_mem (by omega)))) (Lib.hid (HI5.out.s.b.lb.cell 0)) (Lib.hid (HI5.out.bi.cell 0)) HI5.out.s.b.lb.lt HI5.out.bi.lt
    have HCON := Lib.hid hcon
    clear hcon
    rcases hc : cfl L C i with _ | _
    rotate_left
    · have HCF := Lib.hid hc
      rw [hc] at HCON
      clear HIH hc
      go_upto_region 12 with (go_at_call 78; refine HCON.out.mono ?_; clear HCON; rintro e w6 ⟨rfl, hb6⟩)
      have HI6 := Lib.hid (HI5.out.all HR.out hb6)
      have q1 := HI6.out.bi.cell 0
      simp at q1
      clear hb6 q0
      go_wp2
      exact ⟨⟨i + 1, w6.heap.size, (found, mo), (A1, n1, c1), (A2, n2, c2), rfl, by omega, by omega, Lib.hid (LI.next HR.out HI6.out.s (by
        have h := HI6.out.eq
        rw [show m - i = (m - (i + 1)) + 1 by omega, loopB_skip HE.out HCF.out] at h
        exact h) HI6.out.mo HI6.out.ow)⟩, by
        rw [HLP.out, leftP_at (i := i + 1) (by
          have := Blk.new w6 3 #[.int .i64 ((i : Int) + 1)]
          rw [show ((i + 1 : Nat) : Int) = (i : Int) + 1 by omega]
          exact this)]
        omega⟩
    have HCF := Lib.hid hc
    rw [hc] at HCON
    clear hc
--@3
    go_upto_region 7 with (go_at_call 78; refine HCON.out.mono ?_; clear HCON; rintro e w6 ⟨rfl, hb6⟩)
    have HI6 := Lib.hid (HI5.out.all HR.out hb6)
    have q1 := HI6.out.bi.cell 0
    have q2 := HI6.out.s.t.cb.cell 0
    unfold slV at q2
    dsimp only at q2
    simp at q1 q2
    obtain ⟨A7, c7, w7, hr7, ho7, hb7, hm7, hn7⟩ := app_elem2 (w := w6) 22 slT_ints HI6.out.s.t.co #[.int .i64 (i : Int)] rfl (by intro u hu; simp at hu; subst hu; rfl) (by dsimp only; omega) (by decide) HI6.out.s.b.below.size
    have ho7' : OwnI w7 w.heap.size A7 (n2 + 1) c7 (C ++ [(i : Int)]) := by
      unfold OwnI
      rw [List.map_append]
      exact ho7
    obtain ⟨hS7, hc7, hM7⟩ := HI6.out.s.push HR.out (B := B) (A6 := A7) (n6 := n2 + 1) (c6 := c7) hm7 hn7 ho7'
    have q3 := hc7.cell 0
    have q4 := hc7.frozen 0
    unfold slV at q3
    dsimp only at q3
    simp at q3
    have HR7 := Lib.hid hr7
    clear hb6 q0 hr7 ho7 ho7' hb7 hm7 HI5
    dsimp only at HR7
    go_upto_region 8 with (at_builtin; refine wpList_append_run HR7.out (by rfl) (by rfl) (by rfl) (by rfl) ?_)
--@4
    have HG6 : Hid (gi ≠ w.heap.size ∧ gi ≠ w.heap.size + 1 ∧ gi ≠ q.gc ∧ (slV (A2, n2, c2)).ownBlock ≠ some gi) := Lib.hid (by
      have h1 := HI6.out.ge
      have h2 := HGC.out
      exact ⟨by omega, by omega, by omega, h1.2⟩)
    have HB7 : Hid (Blk (w7.setCell ⟨q.gc, 0, none⟩ (.slice A7 (n2 + 1) c7)) gi 3 #[.int .i64 (i : Int)]) := Lib.hid (hM7.blk HI6.out.bi (fun hf => by
      obtain ⟨h1, h2, h3, h4⟩ := HG6.out
      rcases FT.at_ HI6.out.bi.ty hf with h | h | h | h
      · exact h1 h
      · exact h2 h
      · exact h3 h
      · exact h4 h))
    have HG7 : Hid (¬ (gi = w.heap.size ∨ gi = w.heap.size + 1 ∨ gi = q.gc ∨ (slV (A7, n2 + 1, c7)).ownBlock = some gi)) := Lib.hid (by
      obtain ⟨h1, h2, h3, h4⟩ := HG6.out
      rintro (h | h | h | h)
      · exact h1 h
      · exact h2 h
      · exact h3 h
      · rcases hn7 gi h with h | h
        · exact h4 h
        · have := HI6.out.bi.lt
          omega)
    have HM8 : Hid (Mod (FT w q (Ac, nc, cc) B W) W (w7.setCell ⟨q.gc, 0, none⟩ (.slice A7 (n2 + 1) c7))) := Lib.hid (FT.trans HI6.out.mo HI6.out.ow hM7)
    have HO8 : Hid (∀ b, (slV (A7, n2 + 1, c7)).ownBlock = some b → (slV (Ac, nc, cc)).ownBlock = some b ∨ W.heap.size ≤ b) := Lib.hid (fun b hb => by
      rcases hn7 b hb with h | h
      · exact HI6.out.ow b h
      · exact .inr (Nat.le_trans HI6.out.mo.size h))
    have HEQ := Lib.hid HI6.out.eq
    have HS8 := Lib.hid hS7
    obtain ⟨w8, hw8⟩ : ∃ x, w7.setCell ⟨q.gc, 0, none⟩ (.slice A7 (n2 + 1) c7) = x := ⟨_, rfl⟩
    rw [hw8] at HB7 HM8 HS8 ⊢
    obtain ⟨b, off, bi, pr, sA, sn, sc, lots, hA, hbw, d0, d1, d2, -, he⟩ := HL.out.get hlx
    subst hA
    have HD1 := Lib.hid d1
    have hpr : restS L i = pr + restS L (i + 1) := by rw [restS_at hlx, he]
    have hpp := HPR.out _ (List.getElem_mem hlx)
    rw [← bdAt_eq hlx, he] at hpp
    dsimp only at hpp
    obtain ⟨hp0, hp1⟩ := hpp
    have hpr2 := restS_ok HPR.out (L.length - (i + 1)) (i + 1) (by omega)
    have hvp : v + pr ≤ 10995116277760 := by
      have := HX.out
      omega
    have hbd : Below w8.heap.size w8 w8.drew := below_drewN (Below.refl _ _) 1
    have hih := HIH.out (m - (i + 1)) (by omega) (i + 1) (C ++ [(i : Int)]) (v + pr) (found, mo) (A1, n1, c1) (A7, n2 + 1, c7) w8.drew (by omega) (Lib.hid (HS8.out.all HR.out hbd)) (by omega) (Lib.hid (by have := HX.out; omega)) (Lib.hid (by
      have h1 := HC.out
      refine ⟨by rw [List.length_append, List.length_singleton]; omega, fun x hx => ?_⟩
      rw [List.mem_append, List.mem_singleton] at hx
      rcases hx with h | h
      · exact h1.2 x h
      · rw [h]
        omega))
    rw [show ((i + 1 : Nat) : Int) = (i : Int) + 1 by omega] at hih
    obtain ⟨T9, hT9⟩ : ∃ x, loopB L (m - (i + 1)) (i + 1) (C ++ [(i : Int)]) (v + pr) (stepB (v + pr) (C ++ [(i : Int)]) (found, mo)) = x := ⟨_, rfl⟩
    rw [hT9] at hih
    have HEQ2 : Hid (loopB L (m - (i + 1)) (i + 1) C v T9 = T) := Lib.hid (by
      have h := HEQ.out
      rw [show m - i = (m - (i + 1)) + 1 by omega, loopB_take HE.out HCF.out, he] at h
      dsimp only at h
      rw [hT9] at h
      exact h)
    clear HIH
    have HIH := Lib.hid hih
    have HC8 : Hid ((fun w' => w'.cell? ⟨q.gt, 0, none⟩ = some (.func (.func 77) #[] #[.pointer (some ⟨q.gy, 0, none⟩), .pointer (some ⟨q.gc, 0, none⟩), .pointer (some ⟨w.heap.size + 2, 0, none⟩), .pointer (some ⟨w.heap.size + 3, 0, none⟩), .pointer (some ⟨q.gr, 0, none⟩), .pointer (some ⟨q.gt, 0, none⟩)]) ∧ w'.cell? ⟨gi, 0, none⟩ = some (.int .i64 (i : Int)) ∧ w'.cell? ⟨w.heap.size + 2, 0, none⟩ = some (.slice (some ⟨b, off, none⟩) m c) ∧ w'.cell? ⟨b, off + i * 3 + 1, none⟩ = some (.int .i64 pr)) w8.drew) := Lib.hid ⟨HS8.out.t.tb.cell 0, HB7.out.cell 0, HS8.out.b.lb.cell 0, (HS8.out.b.below.cell (p := ⟨b, off + i * 3 + 1, none⟩) hbw).trans d1⟩
    have HB8 : Hid (Blk w8.drew gi 3 #[.int .i64 (i : Int)]) := Lib.hid (HB7.out.all hbd)
    have HM8d : Hid (Mod (FT w q (Ac, nc, cc) B W) W w8.drew) := Lib.hid HM8.out.drew
    clear hih hT9 d0 d1 d2 he hpr hpr2 hw8 hS7 hM7 hc7 hbd q1 q2 q3 q4 HI6 HB7 HM8 HS8 HEQ HE
    go_wp2
--@5
    refine wp_region_held_drew (S := (fun w' => w'.cell? ⟨q.gt, 0, none⟩ = some (.func (.func 77) #[] #[.pointer (some ⟨q.gy, 0, none⟩), .pointer (some ⟨q.gc, 0, none⟩), .pointer (some ⟨w.heap.size + 2, 0, none⟩), .pointer (some ⟨w.heap.size + 3, 0, none⟩), .pointer (some ⟨q.gr, 0, none⟩), .pointer (some ⟨q.gt, 0, none⟩)]) ∧ w'.cell? ⟨gi, 0, none⟩ = some (.int .i64 (i : Int)) ∧ w'.cell? ⟨w.heap.size + 2, 0, none⟩ = some (.slice (some ⟨b, off, none⟩) m c) ∧ w'.cell? ⟨b, off + i * 3 + 1, none⟩ = some (.int .i64 pr))) (by kernel_rfl) HC8.out (fun hHeld => ?_)
    refine takeH 0 (some 42) (v := ?_) (by rfl) (by rfl) (by kernel_rfl) (by kernel_rfl) (by kernel_rfl) (fun _ _ _ h => h) ?_ (by assumption) ?_
    rotate_left
    · (intro o ho w hSw; obtain ⟨z0, z1, z2, z3⟩ := hSw; cases ho; go_simp; try with_reducible rfl)
    try simp only [Act.put, List.setIfInBounds_toArray, List.set_cons_zero, List.set_cons_succ]
    refine takeH 1 (some 43) (v := ?_) (by rfl) (by rfl) (by kernel_rfl) (by kernel_rfl) (by kernel_rfl) (fun _ _ _ h => h) ?_ (by assumption) ?_
    rotate_left
    · (intro o ho w hSw; obtain ⟨z0, z1, z2, z3⟩ := hSw; cases ho; go_simp; try with_reducible rfl)
    try simp only [Act.put, List.setIfInBounds_toArray, List.set_cons_zero, List.set_cons_succ]
    refine takeH 2 (some 44) (v := .int .i64 ((i : Int) + 1)) (by rfl) (by rfl) (by kernel_rfl) (by kernel_rfl) (by kernel_rfl) (fun _ _ _ h => h) ?_ (by assumption) ?_
    skip
    · (intro o ho w hSw; obtain ⟨z0, z1, z2, z3⟩ := hSw; cases ho; go_simp; try (rw [IntKind.wrap_i64]; omega))
    try simp only [Act.put, List.setIfInBounds_toArray, List.set_cons_zero, List.set_cons_succ]
    refine takeH 3 (some 45) (v := ?_) (by rfl) (by rfl) (by kernel_rfl) (by kernel_rfl) (by kernel_rfl) (fun _ _ _ h => h) ?_ (by assumption) ?_
    rotate_left
    · (intro o ho w hSw; obtain ⟨z0, z1, z2, z3⟩ := hSw; cases ho; go_simp; try with_reducible rfl)
    try simp only [Act.put, List.setIfInBounds_toArray, List.set_cons_zero, List.set_cons_succ]
    refine takeH 4 (some 46) (v := ?_) (by rfl) (by rfl) (by kernel_rfl) (by kernel_rfl) (by kernel_rfl) (fun _ _ _ h => h) ?_ (by assumption) ?_
    rotate_left
    · (intro o ho w hSw; obtain ⟨z0, z1, z2, z3⟩ := hSw; cases ho; go_simp; try with_reducible rfl)
    try simp only [Act.put, List.setIfInBounds_toArray, List.set_cons_zero, List.set_cons_succ]
    refine takeH 5 (some 47) (v := ?_) (by rfl) (by rfl) (by kernel_rfl) (by kernel_rfl) (by kernel_rfl) (fun _ _ _ h => h) ?_ (by assumption) ?_
    rotate_left
    · (intro o ho w hSw; obtain ⟨z0, z1, z2, z3⟩ := hSw; cases ho; go_simp; try with_reducible rfl)
    try simp only [Act.put, List.setIfInBounds_toArray, List.set_cons_zero, List.set_cons_succ]
    refine takeH 6 (some 48) (v := ?_) (by rfl) (by rfl) (by kernel_rfl) (by kernel_rfl) (by kernel_rfl) (fun _ _ _ h => h) ?_ (by assumption) ?_
    rotate_left
    · (intro o ho w hSw; obtain ⟨z0, z1, z2, z3⟩ := hSw; cases ho; go_simp; try with_reducible rfl)
    try simp only [Act.put, List.setIfInBounds_toArray, List.set_cons_zero, List.set_cons_succ]
    refine takeH 7 (some 49) (v := ?_) (by rfl) (by rfl) (by kernel_rfl) (by kernel_rfl) (by kernel_rfl) (fun _ _ _ h => h) ?_ (by assumption) ?_
    rotate_left
    · (intro o ho w hSw; obtain ⟨z0, z1, z2, z3⟩ := hSw; cases ho; go_simp; try with_reducible rfl)
    try simp only [Act.put, List.setIfInBounds_toArray, List.set_cons_zero, List.set_cons_succ]
    refine takeH 8 (some 50) (v := ?_) (by rfl) (by rfl) (by kernel_rfl) (by kernel_rfl) (by kernel_rfl) (fun _ _ _ h => h) ?_ (by assumption) ?_
    rotate_left
    · (intro o ho w hSw; obtain ⟨z0, z1, z2, z3⟩ := hSw; cases ho; go_simp; try with_reducible rfl)
    try simp only [Act.put, List.setIfInBounds_toArray, List.set_cons_zero, List.set_cons_succ]
    refine takeH 9 (some 51) (v := .int .i64 (v + pr)) (by rfl) (by rfl) (by kernel_rfl) (by kernel_rfl) (by kernel_rfl) (fun _ _ _ h => h) ?_ (by assumption) ?_
    skip
    · (intro o ho w hSw; obtain ⟨z0, z1, z2, z3⟩ := hSw; cases ho; go_simp; rw [IntKind.wrap_i64]; omega)
    try simp only [Act.put, List.setIfInBounds_toArray, List.set_cons_zero, List.set_cons_succ]
    refine wpAnyH_ready (rs := [10]) (by kernel_rfl) (by simp) ?_
    refine AllReadyH.cons rfl (fun K hK => ?_) AllReadyH.nil
    go_simp
    go_at_call 77
    (refine HIH.out.mono ?_)
    clear HIH
    rintro e w9 ⟨rfl, Fs9, V9, hS9, hM9, hO9⟩
    have HB9 : Hid (Blk w9 gi 3 #[.int .i64 (i : Int)]) := Lib.hid (hM9.blk HB8.out (fun hf => HG7.out (FT.at_ HB8.out.ty hf)))
    go_wp2
    refine hK.out _ _ ?_ (fun hh8 => ?_)
    · exact ⟨(hS9.t.tb.cell 0), (HB9.out.cell 0), (hS9.b.lb.cell 0), (hS9.b.below.cell (p := ⟨b, off + i * 3 + 1, none⟩) hbw).trans HD1.out⟩
    clear hK K
    try simp only [Act.put, List.setIfInBounds_toArray, List.set_cons_zero, List.set_cons_succ]
    refine takeH 11 (some 12) (v := ?_) (by rfl) (by rfl) (by kernel_rfl) (by kernel_rfl) (by kernel_rfl) (fun _ _ _ h => h) ?_ (by assumption) ?_
    rotate_left
    · (intro o ho w hSw; obtain ⟨z0, z1, z2, z3⟩ := hSw; cases ho; go_simp; try with_reducible rfl)
    try simp only [Act.put, List.setIfInBounds_toArray, List.set_cons_zero, List.set_cons_succ]
    refine wpAnyH_done (by kernel_rfl) ?_ _
--@6
    obtain ⟨A9, n9, c9⟩ := V9
    have hn9 : n9 = n2 + 1 := by
      have h1 := hS9.t.co.len
      have h2 := HN2.out
      rw [List.length_append, List.length_singleton] at h1
      dsimp only at h1
      omega
    subst hn9
    have q5 := hS9.t.cb.cell 0
    have q6 := hS9.t.cb.frozen 0
    unfold slV at q5
    dsimp only at q5
    simp at q5
    have hc9 := hS9.t.co.nin.cap
    dsimp only at hc9
    have hc9' : n2 ≤ c9 := by omega
    have HV9 : Hid (OwnI w9 w.heap.size A9 n2 c9 C) := Lib.hid (by
      have h := hS9.t.co.cut (k := n2) (by dsimp only; omega)
      rw [← HN2.out, List.take_left] at h
      rw [← HN2.out]
      exact h)
    have HS10 : Hid (ClS w (some ⟨b, off, none⟩) m c L q R Fs9 (A9, n2, c9) T9 C (w9.setCell ⟨q.gc, 0, none⟩ (slV (A9, n2, c9)))) := Lib.hid (hS9.put HR.out (V' := (A9, n2, c9)) HV9.out (fun b hb => hS9.vd b (by rw [ownBlock_cut A9 (n2 + 1) n2]; exact hb)))
    have HM9 : Hid (Mod (FT w q (Ac, nc, cc) B W) W w9) := Lib.hid (FT.trans HM8d.out HO8.out hM9)
    have HM10 : Hid (Mod (FT w q (Ac, nc, cc) B W) W (w9.setCell ⟨q.gc, 0, none⟩ (slV (A9, n2, c9)))) := Lib.hid (HM9.out.set (p := ⟨q.gc, 0, none⟩) (.inl (.inr (.inr (.inl rfl)))) _)
    have HO10 : Hid (∀ b, (slV (A9, n2, c9)).ownBlock = some b → (slV (Ac, nc, cc)).ownBlock = some b ∨ W.heap.size ≤ b) := Lib.hid (fun b hb => by
      rcases hO9 b (by rw [ownBlock_cut A9 (n2 + 1) n2]; exact hb) with h | h
      · exact HO8.out b h
      · exact .inr (Nat.le_trans HM8d.out.size h))
    have hb10 : Blk (w9.setCell ⟨q.gc, 0, none⟩ (slV (A9, n2, c9))) gi 3 #[.int .i64 (i : Int)] := HB9.out.far (fun e => HG7.out (.inr (.inr (.inl e)))) _
    unfold slV at HS10 HM10 hb10
    dsimp only at HS10 HM10 hb10
    have HB10 := Lib.hid hb10
    clear hb10 hS9 hM9 hO9 HB9 HV9 HM8d HO8 HM9 hh8 hHeld HC8 HG7 HG6 HB8 hn7
    go_upto_region 12 with (fail)
    obtain ⟨w10, hw10⟩ : ∃ x, w9.setCell ⟨q.gc, 0, none⟩ (.slice A9 n2 c9) = x := ⟨_, rfl⟩
    rw [hw10] at HS10 HM10 HB10 ⊢
    clear hw10 q5 q6
    have q7 := HB10.out.cell 0
    simp at q7
    go_wp2
    exact ⟨⟨i + 1, w10.heap.size, T9, Fs9, (A9, n2, c9), rfl, by omega, by omega, Lib.hid (LI.next HR.out HS10.out HEQ2.out HM10.out HO10.out)⟩, by
      rw [HLP.out, leftP_at (i := i + 1) (by
        have := Blk.new w10 3 #[.int .i64 ((i : Int) + 1)]
        rw [show ((i + 1 : Nat) : Int) = (i : Int) + 1 by omega]
        exact this)]
      omega⟩
end Go.Proofs.Ytikfcpkobgejmaa

/- clear: choices' iterator keeps its word. -/
namespace Go.Proofs.Ytikfcpkobgejmaa
open Go.RowKit Go.Shelf
attribute [local go_sem] Oper.semAt_some

theorem blk_of_full {w : World} {base e g n : Nat} {xs : List Value} (h : w.ownsRow base e 1 (.slice (some ⟨g, 0, none⟩) n n) n xs) : Blk w g e xs.toArray := by
  rcases h.2 with ⟨h1, -⟩ | ⟨g', cap, cur, h1, -, h3, -, -, h6, h7⟩
  · cases h1
  · injection h1 with h1 h8 h9
    injection h1 with h1
    injection h1 with h1
    subst h1 h9
    rw [List.take_of_length_le (by rw [Array.length_toList, h6]; exact Nat.le_refl _)] at h7
    rw [← h7]
    exact h3
/-- The sums, those from index k on being filled. -/
def restK (L : List Bd) (k : Nat) : Array Value := ((List.range (L.length + 1)).map fun j => Value.int .i64 (if j < k then 0 else restS L j)).toArray
theorem restK_zero (L : List Bd) : restK L 0 = restV L := by
  unfold restK restV
  congr 1
theorem restK_start (L : List Bd) : (List.replicate (L.length + 1) (Value.int .i64 0)).toArray = restK L L.length := by
  unfold restK
  congr 1
  apply List.ext_getElem (by simp)
  intro j h1 h2
  simp only [List.getElem_replicate, List.getElem_map, List.getElem_range]
  by_cases h : j < L.length
  · rw [if_pos h]
  · have : j = L.length := by simp at h1; omega
    rw [if_neg h, this, restS_end]
theorem restK_at (L : List Bd) {k j : Nat} (_h : j ≤ L.length) : (restK L k)[j]? = some (.int .i64 (if j < k then 0 else restS L j)) := by
  unfold restK
  rw [List.getElem?_toArray, List.getElem?_map, List.getElem?_range (by omega)]
  rfl
theorem restK_set (L : List Bd) {k : Nat} (_h : k < L.length) : (restK L (k + 1)).setIfInBounds k (.int .i64 (restS L k)) = restK L k := by
  unfold restK
  rw [List.setIfInBounds_toArray]
  congr 1
  apply List.ext_getElem (by simp)
  intro j h1 h2
  rw [List.getElem_set]
  simp only [List.getElem_map, List.getElem_range]
  by_cases e : k = j
  · subst e
    rw [if_pos rfl, if_neg (by omega)]
  · rw [if_neg e]
    by_cases h : j < k
    · rw [if_pos h, if_pos (by omega)]
    · rw [if_neg h, if_neg (by omega)]
/-- The iterator's blocks while the sums are filled. -/
structure CI (w : World) (A : Option Addr) (m c : Nat) (L : List Bd) (R : World → Prop) (Fs : Sl) (l gy rr gr : Nat) (k : Nat) (W : World) : Prop where
  b : ClB w A m c Fs ([], 0) W
  yb : Blk W gy 68 #[.func (.yield l) #[] #[]]
  ra : Blk W rr 3 (restK L k)
  rb : Blk W gr 22 #[.slice (some ⟨rr, 0, none⟩) (m + 1) (m + 1)]
  r : R W
  num : w.heap.size + 3 < gy ∧ gy < rr ∧ rr < gr
  fd : ∀ b, (slV Fs).ownBlock = some b → b < gy
theorem CI.all {w W W' : World} {A : Option Addr} {m c : Nat} {L : List Bd} {R : World → Prop} {Fs : Sl} {l gy rr gr k B : Nat} (h : CI w A m c L R Fs l gy rr gr k W) (hR : ∀ W W', R W → KeepsFrom B W W' → R W') (hb : Below W.heap.size W W') : CI w A m c L R Fs l gy rr gr k W' := by
  have k : Mod (fun _ => False) W W' := Mod.of_below _ hb
  exact ⟨h.b.mod k id id id id (fun _ _ => id) (fun _ hf => hf.elim), h.yb.all hb, h.ra.all hb, h.rb.all hb, hR _ _ h.r ⟨hb.size, fun k _ _ hk _ => (hb.block k (Array.getElem?_eq_some_iff.1 hk).1).trans hk⟩, h.num, h.fd⟩
/-- One more sum is stored. -/
theorem CI.fill {w W : World} {A : Option Addr} {m c : Nat} {L : List Bd} {R : World → Prop} {Fs : Sl} {l gy rr gr k B : Nat} (h : CI w A m c L R Fs l gy rr gr (k + 1) W) (hR : ∀ W W', R W → KeepsFrom B W W' → R W') (hk : k < L.length) : CI w A m c L R Fs l gy rr gr k (W.setCell ⟨rr, k, none⟩ (.int .i64 (restS L k))) := by
  have hk2 : Mod (fun b => b = rr) W (W.setCell ⟨rr, k, none⟩ (.int .i64 (restS L k))) := (Mod.refl (fun b => b = rr) W).set (p := ⟨rr, k, none⟩) (.inl rfl) _
  obtain ⟨h1, h2, h3⟩ := h.num
  refine ⟨h.b.mod hk2 (by omega) (by omega) (by omega) (by omega) (fun b hb => by have := h.fd b hb; omega) (fun b hb => by rw [hb]; omega), hk2.blk h.yb (by omega), ?_, hk2.blk h.rb (by omega), hR _ _ h.r ((KeepsOthers.setCell _ _ _).from _), h.num, h.fd⟩
  have := Blk.set_ h.ra k (.int .i64 (restS L k))
  rw [restK_set L hk] at this
  exact this
set_option maxRecDepth 100000 in
set_option maxHeartbeats 8000000 in
theorem cho1_any (w : World) (A : Option Addr) (m c : Nat) (L : List Bd) (l : Nat) (R : World → Prop) (B : Nat) (HL : Hid (Bds w (A, m, c) L)) (hm : m ≤ 10) (HN : Hid (∀ b ∈ L, b.s.2.1 ≤ 1000000)) (HPR : Hid (∀ b ∈ L, 0 ≤ b.price ∧ b.price ≤ 1099511627776))
    (HR : Hid (∀ W W', R W → KeepsFrom B W W' → R W'))
    (HY : Hid (∀ (q : ItN), q.l = l → ∀ (st : List Int × Int) (Fs V : Sl) (C : List Int) (v : Int) (W : World), C.length ≤ 10 → ClS w A m c L q R Fs V st C W → YieldAt Fence.wide 4 Try.prog q.l #[slV V, .int .i64 v] W fun e W' => e = .returned (.bool true) ∧ ∃ Fs', ClS w A m c L q R Fs' V (stepB v C st) C W' ∧ Mod (F0 w B W) W W'))
    (Fs : Sl) (W : World) (HB : Hid (ClB w A m c Fs ([], 0) W)) (HR0 : Hid (R W)) :
    Calls Try.prog 76 #[.func (.yield l) #[] #[], .pointer (some ⟨w.heap.size + 2, 0, none⟩), .pointer (some ⟨w.heap.size + 3, 0, none⟩)] W fun e W' => (∃ v, e = .returned v) ∧ ∃ Fs', ClB w A m c Fs' (bestS L) W' ∧ R W' := by
  have hlen := HL.out.rows.len
  dsimp only at hlen
  have HLM := Lib.hid hlen
  clear hlen
  obtain ⟨i0, hi0, hz0, hz1, hz2⟩ := info_parts int_info
  obtain ⟨w2, hmk, hown, hb2, hsz2⟩ := make_all (P := Try.prog) (W.alloc (.cells #[.func (.yield l) #[] #[]] 68)) 22 3 i0 _ 8 Try.underlying22 hi0 hz0 hz1 hz2 rfl .i64 .i64 (m + 1) (by omega) (by unfold maxLen; omega)
  have hcast : ((m + 1 : Nat) : Int) = (m : Int) + 1 := by omega
  rw [hcast] at hmk
  have hra := blk_of_full hown
  have hb1 : Below W.heap.size W (W.alloc (.cells #[.func (.yield l) #[] #[]] 68)) := (Below.refl _ _).alloc (Nat.le_refl _) _
  have hyb := (Blk.new W 68 #[.func (.yield l) #[] #[]]).all hb2
  rw [World.size_alloc] at hmk hra
  have hsz3 : W.heap.size + 1 < w2.heap.size := by rw [World.size_alloc] at hsz2; exact hsz2
  obtain ⟨gy, hgy⟩ : ∃ g, W.heap.size = g := ⟨_, rfl⟩
  obtain ⟨rr, hrr⟩ : ∃ g, W.heap.size + 1 = g := ⟨_, rfl⟩
  have HW0 : Hid (w.heap.size + 3 < gy) := Lib.hid (by rw [← hgy]; exact HB.out.lt)
  have hb3 := bt hb1 hb2
  have q0 : (W.alloc (.cells #[.func (.yield l) #[] #[]] 68)).cell? ⟨w.heap.size + 2, 0, none⟩ = some (.slice A m c) := (HB.out.lb.all hb1).cell 0
  rw [hrr] at hmk hra hsz3
  rw [hgy] at hyb
  have hgr : gy < rr := by omega
  have HMK := Lib.hid hmk
  have HB3 := Lib.hid hb3
  have HRA := Lib.hid hra
  have HYB := Lib.hid hyb
  have HFD : Hid (∀ b, (slV Fs).ownBlock = some b → b < gy) := Lib.hid (fun b hb => by rw [← hgy]; exact (own_ge HB.out.fo hb).2)
  clear hi0 hz0 hz1 hz2 hmk hown hb2 hsz2 hcast hra hb1 hyb hb3
  go_enter Try.func76, Try.ntmps76
  have hmk := HMK.out
  go_upto_region 2 with (fail)
  have hb4 : Below w2.heap.size w2 (w2.alloc (.cells #[.slice (some ⟨rr, 0, none⟩) (m + 1) (m + 1)] 22)) := (Below.refl _ _).alloc (Nat.le_refl _) _
  obtain ⟨gr, hgr2⟩ : ∃ g, w2.heap.size = g := ⟨_, rfl⟩
  have HCI : Hid (CI w A m c L R Fs l gy rr gr L.length (w2.alloc (.cells #[.slice (some ⟨rr, 0, none⟩) (m + 1) (m + 1)] 22))) := Lib.hid (by
    have hbb := bt HB3.out hb4
    have k : Mod (fun _ => False) W (w2.alloc (.cells #[.slice (some ⟨rr, 0, none⟩) (m + 1) (m + 1)] 22)) := Mod.of_below _ hbb
    have h1 := HRA.out.all hb4
    have h9 : (List.replicate (m + 1) (Value.int .i64 0)).toArray = restK L L.length := by rw [← restK_start, HLM.out]
    rw [h9] at h1
    have h2 := HW0.out
    exact ⟨HB.out.mod k id id id id (fun _ _ => id) (fun _ hf => hf.elim), HYB.out.all hb4, h1, by rw [← hgr2]; exact Blk.new _ _ _, HR.out _ _ HR0.out ⟨hbb.size, fun k _ _ hk _ => (hbb.block k (Array.getElem?_eq_some_iff.1 hk).1).trans hk⟩, ⟨h2, hgr, by omega⟩, HFD.out⟩)
  rw [HLM.out] at HCI
  obtain ⟨w4, hw4⟩ : ∃ x, w2.alloc (.cells #[.slice (some ⟨rr, 0, none⟩) (m + 1) (m + 1)] 22) = x := ⟨_, rfl⟩
  rw [hw4] at HCI ⊢
  try rw [hgr2]
  try rw [hgy]
  have q1 := HCI.out.b.lb.cell 0
  simp at q1
  clear hw4 hgr2 hb4 hmk q0 HMK HB3 HRA HYB hgy hrr hsz3 hgr
  go_wp2
--@1
  go_loopw [5] (fun iv wr => ∃ k : Nat, k ≤ m ∧ iv = .int .i64 ((k : Int) - 1) ∧ Hid (CI w A m c L R Fs l gy rr gr k wr)) (fun iv _ => (intOf iv + 1).toNat)
  case atStart => exact ⟨m, Nat.le_refl _, rfl, HCI⟩
  case round =>
    clear HCI q1
    obtain ⟨k, hk, rfl, HI⟩ := hrel
    rcases k with _ | j
    · go_upto_region 8 with (fail)
      have hb7 : Below wr.heap.size wr ((wr.alloc (.cells #[.slice none 0 0] 22)).alloc (.cells #[.nilFunc] 131)) := ((Below.refl _ _).alloc (Nat.le_refl _) _).alloc (by simp) _
      have hkc : Blk ((wr.alloc (.cells #[.slice none 0 0] 22)).alloc (.cells #[.nilFunc] 131)) wr.heap.size 22 #[.slice none 0 0] := (Blk.new _ _ _).alloc _
      have hkt := Blk.new (wr.alloc (.cells #[.slice none 0 0] 22)) 131 #[.nilFunc]
      rw [World.size_alloc] at hkt
      obtain ⟨gc, hgc⟩ : ∃ g, wr.heap.size = g := ⟨_, rfl⟩
      obtain ⟨gt, hgt⟩ : ∃ g, wr.heap.size + 1 = g := ⟨_, rfl⟩
      have hnum : gt = gc + 1 := by omega
      have hgr0 : gr < gc := by rw [← hgc]; exact HI.out.rb.lt
      obtain ⟨w7, hw7⟩ : ∃ x, (wr.alloc (.cells #[.slice none 0 0] 22)).alloc (.cells #[.nilFunc] 131) = x := ⟨_, rfl⟩
      rw [hw7] at hb7 hkc hkt ⊢
      rw [hgt] at hkt
      rw [hgc] at hkc
      try rw [hgt]
      try rw [hgc]
      have HI7 := Lib.hid (HI.out.all HR.out hb7)
      have q1 := hkt.cell 0
      have q2 := hkt.frozen 0
      simp at q1
      have HNUM := Lib.hid hnum
      have HGR0 := Lib.hid hgr0
      clear hnum hgr0
      have HKC := Lib.hid hkc
      have HKT := Lib.hid hkt
      have HSS : Hid (ClS w A m c L ⟨l, gy, gr, rr, gc, gt⟩ R Fs (none, 0, 0) ([], 0) [] (w7.setCell ⟨gt, 0, none⟩ (.func (.func 77) #[] #[.pointer (some ⟨gy, 0, none⟩), .pointer (some ⟨gc, 0, none⟩), .pointer (some ⟨w.heap.size + 2, 0, none⟩), .pointer (some ⟨w.heap.size + 3, 0, none⟩), .pointer (some ⟨gr, 0, none⟩), .pointer (some ⟨gt, 0, none⟩)]))) := Lib.hid (by
        have k : Mod (fun b => b = gt) w7 (w7.setCell ⟨gt, 0, none⟩ (.func (.func 77) #[] #[.pointer (some ⟨gy, 0, none⟩), .pointer (some ⟨gc, 0, none⟩), .pointer (some ⟨w.heap.size + 2, 0, none⟩), .pointer (some ⟨w.heap.size + 3, 0, none⟩), .pointer (some ⟨gr, 0, none⟩), .pointer (some ⟨gt, 0, none⟩)])) := (Mod.refl (fun b => b = gt) w7).set (p := ⟨gt, 0, none⟩) (.inl rfl) _
        obtain ⟨h1, h2, h3⟩ := HI7.out.num
        have h4 := HI7.out.ra
        have hnum := HNUM.out
        have hgr0 := HGR0.out
        rw [restK_zero] at h4
        refine ⟨HI7.out.b.mod k (by omega) (by omega) (by omega) (by omega) (fun b hb => by have := HI7.out.fd b hb; omega) (fun b hb => by rw [hb]; omega), ⟨k.blk HI7.out.yb (by dsimp only; omega), k.blk HI7.out.rb (by dsimp only; omega), k.blk h4 (by dsimp only; omega), k.blk HKC.out (by dsimp only; omega), OwnI.nil _ _, ?_⟩, ⟨by dsimp only; omega, by dsimp only; omega, by dsimp only; omega, by dsimp only; omega, by dsimp only; omega⟩, fun b hb => by simp [slV, Value.ownBlock] at hb, HR.out _ _ HI7.out.r ((KeepsOthers.setCell _ _ _).from _)⟩
        have := Blk.set_ HKT.out 0 (.func (.func 77) #[] #[.pointer (some ⟨gy, 0, none⟩), .pointer (some ⟨gc, 0, none⟩), .pointer (some ⟨w.heap.size + 2, 0, none⟩), .pointer (some ⟨w.heap.size + 3, 0, none⟩), .pointer (some ⟨gr, 0, none⟩), .pointer (some ⟨gt, 0, none⟩)])
        exact this)
      clear hb7 hkc hkt HI hw7 hgc hgt
      go_upto_region 9 with (fail)
      obtain ⟨w8, hw8⟩ : ∃ x, w7.setCell ⟨gt, 0, none⟩ (.func (.func 77) #[] #[.pointer (some ⟨gy, 0, none⟩), .pointer (some ⟨gc, 0, none⟩), .pointer (some ⟨w.heap.size + 2, 0, none⟩), .pointer (some ⟨w.heap.size + 3, 0, none⟩), .pointer (some ⟨gr, 0, none⟩), .pointer (some ⟨gt, 0, none⟩)]) = x := ⟨_, rfl⟩
      rw [hw8] at HSS ⊢
      clear hw8 q1 q2 HI7 HKC HKT
      have q3 := HSS.out.t.tb.cell 0
      simp at q3
      have hrs := restS_ok HPR.out L.length 0 (by omega)
      have htry := try_any w A m c L ⟨l, gy, gr, rr, gc, gt⟩ R B HL hm HN HPR HR (Lib.hid (HY.out ⟨l, gy, gr, rr, gc, gt⟩ rfl)) m 0 [] 0 ([], 0) Fs (none, 0, 0) w8 (by omega) HSS (Int.le_refl _) (Lib.hid (by have := HLM.out; omega)) (Lib.hid ⟨Nat.le_refl _, fun x hx => by simp at hx⟩)
      rw [show loopB L m 0 [] 0 (stepB 0 [] ([], 0)) = bestS L by unfold bestS; rw [HLM.out]] at htry
      have HTRY := Lib.hid htry
      clear htry hrs HSS
      dsimp only at HTRY
      go_wp2_with (go_at_call 77; refine HTRY.out.mono ?_; clear HTRY; rintro e w9 ⟨rfl, Fs9, V9, hS9, -, -⟩)
      go_end0
      exact ⟨⟨_, rfl⟩, Fs9, hS9.b, hS9.r⟩
    rw [show ((j + 1 : Nat) : Int) - 1 = (j : Int) by omega]
    have hjl : j < L.length := by rw [HLM.out]; exact hk
    obtain ⟨b, off, bi, pr, sA, sn, sc, lots, hA, hbw, d0, d1, d2, -, he⟩ := HL.out.get hjl
    subst hA
    obtain ⟨x, hx⟩ : ∃ x, restS L (j + 1) = x := ⟨_, rfl⟩
    have hpp := HPR.out _ (List.getElem_mem hjl)
    rw [← bdAt_eq hjl, he] at hpp
    dsimp only at hpp
    obtain ⟨hp0, hp1⟩ := hpp
    have hrx := restS_ok HPR.out (L.length - (j + 1)) (j + 1) (by omega)
    rw [hx] at hrx
    obtain ⟨hx0, hx1⟩ := hrx
    have hx2 : x ≤ 10995116277760 := by have := HLM.out; omega
    have HXP : Hid (restS L j = x + pr) := Lib.hid (by rw [restS_at hjl, he, hx]; exact Int.add_comm _ _)
    have hxc := (HI.out.ra.cell (j + 1)).trans (restK_at L (by omega))
    rw [if_neg (by omega), hx] at hxc
    have HC5 : Hid ((fun w' => w'.cell? ⟨gr, 0, none⟩ = some (.slice (some ⟨rr, 0, none⟩) (m + 1) (m + 1)) ∧ w'.cell? ⟨rr, j + 1, none⟩ = some (.int .i64 x) ∧ w'.cell? ⟨w.heap.size + 2, 0, none⟩ = some (.slice (some ⟨b, off, none⟩) m c) ∧ w'.cell? ⟨b, off + j * 3 + 1, none⟩ = some (.int .i64 pr)) wr.drew) := Lib.hid ⟨HI.out.rb.cell 0, hxc, HI.out.b.lb.cell 0, (HI.out.b.below.cell (p := ⟨b, off + j * 3 + 1, none⟩) hbw).trans d1⟩
    have hs1 : wr.drew.cell? ⟨rr, j, none⟩ = some (.int .i64 0) := by
      have h := (HI.out.ra.cell j).trans (restK_at L (by omega))
      rw [if_pos (by omega)] at h
      exact h
    have hs2 : wr.drew.frozen? ⟨rr, j, none⟩ = false := HI.out.ra.frozen j
    have HN2 : Hid (CI w (some ⟨b, off, none⟩) m c L R Fs l gy rr gr j (wr.drew.setCell ⟨rr, j, none⟩ (.int .i64 (x + pr)))) := Lib.hid (by
      have h := (HI.out.all HR.out (below_drewN (Below.refl wr.heap.size wr) 1)).fill HR.out hjl
      rw [HXP.out] at h
      exact h)
    have hj1 : (j : Int) + 1 < (m : Int) + 1 := by omega
    have hj2 : (j : Int) < (m : Int) + 1 := by omega
    have hj3 : (j : Int) < (m : Int) := by omega
    have hj4 : 0 ≤ (j : Int) + 1 := by omega
    clear hx hx1 d0 d1 d2 he hxc HI hjl hbw
    go_wp2
    refine beginG (S := (fun w' => w'.cell? ⟨gr, 0, none⟩ = some (.slice (some ⟨rr, 0, none⟩) (m + 1) (m + 1)) ∧ w'.cell? ⟨rr, j + 1, none⟩ = some (.int .i64 x) ∧ w'.cell? ⟨w.heap.size + 2, 0, none⟩ = some (.slice (some ⟨b, off, none⟩) m c) ∧ w'.cell? ⟨b, off + j * 3 + 1, none⟩ = some (.int .i64 pr))) 14 (by kernel_rfl) HC5.out (fun hHeld => ?_)
    refine takeG 0 (some 19) (v := ?_) (by rfl) (by rfl) (by kernel_rfl) (by kernel_rfl) (by decide) (by kernel_rfl) (by kernel_rfl) (fun _ _ _ h => h) ?_ (by assumption) ?_
    rotate_left
    · (intro o ho w hSw; obtain ⟨z0, z1, z2, z3⟩ := hSw; cases ho; go_simp; try with_reducible rfl)
    try simp only [Act.put, List.setIfInBounds_toArray, List.set_cons_zero, List.set_cons_succ]
    refine takeG 1 (some 20) (v := ?_) (by rfl) (by rfl) (by kernel_rfl) (by kernel_rfl) (by decide) (by kernel_rfl) (by kernel_rfl) (fun _ _ _ h => h) ?_ (by assumption) ?_
    rotate_left
    · (intro o ho w hSw; obtain ⟨z0, z1, z2, z3⟩ := hSw; cases ho; go_simp; try with_reducible rfl)
    try simp only [Act.put, List.setIfInBounds_toArray, List.set_cons_zero, List.set_cons_succ]
    refine takeG 2 (some 21) (v := ?_) (by rfl) (by rfl) (by kernel_rfl) (by kernel_rfl) (by decide) (by kernel_rfl) (by kernel_rfl) (fun _ _ _ h => h) ?_ (by assumption) ?_
    rotate_left
    · (intro o ho w hSw; obtain ⟨z0, z1, z2, z3⟩ := hSw; cases ho; go_simp; try with_reducible rfl)
    try simp only [Act.put, List.setIfInBounds_toArray, List.set_cons_zero, List.set_cons_succ]
    refine takeG 3 (some 22) (v := ?_) (by rfl) (by rfl) (by kernel_rfl) (by kernel_rfl) (by decide) (by kernel_rfl) (by kernel_rfl) (fun _ _ _ h => h) ?_ (by assumption) ?_
    rotate_left
    · (intro o ho w hSw; obtain ⟨z0, z1, z2, z3⟩ := hSw; cases ho; go_simp; try with_reducible rfl)
    try simp only [Act.put, List.setIfInBounds_toArray, List.set_cons_zero, List.set_cons_succ]
    refine takeG 4 (some 23) (v := .int .i64 ((j : Int) + 1)) (by rfl) (by rfl) (by kernel_rfl) (by kernel_rfl) (by decide) (by kernel_rfl) (by kernel_rfl) (fun _ _ _ h => h) ?_ (by assumption) ?_
    skip
    · (intro o ho w hSw; obtain ⟨z0, z1, z2, z3⟩ := hSw; cases ho; go_simp; try (rw [IntKind.wrap_i64]; omega))
    try simp only [Act.put, List.setIfInBounds_toArray, List.set_cons_zero, List.set_cons_succ]
    refine takeG 5 (some 24) (v := ?_) (by rfl) (by rfl) (by kernel_rfl) (by kernel_rfl) (by decide) (by kernel_rfl) (by kernel_rfl) (fun _ _ _ h => h) ?_ (by assumption) ?_
    rotate_left
    · (intro o ho w hSw; obtain ⟨z0, z1, z2, z3⟩ := hSw; cases ho; go_simp; try with_reducible rfl)
    try simp only [Act.put, List.setIfInBounds_toArray, List.set_cons_zero, List.set_cons_succ]
    refine takeG 6 (some 25) (v := ?_) (by rfl) (by rfl) (by kernel_rfl) (by kernel_rfl) (by decide) (by kernel_rfl) (by kernel_rfl) (fun _ _ _ h => h) ?_ (by assumption) ?_
    rotate_left
    · (intro o ho w hSw; obtain ⟨z0, z1, z2, z3⟩ := hSw; cases ho; go_simp; try with_reducible rfl)
    try simp only [Act.put, List.setIfInBounds_toArray, List.set_cons_zero, List.set_cons_succ]
    refine takeG 7 (some 26) (v := ?_) (by rfl) (by rfl) (by kernel_rfl) (by kernel_rfl) (by decide) (by kernel_rfl) (by kernel_rfl) (fun _ _ _ h => h) ?_ (by assumption) ?_
    rotate_left
    · (intro o ho w hSw; obtain ⟨z0, z1, z2, z3⟩ := hSw; cases ho; go_simp; try with_reducible rfl)
    try simp only [Act.put, List.setIfInBounds_toArray, List.set_cons_zero, List.set_cons_succ]
    refine takeG 8 (some 27) (v := ?_) (by rfl) (by rfl) (by kernel_rfl) (by kernel_rfl) (by decide) (by kernel_rfl) (by kernel_rfl) (fun _ _ _ h => h) ?_ (by assumption) ?_
    rotate_left
    · (intro o ho w hSw; obtain ⟨z0, z1, z2, z3⟩ := hSw; cases ho; go_simp; try with_reducible rfl)
    try simp only [Act.put, List.setIfInBounds_toArray, List.set_cons_zero, List.set_cons_succ]
    refine takeG 9 (some 28) (v := ?_) (by rfl) (by rfl) (by kernel_rfl) (by kernel_rfl) (by decide) (by kernel_rfl) (by kernel_rfl) (fun _ _ _ h => h) ?_ (by assumption) ?_
    rotate_left
    · (intro o ho w hSw; obtain ⟨z0, z1, z2, z3⟩ := hSw; cases ho; go_simp; try with_reducible rfl)
    try simp only [Act.put, List.setIfInBounds_toArray, List.set_cons_zero, List.set_cons_succ]
    refine takeG 10 (some 29) (v := ?_) (by rfl) (by rfl) (by kernel_rfl) (by kernel_rfl) (by decide) (by kernel_rfl) (by kernel_rfl) (fun _ _ _ h => h) ?_ (by assumption) ?_
    rotate_left
    · (intro o ho w hSw; obtain ⟨z0, z1, z2, z3⟩ := hSw; cases ho; go_simp; try with_reducible rfl)
    try simp only [Act.put, List.setIfInBounds_toArray, List.set_cons_zero, List.set_cons_succ]
    refine takeG 11 (some 30) (v := ?_) (by rfl) (by rfl) (by kernel_rfl) (by kernel_rfl) (by decide) (by kernel_rfl) (by kernel_rfl) (fun _ _ _ h => h) ?_ (by assumption) ?_
    rotate_left
    · (intro o ho w hSw; obtain ⟨z0, z1, z2, z3⟩ := hSw; cases ho; go_simp; try with_reducible rfl)
    try simp only [Act.put, List.setIfInBounds_toArray, List.set_cons_zero, List.set_cons_succ]
    refine takeG 12 (some 31) (v := .int .i64 (x + pr)) (by rfl) (by rfl) (by kernel_rfl) (by kernel_rfl) (by decide) (by kernel_rfl) (by kernel_rfl) (fun _ _ _ h => h) ?_ (by assumption) ?_
    skip
    · (intro o ho w hSw; obtain ⟨z0, z1, z2, z3⟩ := hSw; cases ho; go_simp; rw [IntKind.wrap_i64]; omega)
    try simp only [Act.put, List.setIfInBounds_toArray, List.set_cons_zero, List.set_cons_succ]
    refine takeG 13 (some 32) (v := ?_) (by rfl) (by rfl) (by kernel_rfl) (by kernel_rfl) (by decide) (by kernel_rfl) (by kernel_rfl) (fun _ _ _ h => h) ?_ (by assumption) ?_
    rotate_left
    · (intro o ho w hSw; obtain ⟨z0, z1, z2, z3⟩ := hSw; cases ho; go_simp; try with_reducible rfl)
    try simp only [Act.put, List.setIfInBounds_toArray, List.set_cons_zero, List.set_cons_succ]
    refine lastG (by kernel_rfl) rfl (fun K hK => ?_)
    go_simp
    refine hK.out _ _ ?_
    clear hK K
    (try simp only [Act.put]); (try simp only [List.setIfInBounds_toArray]); (try simp only [List.set_cons_succ]); (try simp only [List.set_cons_zero])
    refine doneG (by kernel_rfl) ?_ _
    go_wp2
    exact ⟨⟨j, by omega, by go_num, HN2⟩, by simp [intOf]⟩
end Go.Proofs.Ytikfcpkobgejmaa

/- clear: best and Best. -/
namespace Go.Proofs.Ytikfcpkobgejmaa
open Go.RowKit Go.Shelf
attribute [local go_sem] Oper.semAt_some

theorem cloneI_any (A : Option Addr) (n c : Nat) (xs : List Int) (w : World) (HX : Hid (NIn w w.heap.size (A, n, c) xs)) (hn : n ≤ 1000000) :
    Calls Try.prog 70 #[.slice A n c] w fun e w' => ∃ A' c', e = .returned (.slice A' n c') ∧ OwnI w' w.heap.size A' n c' xs ∧ Below w.heap.size w w' := by
  have hlen := HX.out.len
  dsimp only at hlen
  rcases A with _ | ad
  · have h0 := HX.out.none_ rfl
    dsimp only at h0
    subst h0
    have hb0 : xs = [] := List.eq_nil_of_length_eq_zero hlen
    subst hb0
    have hq := Lib.run_eql_slice_nil (P := Try.prog) w 22 3 none 0 c 0 0 Try.underlying22
    go_enter Try.func70, Try.ntmps70
    go_wp2
    go_ret
    exact ⟨none, 0, rfl, OwnI.nil _ _, Below.refl _ _⟩
  · have hB := (Below.refl w.heap.size w).alloc (Nat.le_refl _) (.cells #[] 3)
    obtain ⟨A', c', w', hap, hown, hb⟩ := app_cells (w := w.alloc (.cells #[] 3)) (base := w.heap.size) (ty := 22) slT_ints (World.ownsRow_made w #[] 0 (Nat.le_refl _) (by decide) rfl) (some ad) n c (xs.map (Value.int .i64)) (by simpa using hlen) (by intro h; cases h) ((NIn.all HX.out (hB)).news) (by intro u hu; simp at hu; obtain ⟨x, -, rfl⟩ := hu; rfl) (by omega) (by decide) (by simp)
    simp only [Nat.zero_add, List.nil_append] at hap hown
    have HA := Lib.hid hap
    have HO := Lib.hid hown
    have HB : Hid (Below w.heap.size w w') := Lib.hid (hB.trans hb)
    clear hap hown hb hB
    have hq := Lib.run_eql_slice_nil (P := Try.prog) w 22 3 (some ad) n c 0 0 Try.underlying22
    go_enter Try.func70, Try.ntmps70
    go_wp2_with (at_builtin; refine wpList_append_run HA.out rfl rfl rfl rfl ?_)
    go_ret
    exact ⟨A', c', rfl, HO.out, HB.out⟩

theorem choices_in (n : Nat) (A : Option Addr) (len cap : Nat) (v : Value) (w : World) (hv : v = .func (.func 69) #[] #[.pointer (some ⟨w.heap.size - 1, 0, none⟩)]) :
    CallsIn Fence.wide n Try.prog 68 #[.slice A len cap, v] w fun e w' => e = .returned (.func (.func 76) #[] #[.pointer (some ⟨w.heap.size, 0, none⟩), .pointer (some ⟨w.heap.size + 1, 0, none⟩)]) ∧ (w.alloc (.cells #[.slice A len cap] 40)).alloc (.cells #[v] 124) = w' := by
  subst hv
  refine callsIn_of_wp Try.func68 rfl trivial ?_ rfl
  simp only [Try.ntmps68, List.size_toArray, List.length_cons, List.length_nil, Nat.reduceAdd, Nat.reduceSub, Array.replicate_succ, Array.replicate_zero, List.push_toArray, List.append_toArray, List.nil_append, List.cons_append]
  gi_wp2
  go_ret
  exact ⟨rfl, rfl⟩

/-- The loop's state: what is found; the iterator's numbers, its choice and the world in which it stands at yield. -/
abbrev StB := (List Int × Int) × Option (ItN × Sl × List Int × World)
def StI (w : World) (A : Option Addr) (m c : Nat) (L : List Bd) (B : Nat) (s : StB) (W : World) : Prop :=
  match s.2 with
  | none => ∃ Fs, ClB w A m c Fs s.1 W
  | some (q, V, C, U) => (∃ Fs, ClS w A m c L q (fun _ => True) Fs V s.1 C W) ∧ Mod (F0 w B U) U W
def StY (w : World) (A : Option Addr) (m c : Nat) (L : List Bd) (B : Nat) (s : StB) (x : Sl × List Int × Int) (W : World) : Prop :=
  StI w A m c L B s W ∧ x.2.1.length ≤ 10 ∧ ∃ q U, s.2 = some (q, x.1, x.2.1, U)
def nxtB (s : StB) (x : Sl × List Int × Int) : StB := (stepB x.2.2 x.2.1 s.1, s.2)
theorem ClS.other {w W : World} {A : Option Addr} {m c : Nat} {L : List Bd} {q : ItN} {R R' : World → Prop} {Fs V : Sl} {st : List Int × Int} {C : List Int} (h : ClS w A m c L q R Fs V st C W) (hr : R' W) : ClS w A m c L q R' Fs V st C W := ⟨h.b, h.t, h.ap, h.vd, hr⟩
theorem F0.trans {w U W W' : World} {B : Nat} {G : Nat → Prop} (h : Mod (F0 w B U) U W) (k : Mod G W W') (hG : ∀ b, G b → F0 w B W b ∨ W.heap.size ≤ b) : Mod (F0 w B U) U W' := by
  refine h.trans k (fun b hb => ?_)
  rcases hG b hb with (hb | hb | ⟨hB, o, h1, h2⟩) | hb
  · exact .inl (.inl hb)
  · exact .inl (.inr (.inl hb))
  · rcases Nat.lt_or_ge b U.heap.size with hlt | hge
    · by_cases hf : F0 w B U b
      · exact .inl hf
      · rw [h.block b hlt hf] at h1
        exact .inl (.inr (.inr ⟨hB, o, h1, h2⟩))
    · exact .inr hge
  · exact .inr (Nat.le_trans h.size hb)
theorem StI.own {w : World} {A : Option Addr} {m c : Nat} {L : List Bd} {B : Nat} (hB : w.heap.size ≤ B) : OwnFrom B (StI w A m c L B) := by
  rintro ⟨st, _ | ⟨q, V, C, U⟩⟩ W W' row hs hg hr
  · obtain ⟨Fs, h⟩ := hs
    have k : Mod (fun b => row = some b) W W' := Mod.of_grown hg (fun g e => .inl e)
    have hn : ∀ {b t cs}, Blk W b t cs → ¬ row = some b := fun {b t cs} hb e => by
      obtain ⟨h1, h2⟩ := hr b e
      exact Rec.not_blk (B := B) ⟨h1, h2⟩ hb
    exact ⟨Fs, h.mod k (hn h.fb) (hn h.mb) (hn h.lb) (hn h.eb) (fun b hb e => Rec.not_own (B := B) (hr b e) h.fo hb) (fun b e => Nat.le_trans hB (hr b e).1)⟩
  · obtain ⟨⟨Fs, h⟩, hm⟩ := hs
    have k : Mod (fun b => row = some b) W W' := Mod.of_grown hg (fun g e => .inl e)
    have hn : ∀ {b t cs}, Blk W b t cs → ¬ row = some b := fun {b t cs} hb e => by
      obtain ⟨h1, h2⟩ := hr b e
      exact Rec.not_blk (B := B) ⟨h1, h2⟩ hb
    refine ⟨⟨Fs, ⟨h.b.mod k (hn h.b.fb) (hn h.b.mb) (hn h.b.lb) (hn h.b.eb) (fun b hb e => Rec.not_own (B := B) (hr b e) h.b.fo hb) (fun b e => Nat.le_trans hB (hr b e).1), h.t.mod k (hn h.t.yb) (hn h.t.rb) (hn h.t.ra) (hn h.t.cb) (hn h.t.tb) (fun b hb e => Rec.not_own (B := B) (hr b e) h.t.co hb), h.ap, h.vd, trivial⟩⟩, F0.trans hm k (fun b e => .inl (.inr (.inr (hr b e))))⟩
theorem cho_state (w : World) (A : Option Addr) (m c : Nat) (L : List Bd) (B : Nat) (HL : Hid (Bds w (A, m, c) L)) (hm : m ≤ 10) (HN : Hid (∀ b ∈ L, b.s.2.1 ≤ 1000000)) (HPR : Hid (∀ b ∈ L, 0 ≤ b.price ∧ b.price ≤ 1099511627776)) :
    SeqState Fence.wide 5 Try.prog 76 #[.pointer (some ⟨w.heap.size + 2, 0, none⟩), .pointer (some ⟨w.heap.size + 3, 0, none⟩)] (fun x : Sl × List Int × Int => #[slV x.1, .int .i64 x.2.2]) B
      (StI w A m c L B) (StY w A m c L B) nxtB (fun _ _ _ => False) (([], 0), none) (fun s => s.1 = bestS L ∧ s.2 = none) := by
  intro l R Rx hR hY W h0 hR0
  obtain ⟨Fs, hF⟩ := h0
  refine callsIn_wide.2 ((cho1_any w A m c L l R B HL hm HN HPR (Lib.hid hR) (Lib.hid ?_) Fs W (Lib.hid hF) (Lib.hid hR0)).mono ?_)
  · intro q hq st Fs V C v W hcl hS
    have h := hY (st, some (q, V, C, W)) (V, C, v) W ⟨⟨⟨Fs, hS.other trivial⟩, Mod.refl _ _⟩, hcl, q, W, rfl⟩ hS.r
    obtain ⟨fn, tmps, assign, body, hy, hr3⟩ := h
    refine ⟨fn, tmps, assign, body, by rw [hq]; exact hy, ?_⟩
    rw [hq]
    refine hr3.mono fun e W' hh => ?_
    rcases hh with ⟨he, ⟨⟨Fs', hS'⟩, hm'⟩, hr'⟩ | ⟨-, c, hx, -⟩
    · exact ⟨he, Fs', hS'.other hr', hm'⟩
    · exact hx.elim
  · rintro e W' ⟨he, Fs', hb, hr⟩
    exact ⟨he, .inl ⟨(bestS L, none), ⟨rfl, rfl⟩, ⟨Fs', hb⟩, hr⟩⟩

def BestPost (L : List Bd) (w : World) (e : Ending) (w' : World) : Prop :=
  ∃ A' n' c', e = .returned (.tuple #[.slice A' n' c', .int .i64 (bestS L).2]) ∧ OwnI w' w.heap.size A' n' c' (bestS L).1 ∧ Below w.heap.size w w'
set_option maxRecDepth 100000 in
set_option maxHeartbeats 4000000 in
theorem best_any (A : Option Addr) (m c : Nat) (L : List Bd) (w : World) (HL : Hid (Bds w (A, m, c) L)) (hm : m ≤ 10) (HN : Hid (∀ b ∈ L, b.s.2.1 ≤ 1000000)) (HPR : Hid (∀ b ∈ L, 0 ≤ b.price ∧ b.price ≤ 1099511627776)) :
    Calls Try.prog 51 #[.slice A m c] w (BestPost L w) := by
  refine (callsIn_wide (n := 6)).1 ?_
  refine callsIn_of_wp_marks Try.func51 rfl trivial ?_ rfl
  simp only [Try.ntmps51, List.size_toArray, List.length_cons, List.length_nil, Nat.reduceAdd, Nat.reduceSub, Array.replicate_succ, Array.replicate_zero, List.push_toArray, List.append_toArray, List.nil_append, List.cons_append]
  gi_wp2_with (refine ⟨trivial, ?_⟩; gi_at_call 68; refine (choices_in _ _ _ _ _ _ (by simp)).mono ?_; rintro e w' ⟨rfl, rfl⟩)
  obtain ⟨W0, hW0⟩ : ∃ W0, (((w.alloc (.cells #[.slice none 0 0] 22)).alloc (.cells #[.int .i64 0] 3)).alloc (.cells #[.slice A m c] 40)).alloc (.cells #[(.func (.func 69) #[] #[.pointer (some ⟨w.heap.size + 1, 0, none⟩)])] 124) = W0 := ⟨_, rfl⟩
  have hsz : W0.heap.size = w.heap.size + 4 := by rw [← hW0]; simp
  have hI0 : StI w A m c L W0.heap.size (([], 0), none) W0 := by
    rw [← hW0]
    refine ⟨(none, 0, 0), Blk.alloc (Blk.alloc (Blk.alloc (Blk.new _ _ _) _) _) _, OwnI.nil _ _, ?_, ?_, ?_, fun b hb => by simp [slV, Value.ownBlock] at hb, (((((Below.refl _ w).alloc (Nat.le_refl _) _).alloc (by simp) _).alloc (by simp; omega) _).alloc (by simp; omega) _)⟩
    · have := Blk.alloc (Blk.alloc (Blk.new (w.alloc (.cells #[.slice none 0 0] 22)) 3 #[.int .i64 0]) (.cells #[.slice A m c] 40)) (.cells #[(.func (.func 69) #[] #[.pointer (some ⟨w.heap.size + 1, 0, none⟩)])] 124)
      rw [World.size_alloc] at this
      exact this
    · have := Blk.alloc (Blk.new ((w.alloc (.cells #[.slice none 0 0] 22)).alloc (.cells #[.int .i64 0] 3)) 40 #[.slice A m c]) (.cells #[(.func (.func 69) #[] #[.pointer (some ⟨w.heap.size + 1, 0, none⟩)])] 124)
      rw [World.size_alloc, World.size_alloc] at this
      exact this
    · have := Blk.new (((w.alloc (.cells #[.slice none 0 0] 22)).alloc (.cells #[.int .i64 0] 3)).alloc (.cells #[.slice A m c] 40)) 124 #[(.func (.func 69) #[] #[.pointer (some ⟨w.heap.size + 1, 0, none⟩)])]
      rw [World.size_alloc, World.size_alloc, World.size_alloc] at this
      exact this
  rw [hW0]
  have HSZ := Lib.hid hsz
  have HB0 : Hid (w.heap.size ≤ W0.heap.size) := Lib.hid (by omega)
  clear hsz hW0
  refine range_state (β := StB) (α := Sl × List Int × Int) rfl (by decide) (gf := 76) (lb := #[.pointer (some ⟨w.heap.size + 2, 0, none⟩), .pointer (some ⟨w.heap.size + 3, 0, none⟩)]) rfl trivial (enters_of Try.func76 (by kernel_rfl) rfl)
      (encs := fun x : Sl × List Int × Int => #[slV x.1, .int .i64 x.2.2]) (fun _ => rfl)
      (StI w A m c L W0.heap.size) (StY w A m c L W0.heap.size) nxtB (fun _ _ _ => False) (([], 0), none) (fun s => s.1 = bestS L ∧ s.2 = none)
      (cho_state w A m c L W0.heap.size HL hm HN HPR)
      (StI.own HB0.out) (fun x s W W' row hs hg hr => ⟨StI.own HB0.out s W W' row hs.1 hg hr, hs.2⟩)
      (fun c s W W' row hs hg hr => hs)
      hI0
      (fun x => { tmps := #[.slice A m c, undef, .slice none 0 0, .int .i64 0, .pointer (some ⟨w.heap.size, 0, none⟩), .pointer (some ⟨w.heap.size + 1, 0, none⟩), slV x.1, .int .i64 x.2.2, .slice A m c, (.func (.func 69) #[] #[.pointer (some ⟨w.heap.size + 1, 0, none⟩)]), .func (.func 76) #[] #[.pointer (some ⟨w.heap.size + 1 + 1, 0, none⟩), .pointer (some ⟨w.heap.size + 1 + 1 + 1, 0, none⟩)], slV x.1, .int .i64 x.2.2, undef, undef, undef, undef, undef, undef, undef, undef], defers := [] }) ?assign ?body ?done ?stop
  case assign =>
    intro l x W K hK
    gi_wp2
    exact hK
  case body =>
    rintro l ⟨st, it⟩ ⟨⟨Ac, nc, cc⟩, C, v⟩ W ⟨hI, hcl, q, U, hs⟩
    dsimp only at hs hcl
    subst hs
    obtain ⟨⟨⟨Af, nf, cf⟩, hS⟩, hm⟩ := hI
    unfold nxtB
    dsimp only at hS hm ⊢
    rcases st with ⟨found, mo⟩
    have HS := Lib.hid hS
    have HM := Lib.hid hm
    have c1 : W.cell? ⟨w.heap.size + 1, 0, none⟩ = some (.int .i64 mo) := by simpa using hS.b.mb.cell 0
    clear hS hm
    unfold slV
    dsimp only
    rcases hE : decide (mo < v) with _ | _
    · have HST : Hid (stepB v C (found, mo) = (found, mo)) := Lib.hid (by unfold stepB; rw [if_neg (by simpa using hE)])
      gi_wp2
      rw [HST.out]
      exact ⟨KeepsFrom.refl _ _, ⟨_, HS.out⟩, HM.out⟩
    · have HST : Hid (stepB v C (found, mo) = (C, v)) := Lib.hid (by unfold stepB; rw [if_pos (by simpa using hE)])
      have hnc : nc ≤ 1000000 := by
        have h1 := HS.out.t.co.len
        dsimp only at h1
        omega
      have hcln := cloneI_any Ac nc cc C W (Lib.hid HS.out.t.co.nin) hnc
      have HCL := Lib.hid hcln
      clear hcln hnc hcl
      gi_wp2_with fail
      refine ⟨trivial, ?_⟩
      refine (CallsIn.inRound l (callsIn_wide.2 HCL.out)).mono ?_
      clear HCL
      rintro e w1 ⟨A1, c1', rfl, ho1, hb1⟩
      have k1 := HS.out.b.fb.all hb1
      have k2 := HS.out.b.mb.all hb1
      have d0 : w1.cell? ⟨w.heap.size, 0, none⟩ = some (.slice Af nf cf) := by simpa [slV] using k1.cell 0
      have d1 := k1.frozen 0
      have e0 : w1.cell? ⟨w.heap.size + 1, 0, none⟩ = some (.int .i64 mo) := by simpa using k2.cell 0
      have e1 := k2.frozen 0
      have K1 := Lib.hid k1
      have K2 := Lib.hid k2
      have HO1 := Lib.hid ho1
      have HB1 := Lib.hid hb1
      clear k1 k2 ho1 hb1
      gi_wp2
      rw [HST.out]
      have hS1 : ClS w A m c L q (fun _ => True) (Af, nf, cf) (Ac, nc, cc) (found, mo) C w1 := HS.out.all (B := 0) (fun _ _ _ _ => trivial) HB1.out
      have ma : Mod (fun b => b = w.heap.size ∨ b = w.heap.size + 1) w1 ((w1.setCell ⟨w.heap.size, 0, none⟩ (.slice A1 nc c1')).setCell ⟨w.heap.size + 1, 0, none⟩ (.int .i64 v)) :=
        ((Mod.refl (fun b => b = w.heap.size ∨ b = w.heap.size + 1) w1).set (p := ⟨w.heap.size, 0, none⟩) (.inl (.inl rfl)) _).set (p := ⟨w.heap.size + 1, 0, none⟩) (.inl (.inr rfl)) _
      have hlt := HS.out.b.lt
      have hob : ∀ b, (Value.slice A1 nc c1').ownBlock = some b → W.heap.size ≤ b := fun b hb => (own_ge HO1.out hb).1
      obtain ⟨hy, hr, hrr, hc, ht⟩ := HS.out.ap
      have hco : ∀ b, (slV (Ac, nc, cc)).ownBlock = some b → ¬ (b = w.heap.size ∨ b = w.heap.size + 1) := fun b hb hf => by
        rcases hf with hf | hf
        · rw [hf] at hb
          exact absurd (K1.out.ty.unique (own_ty hS1.t.co hb)) (by decide)
        · exact (HS.out.vd b hb).1 hf
      refine ⟨?_, ⟨(A1, nc, c1'), ⟨⟨?_, ?_, ?_, ma.blk hS1.b.lb (by omega), ma.blk hS1.b.eb (by omega), fun b hb => by have := hob b hb; omega, Mod.below hS1.b.below ma hS1.b.below.size (fun b hb => by omega)⟩, hS1.t.mod ma (by omega) (by omega) (by omega) (by omega) (by omega) hco, HS.out.ap, fun b hb => ⟨(HS.out.vd b hb).1, (HS.out.vd b hb).2.1, fun e => ?_⟩, trivial⟩⟩, F0.trans (HM.out.then_below HB1.out) ma (fun b hb => .inl (hb.elim .inl (fun h => .inr (.inl h))))⟩
      · refine KeepsFrom.trans (Y := w1) ⟨HB1.out.size, fun k o _ hk ho => (HB1.out.block k (Array.getElem?_eq_some_iff.1 hk).1).trans hk⟩ (((KeepsOthers.setCell _ _ _).trans (KeepsOthers.setCell _ _ _)).from _)
      · exact Blk.far (Blk.set_ K1.out 0 (.slice A1 nc c1')) (by simp) _
      · exact (OwnI.modI (B := w.heap.size) (own_lower HO1.out (by omega)) ma (fun b hb hf => by have := hob b hb; omega))
      · have := Blk.set_ (Blk.far (p := ⟨w.heap.size, 0, none⟩) K2.out (by simp) (.slice A1 nc c1')) 0 (.int .i64 v)
        exact this
      · have h1 := hob b e
        have h2 := (own_ge HS.out.t.co hb).2
        omega
  case done =>
    rintro D ⟨st, it⟩ W hD ⟨hf1, hf2⟩ hI hK
    dsimp only at hf1 hf2
    subst hf2
    subst hf1
    obtain ⟨⟨Af, nf, cf⟩, hB⟩ := hI
    dsimp only at hB
    have HB := Lib.hid hB
    have c1 : W.cell? ⟨w.heap.size, 0, none⟩ = some (.slice Af nf cf) := by simpa [slV] using hB.fb.cell 0
    have c2 : W.cell? ⟨w.heap.size + 1, 0, none⟩ = some (.int .i64 (bestS L).2) := by simpa using hB.mb.cell 0
    obtain ⟨r, hr⟩ : ∃ r, bestS L = r := ⟨_, rfl⟩
    rw [hr] at c2
    have HRR := Lib.hid hr
    clear hB hr
    gi_wp2
    gi_region
    gi_wp2
    have hK2 : (W.drew).heap[D]? = some (.deferred (some [])) := hK
    refine ⟨by simp, .inl ⟨_, _, rfl, run_takeDeferred hK2, ?_⟩⟩
    have hm : Mod (fun b => b = D) W ((W.drew).putObj D (.deferred none)) := by
      have := grownBy_putObj' W.drew D (.deferred none)
      exact ⟨this.os, this.tape, this.output, this.size, fun k hk hne => this.block k hk (fun e => hne (by injection e))⟩
    have hD2 : ∀ t, ¬ Ty W D t := by
      rintro t ⟨cs, fr, hh⟩
      rw [hK] at hh
      cases hh
    refine ⟨.tuple #[.slice Af nf cf, .int .i64 r.2], by simp [results, Try.f51, go_sem], Af, nf, cf, by rw [HRR.out], HB.out.fo.modI hm (fun b hb hf => ?_), Mod.below HB.out.below hm HB.out.below.size (fun b hf => by have := HSZ.out; omega)⟩
    rw [hf] at hb
    exact hD2 _ (own_ty HB.out.fo hb)
  case stop =>
    rintro D c pre W _ h _
    exact h.elim

theorem valid_len {n : Int} {L : List Bd} (h : validE n L = 0) : L.length ≤ 10 := by
  unfold validE at h
  split at h
  · cases h
  · split at h
    · cases h
    · omega
def CBestOwn (L : List Bd) (w : World) (e : Ending) (w' : World) : Prop :=
  ∃ A' n' c', e = .returned (.tuple #[.slice A' n' c', .int .i64 (bestS L).2, .int .i64 0]) ∧ OwnI w' w.heap.size A' n' c' (bestS L).1 ∧ Below w.heap.size w w'
def CBestPost (L : List Bd) (w : World) (e : Ending) (w' : World) : Prop :=
  ∃ A' n' c', e = .returned (.tuple #[.slice A' n' c', .int .i64 (bestS L).2, .int .i64 0]) ∧ NIn w' w'.heap.size (A', n', c') (bestS L).1 ∧ Below w.heap.size w w'
theorem cbest_own (n : Nat) (A : Option Addr) (m c : Nat) (L : List Bd) (w : World) (HL : Hid (Bds w (A, m, c) L)) (HV : Hid (validE (n : Int) L = 0)) :
    Calls Try.prog 27 #[.int .i64 (n : Int), .slice A m c] w (CBestOwn L w) := by
  have hlen := HL.out.rows.len
  dsimp only at hlen
  have hm : m ≤ 10 := by rw [← hlen]; exact valid_len HV.out
  have hok := BidsOk.of_valid HV.out HL.out
  have hv := valid_any (n : Int) (A, m, c) L w HL
  rw [HV.out] at hv
  have HVC := Lib.hid hv
  unfold slV at HVC
  dsimp only at HVC
  have HPR : Hid (∀ b ∈ L, 0 ≤ b.price ∧ b.price ≤ 1099511627776) := Lib.hid (fun b hb => ⟨(hok b hb).1, (hok b hb).2.1⟩)
  have HN : Hid (∀ b ∈ L, b.s.2.1 ≤ 1000000) := Lib.hid (fun b hb => by have := (hok b hb).2.2.1; omega)
  clear hlen hok hv
  go_enter Try.func27, Try.ntmps27
  go_wp2_with (go_at_call 47; refine HVC.out.mono ?_; clear HVC; rintro e w1 ⟨rfl, hb1⟩)
  have HL1 := Lib.hid (HL.out.all hb1)
  have HB1 := Lib.hid hb1
  clear hb1
  refine (best_any A m c L w1 HL1 hm HN HPR).mono ?_
  rintro e w2 ⟨A', n', c', rfl, ho, hb2⟩
  have HO := Lib.hid ho
  have HB2 := Lib.hid hb2
  obtain ⟨r, hr⟩ : ∃ r, bestS L = r := ⟨_, rfl⟩
  rw [hr] at HO ⊢
  have HRR := Lib.hid hr
  clear ho hb2 hr
  go_wp2
  go_ret3
  exact ⟨A', n', c', by rw [HRR.out]; rfl, by rw [HRR.out]; exact own_lower HO.out HB1.out.size, bt HB1.out HB2.out⟩
theorem cbest_any (n : Nat) (A : Option Addr) (m c : Nat) (L : List Bd) (w : World) (HL : Hid (Bds w (A, m, c) L)) (HV : Hid (validE (n : Int) L = 0)) :
    Calls Try.prog 27 #[.int .i64 (n : Int), .slice A m c] w (CBestPost L w) :=
  (cbest_own n A m c L w HL HV).mono fun _ _ ⟨A', n', c', h1, h2, h3⟩ => ⟨A', n', c', h1, h2.nin, h3⟩
theorem cbest_bad (n : Int) (A : Option Addr) (m c : Nat) (L : List Bd) (w : World) (HL : Hid (Bds w (A, m, c) L)) (HV : Hid (validE n L ≠ 0)) :
    Calls Try.prog 27 #[.int .i64 n, .slice A m c] w fun e w' => e = .returned (.tuple #[.slice none 0 0, .int .i64 0, .int .i64 (validE n L)]) ∧ Below w.heap.size w w' := by
  have hv := valid_any n (A, m, c) L w HL
  obtain ⟨r, hr⟩ : ∃ r, validE n L = r := ⟨_, rfl⟩
  rw [hr] at hv HV ⊢
  have HVC := Lib.hid hv
  unfold slV at HVC
  dsimp only at HVC
  have hne : (r != 0) = true := by simpa using HV.out
  clear hv hr
  go_enter Try.func27, Try.ntmps27
  go_wp2_with (go_at_call 47; refine HVC.out.mono ?_; clear HVC; rintro e w1 ⟨rfl, hb1⟩)
  go_ret3
  exact ⟨rfl, hb1⟩
end Go.Proofs.Ytikfcpkobgejmaa

/- proof: Make. -/
namespace Go.Proofs.Ytikfcpkobgejmaa
open Go.RowKit

theorem decide2_any (s : Sl) (D : List Int) (k : Nat) (how : Int) (w : World) (HD : Hid (TI w s D)) (hk : k < s.2.1) (hn : s.2.1 ≤ 1000000) :
    Calls Try.prog 55 #[slV s, .int .i64 (k : Int), .int .i64 how] w fun e w' => ∃ A' c', e = .returned (.slice A' s.2.1 c') ∧ TI w' (A', s.2.1, c') (D.set k how) ∧ Below w.heap.size w w' := by
  obtain ⟨i0, hi, hz0, hz1, hz2⟩ := info_parts int_info
  obtain ⟨w1, hmk, hown1, hb1, hlt1⟩ := make_all (P := Try.prog) w 22 3 i0 _ 8 Try.underlying22 hi hz0 hz1 hz2 rfl .i64 .i64 s.2.1 (by omega) (by unfold maxLen; omega)
  obtain ⟨w2, hcp, hown2, hg2⟩ := run_copyInts (ty := 3) slT_ints hown1 (NIn.all HD.out.nin hb1) rfl (by omega)
  obtain ⟨hc2, hf2⟩ := own_int hown2 hk
  have hset := own_int_set hown2 k how
  have hb2 : Below w.heap.size w w2 := below_of_only hb1 hg2 (Nat.le_of_lt hlt1) (Nat.le_refl _)
  have hb3 : Below w.heap.size w (w2.setCell ⟨w.heap.size, k, none⟩ (.int .i64 how)) := hb2.setCell (p := ⟨w.heap.size, k, none⟩) (Nat.le_refl _) _
  have HF : Hid (TI (w2.setCell ⟨w.heap.size, k, none⟩ (.int .i64 how)) (some ⟨w.heap.size, 0, none⟩, s.2.1, s.2.1) (D.set k how) ∧ Below w.heap.size w (w2.setCell ⟨w.heap.size, k, none⟩ (.int .i64 how))) := Lib.hid ⟨TI.own hset, hb3⟩
  obtain ⟨A, n, c⟩ := s
  unfold slV at hcp ⊢
  dsimp only at hmk hcp hk hn HF ⊢
  have hki : (k : Int) < (n : Int) := by omega
  clear hi hz0 hz1 hz2 hown1 hown2 hset hb1 hb2 hb3 hg2
  go_enter Try.func55, Try.ntmps55
  go_wp2
  go_ret
  exact ⟨_, _, rfl, HF.out.1, HF.out.2⟩

def MkPost (w0 : World) (n : Nat) (A : Option Addr) (m c : Nat) (v : Int) (L : List Bd) (gp gn gl gv gb d : Nat) (V : Sl) (N : List Nd) (D : List Int) (W : World) (e : Ending) (w' : World) : Prop :=
  ∃ (V' : Sl) (N' : List Nd), e = .returned (.int .i64 (V.2.1 : Int)) ∧ MK w0 n A m c v gp gn gl gv gb V' N' w' ∧ N'.take V.2.1 = N ∧ Built n L v N' (d + 1) V.2.1 D V'.2.1 ∧ Mod (FM gp V) W w' ∧ ∀ g, (slV V').ownBlock = some g → (slV V).ownBlock = some g ∨ W.heap.size ≤ g
def MkSpec (w0 : World) (n : Nat) (A : Option Addr) (m c : Nat) (v : Int) (L : List Bd) (gp gn gl gv gb d : Nat) : Prop :=
  ∀ (V : Sl) (N : List Nd) (sD : Sl) (D : List Int) (W : World) (_HMK : Hid (MK w0 n A m c v gp gn gl gv gb V N W)) (_HD : Hid (TI W sD D)) (_hs : sD.2.1 = m) (_HDC : Hid (Dec L D)) (_hd : D.count 0 ≤ d) (_hk : V.2.1 + 2 ^ (d + 1) ≤ 100000),
    Calls Try.prog 52 #[slV sD, .pointer (some ⟨gp, 0, none⟩), .pointer (some ⟨gn, 0, none⟩), .pointer (some ⟨gl, 0, none⟩), .pointer (some ⟨gv, 0, none⟩), .pointer (some ⟨gb, 0, none⟩)] W (MkPost w0 n A m c v L gp gn gl gv gb d V N D W)
theorem take_snoc {N : List Nd} {k : Nat} (h : N.length = k) (x : Nd) : ((N ++ [nl0]).set k x).take k = N := by
  rw [List.take_set_of_le (Nat.le_refl _), ← h, List.take_left]
theorem at_set {N : List Nd} {k : Nat} (h : k < N.length) (x : Nd) : ndAt (N.set k x) k = x := by
  unfold ndAt
  rw [List.getElem?_set_self h]
  rfl
theorem at_other {N : List Nd} {k t : Nat} (h : t ≠ k) (x : Nd) : ndAt (N.set k x) t = ndAt N t := by
  unfold ndAt
  rw [List.getElem?_set_ne (Ne.symm h)]
theorem at_take {N N' : List Nd} {k t : Nat} (h : N'.take k = N) (ht : t < k) : ndAt N' t = ndAt N t := by
  unfold ndAt
  rw [← h, List.getElem?_take_of_lt ht]
set_option maxRecDepth 100000 in
set_option maxHeartbeats 16000000 in
theorem mk_step (w0 : World) (n : Nat) (A : Option Addr) (m c : Nat) (v : Int) (L : List Bd) (gp gn gl gv gb : Nat) (HL : Hid (Bds w0 (A, m, c) L)) (hm : m ≤ 10) (hn : n ≤ 8) (HBO : Hid (BidsOk n L)) (HBV : Hid ((bestS L).2 = v)) (d : Nat) (IH : Hid (∀ d', d = d' + 1 → MkSpec w0 n A m c v L gp gn gl gv gb d')) : MkSpec w0 n A m c v L gp gn gl gv gb d := by
  rintro ⟨Ak, k, ck⟩ N ⟨AD, m', cD⟩ D W HMK HD hs HDC hd hk
  dsimp only at hs hk
  subst m'
  have hpos : 2 ≤ 2 ^ (d + 1) := by rw [Nat.pow_succ]; have := Nat.one_le_two_pow (n := d); omega
  have hk2 : k ≤ 99998 := by omega
  have HK := Lib.hid hk
  have HLL := Lib.hid HL.out.rows.len
  dsimp only at HLL
  have HNL : Hid (N.length = k) := Lib.hid HMK.out.nd.len
  have HLS : Hid (∀ b ∈ L, b.s.2.1 ≤ 1000000) := Lib.hid (fun b hb => by have := (HBO.out b hb).2.2.1; omega)
  clear hpos hk
  unfold slV
  dsimp only
  have q0 : W.cell? ⟨gp, 1, none⟩ = some (.slice Ak k ck) := HMK.out.p.cell 1
  obtain ⟨A1, c1, w1, hr1, ho1, hb1, hm1, hg1⟩ := app_elem2 (w := W) 42 slT_cert HMK.out.nd.row #[.int .i64 (-1), .int .i64 0, .int .i64 0, .slice none 0 0] rfl (by intro u hu; simp at hu; rcases hu with rfl | rfl | rfl | rfl <;> rfl) (by dsimp only; omega) (by decide) HMK.out.below.size
  dsimp only at hr1 ho1 hm1 hg1
  have hN1 : NdsW w1 w0.heap.size A1 (k + 1) c1 (N ++ [nl0]) := ⟨by rw [List.length_append, HNL.out]; rfl, by rw [List.flatMap_append]; exact ho1, fun x hx => by
    rcases List.mem_append.1 hx with h | h
    · exact (HMK.out.nd.ok x h).mod hm1 (fun b hb => (HMK.out.nd.ty b hb).not (by decide))
    · rw [List.mem_singleton] at h
      subst h
      exact TI.nil _⟩
  obtain ⟨hMK2, hp1, hM2⟩ := HMK.out.app (V1 := (A1, k + 1, c1)) hm1 hN1
  have q1 : w1.cell? ⟨gp, 1, none⟩ = some (.slice Ak k ck) := hp1.cell 1
  have q2 := hp1.frozen 1
  have HAP := Lib.hid hr1
  have HO1 : Hid (∀ g, (slV (A1, k + 1, c1)).ownBlock = some g → (slV (Ak, k, ck)).ownBlock = some g ∨ W.heap.size ≤ g) := Lib.hid hg1
  have HD2 := Lib.hid (HD.out.npt hM2 HMK.out.npt)
  unfold slV at hMK2 hM2 HD2
  dsimp only at hMK2 hM2 HD2
  have HMK2 := Lib.hid hMK2
  have HM2 := Lib.hid hM2
  clear hr1 ho1 hb1 hm1 hg1 hN1 hp1 hMK2 hM2 HMK HD
  go_enter Try.func52, Try.ntmps52
  go_upto_region 3 with (at_builtin; refine wpList_append_run HAP.out (by rfl) (by rfl) (by rfl) (by rfl) ?_)
  obtain ⟨w2, hw2⟩ : ∃ x, w1.setCell ⟨gp, 1, none⟩ (.slice A1 (k + 1) c1) = x := ⟨_, rfl⟩
  rw [hw2] at HMK2 HM2 HD2 ⊢
  clear hw2 q0 q1 q2 HAP
  obtain ⟨i0, hi0, hz0, hz1, hz2⟩ := info_parts int_info
  obtain ⟨w3, hmk, hown3, hb3, hlt3⟩ := make_all (P := Try.prog) w2 22 3 i0 _ 8 Try.underlying22 hi0 hz0 hz1 hz2 rfl .i64 .i64 n (by omega) (by unfold maxLen; omega)
  have q3 := HMK2.out.b.kn.cell 0
  simp at q3
  obtain ⟨gz, hgz⟩ : ∃ g, w2.heap.size = g := ⟨_, rfl⟩
  rw [hgz] at hmk hown3
  have HMK3 := Lib.hid (HMK2.out.all hb3)
  have HD3 := Lib.hid (HD2.out.all hb3)
  have HM3 := Lib.hid (HM2.out.then_below hb3)
  have HZ3 : Hid (TI w3 (some ⟨gz, 0, none⟩, n, n) (List.replicate n 0)) := Lib.hid (TI.own (B := gz) (by unfold OwnI; rw [List.map_replicate]; exact hown3))
  clear hi0 hz0 hz1 hz2 hown3 hb3 hlt3 HMK2 HD2 HM2 hgz
  go_wp2
  clear hmk q3
  have hS3 : Below w3.heap.size w3 w3.drew := below_drewN (Below.refl _ _) 1
  obtain ⟨g1, hA1, -, -⟩ := own_some HMK3.out.nd.row (by dsimp only; omega)
  dsimp only at hA1
  subst hA1
  obtain ⟨x, hx⟩ : ∃ x, boundP L D (List.replicate n 0) = x := ⟨_, rfl⟩
  have HX := Lib.hid hx
  clear hx
--@1
  by_cases hE : x ≤ v
  · as_aux_lemma =>
    clear IH
    refine wp_region_held_drew (S := (fun w' => w'.cell? ⟨gl, 0, none⟩ = some (.slice A m c) ∧ w'.cell? ⟨gv, 0, none⟩ = some (.int .i64 v))) (by kernel_rfl) ⟨((HMK3.out.all hS3).b).kl.cell 0, ((HMK3.out.all hS3).b).kv.cell 0⟩ (fun hHeld => ?_)
    refine takeH 0 (some 24) (v := ?_) (by rfl) (by rfl) (by kernel_rfl) (by kernel_rfl) (by kernel_rfl) (fun _ _ _ h => h) ?_ (by assumption) ?_
    rotate_left
    · (intro o ho w hSw; obtain ⟨z0, z1⟩ := hSw; cases ho; go_simp; try with_reducible rfl)
    try simp only [Act.put, List.setIfInBounds_toArray, List.set_cons_zero, List.set_cons_succ]
    refine takeH 1 (some 25) (v := ?_) (by rfl) (by rfl) (by kernel_rfl) (by kernel_rfl) (by kernel_rfl) (fun _ _ _ h => h) ?_ (by assumption) ?_
    rotate_left
    · (intro o ho w hSw; obtain ⟨z0, z1⟩ := hSw; cases ho; go_simp; try with_reducible rfl)
    try simp only [Act.put, List.setIfInBounds_toArray, List.set_cons_zero, List.set_cons_succ]
    refine takeH 2 (some 26) (v := ?_) (by rfl) (by rfl) (by kernel_rfl) (by kernel_rfl) (by kernel_rfl) (fun _ _ _ h => h) ?_ (by assumption) ?_
    rotate_left
    · (intro o ho w hSw; obtain ⟨z0, z1⟩ := hSw; cases ho; go_simp; try with_reducible rfl)
    try simp only [Act.put, List.setIfInBounds_toArray, List.set_cons_zero, List.set_cons_succ]
    refine takeH 4 (some 28) (v := ?_) (by rfl) (by rfl) (by kernel_rfl) (by kernel_rfl) (by kernel_rfl) (fun _ _ _ h => h) ?_ (by assumption) ?_
    rotate_left
    · (intro o ho w hSw; obtain ⟨z0, z1⟩ := hSw; cases ho; go_simp; try with_reducible rfl)
    try simp only [Act.put, List.setIfInBounds_toArray, List.set_cons_zero, List.set_cons_succ]
    refine wpAnyH_ready (rs := [3]) (by kernel_rfl) (by simp) ?_
    refine AllReadyH.cons rfl (fun K hK => ?_) AllReadyH.nil
    go_simp
    go_at_call 53
    (refine (bound_any (A, m, c) (AD, m, cD) (some ⟨gz, 0, none⟩, n, n) L D (List.replicate n 0) _ (Lib.hid (HL.out.all (bt HMK3.out.below hS3))) (Lib.hid (NIn.all HD3.out.nin hS3)) (Lib.hid (NIn.all HZ3.out.nin hS3)) rfl hm hn (Lib.hid (by rw [List.length_replicate]; exact HBO.out)) (Lib.hid (priB_ok (priB_zeros n)))).mono ?_)
    rw [HX.out]
    rintro e w4 ⟨rfl, hb4⟩
    have hS4 := bt hS3 hb4
    clear hb4
    go_wp2
    refine hK.out _ _ ?_ (fun hh4 => ?_)
    · exact ⟨((HMK3.out.all hS4).b).kl.cell 0, ((HMK3.out.all hS4).b).kv.cell 0⟩
    clear hK K
    try simp only [Act.put, List.setIfInBounds_toArray, List.set_cons_zero, List.set_cons_succ]
    refine takeH 5 (some 29) (v := .bool true) (by rfl) (by rfl) (by kernel_rfl) (by kernel_rfl) (by kernel_rfl) (fun _ _ _ h => h) ?_ (by assumption) ?_
    skip
    · (intro o ho w hSw; obtain ⟨z0, z1⟩ := hSw; cases ho; go_simp; try with_reducible rfl)
    try simp only [Act.put, List.setIfInBounds_toArray, List.set_cons_zero, List.set_cons_succ]
    refine wpAnyH_done (by kernel_rfl) ?_ _
    clear hHeld hh4
    have HMK4 := Lib.hid (HMK3.out.all hS4)
    have hkk : k < k + 1 := Nat.lt_succ_self k
    obtain ⟨hS5, hm5⟩ := HMK4.out.nd.setP (j := k) hkk (some ⟨gz, 0, none⟩, n, n) (List.replicate n 0) (HZ3.out.all hS4)
    have hmk5 := HMK4.out.row hm5 hS5
    have q5 : w4.cell? ⟨gp, 1, none⟩ = some (.slice (some ⟨g1, 0, none⟩) (k + 1) c1) := HMK4.out.p.cell 1
    obtain ⟨-, -, -, c3⟩ := HMK4.out.nd.cellAt hkk
    have c3' : ∃ s : Sl, w4.cell? ⟨g1, k * 4 + 3, none⟩ = some (.slice s.1 s.2.1 s.2.2) := ⟨_, c3⟩
    obtain ⟨⟨sA, sn, sc⟩, c4⟩ := c3'
    have f4 := HMK4.out.nd.row.frozenAt (k * 4 + 3)
    have hki : (k : Int) < (k : Int) + 1 := by omega
    have HMK5 := Lib.hid hmk5
    have HM5 : Hid (Mod (FM gp (Ak, k, ck)) W (w4.setCell ⟨g1, k * 4 + 3, none⟩ (slV (some ⟨gz, 0, none⟩, n, n)))) := Lib.hid ((HM3.out.then_below hS4).trans hm5 (fun b hb => (HO1.out b (by rw [hb]; rfl)).imp (fun h => .inr h) id))
    have HF : Hid (MkPost w0 n A m c v L gp gn gl gv gb d (Ak, k, ck) N D W (.returned (.int .i64 (k : Int))) (w4.setCell ⟨g1, k * 4 + 3, none⟩ (slV (some ⟨gz, 0, none⟩, n, n)))) := Lib.hid (by
      have hat : ndAt (N ++ [nl0]) k = nl0 := by
        unfold ndAt
        rw [List.getElem?_append_right (by rw [HNL.out]; exact Nat.le_refl _), HNL.out, Nat.sub_self]
        rfl
      refine ⟨(some ⟨g1, 0, none⟩, k + 1, c1), _, rfl, HMK5.out, ?_, .inl ⟨(some ⟨gz, 0, none⟩, n, n), ?_, ?_, rfl⟩, HM5.out, HO1.out⟩
      · exact take_snoc HNL.out _
      · dsimp only
        rw [at_set (by rw [List.length_append, HNL.out]; exact hkk), hat]
        rfl
      · rw [HX.out]
        exact hE)
    unfold slV at HF
    dsimp only at HF c4
    clear hS3 hS4 hS5 hm5 hmk5 c3 HMK5 HM5 HMK4 HMK3 HD3 HM3
    go_wp2
    go_ret
    exact HF.out
  have hno : decide (x ≤ v) = false := by simpa using hE
  refine wp_region_held_drew (S := (fun w' => w'.cell? ⟨gl, 0, none⟩ = some (.slice A m c) ∧ w'.cell? ⟨gv, 0, none⟩ = some (.int .i64 v))) (by kernel_rfl) ⟨((HMK3.out.all hS3).b).kl.cell 0, ((HMK3.out.all hS3).b).kv.cell 0⟩ (fun hHeld => ?_)
  refine takeH 0 (some 24) (v := ?_) (by rfl) (by rfl) (by kernel_rfl) (by kernel_rfl) (by kernel_rfl) (fun _ _ _ h => h) ?_ (by assumption) ?_
  rotate_left
  · (intro o ho w hSw; obtain ⟨z0, z1⟩ := hSw; cases ho; go_simp; try with_reducible rfl)
  try simp only [Act.put, List.setIfInBounds_toArray, List.set_cons_zero, List.set_cons_succ]
  refine takeH 1 (some 25) (v := ?_) (by rfl) (by rfl) (by kernel_rfl) (by kernel_rfl) (by kernel_rfl) (fun _ _ _ h => h) ?_ (by assumption) ?_
  rotate_left
  · (intro o ho w hSw; obtain ⟨z0, z1⟩ := hSw; cases ho; go_simp; try with_reducible rfl)
  try simp only [Act.put, List.setIfInBounds_toArray, List.set_cons_zero, List.set_cons_succ]
  refine takeH 2 (some 26) (v := ?_) (by rfl) (by rfl) (by kernel_rfl) (by kernel_rfl) (by kernel_rfl) (fun _ _ _ h => h) ?_ (by assumption) ?_
  rotate_left
  · (intro o ho w hSw; obtain ⟨z0, z1⟩ := hSw; cases ho; go_simp; try with_reducible rfl)
  try simp only [Act.put, List.setIfInBounds_toArray, List.set_cons_zero, List.set_cons_succ]
  refine takeH 4 (some 28) (v := ?_) (by rfl) (by rfl) (by kernel_rfl) (by kernel_rfl) (by kernel_rfl) (fun _ _ _ h => h) ?_ (by assumption) ?_
  rotate_left
  · (intro o ho w hSw; obtain ⟨z0, z1⟩ := hSw; cases ho; go_simp; try with_reducible rfl)
  try simp only [Act.put, List.setIfInBounds_toArray, List.set_cons_zero, List.set_cons_succ]
  refine wpAnyH_ready (rs := [3]) (by kernel_rfl) (by simp) ?_
  refine AllReadyH.cons rfl (fun K hK => ?_) AllReadyH.nil
  go_simp
  go_at_call 53
  (refine (bound_any (A, m, c) (AD, m, cD) (some ⟨gz, 0, none⟩, n, n) L D (List.replicate n 0) _ (Lib.hid (HL.out.all (bt HMK3.out.below hS3))) (Lib.hid (NIn.all HD3.out.nin hS3)) (Lib.hid (NIn.all HZ3.out.nin hS3)) rfl hm hn (Lib.hid (by rw [List.length_replicate]; exact HBO.out)) (Lib.hid (priB_ok (priB_zeros n)))).mono ?_)
  rw [HX.out]
  rintro e w4 ⟨rfl, hb4⟩
  have hS4 := bt hS3 hb4
  clear hb4
  go_wp2
  refine hK.out _ _ ?_ (fun hh4 => ?_)
  · exact ⟨((HMK3.out.all hS4).b).kl.cell 0, ((HMK3.out.all hS4).b).kv.cell 0⟩
  clear hK K
  try simp only [Act.put, List.setIfInBounds_toArray, List.set_cons_zero, List.set_cons_succ]
  refine takeH 5 (some 29) (v := .bool false) (by rfl) (by rfl) (by kernel_rfl) (by kernel_rfl) (by kernel_rfl) (fun _ _ _ h => h) ?_ (by assumption) ?_
  skip
  · (intro o ho w hSw; obtain ⟨z0, z1⟩ := hSw; cases ho; go_simp; try with_reducible rfl)
  try simp only [Act.put, List.setIfInBounds_toArray, List.set_cons_zero, List.set_cons_succ]
  refine wpAnyH_done (by kernel_rfl) ?_ _
  clear hHeld hh4 hno
--@2
  obtain ⟨b0, hb0, hpb, hmin⟩ := HDC.out.more (n := n) (fun b hb => ⟨(HBO.out b hb).1, (HBO.out b hb).2.1⟩) (by rw [HBV.out, HX.out]; omega)
  have hbm : b0 < m := by rw [← HLL.out]; exact hb0
  have HPB := Lib.hid hpb
  have HMN := Lib.hid hmin
  have hd0 : D[b0]?.getD 0 = 0 := by
    rw [possB_in hb0, Bool.and_eq_true, decide_eq_true_eq] at hpb
    exact hpb.1
  have hcs := fun x hx => count_set (D := D) (k := b0) (x := x) (by rw [HDC.out.len]; exact hb0) hd0 hx
  have hcs1 := hcs 1 (by decide)
  have hcs2 := hcs 2 (by decide)
  obtain ⟨d', hdd⟩ : ∃ d', d = d' + 1 := ⟨d - 1, by omega⟩
  have HIH := Lib.hid (IH.out d' hdd)
  have HDE := Lib.hid hdd
  have HCT : Hid ((D.set b0 1).count 0 ≤ d' ∧ (D.set b0 2).count 0 ≤ d') := Lib.hid ⟨by omega, by omega⟩
  have HDW := Lib.hid (HDC.out.win hb0 hpb)
  have HDL := Lib.hid (HDC.out.lose (k := b0) hb0)
  have HKK : Hid (k + 2 * 2 ^ (d' + 1) ≤ 100000) := Lib.hid (by have h1 := HK.out; rw [hdd, Nat.pow_succ] at h1; omega)
  have HMK5 := Lib.hid (HMK3.out.all hS4)
  have HD5 := Lib.hid (HD3.out.all hS4)
  have HM5 := Lib.hid (HM3.out.then_below hS4)
  clear hpb hmin hd0 hcs hcs1 hcs2 hdd hd hb0 hS3 hS4 HMK3 HD3 HM3 HZ3 hE IH
  go_wp2
  go_loopw [10] (fun iv wr => ∃ j : Nat, j ≤ b0 ∧ iv = .int .i64 (j : Int) ∧ Hid (Below w4.heap.size w4 wr)) (fun iv _ => b0 - (intOf iv).toNat)
  case atStart => exact ⟨0, by omega, rfl, Lib.hid (Below.refl _ _)⟩
  case round =>
    obtain ⟨j, hj, rfl, HBr⟩ := hrel
    have HMK6 := Lib.hid (HMK5.out.all HBr.out)
    have HD6 := Lib.hid (HD5.out.all HBr.out)
    have HM6 := Lib.hid (HM5.out.then_below HBr.out)
    have q6 := HMK6.out.b.kl.cell 0
    simp at q6
    have hps := possible_any (A, m, c) (AD, m, cD) L D (j : Int) wr (Lib.hid (HL.out.all HMK6.out.below)) (Lib.hid HD6.out.nin) rfl (by dsimp only; omega) HLS
    unfold slV at hps
    dsimp only at hps
    by_cases hjb : j < b0
    · rw [HMN.out j hjb] at hps
      have HPS := Lib.hid hps
      clear hps
      go_wp2_with (go_at_call 54; refine HPS.out.mono ?_; clear HPS; rintro e w6 ⟨rfl, hb6⟩)
      exact ⟨⟨j + 1, by omega, by go_num, Lib.hid (bt HBr.out hb6)⟩, by simp [intOf]; omega⟩
    obtain rfl : j = b0 := by omega
    rw [HPB.out] at hps
    have HPS := Lib.hid hps
    clear hps hjb hj
    go_wp2_with (go_at_call 54; refine HPS.out.mono ?_; clear HPS; rintro e w7 ⟨rfl, hb7⟩)
    have HMK7 := Lib.hid (HMK6.out.all hb7)
    have HD7 := Lib.hid (HD6.out.all hb7)
    have HM7 := Lib.hid (HM6.out.then_below hb7)
    clear hb7 HBr HMK6 HD6 HM6 q6 HMK5 HD5 HM5
    have hS7 : Below w7.heap.size w7 w7.drew := below_drewN (Below.refl _ _) 1
--@3
    refine wp_region_held_drew (S := (fun w' => w'.cell? ⟨gb, 0, none⟩ = some (.func (.func 52) #[] #[.pointer (some ⟨gp, 0, none⟩), .pointer (some ⟨gn, 0, none⟩), .pointer (some ⟨gl, 0, none⟩), .pointer (some ⟨gv, 0, none⟩), .pointer (some ⟨gb, 0, none⟩)]))) (by kernel_rfl) ((HMK7.out.all hS7).b.kb.cell 0) (fun hHeld => ?_)
    refine takeH 0 (some 44) (v := ?_) (by rfl) (by rfl) (by kernel_rfl) (by kernel_rfl) (by kernel_rfl) (fun _ _ _ h => h) ?_ (by assumption) ?_
    rotate_left
    · (intro o ho w hSw; have z0 := hSw; cases ho; go_simp; try with_reducible rfl)
    try simp only [Act.put, List.setIfInBounds_toArray, List.set_cons_zero, List.set_cons_succ]
    refine takeH 1 (some 45) (v := ?_) (by rfl) (by rfl) (by kernel_rfl) (by kernel_rfl) (by kernel_rfl) (fun _ _ _ h => h) ?_ (by assumption) ?_
    rotate_left
    · (intro o ho w hSw; have z0 := hSw; cases ho; go_simp; try with_reducible rfl)
    try simp only [Act.put, List.setIfInBounds_toArray, List.set_cons_zero, List.set_cons_succ]
    refine takeH 2 (some 46) (v := ?_) (by rfl) (by rfl) (by kernel_rfl) (by kernel_rfl) (by kernel_rfl) (fun _ _ _ h => h) ?_ (by assumption) ?_
    rotate_left
    · (intro o ho w hSw; have z0 := hSw; cases ho; go_simp; try with_reducible rfl)
    try simp only [Act.put, List.setIfInBounds_toArray, List.set_cons_zero, List.set_cons_succ]
    refine wpAnyH_ready (rs := [3]) (by kernel_rfl) (by simp) ?_
    refine AllReadyH.cons rfl (fun K hK => ?_) AllReadyH.nil
    go_simp
    go_at_call 55
    (refine (decide2_any (AD, m, cD) D j 1 _ (Lib.hid (HD7.out.all hS7)) hbm (by dsimp only; omega)).mono ?_)
    rintro e w71 ⟨A71, c71, rfl, hT71, hb71⟩
    have hS71 := bt hS7 hb71
    clear hb71
    go_wp2
    refine hK.out _ _ ?_ (fun hh7a => ?_)
    · exact (HMK7.out.all hS71).b.kb.cell 0
    clear hK K
    try simp only [Act.put, List.setIfInBounds_toArray, List.set_cons_zero, List.set_cons_succ]
    refine wpAnyH_ready (rs := [4]) (by kernel_rfl) (by simp) ?_
    refine AllReadyH.cons rfl (fun K hK => ?_) AllReadyH.nil
    go_simp
    go_at_call 52
    (refine (HIH.out (some ⟨g1, 0, none⟩, k + 1, c1) (N ++ [nl0]) (A71, m, c71) (D.set j 1) w71 (Lib.hid (HMK7.out.all hS71)) (Lib.hid hT71) rfl (Lib.hid HDW.out) HCT.out.1 (by have := HKK.out; have := Nat.one_le_two_pow (n := d' + 1); dsimp only; omega)).mono ?_)
    rintro e w8 ⟨⟨A8, m8, c8⟩, N8, rfl, hMK8, hT8, hB8, hM8, hO8⟩
    go_wp2
    refine hK.out _ _ ?_ (fun hh7b => ?_)
    · exact hMK8.b.kb.cell 0
    clear hK K
    try simp only [Act.put, List.setIfInBounds_toArray, List.set_cons_zero, List.set_cons_succ]
    refine takeH 5 (some 11) (v := ?_) (by rfl) (by rfl) (by kernel_rfl) (by kernel_rfl) (by kernel_rfl) (fun _ _ _ h => h) ?_ (by assumption) ?_
    rotate_left
    · (intro o ho w hSw; have z0 := hSw; cases ho; go_simp; try with_reducible rfl)
    try simp only [Act.put, List.setIfInBounds_toArray, List.set_cons_zero, List.set_cons_succ]
    refine wpAnyH_done (by kernel_rfl) ?_ _
    clear hHeld hh7a hh7b
--@4
    try dsimp only at hT8 hB8
    have HM8 : Hid (Mod (FM gp (Ak, k, ck)) W w8) := Lib.hid ((HM7.out.then_below hS71).trans hM8 (fun b hb => hb.elim (fun h => .inl (.inl h)) (fun h => (HO1.out b h).imp (fun h => .inr h) id)))
    have HO8 : Hid (∀ g, (slV (A8, m8, c8)).ownBlock = some g → (slV (Ak, k, ck)).ownBlock = some g ∨ W.heap.size ≤ g) := Lib.hid (fun g hg => (hO8 g hg).elim (fun h => HO1.out g h) (fun h => .inr (by have := HM7.out.size; have := hS71.size; omega)))
    have HD8 : Hid (TI w8 (AD, m, cD) D) := Lib.hid ((HD7.out.all hS71).npt hM8 (HMK7.out.all hS71).npt)
    have HMK8 := Lib.hid hMK8
    have HT8 := Lib.hid hT8
    have HB8 := Lib.hid hB8
    have hl8 := hB8.lt
    have hz8 := hB8.size
    have HZ8 := Lib.hid hz8
    clear hM8 hO8 hMK8 hT8 hB8 hT71 hS7 hS71 HMK7 HD7 HM7 hz8
    have hS8 : Below w8.heap.size w8 w8.drew := below_drewN (Below.refl _ _) 1
    go_wp2
--@5
    refine wp_region_held_drew (S := (fun w' => w'.cell? ⟨gb, 0, none⟩ = some (.func (.func 52) #[] #[.pointer (some ⟨gp, 0, none⟩), .pointer (some ⟨gn, 0, none⟩), .pointer (some ⟨gl, 0, none⟩), .pointer (some ⟨gv, 0, none⟩), .pointer (some ⟨gb, 0, none⟩)]))) (by kernel_rfl) ((HMK8.out.all hS8).b.kb.cell 0) (fun hHeld => ?_)
    refine takeH 0 (some 49) (v := ?_) (by rfl) (by rfl) (by kernel_rfl) (by kernel_rfl) (by kernel_rfl) (fun _ _ _ h => h) ?_ (by assumption) ?_
    rotate_left
    · (intro o ho w hSw; have z0 := hSw; cases ho; go_simp; try with_reducible rfl)
    try simp only [Act.put, List.setIfInBounds_toArray, List.set_cons_zero, List.set_cons_succ]
    refine takeH 1 (some 50) (v := ?_) (by rfl) (by rfl) (by kernel_rfl) (by kernel_rfl) (by kernel_rfl) (fun _ _ _ h => h) ?_ (by assumption) ?_
    rotate_left
    · (intro o ho w hSw; have z0 := hSw; cases ho; go_simp; try with_reducible rfl)
    try simp only [Act.put, List.setIfInBounds_toArray, List.set_cons_zero, List.set_cons_succ]
    refine takeH 2 (some 51) (v := ?_) (by rfl) (by rfl) (by kernel_rfl) (by kernel_rfl) (by kernel_rfl) (fun _ _ _ h => h) ?_ (by assumption) ?_
    rotate_left
    · (intro o ho w hSw; have z0 := hSw; cases ho; go_simp; try with_reducible rfl)
    try simp only [Act.put, List.setIfInBounds_toArray, List.set_cons_zero, List.set_cons_succ]
    refine wpAnyH_ready (rs := [3]) (by kernel_rfl) (by simp) ?_
    refine AllReadyH.cons rfl (fun K hK => ?_) AllReadyH.nil
    go_simp
    go_at_call 55
    (refine (decide2_any (AD, m, cD) D j 2 _ (Lib.hid (HD8.out.all hS8)) hbm (by dsimp only; omega)).mono ?_)
    rintro e w81 ⟨A81, c81, rfl, hT81, hb81⟩
    have hS81 := bt hS8 hb81
    clear hb81
    go_wp2
    refine hK.out _ _ ?_ (fun hh8a => ?_)
    · exact (HMK8.out.all hS81).b.kb.cell 0
    clear hK K
    try simp only [Act.put, List.setIfInBounds_toArray, List.set_cons_zero, List.set_cons_succ]
    refine wpAnyH_ready (rs := [4]) (by kernel_rfl) (by simp) ?_
    refine AllReadyH.cons rfl (fun K hK => ?_) AllReadyH.nil
    go_simp
    go_at_call 52
    (refine (HIH.out (A8, m8, c8) N8 (A81, m, c81) (D.set j 2) w81 (Lib.hid (HMK8.out.all hS81)) (Lib.hid hT81) rfl (Lib.hid HDL.out) HCT.out.2 (by have := HKK.out; have := HZ8.out; have := Nat.one_le_two_pow (n := d' + 1); dsimp only; omega)).mono ?_)
    rintro e w9 ⟨⟨A9, m9, c9⟩, N9, rfl, hMK9, hT9, hB9, hM9, hO9⟩
    go_wp2
    refine hK.out _ _ ?_ (fun hh8b => ?_)
    · exact hMK9.b.kb.cell 0
    clear hK K
    try simp only [Act.put, List.setIfInBounds_toArray, List.set_cons_zero, List.set_cons_succ]
    refine takeH 5 (some 12) (v := ?_) (by rfl) (by rfl) (by kernel_rfl) (by kernel_rfl) (by kernel_rfl) (fun _ _ _ h => h) ?_ (by assumption) ?_
    rotate_left
    · (intro o ho w hSw; have z0 := hSw; cases ho; go_simp; try with_reducible rfl)
    try simp only [Act.put, List.setIfInBounds_toArray, List.set_cons_zero, List.set_cons_succ]
    refine wpAnyH_done (by kernel_rfl) ?_ _
    clear hHeld hh8a hh8b
--@6
    try dsimp only at hT9 hB9
    have HM9 : Hid (Mod (FM gp (Ak, k, ck)) W w9) := Lib.hid ((HM8.out.then_below hS81).trans hM9 (fun b hb => hb.elim (fun h => .inl (.inl h)) (fun h => (HO8.out b h).imp (fun h => .inr h) id)))
    have HO9 : Hid (∀ g, (slV (A9, m9, c9)).ownBlock = some g → (slV (Ak, k, ck)).ownBlock = some g ∨ W.heap.size ≤ g) := Lib.hid (fun g hg => (hO9 g hg).elim (fun h => HO8.out g h) (fun h => .inr (by have := HM8.out.size; have := hS81.size; omega)))
    have hl9 := hB9.lt
    have HMK9 := Lib.hid hMK9
    have HT9 := Lib.hid hT9
    have HB9 := Lib.hid hB9
    clear hM9 hO9 hMK9 hT9 hB9 hT81 hS8 hS81 HMK8 HD8 HM8 HIH
    obtain ⟨g9, hA9, -, -⟩ := own_some HMK9.out.nd.row (by dsimp only; omega)
    dsimp only at hA9
    subst hA9
    have hk9 : k < m9 := by omega
    have hki : (k : Int) < (m9 : Int) := by omega
    obtain ⟨hS10, hm10⟩ := HMK9.out.nd.put (j := k) hk9 ⟨(j : Int), ((k + 1 : Nat) : Int), (m8 : Int), (none, 0, 0), []⟩ (TI.nil _)
    have hmk10 := HMK9.out.row hm10 hS10
    have q9 : w9.cell? ⟨gp, 1, none⟩ = some (.slice (some ⟨g9, 0, none⟩) m9 c9) := HMK9.out.p.cell 1
    obtain ⟨r0, r1, r2, r3⟩ := HMK9.out.nd.cellAt hk9
    have f0 := HMK9.out.nd.row.frozenAt (k * 4)
    have f1 := HMK9.out.nd.row.frozenAt (k * 4 + 1)
    have f2 := HMK9.out.nd.row.frozenAt (k * 4 + 2)
    have f3 := HMK9.out.nd.row.frozenAt (k * 4 + 3)
    obtain ⟨⟨x0, x1, x2, ⟨x3, x4, x5⟩, x6⟩, hnx⟩ : ∃ x, ndAt N9 k = x := ⟨_, rfl⟩
    rw [hnx] at r0 r1 r2 r3
    unfold slV at r3
    dsimp only at r0 r1 r2 r3
    have HM10 := Lib.hid (HM9.out.trans hm10 (fun b hb => (HO9.out b (by rw [hb]; rfl)).imp (fun h => .inr h) id))
    have HMK10 := Lib.hid hmk10
    have HF : Hid (MkPost w0 n A m c v L gp gn gl gv gb d (Ak, k, ck) N D W (.returned (.int .i64 (k : Int))) ((((w9.setCell ⟨g9, k * 4, none⟩ (.int .i64 (j : Int))).setCell ⟨g9, k * 4 + 1, none⟩ (.int .i64 ((k + 1 : Nat) : Int))).setCell ⟨g9, k * 4 + 2, none⟩ (.int .i64 (m8 : Int))).setCell ⟨g9, k * 4 + 3, none⟩ (slV (none, 0, 0)))) := Lib.hid (by
      have h9l : N9.length = m9 := HMK9.out.nd.len
      refine ⟨(some ⟨g9, 0, none⟩, m9, c9), _, rfl, HMK10.out, ?_, ?_, HM10.out, HO9.out⟩
      · dsimp only
        have e1 : (N9.take m8).take (k + 1) = N ++ [nl0] := by rw [HT9.out, HT8.out]
        rw [List.take_take, Nat.min_eq_left (by omega)] at e1
        rw [List.take_set_of_le (Nat.le_refl _)]
        have e2 : (N9.take (k + 1)).take k = (N ++ [nl0]).take k := by rw [e1]
        rw [List.take_take, Nat.min_eq_left (by omega), ← HNL.out, List.take_left, HNL.out] at e2
        exact e2
      · dsimp only
        rw [HDE.out]
        refine .inr ⟨j, m8, (none, 0, 0), at_set (by rw [h9l]; exact hk9) _, HPB.out, HB8.out.congr (fun t ht1 ht2 => ?_), HB9.out.congr (fun t ht1 ht2 => ?_)⟩
        · rw [at_other (by omega), at_take HT9.out ht2]
          exact ⟨rfl, rfl, rfl, rfl⟩
        · rw [at_other (by omega)]
          exact ⟨rfl, rfl, rfl, rfl⟩)
    unfold slV at HF
    rw [show ((k + 1 : Nat) : Int) = (k : Int) + 1 by omega] at HF
    dsimp only at HF
    clear hS10 hm10 hmk10 hnx HM10 HMK10 HMK9 HM9 HO9 HT9 HB9 HT8 HB8 HO8 HZ8
    go_wp2
    go_ret
    exact HF.out
end Go.Proofs.Ytikfcpkobgejmaa
