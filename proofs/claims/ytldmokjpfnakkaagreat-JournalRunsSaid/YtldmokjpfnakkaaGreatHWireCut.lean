/- Plain Lean: prefixes of encodings; what is read was written. -/
import Derived.Test.YtldmokjpfnakkaaGreatHG10

namespace Go.Proofs.YtldmokjpfnakkaaGreat
open Go.RowKit

theorem take_lt {a r : List UInt8} {c : Nat} (h : c ≤ a.length) : (a ++ r).take c = a.take c := List.take_append_of_le_length h
theorem take_ge {a r : List UInt8} {c : Nat} (h : a.length ≤ c) : (a ++ r).take c = a ++ r.take (c - a.length) := by
  rw [List.take_append, List.take_of_length_le h]
theorem decK_cut : ∀ (l : List Int) (_ : ∀ n ∈ l, InI n) (r : List UInt8) (c : Nat), c < (l.flatMap encInt).length → decK l.length ((l.flatMap encInt ++ r).take c) = (3, [], [])
  | [], _, r, c, h => absurd h (by simp)
  | n :: l, hl, r, c, h => by
    have hn := hl n (by simp)
    rw [List.flatMap_cons, List.length_append] at h
    rw [List.flatMap_cons, List.append_assoc, List.length_cons]
    by_cases hc : c < (encInt n).length
    · rw [take_lt (by omega), decK, show decU 0 0 ((encInt n).take c) = (3, 0, []) from decU_prefix (zigI_lt hn.1 hn.2) hc]
      simp
    · rw [take_ge (by omega), decK, decU_int hn, if_neg (by simp), decK_cut l (fun m hm => hl m (by simp [hm])) r _ (by omega)]
      simp
theorem decU_take {n : Nat} (h : n ≤ 18446744073709551615) (r : List UInt8) (c : Nat) : decU 0 0 ((varint n ++ r).take c) = if c < (varint n).length then (3, 0, []) else (0, n, r.take (c - (varint n).length)) := by
  by_cases hc : c < (varint n).length
  · rw [if_pos hc, take_lt (by omega)]; exact decU_prefix h hc
  · rw [if_neg hc, take_ge (by omega)]; exact decU_enc h _
theorem decRaw_cut {bs r : List UInt8} (h : bs.length ≤ 18446744073709551615) {c : Nat} (hc : c < (encRaw bs).length) : (decRaw ((encRaw bs ++ r).take c)).1 = 3 := by
  unfold encRaw at hc ⊢
  rw [List.length_append] at hc
  rw [List.append_assoc]
  unfold decRaw
  rw [decU_take h]
  by_cases h1 : c < (varint bs.length).length
  · rw [if_pos h1]; simp
  · rw [if_neg h1, if_neg (by simp), if_pos (by simp; omega)]
theorem decInts_cut {l : List Int} {r : List UInt8} (h : l.length ≤ 18446744073709551615) (hl : ∀ n ∈ l, InI n) {c : Nat} (hc : c < (encInts l).length) : (decInts ((encInts l ++ r).take c)).1 = 3 := by
  unfold encInts at hc ⊢
  rw [List.length_append] at hc
  rw [List.append_assoc]
  unfold decInts
  rw [decU_take h]
  by_cases h1 : c < (varint l.length).length
  · rw [if_pos h1]; simp
  · rw [if_neg h1, if_neg (by simp)]
    split
    · rfl
    · simp only
      rw [decK_cut l hl r _ (by omega)]
/-- A value cut off. -/
theorem readV_cut {v : V} (h : GoodV v) (r : List UInt8) {c : Nat} (hc : c < (encV v).length) : (readV v.kind ((encV v ++ r).take c) 0).1 = 3 := by
  have hf := h.fit
  rcases h.norm with e | e | e | e | e | e | e
  all_goals
    generalize v.u = u at *
    generalize v.n = n at *
    generalize v.b = b at *
    generalize v.l = l at *
    subst e
  · show (decU 0 0 ((varint u ++ r).take c)).1 = 3
    rw [decU_take (n := u) hf.u, if_pos (show c < (varint u).length from hc)]
  · show (decU 0 0 ((varint (zigI n) ++ r).take c)).1 = 3
    rw [decU_take (n := zigI n) (zigI_lt hf.n.1 hf.n.2), if_pos (show c < (varint (zigI n)).length from hc)]
  · obtain rfl : c = 0 := by
      have : (encV ⟨2, 0, 0, [], []⟩).length = 1 := rfl
      omega
    rfl
  · obtain rfl : c = 0 := by
      have : (encV ⟨2, 0, 1, [], []⟩).length = 1 := rfl
      omega
    rfl
  · exact decRaw_cut (show b.length ≤ 18446744073709551615 from by have := hf.b; simp only at this; omega) hc
  · exact decRaw_cut (show b.length ≤ 18446744073709551615 from by have := hf.b; simp only at this; omega) hc
  · exact decInts_cut (show l.length ≤ 18446744073709551615 from by have := hf.l; simp only at this; omega) (inI_mem hf.li) hc
/-- The state of a reader of a prefix: cut off, or a proper prefix of what is still to come. -/
def CutAt (vs : List V) (i : Nat) (rest : List UInt8) (err : Int) : Prop := err = 3 ∨ (err = 0 ∧ ∃ c, c < (encFrom vs i).length ∧ rest = (encFrom vs i).take c)
theorem CutAt.step {vs : List V} {i : Nat} {rest : List UInt8} {err : Int} (h : CutAt vs i rest err) (hg : ∀ y ∈ vs, GoodV y) (hi : i < vs.length) :
    CutAt vs (i + 1) (readV (vs[i]?.getD V0).kind rest err).2.2 (readV (vs[i]?.getD V0).kind rest err).1 := by
  rcases h with rfl | ⟨rfl, c, hc, rfl⟩
  · rw [readV_err (by decide)]; exact .inl rfl
  · have hgv := good_at hg hi
    rw [encFrom_succ vs i hi] at hc ⊢
    by_cases h1 : c < (encV (vs[i]?.getD V0)).length
    · exact .inl (readV_cut hgv _ h1)
    · rw [take_ge (by omega), readV_enc hgv]
      rw [List.length_append] at hc
      exact .inr ⟨rfl, _, by omega, rfl⟩
theorem CutAt.done {vs : List V} {i : Nat} {rest : List UInt8} {err : Int} (h : CutAt vs i rest err) (hi : vs.length ≤ i) : err = 3 := by
  rcases h with rfl | ⟨_, c, hc, _⟩
  · rfl
  · rw [encFrom_end vs i hi] at hc; simp at hc

/-- One encoding: what is read was written. -/
theorem decK_inv : ∀ (k : Nat) (bs : List UInt8) (l : List Int) (r : List UInt8), decK k bs = (0, l, r) → bs = l.flatMap encInt ++ r ∧ l.length = k ∧ ∀ n ∈ l, InI n
  | 0, bs, l, r, h => by
    simp only [decK, Prod.mk.injEq] at h
    obtain ⟨_, rfl, rfl⟩ := h
    exact ⟨rfl, rfl, by simp⟩
  | k + 1, bs, l, r, h => by
    rw [decK] at h
    split at h
    · rename_i he
      simp only [Prod.mk.injEq] at h
      exact absurd h.1 he
    · rename_i he
      have he' : (decU 0 0 bs).1 = 0 := by simpa using he
      split at h
      · rename_i h2
        simp only [Prod.mk.injEq] at h
        exact absurd h.1 h2
      · rename_i h2
        have h2' : (decK k (decU 0 0 bs).2.2).1 = 0 := by simpa using h2
        simp only [Prod.mk.injEq, true_and] at h
        obtain ⟨h3, h4⟩ := h
        obtain ⟨e1, e2, e3⟩ := decK_inv k (decU 0 0 bs).2.2 (decK k (decU 0 0 bs).2.2).2.1 r (by rw [← h4, ← h2'])
        have hd : bs = varint (decU 0 0 bs).2.1 ++ (decU 0 0 bs).2.2 := decU_inv (by rw [← he'])
        have hlt := (decU_lt bs 0 0 (by decide) (by decide)).1
        rw [← h3]
        refine ⟨?_, by simp [e2], fun n hn => ?_⟩
        · rw [List.flatMap_cons, List.append_assoc, ← e1]
          unfold encInt
          rw [zig_unzig]
          exact hd
        · rcases List.mem_cons.1 hn with rfl | hn
          · exact unzigI_range hlt
          · exact e3 n hn
theorem getD_range {l : List Int} (h : ∀ n ∈ l, InI n) : ∀ j : Nat, -9223372036854775808 ≤ l[j]?.getD 0 ∧ l[j]?.getD 0 ≤ 9223372036854775807 := by
  intro j
  by_cases hj : j < l.length
  · rw [List.getElem?_eq_getElem hj]; exact h _ (List.getElem_mem _)
  · rw [List.getElem?_eq_none (by omega)]; simp
theorem flat_len' (l : List Int) : l.length ≤ (l.flatMap encInt).length := flatI_len l
theorem decU_eta {bs : List UInt8} (h : (decU 0 0 bs).1 = 0) : bs = varint (decU 0 0 bs).2.1 ++ (decU 0 0 bs).2.2 := decU_inv (Prod.ext h rfl)
theorem decRaw_inv {bs b r : List UInt8} (h : decRaw bs = (0, b, r)) : bs = encRaw b ++ r := by
  unfold decRaw at h
  split at h
  · rename_i he
    simp only [Prod.mk.injEq] at h
    exact absurd h.1 he
  · rename_i he
    have he' : (decU 0 0 bs).1 = 0 := by simpa using he
    split at h
    · simp at h
    · rename_i h2
      simp only [Prod.mk.injEq, true_and] at h
      obtain ⟨rfl, rfl⟩ := h
      have hd := decU_eta he'
      unfold encRaw
      rw [List.length_take, Nat.min_eq_left (by omega), List.append_assoc, List.take_append_drop]
      exact hd
theorem decInts_inv {bs : List UInt8} {l : List Int} {r : List UInt8} (h : decInts bs = (0, l, r)) : bs = encInts l ++ r ∧ ∀ n ∈ l, InI n := by
  unfold decInts at h
  split at h
  · rename_i he
    simp only [Prod.mk.injEq] at h
    exact absurd h.1 he
  · rename_i he
    have he' : (decU 0 0 bs).1 = 0 := by simpa using he
    split at h
    · simp at h
    · obtain ⟨e1, e2, e3⟩ := decK_inv _ _ _ _ h
      refine ⟨?_, e3⟩
      have hd := decU_eta he'
      unfold encInts
      rw [e2, List.append_assoc, ← e1]
      exact hd
theorem decBool_inv {bs : List UInt8} {b : Bool} {r : List UInt8} (h : decBool bs = (0, b, r)) : bs = encBool b ++ r := by
  unfold decBool at h
  cases bs with
  | nil => simp at h
  | cons c s =>
    simp only at h
    split at h
    · simp at h
    · rename_i hc
      simp only [Prod.mk.injEq, true_and] at h
      obtain ⟨rfl, rfl⟩ := h
      rcases (show c.toNat = 0 ∨ c.toNat = 1 by omega) with h0 | h0
      · have : c = 0 := UInt8.toNat_inj.1 (by rw [h0]; rfl)
        subst this; rfl
      · have : c = 1 := UInt8.toNat_inj.1 (by rw [h0]; rfl)
        subst this; rfl
/-- A value that was read fits and is encoded as it was. -/
theorem readV_inv {kind : Int} {rest : List UInt8} (h : (readV kind rest 0).1 = 0) (hl : rest.length ≤ 1000) : rest = encV (readV kind rest 0).2.1 ++ (readV kind rest 0).2.2 ∧ FitV (readV kind rest 0).2.1 ∧ (readV kind rest 0).2.1.kind = kind := by
  have hlt := (decU_lt rest 0 0 (by decide) (by decide)).1
  unfold readV at h ⊢
  by_cases h0 : kind = 0
  · rw [if_pos h0] at h ⊢
    subst h0
    exact ⟨decU_eta h, ⟨hlt, inI0, by simp, by simp, by simp⟩, rfl⟩
  rw [if_neg h0] at h ⊢
  by_cases h1 : kind = 1
  · rw [if_pos h1] at h ⊢
    subst h1
    refine ⟨?_, ⟨by simp, unzigI_range hlt, by simp, by simp, by simp⟩, rfl⟩
    have hd := decU_eta h
    show rest = encInt (unzigI (decU 0 0 rest).2.1) ++ (decU 0 0 rest).2.2
    unfold encInt
    rw [zig_unzig]
    exact hd
  rw [if_neg h1] at h ⊢
  by_cases h2 : kind = 2
  · rw [if_pos h2] at h ⊢
    subst h2
    have hd : rest = encBool (decBool rest).2.1 ++ (decBool rest).2.2 := decBool_inv (Prod.ext h rfl)
    have hs : readB rest 0 = decBool rest := rfl
    rw [hs]
    generalize (decBool rest).2.1 = b at *
    generalize (decBool rest).2.2 = r at *
    cases b
    · exact ⟨hd, ⟨by simp, inI0, by simp, by simp, by simp⟩, rfl⟩
    · exact ⟨hd, ⟨by simp, inI1, by simp, by simp, by simp⟩, rfl⟩
  rw [if_neg h2] at h ⊢
  by_cases h3 : kind = 3 ∨ kind = 4
  · rw [if_pos h3] at h ⊢
    have hd : rest = encRaw (decRaw rest).2.1 ++ (decRaw rest).2.2 := decRaw_inv (Prod.ext h rfl)
    have hs : readRaw rest 0 = decRaw rest := rfl
    rw [hs]
    generalize (decRaw rest).2.1 = b at *
    generalize (decRaw rest).2.2 = r at *
    have hbl : b.length ≤ 1000 := by
      have := congrArg List.length hd
      unfold encRaw at this
      simp only [List.length_append] at this
      omega
    refine ⟨?_, ⟨by simp, inI0, hbl, by simp, by simp⟩, rfl⟩
    unfold encV
    simp only
    rw [if_neg h0, if_neg h1, if_neg h2, if_pos h3]
    exact hd
  · rw [if_neg h3] at h ⊢
    obtain ⟨hd, hi⟩ : rest = encInts (decInts rest).2.1 ++ (decInts rest).2.2 ∧ ∀ n ∈ (decInts rest).2.1, InI n := decInts_inv (Prod.ext h rfl)
    have hs : readInts rest 0 = decInts rest := rfl
    rw [hs]
    generalize (decInts rest).2.1 = l at *
    generalize (decInts rest).2.2 = r at *
    have hbl : l.length ≤ 1000 := by
      have := congrArg List.length hd
      unfold encInts at this
      simp only [List.length_append] at this
      have := flatI_len l
      omega
    refine ⟨?_, ⟨by simp, inI0, by simp, hbl, getD_range hi⟩, rfl⟩
    unfold encV
    simp only
    rw [if_neg h0, if_neg h1, if_neg h2, if_neg h3]
    exact hd
theorem encV_small {v : V} (h : GoodV v) : (encV v).length ≤ 60 := by
  have hf := h.fit
  obtain ⟨hb, hl⟩ := h.small
  unfold encV
  have h1 := varint_len10 hf.u
  have h2 := encInt_len hf.n.1 hf.n.2
  have h3 : (encBool (v.n == 1)).length = 1 := by unfold encBool; split <;> rfl
  have h4 : (encRaw v.b).length ≤ 19 := by
    unfold encRaw; rw [List.length_append]
    have := varint_len10 (n := v.b.length) (by omega)
    omega
  have h5 : (encInts v.l).length ≤ 50 := by
    rw [← encIntsTo_all v.l v.l.length (Nat.le_refl _)]
    have := encIntsTo_len v.l (by omega) hf.li v.l.length (Nat.le_refl _)
    omega
  split
  · omega
  · split
    · omega
    · split
      · omega
      · split
        · omega
        · omega
theorem flatV_small : ∀ {vs : List V} (_ : ∀ y ∈ vs, GoodV y), (vs.flatMap encV).length ≤ 60 * vs.length
  | [], _ => by simp
  | v :: vs, h => by
    rw [List.flatMap_cons, List.length_append, List.length_cons]
    have := encV_small (h v (by simp))
    have := flatV_small (vs := vs) (fun y hy => h y (by simp [hy]))
    omega
/-- A value that was not read is empty. -/
theorem readV_fail {kind : Int} {rest : List UInt8} (h : (readV kind rest 0).1 ≠ 0) : (readV kind rest 0).2 = (⟨kind, 0, 0, [], []⟩, []) := by
  have hu : (readU rest 0).1 ≠ 0 → (readU rest 0).2 = (0, []) := by
    intro hh
    rcases decU_out rest 0 0 with h1 | ⟨_, h1⟩
    · exact absurd h1 hh
    · exact h1
  have hb : (readB rest 0).1 ≠ 0 → (readB rest 0).2 = (false, []) := by
    show (decBool rest).1 ≠ 0 → (decBool rest).2 = (false, [])
    intro hh
    unfold decBool at hh ⊢
    cases rest with
    | nil => rfl
    | cons c r =>
      simp only at hh ⊢
      split
      · rfl
      · rename_i hc
        rw [if_neg hc] at hh
        exact absurd rfl hh
  have hr : (readRaw rest 0).1 ≠ 0 → (readRaw rest 0).2 = ([], []) := by
    show (decRaw rest).1 ≠ 0 → (decRaw rest).2 = ([], [])
    intro hh
    unfold decRaw at hh ⊢
    split
    · rfl
    · rename_i h1
      rw [if_neg h1] at hh
      split
      · rfl
      · rename_i h2
        rw [if_neg h2] at hh
        exact absurd rfl hh
  have hi : (readInts rest 0).1 ≠ 0 → (readInts rest 0).2 = ([], []) := by
    show (decInts rest).1 ≠ 0 → (decInts rest).2 = ([], [])
    intro hh
    unfold decInts at hh ⊢
    split
    · rfl
    · rename_i h1
      rw [if_neg h1] at hh
      split
      · rfl
      · rename_i h2
        rw [if_neg h2] at hh
        rcases decK_out (decU 0 0 rest).2.1 (decU 0 0 rest).2.2 with h3 | h3
        · exact absurd h3 hh
        · exact h3
  unfold readV at h ⊢
  by_cases h0 : kind = 0
  · rw [if_pos h0] at h ⊢
    simp only
    rw [hu h]
  rw [if_neg h0] at h ⊢
  by_cases h1 : kind = 1
  · rw [if_pos h1] at h ⊢
    simp only
    rw [hu h, unzigI_zero]
  rw [if_neg h1] at h ⊢
  by_cases h2 : kind = 2
  · rw [if_pos h2] at h ⊢
    simp only
    rw [hb h]
    rfl
  rw [if_neg h2] at h ⊢
  by_cases h3 : kind = 3 ∨ kind = 4
  · rw [if_pos h3] at h ⊢
    simp only
    rw [hr h]
  · rw [if_neg h3] at h ⊢
    simp only
    rw [hi h]
theorem fit0 (kind : Int) : FitV ⟨kind, 0, 0, [], []⟩ := ⟨by simp, inI0, by simp, by simp, by simp⟩
/-- The values that were read, and what is left: so far the bytes are theirs. -/
structure OneAt (T : List UInt8) (got : List V) (rest : List UInt8) (err : Int) : Prop where
  fit : ∀ j : Nat, FitV (got[j]?.getD V0)
  len : rest.length ≤ 1000
  eq : err = 0 → T = got.flatMap encV ++ rest
theorem fit_snoc {got : List V} {v : V} (h : ∀ j : Nat, FitV (got[j]?.getD V0)) (hv : FitV v) : ∀ j : Nat, FitV ((got ++ [v])[j]?.getD V0) := by
  intro j
  by_cases hj : j < got.length
  · rw [List.getElem?_append_left hj]; exact h j
  · rw [List.getElem?_append_right (by omega)]
    by_cases h2 : j = got.length
    · subst h2; simp only [Nat.sub_self, List.getElem?_cons_zero, Option.getD_some]; exact hv
    · rw [List.getElem?_eq_none (by simp; omega)]; exact fit0 0
theorem OneAt.start {T : List UInt8} (h : T.length ≤ 1000) : OneAt T [] T 0 := ⟨fun j => by simp; exact fit0 0, h, fun _ => rfl⟩
theorem OneAt.step {T : List UInt8} {got : List V} {rest : List UInt8} {err : Int} (h : OneAt T got rest err) (kind : Int) : OneAt T (got ++ [(readV kind rest err).2.1]) (readV kind rest err).2.2 (readV kind rest err).1 := by
  by_cases he : err = 0
  · subst he
    by_cases h1 : (readV kind rest 0).1 = 0
    · obtain ⟨e1, e2, _⟩ := readV_inv h1 h.len
      refine ⟨fit_snoc h.fit e2, ?_, fun _ => ?_⟩
      · have := congrArg List.length e1
        rw [List.length_append] at this
        have := h.len
        omega
      · rw [List.flatMap_append, List.append_assoc]
        simp only [List.flatMap_cons, List.flatMap_nil, List.append_nil]
        rw [← e1]
        exact h.eq rfl
    · have e := readV_fail h1
      refine ⟨fit_snoc h.fit ?_, ?_, fun h2 => absurd h2 h1⟩
      · rw [show (readV kind rest 0).2.1 = ⟨kind, 0, 0, [], []⟩ from congrArg Prod.fst e]; exact fit0 _
      · rw [show (readV kind rest 0).2.2 = [] from congrArg Prod.snd e]; simp
  · rw [readV_err he]
    exact ⟨fit_snoc h.fit (fit0 _), by simp, fun h2 => absurd h2 he⟩
theorem OneAt.done {T : List UInt8} {got : List V} {rest : List UInt8} {err : Int} (h : OneAt T got rest err) (he : endI rest err = 0) : T = got.flatMap encV := by
  unfold endI at he
  split at he
  · rename_i h0
    split at he
    · rename_i h1
      rw [h.eq h0, List.eq_nil_of_length_eq_zero h1, List.append_nil]
    · omega
  · rename_i h0
    exact absurd he h0
end Go.Proofs.YtldmokjpfnakkaaGreat
