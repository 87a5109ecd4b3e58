/- book: the counterparts of a new order, plain. -/
import Derived.Test.YtkandhpnenmleaaHBkQl

namespace Go.Proofs.Ytkandhpnenmleaa
open Go.RowKit

theorem matchP_nil : ∀ (l : List Nat) (os : List Ord) (o : Ord), (matchP os o l).1 = [] → (matchP os o l).2.1 = o
  | [], _, _, _ => rfl
  | id :: t, os, o, h => by
    rw [matchP] at h ⊢
    by_cases h1 : 0 < o.left ∧ acceptsB o (ordAt os id) = true
    · rw [if_pos h1] at h ⊢
      by_cases h2 : (ordAt os id).acc = o.acc
      · rw [if_pos h2] at h ⊢
        exact matchP_nil t os o h
      · rw [if_neg h2] at h
        split at h <;> cases h
    · rw [if_neg h1]
/-- The state after i trades: all orders, the order, the side that is left. -/
structure Pri (b : BkS) (buy : Bool) (o0 : Ord) (ts : List Trd) (i : Nat) (os : List Ord) (o : Ord) (l : List Nat) : Prop where
  rest : ts.drop i = (matchP os o l).1
  fin : (matchP b.os o0 (b.side !buy)).2.1 = (matchP os o l).2.1
  len : os.length = b.os.length
  like : ∀ k, (ordAt os k).like (ordAt b.os k)
  olike : o.like o0
  mem : ∀ k, b.isIn k = true → (ordAt b.os k).buy = (!buy) → ((ordAt os k).left ≠ 0 ↔ k ∈ l)
  sub : l.Sublist (b.side !buy)
  pos : ∀ k, k < os.length → 0 ≤ (ordAt os k).left ∧ (ordAt os k).left ≤ (ordAt b.os k).left
  left : 0 ≤ o.left
theorem Pri.start {b : BkS} (h : b.Ok) (buy : Bool) (o0 : Ord) (h0 : 0 ≤ o0.left) : Pri b buy o0 (matchP b.os o0 (b.side !buy)).1 0 b.os o0 (b.side !buy) := by
  refine ⟨rfl, rfl, rfl, fun _ => Ord.like.rfl' _, Ord.like.rfl' _, fun k hk hb => ?_, List.Sublist.refl _, fun k hk => ⟨(h.rng k hk).2.2.2.2.1, Int.le_refl _⟩, h0⟩
  rw [BkS.isIn_side h k, decide_eq_true_eq, hb] at hk
  exact ⟨fun _ => hk, fun _ => by have := (h.mem _ k hk).2.2; omega⟩
/-- A trade. -/
theorem Pri.step {b : BkS} (h : b.Ok) {buy : Bool} {o0 : Ord} {ts : List Trd} {i : Nat} {os : List Ord} {o : Ord} {l : List Nat} (hp : Pri b buy o0 ts i os o l) (hi : i < ts.length) (hna : NoAcc b.os o0.acc) : ∃ id t', l = id :: t' ∧ 0 < min o.left (ordAt os id).left ∧ trdAt ts i = trdOf o (ordAt os id) (min o.left (ordAt os id).left) ∧ id < b.os.length ∧ b.isIn id = true ∧ (ordAt b.os id).buy = (!buy) ∧ ∃ l', Pri b buy o0 ts (i + 1) (os.set id ((ordAt os id).less (min o.left (ordAt os id).left))) (o.less (min o.left (ordAt os id).left)) l' := by
  have hr := hp.rest
  have hd : ts.drop i = ts[i] :: ts.drop (i + 1) := List.drop_eq_getElem_cons hi
  cases l with
  | nil =>
    rw [hd] at hr
    cases hr
  | cons id t' =>
    have hmem : id ∈ b.side (!buy) := hp.sub.subset List.mem_cons_self
    have hm := h.mem (!buy) id hmem
    have hin : b.isIn id = true := isIn_of hmem
    have hidl : id < os.length := by rw [hp.len]; exact hm.1
    have hne : (ordAt os id).left ≠ 0 := (hp.mem id hin hm.2.1).2 List.mem_cons_self
    have hps := (hp.pos id hidl).1
    have hps2 := (hp.pos id hidl).2
    have hacc : (ordAt os id).acc ≠ o.acc := by
      rw [(hp.like id).2.1, hp.olike.2.1]
      exact hna id hm.1
    have hf := hp.fin
    rw [matchP] at hr hf
    by_cases h1 : 0 < o.left ∧ acceptsB o (ordAt os id) = true
    · rw [if_pos h1, if_neg hacc] at hr hf
      obtain ⟨m, hmm⟩ : ∃ m, min o.left (ordAt os id).left = m := ⟨_, rfl⟩
      rw [hmm] at hr hf
      refine ⟨id, t', rfl, ?_⟩
      rw [hmm]
      have hm0 : 0 < m := by omega
      have hset : ∀ k, ordAt (os.set id ((ordAt os id).less m)) k = if k = id then (ordAt os id).less m else ordAt os k := fun k => ordAt_set hidl
      have hlike : ∀ k, (ordAt (os.set id ((ordAt os id).less m)) k).like (ordAt b.os k) := by
        intro k
        rw [hset]
        split
        · rename_i e
          rw [e]
          exact (Ord.like_less _ _).trans (hp.like id)
        · exact hp.like k
      have hpos : ∀ k, k < (os.set id ((ordAt os id).less m)).length → 0 ≤ (ordAt (os.set id ((ordAt os id).less m)) k).left ∧ (ordAt (os.set id ((ordAt os id).less m)) k).left ≤ (ordAt b.os k).left := by
        intro k hk
        rw [List.length_set] at hk
        rw [hset]
        split
        · rename_i e
          rw [e]
          show 0 ≤ (ordAt os id).left - m ∧ (ordAt os id).left - m ≤ (ordAt b.os id).left
          omega
        · exact hp.pos k hk
      have hnd : (id :: t').Nodup := List.Nodup.sublist hp.sub (h.sorted (!buy)).nodup
      have hnt := (List.nodup_cons.1 hnd).1
      have htr : trdAt ts i = trdOf o (ordAt os id) m ∧ ts.drop (i + 1) = (if (ordAt os id).left - m = 0 then (matchP (os.set id ((ordAt os id).less m)) (o.less m) t').1 else []) := by
        rw [hd] at hr
        rw [trdAt_eq hi]
        split at hr
        · rename_i h0
          rw [if_pos h0]
          injection hr with e1 e2
          exact ⟨e1, e2⟩
        · rename_i h0
          rw [if_neg h0]
          injection hr with e1 e2
          exact ⟨e1, e2⟩
      refine ⟨hm0, htr.1, hm.1, hin, hm.2.1, ?_⟩
      by_cases h0 : (ordAt os id).left - m = 0
      · rw [if_pos h0] at hf
        refine ⟨t', ⟨by rw [htr.2, if_pos h0], hf, by rw [List.length_set]; exact hp.len, hlike, (Ord.like_less _ _).trans hp.olike, fun k hk hb => ?_, (List.sublist_cons_self _ _).trans hp.sub, hpos, by show 0 ≤ o.left - m; omega⟩⟩
        rw [hset]
        by_cases e : k = id
        · rw [if_pos e, e]
          show (ordAt os id).left - m ≠ 0 ↔ id ∈ t'
          exact ⟨fun h2 => absurd h0 h2, fun h2 => absurd h2 hnt⟩
        · rw [if_neg e, hp.mem k hk hb, List.mem_cons]
          exact ⟨fun h2 => h2.resolve_left e, .inr⟩
      · rw [if_neg h0] at hf
        have hz : (o.less m).left = 0 := by show o.left - m = 0; omega
        have hstop : matchP (os.set id ((ordAt os id).less m)) (o.less m) (id :: t') = ([], o.less m, os.set id ((ordAt os id).less m), id :: t') := by
          rw [matchP, if_neg (by rw [hz]; omega)]
        refine ⟨id :: t', ⟨by rw [htr.2, if_neg h0, hstop], by rw [hstop]; exact hf, by rw [List.length_set]; exact hp.len, hlike, (Ord.like_less _ _).trans hp.olike, fun k hk hb => ?_, hp.sub, hpos, by omega⟩⟩
        rw [hset]
        by_cases e : k = id
        · rw [if_pos e, e]
          show (ordAt os id).left - m ≠ 0 ↔ id ∈ id :: t'
          exact ⟨fun _ => List.mem_cons_self, fun _ => h0⟩
        · rw [if_neg e]
          exact hp.mem k hk hb
    · rw [if_neg h1, hd] at hr
      cases hr
/-- What the law's search for the best counterpart holds after so many orders. -/
def priN (L : List Ord) (buy : Bool) : Nat → Int
  | 0 => -1
  | j + 1 => if (ordAt L j).buy = buy ∨ (ordAt L j).left = 0 then priN L buy j else if priN L buy j < 0 ∨ betterB (!buy) (ordAt L j) (ordAt L (priN L buy j).toNat) = true then (j : Int) else priN L buy j
theorem priN_lo (L : List Ord) (buy : Bool) (j : Nat) : -1 ≤ priN L buy j ∧ priN L buy j < (j : Int) := by
  induction j with
  | zero => exact ⟨Int.le_refl _, by show (-1 : Int) < 0; decide⟩
  | succ j ih =>
    unfold priN
    split
    · omega
    · split <;> omega
/-- The law's list after i trades. -/
def priL (b : BkS) (os : List Ord) : List Ord := b.openIds.map (ordAt os)
theorem priL_len (b : BkS) (os : List Ord) : (priL b os).length = b.openIds.length := by simp [priL]
theorem priL_at {b : BkS} {os : List Ord} {j : Nat} (hj : j < b.openIds.length) : ordAt (priL b os) j = ordAt os b.openIds[j] := by
  rw [ordAt_eq (by rw [priL_len]; exact hj)]
  simp [priL]
theorem Pri.search {b : BkS} (h : b.Ok) {buy : Bool} {o0 : Ord} {ts : List Trd} {i : Nat} {os : List Ord} {o : Ord} {id : Nat} {t' : List Nat} (hp : Pri b buy o0 ts i os o (id :: t')) : ∃ j : Nat, ∃ hj : j < b.openIds.length, priN (priL b os) buy b.openIds.length = (j : Int) ∧ b.openIds[j] = id := by
  have hL : ∀ j (hj : j < b.openIds.length), ordAt (priL b os) j = ordAt os b.openIds[j] := fun j hj => priL_at hj
  have hin : ∀ j (hj : j < b.openIds.length), b.isIn b.openIds[j] = true := fun j hj => (BkS.mem_isIn h).1 (List.getElem_mem hj)
  have cand : ∀ j (hj : j < b.openIds.length), ¬ ((ordAt (priL b os) j).buy = buy ∨ (ordAt (priL b os) j).left = 0) ↔ b.openIds[j] ∈ id :: t' := by
    intro j hj
    rw [hL j hj, (hp.like _).2.2.1]
    have hbb : ∀ x : Bool, x ≠ buy ↔ x = !buy := by intro x; cases x <;> cases buy <;> simp
    constructor
    · intro hc
      have h1 : (ordAt b.os b.openIds[j]).buy = !buy := (hbb _).1 (fun e => hc (.inl e))
      exact (hp.mem _ (hin j hj) h1).1 (fun e => hc (.inr e))
    · intro hm
      have h1 := (h.mem (!buy) _ (hp.sub.subset hm)).2.1
      rintro (h2 | h2)
      · rw [h1] at h2
        cases buy <;> cases h2
      · exact (hp.mem _ (hin j hj) h1).2 hm h2
  have hbet : ∀ j k (hj : j < b.openIds.length) (hk : k < b.openIds.length), betterB (!buy) (ordAt (priL b os) j) (ordAt (priL b os) k) = betterB (!buy) (ordAt b.os b.openIds[j]) (ordAt b.os b.openIds[k]) := fun j k hj hk => by
    rw [hL j hj, hL k hk]
    exact (hp.like _).bet (hp.like _) _
  have inv : ∀ n, n ≤ b.openIds.length → (priN (priL b os) buy n = -1 ∧ ∀ j (hj : j < b.openIds.length), j < n → b.openIds[j] ∉ id :: t') ∨ ∃ j : Nat, ∃ hj : j < b.openIds.length, priN (priL b os) buy n = (j : Int) ∧ j < n ∧ b.openIds[j] ∈ id :: t' ∧ ∀ k (hk : k < b.openIds.length), k < n → b.openIds[k] ∈ id :: t' → k = j ∨ betterB (!buy) (ordAt b.os b.openIds[j]) (ordAt b.os b.openIds[k]) = true := by
    intro n
    induction n with
    | zero => exact fun _ => .inl ⟨rfl, fun j hj h0 => absurd h0 (by omega)⟩
    | succ n ih =>
      intro hn
      have hnl : n < b.openIds.length := by omega
      have hc := cand n hnl
      have hlast : ∀ k, k < n + 1 → k < n ∨ k = n := fun k hk => by omega
      by_cases hs : (ordAt (priL b os) n).buy = buy ∨ (ordAt (priL b os) n).left = 0
      · have hnm : b.openIds[n] ∉ id :: t' := fun e => hc.2 e hs
        rcases ih (by omega) with ⟨h1, h2⟩ | ⟨j, hj, h1, h2, h3, h4⟩
        · refine .inl ⟨by rw [priN, if_pos hs]; exact h1, fun k hk hk2 => ?_⟩
          rcases hlast k hk2 with h5 | h5
          · exact h2 k hk h5
          · subst h5
            exact hnm
        · refine .inr ⟨j, hj, by rw [priN, if_pos hs]; exact h1, by omega, h3, fun k hk hk2 hkm => ?_⟩
          rcases hlast k hk2 with h5 | h5
          · exact h4 k hk h5 hkm
          · subst h5
            exact absurd hkm hnm
      · have hm := hc.1 hs
        rcases ih (by omega) with ⟨h1, h2⟩ | ⟨j, hj, h1, h2, h3, h4⟩
        · refine .inr ⟨n, hnl, by rw [priN, if_neg hs, if_pos (.inl (by omega))], by omega, hm, fun k hk hk2 hkm => ?_⟩
          rcases hlast k hk2 with h5 | h5
          · exact absurd hkm (h2 k hk h5)
          · exact .inl h5
        · have hbr := hbet n j hnl hj
          cases hbb : betterB (!buy) (ordAt b.os b.openIds[n]) (ordAt b.os b.openIds[j]) with
          | true =>
            refine .inr ⟨n, hnl, by rw [priN, if_neg hs, if_pos (.inr (by rw [h1, Int.toNat_natCast]; exact hbr.trans hbb))], by omega, hm, fun k hk hk2 hkm => ?_⟩
            rcases hlast k hk2 with h5 | h5
            · rcases h4 k hk h5 hkm with h6 | h6
              · subst h6
                exact .inr hbb
              · exact .inr (bet_trans hbb h6)
            · exact .inl h5
          | false =>
            refine .inr ⟨j, hj, ?_, by omega, h3, fun k hk hk2 hkm => ?_⟩
            · rw [priN, if_neg hs, if_neg, h1]
              rintro (h5 | h5)
              · omega
              · rw [h1, Int.toNat_natCast, hbr, hbb] at h5
                cases h5
            · rcases hlast k hk2 with h5 | h5
              · exact h4 k hk h5 hkm
              · subst h5
                refine .inr (bet_total hbb ?_)
                have e1 := (h.mem (!buy) _ (hp.sub.subset hm)).1
                have e2 := (h.mem (!buy) _ (hp.sub.subset h3)).1
                rw [h.ids _ e1, h.ids _ e2]
                have := List.pairwise_iff_getElem.1 b.openIds_pw j k hj hnl h2
                omega
  have hidin : id ∈ b.openIds := (BkS.mem_isIn h).2 (isIn_of (hp.sub.subset List.mem_cons_self))
  obtain ⟨j0, hj0, hje⟩ := List.getElem_of_mem hidin
  rcases inv b.openIds.length (Nat.le_refl _) with ⟨-, h2⟩ | ⟨j, hj, h1, h2, h3, h4⟩
  · exact absurd (by rw [hje]; exact List.mem_cons_self) (h2 j0 hj0 hj0)
  · refine ⟨j, hj, h1, ?_⟩
    rcases h4 j0 hj0 hj0 (by rw [hje]; exact List.mem_cons_self) with h5 | h5
    · subst h5
      exact hje
    · rw [hje] at h5
      have hs : SortedB b.os (!buy) (id :: t') := List.Pairwise.sublist hp.sub (h.sorted (!buy))
      rcases List.mem_cons.1 h3 with h6 | h6
      · exact h6
      · have := (List.pairwise_cons.1 hs).1 _ h6
        rw [bet_asymm this] at h5
        cases h5
/-- The list after a trade. -/
theorem priL_set {b : BkS} {os : List Ord} {j : Nat} (hj : j < b.openIds.length) (hid : b.openIds[j] < os.length) (v : Ord) : (priL b os).set j v = priL b (os.set b.openIds[j] v) := by
  refine List.ext_getElem (by simp [priL]) (fun k h1 h2 => ?_)
  have hk : k < b.openIds.length := by rw [List.length_set, priL_len] at h1; exact h1
  rw [List.getElem_set]
  simp only [priL, List.getElem_map]
  rw [ordAt_set hid]
  by_cases e : j = k
  · subst e
    rw [if_pos rfl, if_pos rfl]
  · have hne : b.openIds[k] ≠ b.openIds[j] := by
      intro e2
      have hp := b.openIds_pw
      rcases Nat.lt_or_ge k j with h3 | h3
      · have := List.pairwise_iff_getElem.1 hp k j hk hj h3
        omega
      · have := List.pairwise_iff_getElem.1 hp j k hj hk (by omega)
        omega
    rw [if_neg e, if_neg hne]
end Go.Proofs.Ytkandhpnenmleaa
