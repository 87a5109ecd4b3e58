/- book: the reference's orders, plain. -/
import Derived.Test.YtkandhpnenmleaaHBkM

namespace Go.Proofs.Ytkandhpnenmleaa
open Go.RowKit

/-- An order of the reference: with the mark of its end. -/
structure ROrd where
  o : Ord
  e : Bool
def ROrd.cells (x : ROrd) : List Value := [.int .i64 x.o.id, .int .i64 x.o.acc, .bool x.o.buy, .int .i64 x.o.price, .int .i64 x.o.n, .int .i64 x.o.left, .bool x.e]
theorem ROrd.cells_length (x : ROrd) : x.cells.length = 7 := rfl
def rord0 : ROrd := ⟨ord0, false⟩
def rAt (l : List ROrd) (i : Nat) : ROrd := (l[i]?).getD rord0
theorem rAt_eq {l : List ROrd} {i : Nat} (h : i < l.length) : rAt l i = l[i] := by unfold rAt; rw [List.getElem?_eq_getElem h]; rfl
def ROrd.open (x : ROrd) : Bool := decide (0 < x.o.left) && !x.e
/-- The reference's list stands for the book. -/
structure Rel (l : List ROrd) (b : BkS) : Prop where
  os : l.map ROrd.o = b.os
  isIn : ∀ k, k < l.length → (rAt l k).open = b.isIn k
section
variable {l : List ROrd} {b : BkS}
theorem Rel.len (h : Rel l b) : l.length = b.os.length := by rw [← h.os, List.length_map]
theorem Rel.at_ (h : Rel l b) (k : Nat) : (rAt l k).o = ordAt b.os k := by
  unfold rAt ordAt
  rw [← h.os, List.getElem?_map]
  cases l[k]? <;> rfl
theorem rAt_set {k id : Nat} {v : ROrd} (hk : id < l.length) : rAt (l.set id v) k = if k = id then v else rAt l k := by
  unfold rAt
  rw [List.getElem?_set]
  by_cases h : id = k
  · subst h
    rw [if_pos rfl, if_pos rfl, if_pos hk]
    rfl
  · rw [if_neg h, if_neg (fun e => h e.symm)]
theorem rAt_app {o : ROrd} {k : Nat} : rAt (l ++ [o]) k = if k = l.length then o else rAt l k := by
  unfold rAt
  rw [List.getElem?_append]
  split
  · rw [if_neg (by omega)]
  · split
    · rename_i h
      subst h
      simp
    · rw [List.getElem?_eq_none (by simp; omega), List.getElem?_eq_none (by omega)]
theorem BkS.keep_isIn1 (p : Nat → Bool) (k : Nat) : (b.keep p).isIn k = (b.isIn k && p k) := by
  unfold BkS.isIn BkS.keep
  simp only [List.mem_filter, Bool.decide_and, Bool.decide_eq_true]
  cases decide (k ∈ b.bs) <;> cases decide (k ∈ b.ss) <;> cases p k <;> rfl
def betterR (x y : Ord) : Bool := if x.price = y.price then decide (x.id < y.id) else (decide (y.price < x.price) == x.buy)
theorem betterR_eq (x y : Ord) : betterR x y = betterB x.buy x y := by
  unfold betterR betterB
  by_cases h : x.price = y.price
  · rw [if_pos h]
    have h1 : ¬ y.price < x.price := by omega
    have h2 : ¬ x.price < y.price := by omega
    cases x.buy <;> simp [h]
  · rw [if_neg h]
    by_cases h1 : y.price < x.price
    · have h2 : ¬ x.price < y.price := by omega
      cases x.buy <;> simp [h, h1, h2]
    · have h2 : x.price < y.price := by omega
      cases x.buy <;> simp [h, h1, h2]
/-- What the reference's best holds after so many rounds. -/
def rbestN (l : List ROrd) (s : Bool) : Nat → Int
  | 0 => -1
  | i + 1 => if (rAt l i).open = true ∧ (rAt l i).o.buy = s ∧ (rbestN l s i < 0 ∨ betterR (rAt l i).o (rAt l (rbestN l s i).toNat).o = true) then (i : Int) else rbestN l s i
theorem rbestN_lo (l : List ROrd) (s : Bool) (i : Nat) : -1 ≤ rbestN l s i ∧ rbestN l s i < (i : Int) := by
  induction i with
  | zero => exact ⟨Int.le_refl _, by show (-1 : Int) < 0; decide⟩
  | succ i ih =>
    unfold rbestN
    split <;> omega
/-- The best of a side, as a number. -/
def headI : List Nat → Int
  | [] => -1
  | id :: _ => (id : Int)
theorem Rel.side (h : Rel l b) (hok : b.Ok) {k : Nat} (hk : k < l.length) (s : Bool) : ((rAt l k).open = true ∧ (rAt l k).o.buy = s) ↔ k ∈ b.side s := by
  rw [h.isIn k hk, h.at_ k, BkS.isIn_side hok k, decide_eq_true_eq]
  constructor
  · rintro ⟨h1, h2⟩
    rw [← h2]
    exact h1
  · intro h1
    have h2 := (hok.mem s k h1).2.1
    rw [h2]
    exact ⟨h1, rfl⟩
theorem Rel.inv (h : Rel l b) (hok : b.Ok) (s : Bool) (i : Nat) (hi : i ≤ l.length) : (rbestN l s i = -1 ∧ ∀ k, k < i → k ∉ b.side s) ∨ ∃ j : Nat, rbestN l s i = (j : Int) ∧ j < i ∧ j ∈ b.side s ∧ ∀ k, k < i → k ∈ b.side s → k = j ∨ betterB s (ordAt b.os j) (ordAt b.os k) = true := by
  induction i with
  | zero => exact .inl ⟨rfl, fun k hk => absurd hk (by omega)⟩
  | succ i ih =>
    have hS := h.side hok (k := i) (by omega) s
    have hb : ∀ k, k < i + 1 → k < i ∨ k = i := fun k hk => by omega
    rcases ih (by omega) with ⟨h1, h2⟩ | ⟨j, h1, h2, h3, h4⟩
    · by_cases hm : i ∈ b.side s
      · obtain ⟨m1, m2⟩ := hS.2 hm
        refine .inr ⟨i, ?_, by omega, hm, fun k hk hks => ?_⟩
        · unfold rbestN
          rw [if_pos ⟨m1, m2, .inl (by omega)⟩]
        · rcases hb k hk with h5 | h5
          · exact absurd hks (h2 k h5)
          · exact .inl h5
      · refine .inl ⟨?_, fun k hk hks => ?_⟩
        · unfold rbestN
          rw [if_neg (fun hc => hm (hS.1 ⟨hc.1, hc.2.1⟩)), h1]
        · rcases hb k hk with h5 | h5
          · exact h2 k h5 hks
          · exact hm (h5 ▸ hks)
    · by_cases hm : i ∈ b.side s
      · obtain ⟨m1, m2⟩ := hS.2 hm
        have hne : (ordAt b.os i).id ≠ (ordAt b.os j).id := by
          rw [hok.ids i (hok.mem s i hm).1, hok.ids j (hok.mem s j h3).1]
          omega
        have hbr : betterR (rAt l i).o (rAt l (rbestN l s i).toNat).o = betterB s (ordAt b.os i) (ordAt b.os j) := by
          rw [betterR_eq, m2, h1, h.at_, h.at_]
          rfl
        cases hbb : betterB s (ordAt b.os i) (ordAt b.os j) with
        | true =>
          refine .inr ⟨i, ?_, by omega, hm, fun k hk hks => ?_⟩
          · unfold rbestN
            rw [if_pos ⟨m1, m2, .inr (hbr.trans hbb)⟩]
          · rcases hb k hk with h5 | h5
            · rcases h4 k h5 hks with h6 | h6
              · rw [h6]
                exact .inr hbb
              · exact .inr (bet_trans hbb h6)
            · exact .inl h5
        | false =>
          refine .inr ⟨j, ?_, by omega, h3, fun k hk hks => ?_⟩
          · unfold rbestN
            rw [if_neg, h1]
            rintro ⟨-, -, h5 | h5⟩
            · omega
            · rw [hbr, hbb] at h5
              cases h5
          · rcases hb k hk with h5 | h5
            · exact h4 k h5 hks
            · rw [h5]
              exact .inr (bet_total hbb hne)
      · refine .inr ⟨j, ?_, by omega, h3, fun k hk hks => ?_⟩
        · unfold rbestN
          rw [if_neg (fun hc => hm (hS.1 ⟨hc.1, hc.2.1⟩)), h1]
        · rcases hb k hk with h5 | h5
          · exact h4 k h5 hks
          · exact absurd (h5 ▸ hks) hm
/-- The reference's best is the head of the side. -/
theorem Rel.best (h : Rel l b) (hok : b.Ok) (s : Bool) : rbestN l s l.length = headI (b.side s) := by
  have hl := h.len
  rcases h.inv hok s l.length (Nat.le_refl _) with ⟨h1, h2⟩ | ⟨j, h1, h2, h3, h4⟩
  · cases hs : b.side s with
    | nil => exact h1
    | cons id t =>
      have hm : id ∈ b.side s := by rw [hs]; exact List.mem_cons_self
      exact absurd hm (h2 id (by rw [hl]; exact (hok.mem s id hm).1))
  · cases hs : b.side s with
    | nil => rw [hs] at h3; cases h3
    | cons id t =>
      rw [h1]
      show (j : Int) = (id : Int)
      have hm : id ∈ b.side s := by rw [hs]; exact List.mem_cons_self
      rcases h4 id (by rw [hl]; exact (hok.mem s id hm).1) hm with h5 | h5
      · rw [h5]
      · rw [hs] at h3
        rcases List.mem_cons.1 h3 with h6 | h6
        · rw [h6]
        · have hp := hok.sorted s
          unfold SortedB at hp
          rw [hs] at hp
          have := (List.pairwise_cons.1 hp).1 j h6
          rw [bet_asymm this] at h5
          cases h5
/-- An order of the list is turned. -/
theorem Rel.setLeft (h : Rel l b) (hok : b.Ok) {id : Nat} (hid : id < b.os.length) {s : Bool} {t : List Nat} (hs : b.side s = id :: t) (m : Int) :
    ((ordAt b.os id).left - m = 0 → Rel (l.set id ⟨(ordAt b.os id).less m, (rAt l id).e⟩) ((b.setOs (b.os.set id ((ordAt b.os id).less m))).put s t)) ∧ (0 < (ordAt b.os id).left - m → Rel (l.set id ⟨(ordAt b.os id).less m, (rAt l id).e⟩) (b.setOs (b.os.set id ((ordAt b.os id).less m)))) := by
  have hl := h.len
  have hos : (l.set id ⟨(ordAt b.os id).less m, (rAt l id).e⟩).map ROrd.o = b.os.set id ((ordAt b.os id).less m) := by rw [List.map_set, h.os]
  have hin : b.isIn id = true := isIn_of (s := s) (by rw [hs]; exact List.mem_cons_self)
  have he : (rAt l id).e = false := by
    have h1 := h.isIn id (by omega)
    rw [hin] at h1
    unfold ROrd.open at h1
    rw [Bool.and_eq_true] at h1
    simpa using h1.2
  refine ⟨fun h0 => ⟨by rw [put_os]; exact hos, fun k hk => ?_⟩, fun h0 => ⟨hos, fun k hk => ?_⟩⟩
  · rw [List.length_set] at hk
    rw [rAt_set (by omega), ← put_setOs]
    show _ = (b.put s t).isIn k
    split
    · rename_i hk2
      rw [hk2, (hok.pop hs).2]
      unfold ROrd.open
      show (decide (0 < (ordAt b.os id).left - m) && _) = false
      rw [h0]
      rfl
    · rename_i hk2
      rw [h.isIn k hk]
      unfold BkS.isIn
      have hh : (k ∈ b.side s ↔ k ∈ t) := by rw [hs, List.mem_cons]; exact ⟨fun h => h.resolve_left hk2, .inr⟩
      cases s
      · have : (k ∈ b.ss ↔ k ∈ t) := hh
        show (decide (k ∈ b.bs) || decide (k ∈ b.ss)) = (decide (k ∈ b.bs) || decide (k ∈ t))
        simp [this]
      · have : (k ∈ b.bs ↔ k ∈ t) := hh
        show (decide (k ∈ b.bs) || decide (k ∈ b.ss)) = (decide (k ∈ t) || decide (k ∈ b.ss))
        simp [this]
  · rw [List.length_set] at hk
    rw [rAt_set (by omega)]
    show _ = b.isIn k
    split
    · rename_i hk2
      rw [hk2, hin]
      unfold ROrd.open
      show (decide (0 < (ordAt b.os id).left - m) && !(rAt l id).e) = true
      rw [he, decide_eq_true h0]
      rfl
    · exact h.isIn k hk
/-- An order of the list is ended. -/
theorem Rel.setEnd (h : Rel l b) (hok : b.Ok) {id : Nat} (hid : id < b.os.length) {s : Bool} {t : List Nat} (hs : b.side s = id :: t) : Rel (l.set id ⟨ordAt b.os id, true⟩) (b.put s t) := by
  have hl := h.len
  have hos : (l.set id ⟨ordAt b.os id, true⟩).map ROrd.o = b.os := by
    rw [List.map_set, h.os, ordAt_eq hid, List.set_getElem_self]
  refine ⟨by rw [put_os]; exact hos, fun k hk => ?_⟩
  rw [List.length_set] at hk
  rw [rAt_set (by omega)]
  split
  · rename_i hk2
    rw [hk2, (hok.pop hs).2]
    unfold ROrd.open
    simp
  · rename_i hk2
    rw [h.isIn k hk]
    unfold BkS.isIn
    have hh : (k ∈ b.side s ↔ k ∈ t) := by rw [hs, List.mem_cons]; exact ⟨fun h => h.resolve_left hk2, .inr⟩
    cases s
    · have : (k ∈ b.ss ↔ k ∈ t) := hh
      show (decide (k ∈ b.bs) || decide (k ∈ b.ss)) = (decide (k ∈ b.bs) || decide (k ∈ t))
      simp [this]
    · have : (k ∈ b.bs ↔ k ∈ t) := hh
      show (decide (k ∈ b.bs) || decide (k ∈ b.ss)) = (decide (k ∈ t) || decide (k ∈ b.ss))
      simp [this]
/-- Orders are kept or ended by a rule. -/
theorem Rel.keep1 (h : Rel l b) {id : Nat} (hid : id < b.os.length) : Rel (l.set id ⟨ordAt b.os id, true⟩) (b.keep (fun k => k != id)) := by
  have hl := h.len
  have hos : (l.set id ⟨ordAt b.os id, true⟩).map ROrd.o = b.os := by
    rw [List.map_set, h.os, ordAt_eq hid, List.set_getElem_self]
  refine ⟨hos, fun k hk => ?_⟩
  rw [List.length_set] at hk
  rw [rAt_set (by omega), BkS.keep_isIn1]
  split
  · rename_i hk2
    rw [hk2]
    unfold ROrd.open
    simp
  · rename_i hk2
    rw [h.isIn k hk]
    simp [hk2]
/-- A new order: it is open if something is left of it. -/
theorem Rel.app (h : Rel l b) (hok : b.Ok) {o : Ord} : Rel (l ++ [⟨o, false⟩]) (b.withO o) ↔ o.left ≤ 0 := by
  have hl := h.len
  have hn := hok.notIn (Nat.le_refl b.os.length)
  have hin : (b.withO o).isIn = b.isIn := rfl
  constructor
  · intro hr
    have := hr.isIn l.length (by simp)
    rw [rAt_app, if_pos rfl, hin, hl, hn] at this
    unfold ROrd.open at this
    simp at this
    exact this
  · intro h0
    refine ⟨by rw [List.map_append, h.os]; rfl, fun k hk => ?_⟩
    rw [hin, rAt_app]
    split
    · rename_i hk2
      rw [hk2, hl, hn]
      unfold ROrd.open
      simp
      omega
    · rw [List.length_append, List.length_singleton] at hk
      exact h.isIn k (by omega)
theorem dec_or {p q r : Prop} [Decidable p] [Decidable q] [Decidable r] (h : p ↔ q ∨ r) : decide p = (decide q || decide r) := by
  by_cases h1 : q <;> by_cases h2 : r <;> simp [h, h1, h2]
theorem Rel.last (h : Rel l b) (hok : b.Ok) {o : Ord} (hid : o.id = (b.os.length : Int)) : Rel (l ++ [⟨o, false⟩]) (b.last o) := by
  unfold BkS.last
  split
  · rename_i h0
    have hl := h.len
    have hn := hok.notIn (Nat.le_refl b.os.length)
    refine ⟨by unfold BkS.opened; rw [put_os, List.map_append, h.os]; rfl, fun k hk => ?_⟩
    have hin : ((b.withO o).opened o).isIn k = (b.isIn k || decide (k = b.os.length)) := by
      unfold BkS.opened
      have hs : (b.withO o).side o.buy = b.side o.buy := by unfold BkS.withO; exact setOs_side _ _ _
      rw [hs, hid]
      obtain ⟨p, hp⟩ : ∃ p, placeN (b.withO o).os (b.side o.buy) o = p := ⟨_, rfl⟩
      rw [hp, Int.toNat_natCast]
      have hm : ∀ q : List Nat, k ∈ List.take p q ++ [b.os.length] ++ List.drop p q ↔ k ∈ q ∨ k = b.os.length := by
        intro q
        have : k ∈ List.take p q ++ List.drop p q ↔ k ∈ q := by rw [List.take_append_drop]
        simp only [List.mem_append, List.mem_singleton] at this ⊢
        rw [← this]
        constructor
        · rintro ((h | h) | h)
          · exact .inl (.inl h)
          · exact .inr h
          · exact .inl (.inr h)
        · rintro ((h | h) | h)
          · exact .inl (.inl h)
          · exact .inr h
          · exact .inl (.inr h)
      cases o.buy
      · show (decide (k ∈ b.bs) || decide (k ∈ List.take p b.ss ++ [b.os.length] ++ List.drop p b.ss)) = (decide (k ∈ b.bs) || decide (k ∈ b.ss) || decide (k = b.os.length))
        rw [dec_or (hm b.ss), Bool.or_assoc]
      · show (decide (k ∈ List.take p b.bs ++ [b.os.length] ++ List.drop p b.bs) || decide (k ∈ b.ss)) = (decide (k ∈ b.bs) || decide (k ∈ b.ss) || decide (k = b.os.length))
        rw [dec_or (hm b.bs), Bool.or_assoc, Bool.or_comm (decide (k = b.os.length)), ← Bool.or_assoc]
    rw [hin, rAt_app]
    split
    · rename_i hk2
      rw [hk2, hl, hn]
      unfold ROrd.open
      simp
      exact h0
    · rename_i hk2
      rw [List.length_append, List.length_singleton] at hk
      rw [h.isIn k (by omega)]
      simp
      omega
  · exact (h.app hok).2 (by omega)
end
end Go.Proofs.Ytkandhpnenmleaa
