/- book: plain: what end, Void, open and Place make of a sound book. -/
import Derived.Test.YtkandhpnenmleaaHBkSort
import Derived.Test.YtkandhpnenmleaaHBkEnd

namespace Go.Proofs.Ytkandhpnenmleaa
open Go.RowKit

theorem bet_asymm {buy : Bool} {x y : Ord} (h : betterB buy x y = true) : betterB buy y x = false := by
  cases hb : betterB buy y x
  · rfl
  · have := bet_trans h hb
    rw [bet_irr] at this
    cases this
theorem bet_total {buy : Bool} {x y : Ord} (h : betterB buy x y = false) (hne : x.id ≠ y.id) : betterB buy y x = true := by
  cases buy
  · simp [betterB] at h ⊢
    omega
  · simp [betterB] at h ⊢
    omega
section
variable {b : BkS}
theorem placeN_mem (h : b.Ok) {id : Nat} {buy : Bool} (hm : id ∈ b.side buy) : placeN b.os (b.side buy) (ordAt b.os id) = (b.side buy).idxOf id := by
  have hbuy := (h.mem buy id hm).2.1
  have hs := h.sorted buy
  have hr : (b.side buy).idxOf id < (b.side buy).length := List.idxOf_lt_length_of_mem hm
  have hg : (b.side buy)[(b.side buy).idxOf id] = id := List.getElem_idxOf hr
  refine placeN_eq (Nat.le_of_lt hr) (fun i hi hlt => ?_) (fun i hi hle => ?_)
  · have := List.pairwise_iff_getElem.1 hs i _ hi hr hlt
    rw [hg] at this
    rw [hbuy]
    exact this
  · rcases Nat.lt_or_ge ((b.side buy).idxOf id) i with hlt | hge
    · have := List.pairwise_iff_getElem.1 hs _ i hr hi hlt
      rw [hg] at this
      rw [hbuy]
      exact bet_asymm this
    · obtain rfl : i = (b.side buy).idxOf id := by omega
      rw [hg]
      exact bet_irr _ _
theorem BkS.isIn_side (h : b.Ok) (k : Nat) : b.isIn k = decide (k ∈ b.side (ordAt b.os k).buy) := by
  unfold BkS.isIn
  cases hb : (ordAt b.os k).buy
  · have : ¬ k ∈ b.bs := fun hm => by
      have := (h.mem true k hm).2.1
      rw [hb] at this
      cases this
    simp [this, BkS.side]
  · have : ¬ k ∈ b.ss := fun hm => by
      have := (h.mem false k hm).2.1
      rw [hb] at this
      cases this
    simp [this, BkS.side]
theorem isOpenB_eq (h : b.Ok) {k : Nat} (hk : k < b.os.length) : isOpenB b (ordAt b.os k) = b.isIn k := by
  rw [BkS.isIn_side h k]
  have hid := h.ids k hk
  by_cases hm : k ∈ b.side (ordAt b.os k).buy
  · unfold isOpenB
    rw [placeN_mem h hm, hid, Int.toNat_natCast]
    have hr := List.idxOf_lt_length_of_mem hm
    rw [List.getElem?_eq_getElem hr, List.getElem_idxOf hr]
    simp [hm]
  · unfold isOpenB
    rw [hid, Int.toNat_natCast]
    have : decide (k ∈ b.side (ordAt b.os k).buy) = false := by simp [hm]
    rw [this]
    cases hc : (b.side (ordAt b.os k).buy)[placeN b.os (b.side (ordAt b.os k).buy) (ordAt b.os k)]? with
    | none => rfl
    | some z =>
      by_cases hz : z = k
      · subst hz
        exact absurd (List.mem_of_getElem? hc) hm
      · simp [hz]
/-- The book with some of its open orders alone. -/
def BkS.keep (b : BkS) (p : Nat → Bool) : BkS := ⟨b.os, b.bs.filter p, b.ss.filter p⟩
theorem BkS.keep_side (p : Nat → Bool) (buy : Bool) : (b.keep p).side buy = (b.side buy).filter p := by cases buy <;> rfl
theorem BkS.Ok.keep (h : b.Ok) (p : Nat → Bool) : (b.keep p).Ok := by
  have h1 := h.sub true (l := b.bs.filter p) List.filter_sublist
  have h2 := h1.sub false (l := b.ss.filter p) List.filter_sublist
  exact h2
theorem filter_erase {l : List Nat} (h : l.Nodup) (k : Nat) : l.eraseIdx (l.idxOf k) = l.filter (fun x => x != k) := by
  rw [← List.erase_eq_eraseIdx_of_idxOf rfl, h.erase_eq_filter]
theorem BkS.ended_keep (h : b.Ok) (p : Nat → Bool) {id : Nat} (hi : b.isIn id = true) (hp : p id = true) : (b.keep p).ended (ordAt b.os id) = b.keep (fun k => p k && k != id) := by
  have hlt : id < b.os.length := by
    unfold BkS.isIn at hi
    simp at hi
    rcases hi with hi | hi
    · exact (h.mem true _ hi).1
    · exact (h.mem false _ hi).1
  rw [BkS.isIn_side h _] at hi
  have hm : id ∈ b.side (ordAt b.os id).buy := by simpa using hi
  have hm2 : id ∈ (b.keep p).side (ordAt b.os id).buy := by
    rw [BkS.keep_side, List.mem_filter]
    exact ⟨hm, hp⟩
  have hk := h.keep p
  have hpl : placeN (b.keep p).os ((b.keep p).side (ordAt b.os id).buy) (ordAt b.os id) = _ := placeN_mem hk hm2
  unfold BkS.ended
  rw [hpl, filter_erase (hk.sorted _).nodup, BkS.keep_side, List.filter_filter]
  cases hb : (ordAt b.os id).buy
  · have hn : ∀ x ∈ b.bs, (p x && x != id) = p x := fun x hx => by
      have : x ≠ id := fun e => by
        subst e
        have := (h.mem true x hx).2.1
        rw [hb] at this
        cases this
      simp [this]
    simp only [BkS.put, BkS.keep, BkS.side, Bool.false_eq_true, if_false]
    congr 1
    · exact List.filter_congr (fun x hx => (hn x hx).symm)
    · exact List.filter_congr (fun x _ => Bool.and_comm _ _)
  · have hn : ∀ x ∈ b.ss, (p x && x != id) = p x := fun x hx => by
      have : x ≠ id := fun e => by
        subst e
        have := (h.mem false x hx).2.1
        rw [hb] at this
        cases this
      simp [this]
    simp only [BkS.put, BkS.keep, BkS.side, if_true]
    congr 1
    · exact List.filter_congr (fun x _ => Bool.and_comm _ _)
    · exact List.filter_congr (fun x hx => (hn x hx).symm)
theorem BkS.keep_all (b : BkS) : b.keep (fun _ => true) = b := by
  obtain ⟨os, bs, ss⟩ := b
  simp [BkS.keep]
theorem BkS.ended_eq (h : b.Ok) {id : Nat} (hi : b.isIn id = true) : b.ended (ordAt b.os id) = b.keep (fun k => k != id) := by
  have := BkS.ended_keep h (fun _ => true) hi rfl
  rw [BkS.keep_all] at this
  rw [this]
  congr 1
/-- The book opens an order. -/
theorem BkS.Ok.opened (h : b.Ok) {o : Ord} {k : Nat} (hk : k < b.os.length) (ho : ordAt b.os k = o) (hl : 0 < o.left) (hn : b.isIn k = false) (hf : b.bs.length + b.ss.length < 4096) : (b.opened o).Ok := by
  have hid : o.id = (k : Int) := by rw [← ho]; exact h.ids k hk
  obtain ⟨r, hr⟩ : ∃ r, placeN b.os (b.side o.buy) o = r := ⟨_, rfl⟩
  have hrl : r ≤ (b.side o.buy).length := by rw [← hr]; exact List.findIdx_le_length
  have hlo : ∀ x ∈ (b.side o.buy).take r, betterB o.buy (ordAt b.os x) o = true := by
    intro x hx
    obtain ⟨i, hi, rfl⟩ := List.getElem_of_mem hx
    rw [List.length_take] at hi
    rw [List.getElem_take]
    have := List.not_of_lt_findIdx (p := fun id => !betterB o.buy (ordAt b.os id) o) (xs := b.side o.buy) (i := i) (by unfold placeN at hr; omega)
    simpa using this
  have hne : ∀ x ∈ b.side o.buy, (ordAt b.os x).id ≠ o.id := by
    intro x hx e
    have h1 := h.mem o.buy x hx
    rw [h.ids x h1.1, hid] at e
    have : x = k := by omega
    subst this
    rw [BkS.isIn_side h _, ho] at hn
    simp [hx] at hn
  have hhi : ∀ x ∈ (b.side o.buy).drop r, betterB o.buy o (ordAt b.os x) = true := by
    intro x hx
    obtain ⟨i, hi, rfl⟩ := List.getElem_of_mem hx
    rw [List.length_drop] at hi
    rw [List.getElem_drop]
    have hrlt : r < (b.side o.buy).length := by omega
    have h0 : betterB o.buy (ordAt b.os (b.side o.buy)[r]) o = false := by
      have := List.findIdx_getElem (p := fun id => !betterB o.buy (ordAt b.os id) o) (xs := b.side o.buy) (w := by unfold placeN at hr; omega)
      have e : List.findIdx (fun id => !betterB o.buy (ordAt b.os id) o) (b.side o.buy) = r := hr
      simp only [e] at this
      simpa using this
    have h1 := bet_total h0 (hne _ (List.getElem_mem _))
    rcases Nat.eq_zero_or_pos i with hi0 | hi0
    · subst hi0
      exact h1
    · exact bet_trans h1 (List.pairwise_iff_getElem.1 (h.sorted o.buy) r (r + i) (by omega) (by omega) (by omega))
  have hmem : ∀ x, x ∈ (b.side o.buy).take r ++ [k] ++ (b.side o.buy).drop r ↔ x = k ∨ x ∈ b.side o.buy := by
    intro x
    rw [List.append_assoc, List.mem_append, List.mem_append, List.mem_singleton]
    conv => rhs; rw [← List.take_append_drop r (b.side o.buy), List.mem_append]
    exact ⟨fun h => by rcases h with h | h | h <;> simp [h], fun h => by rcases h with h | h | h <;> simp [h]⟩
  have hsort : SortedB b.os o.buy ((b.side o.buy).take r ++ [k] ++ (b.side o.buy).drop r) := by
    have hs := h.sorted o.buy
    rw [← List.take_append_drop r (b.side o.buy)] at hs
    obtain ⟨s1, s2, s3⟩ := List.pairwise_append.1 hs
    refine List.pairwise_append.2 ⟨List.pairwise_append.2 ⟨s1, List.pairwise_singleton _ _, fun x hx y hy => ?_⟩, s2, fun x hx y hy => ?_⟩
    · rw [List.mem_singleton.1 hy, ho]
      exact hlo x hx
    · rcases List.mem_append.1 hx with hx | hx
      · exact s3 x hx y hy
      · rw [List.mem_singleton.1 hx, ho]
        exact hhi y hy
  have hlen : ((b.side o.buy).take r ++ [k] ++ (b.side o.buy).drop r).length = (b.side o.buy).length + 1 := by
    simp
    omega
  have e : b.opened o = b.put o.buy ((b.side o.buy).take r ++ [k] ++ (b.side o.buy).drop r) := by
    unfold BkS.opened
    rw [hr, hid, Int.toNat_natCast]
  rw [e]
  obtain ⟨l', hl'⟩ : ∃ l', (b.side o.buy).take r ++ [k] ++ (b.side o.buy).drop r = l' := ⟨_, rfl⟩
  rw [hl'] at hmem hsort hlen ⊢
  have hbuy : ∀ x, x ∈ l' → x < b.os.length ∧ (ordAt b.os x).buy = o.buy ∧ 0 < (ordAt b.os x).left := by
    intro x hx
    rcases (hmem x).1 hx with rfl | hx
    · exact ⟨hk, by rw [ho], by rw [ho]; exact hl⟩
    · exact h.mem o.buy x hx
  cases hb : o.buy
  · rw [hb] at hbuy hsort hlen
    refine ⟨h.ids, h.rng, fun buy x hx => ?_, fun buy => ?_, ?_⟩
    · cases buy
      · exact hbuy x hx
      · exact h.mem true x hx
    · cases buy
      · exact hsort
      · exact h.sorted true
    · simp only [BkS.put, BkS.side, Bool.false_eq_true, if_false] at hlen ⊢
      omega
  · rw [hb] at hbuy hsort hlen
    refine ⟨h.ids, h.rng, fun buy x hx => ?_, fun buy => ?_, ?_⟩
    · cases buy
      · exact h.mem false x hx
      · exact hbuy x hx
    · cases buy
      · exact h.sorted false
      · exact hsort
    · simp only [BkS.put, BkS.side, if_true] at hlen ⊢
      omega
end
end Go.Proofs.Ytkandhpnenmleaa
