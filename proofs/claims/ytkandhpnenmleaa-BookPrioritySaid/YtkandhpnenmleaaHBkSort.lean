/- book: slices.Sort of a row of one's own; the open orders by their numbers. -/
import Derived.Test.YtkandhpnenmleaaHBkSh
import Derived.Test.YtkandhpnenmleaaHBkP
import Derived.Shelf.SortM.Plain
import Derived.Shelf.SortM.SortNone

namespace Go.Proofs.Ytkandhpnenmleaa
open Go.RowKit Go.Sort

theorem putCells_take (d : Array Int) (cur : Array Value) (h : d.size ≤ cur.size) : (putCells (Value.int .i64) 0 d cur).toList.take d.size = d.toList.map (Value.int .i64) := by
  apply List.ext_getElem?
  intro k
  rcases Nat.lt_or_ge k d.size with hk | hk
  · rw [List.getElem?_take_of_lt hk, Array.getElem?_toList, List.getElem?_map, Array.getElem?_toList]
    simp only [putCells, Array.getElem?_mapIdx]
    rw [Array.getElem?_eq_getElem (show k < cur.size by omega), Array.getElem?_eq_getElem hk]
    simp only [Option.map_some]
    rw [if_pos ⟨by omega, by omega⟩, Nat.sub_zero, getElem!_pos d k hk]
  · rw [List.getElem?_eq_none (by simp; omega), List.getElem?_eq_none (by simp; omega)]
theorem sort_any (A : Option Addr) (n c B : Nat) (xs : List Int) (w : World) (h : OwnI w B A n c xs) (hn : n ≤ 1000000) :
    Calls Try.prog 34 #[.slice A n c] w fun e w' => e = .returned (.tuple #[]) ∧ OwnI w' B A n c (xs.mergeSort fun x y => decide (x ≤ y)) ∧ Mod (fun g => (Value.slice A n c).ownBlock = some g) w w' := by
  have hl : xs.length = n := by simpa using h.1
  obtain ⟨h1, h2⟩ := h
  rcases h2 with ⟨h3, h4⟩ | ⟨g, cap, cur, h3, h4, h5, h6, h7, h8, h9⟩
  · injection h3 with h3 h10 h11
    subst h3 h10 h11
    refine (AnyM.slices_Sort_int_none Try.sortA none 0 w).mono ?_
    rintro e w' ⟨rfl, rfl⟩
    have hx : xs = [] := List.eq_nil_of_length_eq_zero hl
    subst hx
    exact ⟨rfl, by rw [List.mergeSort_nil]; exact OwnI.nil w' B, Mod.refl _ _⟩
  · injection h3 with h3 h10 h11
    subst h3 h11
    have hx : ∀ j, j < n → cur[j]? = some (Value.int .i64 xs.toArray[j]!) := fun j hj => by
      have hj2 : j < xs.length := by omega
      rw [getElem!_pos _ _ (by simpa using hj2)]
      have := congrArg (fun l : List Value => l[j]?) h9
      rw [List.getElem?_take_of_lt (by omega), Array.getElem?_toList] at this
      rw [this]
      simp [hj2]
    have cS := AnyM.slices_Sort_int Try.sortA g 0 c xs w (fun j hj => ⟨by
      rw [Nat.zero_add]
      simp only [World.cell?, h5]
      exact hx j (by simpa [hl] using hj), by simp [World.frozen?, h5]⟩) (Array.getElem?_eq_some_iff.1 h5).1 (by omega)
    rw [hl] at cS
    refine cS.mono ?_
    rintro e w' ⟨rfl, k, os, rfl⟩
    obtain ⟨ys, hys⟩ : ∃ ys, (xs.mergeSort fun x y => decide (x ≤ y)) = ys := ⟨_, rfl⟩
    have hyl : ys.length = n := by rw [← hys, List.length_mergeSort, hl]
    rw [hys]
    have hgl := (Array.getElem?_eq_some_iff.1 h5).1
    have hh : (Sort.grow (putRow (Value.int .i64) (Sort.ahead w k) g 0 ys.toArray) os).heap[g]? = some (.cells (putCells (Value.int .i64) 0 ys.toArray cur) 3 (0, 0)) := by
      rw [heap_grow_old _ _ (by simpa using hgl)]
      simp [putRow, mapBlock, Array.getElem?_modify, h5, onCells]
    refine ⟨rfl, ⟨by simp [hyl], .inr ⟨g, c, _, rfl, h4, hh, h6, h7, by simp [putCells]; omega, ?_⟩⟩, ⟨rfl, rfl, rfl, by simp, fun b hb hF => ?_⟩⟩
    · have := putCells_take ys.toArray cur (by simp [hyl]; omega)
      simpa [hyl] using this
    · rw [heap_grow_old _ _ (by simpa using hb)]
      have hbg : g ≠ b := fun e => hF (by simp [Value.ownBlock, e])
      simp [putRow, mapBlock, Array.getElem?_modify, hbg]
/-- Two lists of numbers that grow and hold the same are the same. -/
theorem strict_eq : ∀ {l m : List Nat}, l.Pairwise (· < ·) → m.Pairwise (· < ·) → (∀ x, x ∈ l ↔ x ∈ m) → l = m
  | [], [], _, _, _ => rfl
  | [], b :: m, _, _, h => absurd ((h b).2 (by simp)) (by simp)
  | a :: l, [], _, _, h => absurd ((h a).1 (by simp)) (by simp)
  | a :: l, b :: m, h1, h2, h => by
    obtain ⟨h3, h4⟩ := List.pairwise_cons.1 h1
    obtain ⟨h5, h6⟩ := List.pairwise_cons.1 h2
    have hab : a = b := by
      have ha := (h a).1 (by simp)
      have hb := (h b).2 (by simp)
      rcases List.mem_cons.1 ha with ha | ha
      · exact ha
      · rcases List.mem_cons.1 hb with hb | hb
        · exact hb.symm
        · have := h5 a ha
          have := h3 b hb
          omega
    subst hab
    rw [strict_eq h4 h6 (fun x => ?_)]
    constructor
    · intro hx
      rcases List.mem_cons.1 ((h x).1 (by simp [hx])) with h7 | h7
      · have := h3 x hx
        omega
      · exact h7
    · intro hx
      rcases List.mem_cons.1 ((h x).2 (by simp [hx])) with h7 | h7
      · have := h5 x hx
        omega
      · exact h7
def BkS.isIn (b : BkS) (k : Nat) : Bool := decide (k ∈ b.bs) || decide (k ∈ b.ss)
/-- The numbers of the open orders. -/
def BkS.openIds (b : BkS) : List Nat := (List.range b.os.length).filter b.isIn
def BkS.openOs (b : BkS) : List Ord := b.openIds.map (ordAt b.os)
theorem BkS.openIds_pw (b : BkS) : b.openIds.Pairwise (· < ·) := List.Pairwise.filter _ List.pairwise_lt_range
theorem BkS.mem_openIds {b : BkS} (h : b.Ok) {k : Nat} : k ∈ b.openIds ↔ k ∈ b.bs ∨ k ∈ b.ss := by
  unfold BkS.openIds BkS.isIn
  rw [List.mem_filter]
  simp only [List.mem_range, Bool.or_eq_true, decide_eq_true_eq]
  constructor
  · exact fun h => h.2
  · intro hk
    refine ⟨?_, hk⟩
    rcases hk with hk | hk
    · exact (h.mem true k hk).1
    · exact (h.mem false k hk).1
theorem bet_irr (buy : Bool) (x : Ord) : betterB buy x x = false := by
  cases buy <;> simp [betterB]
theorem SortedB.nodup {os : List Ord} {buy : Bool} {l : List Nat} (h : SortedB os buy l) : l.Nodup :=
  List.Pairwise.imp (fun {a c} hab e => by
    subst e
    rw [bet_irr] at hab
    cases hab) h
theorem BkS.Ok.nodup {b : BkS} (h : b.Ok) : (b.bs ++ b.ss).Nodup := by
  rw [List.nodup_append]
  refine ⟨(h.sorted true).nodup, (h.sorted false).nodup, fun x hx y hy e => ?_⟩
  subst e
  have h1 := (h.mem true x hx).2.1
  have h2 := (h.mem false x hy).2.1
  rw [h1] at h2
  cases h2
theorem nat_sorted {l : List Nat} {S : List Int} (hp : S.Perm (l.map fun (k : Nat) => (k : Int))) (hs : S.Pairwise (· ≤ ·)) (hn : l.Nodup) : ∃ m : List Nat, S = m.map (fun (k : Nat) => (k : Int)) ∧ m.Perm l ∧ m.Pairwise (· < ·) := by
  have h1 : S = (S.map Int.toNat).map (fun (k : Nat) => (k : Int)) := by
    rw [List.map_map]
    conv => lhs; rw [← List.map_id S]
    apply List.map_congr_left
    intro x hx
    obtain ⟨k, -, rfl⟩ := List.mem_map.1 (hp.mem_iff.1 hx)
    simp
  have h2 : (S.map Int.toNat).Perm l := by
    have := hp.map Int.toNat
    rw [List.map_map] at this
    refine this.trans (List.Perm.of_eq ?_)
    conv => rhs; rw [← List.map_id l]
    apply List.map_congr_left
    intro x _
    simp
  refine ⟨S.map Int.toNat, h1, h2, ?_⟩
  have h3 : (S.map Int.toNat).Nodup := h2.nodup_iff.2 hn
  rw [h1] at hs
  rw [List.pairwise_map] at hs
  exact List.Pairwise.imp₂ (fun a b hab hne => by omega) hs h3
theorem sorted_ids {b : BkS} (h : b.Ok) : ((b.bs.map fun (k : Nat) => (k : Int)) ++ (b.ss.map fun (k : Nat) => (k : Int))).mergeSort (fun x y => decide (x ≤ y)) = b.openIds.map fun (k : Nat) => (k : Int) := by
  rw [← List.map_append]
  obtain ⟨m, h1, h2, h3⟩ := nat_sorted (l := b.bs ++ b.ss) (List.mergeSort_perm _ _) (by
    have := List.pairwise_mergeSort (le := fun x y : Int => decide (x ≤ y)) (by intro a b c; simp; omega) (by intro a b; simp; omega) ((b.bs ++ b.ss).map fun (k : Nat) => (k : Int))
    simpa using this) h.nodup
  rw [h1, strict_eq h3 b.openIds_pw (fun x => ?_)]
  rw [BkS.mem_openIds h, h2.mem_iff, List.mem_append]
theorem BkS.openIds_len {b : BkS} (h : b.Ok) : b.openIds.length = b.bs.length + b.ss.length := by
  have := congrArg List.length (sorted_ids h)
  simpa using this.symm
end Go.Proofs.Ytkandhpnenmleaa
