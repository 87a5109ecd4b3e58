/- book: slices.Sort of a row of one's own; the open orders by their numbers. -/
import Derived.Test.YtlcalajehnaenaaGreatDoorHG21
import Derived.Shelf.SortM.Plain
import Derived.Shelf.SortM.SortNone
import Derived.Laws.EntriesVeiled
namespace Go.Proofs.YtlcalajehnaenaaGreatDoor
open Go.RowKit Go.Sort
theorem putCells_take (d : Array Int) (cur : Array Value) (h : d.size ≤ cur.size) : (putCells (Value.int .i64) 0 d cur).toList.take d.size = d.toList.map (Value.int .i64) := by
 apply List.ext_getElem?
 intro k
 rcases Nat.lt_or_ge k d.size with hk | hk
 ·rw [List.getElem?_take_of_lt hk, Array.getElem?_toList, List.getElem?_map, Array.getElem?_toList]
  simp only [putCells, Array.getElem?_mapIdx]
  rw [Array.getElem?_eq_getElem (show k < cur.size by omega), Array.getElem?_eq_getElem hk]
  simp only [Option.map_some]
  rw [if_pos ⟨by omega, by omega⟩, Nat.sub_zero, getElem!_pos d k hk]
 ·rw [List.getElem?_eq_none (by simp; omega), List.getElem?_eq_none (by simp; omega)]
theorem sort_any (A : Option Addr) (n c B : Nat) (xs : List Int) (w : World) (h : OwnI w B A n c xs) (hn : n ≤ 1000000) :
 Calls Tryz.prog 82 #[.slice A n c] w fun e w' => e = .returned (.tuple #[]) ∧ OwnI w' B A n c (xs.mergeSort fun x y => decide (x ≤ y)) ∧ Mod (fun g => (Value.slice A n c).ownBlock = some g) w w' := by
 have hl : xs.length = n := by simpa using h.1
 obtain ⟨h1, h2⟩ := h
 rcases h2 with ⟨h3, h4⟩ | ⟨g, cap, cur, h3, h4, h5, h6, h7, h8, h9⟩
 ·injection h3 with h3 h10 h11
  subst h3 h10 h11
  refine (AnyM.slices_Sort_int_none Tryz.sortA none 0 w).mono ?_
  rintro e w' ⟨rfl, rfl⟩
  have hx : xs = [] := List.eq_nil_of_length_eq_zero hl
  subst hx
  exact ⟨rfl, by rw [List.mergeSort_nil]; exact OwnI.nil w' B, Mod.refl _ _⟩
 ·injection h3 with h3 h10 h11
  subst h3 h11
  have hx : ∀ j, j < n → cur[j]? = some (Value.int .i64 xs.toArray[j]!) := fun j hj => by
   have hj2 : j < xs.length := by omega
   rw [getElem!_pos _ _ (by simpa using hj2)]
   have := congrArg (fun l : List Value => l[j]?) h9
   rw [List.getElem?_take_of_lt (by omega), Array.getElem?_toList] at this
   rw [this]
   simp [hj2]
  have cS := AnyM.slices_Sort_int Tryz.sortA g 0 c xs w (fun j hj => ⟨by
   rw [Nat.zero_add]
   simp only [World.cell?, h5]
   exact hx j (by simpa [hl] using hj), by simp [World.frozen?, h5]⟩) (Array.getElem?_eq_some_iff.1 h5).1 (by omega)
  rw [hl] at cS
  refine cS.mono ?_
  rintro e w' ⟨rfl, k, os, rfl⟩
  obtain ⟨ys, hys⟩ : ∃ ys, (xs.mergeSort fun x y => decide (x ≤ y)) = ys := ⟨_, rfl⟩
  have hyl : ys.length = n := by rw [← hys, List.length_mergeSort, hl]
  rw [hys]
  have hgl := (Array.getElem?_eq_some_iff.1 h5).1
  have hh : (Sort.grow (putRow (Value.int .i64) (Sort.ahead w k) g 0 ys.toArray) os).heap[g]? = some (.cells (putCells (Value.int .i64) 0 ys.toArray cur) 3 (0, 0)) := by
   rw [heap_grow_old _ _ (by simpa using hgl)]
   simp [putRow, mapBlock, Array.getElem?_modify, h5, onCells]
  refine ⟨rfl, ⟨by simp [hyl], .inr ⟨g, c, _, rfl, h4, hh, h6, h7, by simp [putCells]; omega, ?_⟩⟩, ⟨rfl, rfl, rfl, by simp, fun b hb hF => ?_⟩⟩
  ·have := putCells_take ys.toArray cur (by simp [hyl]; omega)
   simpa [hyl] using this
  ·rw [heap_grow_old _ _ (by simpa using hb)]
   have hbg : g ≠ b := fun e => hF (by simp [Value.ownBlock, e])
   simp [putRow, mapBlock, Array.getElem?_modify, hbg]
theorem strict_eq : ∀ {l m : List Nat}, l.Pairwise (· < ·) → m.Pairwise (· < ·) → (∀ x, x ∈ l ↔ x ∈ m) → l = m
 | [], [], _, _, _ => rfl
 | [], b :: m, _, _, h => absurd ((h b).2 (by simp)) (by simp)
 | a :: l, [], _, _, h => absurd ((h a).1 (by simp)) (by simp)
 | a :: l, b :: m, h1, h2, h => by
   obtain ⟨h3, h4⟩ := List.pairwise_cons.1 h1
   obtain ⟨h5, h6⟩ := List.pairwise_cons.1 h2
   have hab : a = b := by
    have ha := (h a).1 (by simp)
    have hb := (h b).2 (by simp)
    rcases List.mem_cons.1 ha with ha | ha
    ·exact ha
    ·rcases List.mem_cons.1 hb with hb | hb
     ·exact hb.symm
     ·have := h5 a ha
      have := h3 b hb
      omega
   subst hab
   rw [strict_eq h4 h6 (fun x => ?_)]
   constructor
   ·intro hx
    rcases List.mem_cons.1 ((h x).1 (by simp [hx])) with h7 | h7
    ·have := h3 x hx
     omega
    ·exact h7
   ·intro hx
    rcases List.mem_cons.1 ((h x).2 (by simp [hx])) with h7 | h7
    ·have := h5 x hx
     omega
    ·exact h7
def BkS.isIn (b : BkS) (k : Nat) : Bool := decide (k ∈ b.bs) || decide (k ∈ b.ss)
def BkS.openIds (b : BkS) : List Nat := (List.range b.os.length).filter b.isIn
def BkS.openOs (b : BkS) : List Ord := b.openIds.map (ordAt b.os)
theorem BkS.openIds_pw (b : BkS) : b.openIds.Pairwise (· < ·) := List.Pairwise.filter _ List.pairwise_lt_range
theorem BkS.mem_openIds {b : BkS} (h : b.Ok) {k : Nat} : k ∈ b.openIds ↔ k ∈ b.bs ∨ k ∈ b.ss := by
 unfold BkS.openIds BkS.isIn
 rw [List.mem_filter]
 simp only [List.mem_range, Bool.or_eq_true, decide_eq_true_eq]
 constructor
 ·exact fun h => h.2
 ·intro hk
  refine ⟨?_, hk⟩
  rcases hk with hk | hk
  ·exact (h.mem true k hk).1
  ·exact (h.mem false k hk).1
theorem bet_irr (buy : Bool) (x : Ord) : betterB buy x x = false := by
 cases buy <;> simp [betterB]
theorem SortedB.nodup {os : List Ord} {buy : Bool} {l : List Nat} (h : SortedB os buy l) : l.Nodup :=
 List.Pairwise.imp (fun {a c} hab e => by
  subst e
  rw [bet_irr] at hab
  cases hab) h
theorem BkS.Ok.nodup {b : BkS} (h : b.Ok) : (b.bs ++ b.ss).Nodup := by
 rw [List.nodup_append]
 refine ⟨(h.sorted true).nodup, (h.sorted false).nodup, fun x hx y hy e => ?_⟩
 subst e
 have h1 := (h.mem true x hx).2.1
 have h2 := (h.mem false x hy).2.1
 rw [h1] at h2
 cases h2
theorem nat_sorted {l : List Nat} {S : List Int} (hp : S.Perm (l.map fun (k : Nat) => (k : Int))) (hs : S.Pairwise (· ≤ ·)) (hn : l.Nodup) : ∃ m : List Nat, S = m.map (fun (k : Nat) => (k : Int)) ∧ m.Perm l ∧ m.Pairwise (· < ·) := by
 have h1 : S = (S.map Int.toNat).map (fun (k : Nat) => (k : Int)) := by
  rw [List.map_map]
  conv => lhs; rw [← List.map_id S]
  apply List.map_congr_left
  intro x hx
  obtain ⟨k, -, rfl⟩ := List.mem_map.1 (hp.mem_iff.1 hx)
  simp
 have h2 : (S.map Int.toNat).Perm l := by
  have := hp.map Int.toNat
  rw [List.map_map] at this
  refine this.trans (List.Perm.of_eq ?_)
  conv => rhs; rw [← List.map_id l]
  apply List.map_congr_left
  intro x _
  simp
 refine ⟨S.map Int.toNat, h1, h2, ?_⟩
 have h3 : (S.map Int.toNat).Nodup := h2.nodup_iff.2 hn
 rw [h1] at hs
 rw [List.pairwise_map] at hs
 exact List.Pairwise.imp₂ (fun a b hab hne => by omega) hs h3
theorem sorted_ids {b : BkS} (h : b.Ok) : ((b.bs.map fun (k : Nat) => (k : Int)) ++ (b.ss.map fun (k : Nat) => (k : Int))).mergeSort (fun x y => decide (x ≤ y)) = b.openIds.map fun (k : Nat) => (k : Int) := by
 rw [← List.map_append]
 obtain ⟨m, h1, h2, h3⟩ := nat_sorted (l := b.bs ++ b.ss) (List.mergeSort_perm _ _) (by
  have := List.pairwise_mergeSort (le := fun x y : Int => decide (x ≤ y)) (by intro a b c; simp; omega) (by intro a b; simp; omega) ((b.bs ++ b.ss).map fun (k : Nat) => (k : Int))
  simpa using this) h.nodup
 rw [h1, strict_eq h3 b.openIds_pw (fun x => ?_)]
 rw [BkS.mem_openIds h, h2.mem_iff, List.mem_append]
theorem BkS.openIds_len {b : BkS} (h : b.Ok) : b.openIds.length = b.bs.length + b.ss.length := by
 have := congrArg List.length (sorted_ids h)
 simpa using this.symm
end Go.Proofs.YtlcalajehnaenaaGreatDoor
namespace Go.Proofs.YtlcalajehnaenaaGreatDoor
open Go.RowKit
def idsV (l : List Nat) : List Value := l.map fun (k : Nat) => Value.int .i64 (k : Int)
def IRow (W : World) (B : Nat) (s : Sl) (l : List Nat) : Prop :=
 l.length = s.2.1 ∧ s.2.1 ≤ s.2.2 ∧ s.2.2 ≤ 9223372036854775807 ∧ (0 < s.2.2 → ∃ g off cur, s.1 = some ⟨g, off, none⟩ ∧ B ≤ g ∧ W.heap[g]? = some (.cells cur 3 (0, 0)) ∧ off + s.2.2 ≤ cur.size ∧ ∀ j, j < s.2.1 → cur[off + j]? = (idsV l)[j]?)
section
variable {W W' : World} {B : Nat} {s : Sl} {l : List Nat} {F : Nat → Prop}
theorem IRow.len (h : IRow W B s l) : l.length = s.2.1 := h.1
theorem IRow.nil (W : World) (B : Nat) : IRow W B (none, 0, 0) [] := ⟨rfl, Nat.le_refl _, by simp, fun h => absurd h (by simp)⟩
theorem IRow.own {A : Option Addr} {n c : Nat} (h : W.ownsRow B 3 1 (.slice A n c) n (idsV l)) : IRow W B (A, n, c) l := by
 obtain ⟨h1, h2⟩ := h
 have hl : l.length = n := by simpa [idsV] using h1
 rcases h2 with ⟨h3, h4⟩ | ⟨g, cap, cur, h3, h4, h5, h6, h7, h8, h9⟩
 ·injection h3 with h3 h5 h6
  subst h3 h5 h6
  exact ⟨hl, Nat.le_refl _, by simp, fun h => absurd h (by simp)⟩
 ·injection h3 with h3 h10 h11
  subst h3 h11
  refine ⟨hl, h6, by simpa [maxLen] using h7, fun _ => ⟨g, 0, cur, rfl, h4, h5, by dsimp only; omega, fun j hj => ?_⟩⟩
  dsimp only at hj
  rw [← h9, List.getElem?_take_of_lt (by omega), Nat.zero_add, Array.getElem?_toList]
theorem IRow.ty (h : IRow W B s l) (hc : 0 < s.2.2) {g : Nat} (hg : (slV s).ownBlock = some g) : Ty W g 3 ∧ B ≤ g ∧ g < W.heap.size := by
 obtain ⟨g', off, cur, h1, h2, h3, -⟩ := h.2.2.2 hc
 unfold slV at hg
 rw [h1] at hg
 injection hg with hg
 dsimp only at hg
 subst hg
 exact ⟨⟨cur, _, h3⟩, h2, (Array.getElem?_eq_some_iff.1 h3).1⟩
def blkOf (s : Sl) : Option Nat := if 0 < s.2.2 then (slV s).ownBlock else none
theorem IRow.at_ (h : IRow W B s l) {g : Nat} (hg : blkOf s = some g) : Ty W g 3 ∧ B ≤ g ∧ g < W.heap.size := by
 unfold blkOf at hg
 split at hg
 ·exact h.ty (by assumption) hg
 ·cases hg
theorem IRow.mod (h : IRow W B s l) (m : Mod F W W') (hF : ∀ g, blkOf s = some g → ¬ F g) : IRow W' B s l := by
 refine ⟨h.1, h.2.1, h.2.2.1, fun hc => ?_⟩
 obtain ⟨g, off, cur, h1, h2, h3, h4⟩ := h.2.2.2 hc
 have hb : blkOf s = some g := by unfold blkOf; rw [if_pos hc]; unfold slV; rw [h1]; rfl
 exact ⟨g, off, cur, h1, h2, (m.block g (Array.getElem?_eq_some_iff.1 h3).1 (hF g hb)).trans h3, h4⟩
theorem IRow.all (h : IRow W B s l) (hb : Below W.heap.size W W') : IRow W' B s l := h.mod (F := fun _ => False) (Mod.of_below _ hb) (fun _ _ hf => hf)
theorem IRow.cell {A : Option Addr} {n c : Nat} (h : IRow W B (A, n, c) l) {j : Nat} (hj : j < n) : ∃ g off, A = some ⟨g, off, none⟩ ∧ B ≤ g ∧ g < W.heap.size ∧ W.cell? ⟨g, off + j, none⟩ = some (.int .i64 (((l[j]?).getD 0 : Nat) : Int)) ∧ W.frozen? ⟨g, off + j, none⟩ = false := by
 obtain ⟨h1, h2, h3, h4⟩ := h
 dsimp only at h1 h2 h4
 obtain ⟨g, off, cur, a1, a2, a3, a4, a5⟩ := h4 (by omega)
 have hjl : j < l.length := by omega
 refine ⟨g, off, a1, a2, (Array.getElem?_eq_some_iff.1 a3).1, ?_, ?_⟩
 ·simp only [World.cell?, a3]
  rw [a5 j hj]
  unfold idsV
  rw [List.getElem?_map, List.getElem?_eq_getElem hjl]
  rfl
 ·simp [World.frozen?, a3]
theorem IRow.nin (h : IRow W B s l) : NIn W W.heap.size s (l.map fun (k : Nat) => (k : Int)) := by
 obtain ⟨A, n, c⟩ := s
 refine ⟨by simpa using h.1, h.2.1, h.2.2.1, fun hn => ?_⟩
 dsimp only at hn
 obtain ⟨g, off, cur, h1, h2, h3, h4, h5⟩ := h.2.2.2 (by have h9 := h.2.1; dsimp only at h9 ⊢; omega)
 dsimp only at h1 h4 h5
 refine ⟨g, off, h1, (Array.getElem?_eq_some_iff.1 h3).1, fun j hj => ?_⟩
 dsimp only at hj
 have hjl : j < l.length := by rw [h.1]; exact hj
 simp only [World.cell?, h3]
 rw [h5 j hj]
 unfold idsV vInt
 rw [List.getElem?_map, List.getElem?_map, List.getElem?_eq_getElem hjl]
 rfl
end
end Go.Proofs.YtlcalajehnaenaaGreatDoor
namespace Go.Proofs.YtlcalajehnaenaaGreatDoor
open Go.RowKit
theorem bel2 (w : World) (a b : Obj) : Below w.heap.size w ((w.alloc a).alloc b) := ((Below.refl _ w).alloc (Nat.le_refl _) a).alloc (by simp) b
theorem bet1_any (i1 a1 : Int) (b1 : Bool) (p1 n1 l1 i2 a2 : Int) (b2 : Bool) (p2 n2 l2 : Int) (w : World) :
 Calls Tryz.prog 26 #[.agg #[.int .i64 i1, .int .i64 a1, .bool b1, .int .i64 p1, .int .i64 n1, .int .i64 l1], .agg #[.int .i64 i2, .int .i64 a2, .bool b2, .int .i64 p2, .int .i64 n2, .int .i64 l2]] w fun e w' => e = .returned (.bool (decide (p2 < p1) || (decide (p1 = p2) && decide (i1 < i2)))) ∧ Below w.heap.size w w' := by
 go_enter Tryz.func26, Tryz.ntmps26
 by_cases h1 : p2 < p1
 ·go_wp2
  go_ret
  exact ⟨by simp [h1], bel2 w _ _⟩
 ·by_cases h2 : p1 = p2
  ·go_wp2
   go_ret
   exact ⟨by simp, bel2 w _ _⟩
  ·go_wp2
   go_ret
   exact ⟨by simp [h1], bel2 w _ _⟩
theorem bet2_any (i1 a1 : Int) (b1 : Bool) (p1 n1 l1 i2 a2 : Int) (b2 : Bool) (p2 n2 l2 : Int) (w : World) :
 Calls Tryz.prog 27 #[.agg #[.int .i64 i1, .int .i64 a1, .bool b1, .int .i64 p1, .int .i64 n1, .int .i64 l1], .agg #[.int .i64 i2, .int .i64 a2, .bool b2, .int .i64 p2, .int .i64 n2, .int .i64 l2]] w fun e w' => e = .returned (.bool (decide (p1 < p2) || (decide (p1 = p2) && decide (i1 < i2)))) ∧ Below w.heap.size w w' := by
 go_enter Tryz.func27, Tryz.ntmps27
 by_cases h1 : p1 < p2
 ·go_wp2
  go_ret
  exact ⟨by simp [h1], bel2 w _ _⟩
 ·by_cases h2 : p1 = p2
  ·go_wp2
   go_ret
   exact ⟨by simp, bel2 w _ _⟩
  ·go_wp2
   go_ret
   exact ⟨by simp [h1], bel2 w _ _⟩
theorem acc_any (x y : Ord) (w : World) :
 Calls Tryz.prog 34 #[.agg #[.int .i64 x.id, .int .i64 x.acc, .bool x.buy, .int .i64 x.price, .int .i64 x.n, .int .i64 x.left], .agg #[.int .i64 y.id, .int .i64 y.acc, .bool y.buy, .int .i64 y.price, .int .i64 y.n, .int .i64 y.left]] w fun e w' => e = .returned (.bool (acceptsB x y)) ∧ Below w.heap.size w w' := by
 obtain ⟨i1, a1, b1, p1, n1, l1⟩ := x
 obtain ⟨i2, a2, b2, p2, n2, l2⟩ := y
 dsimp only
 go_enter Tryz.func34, Tryz.ntmps34
 cases b1
 ·go_wp2
  go_ret
  exact ⟨by simp [acceptsB], bel2 w _ _⟩
 ·go_wp2
  go_ret
  exact ⟨by simp [acceptsB], bel2 w _ _⟩
def sideN (buy : Bool) : Int := if buy then 0 else 1
theorem side_any (b : Bool) (w : World) : Calls Tryz.prog 33 #[.bool b] w fun e w' => e = .returned (.int .i64 (sideN b)) ∧ w = w' := by
 go_enter Tryz.func33, Tryz.ntmps33
 cases b
 ·go_wp2
  go_ret
  exact ⟨rfl, rfl⟩
 ·go_wp2
  go_ret
  exact ⟨rfl, rfl⟩
theorem inr_any (n : Int) (w : World) : Calls Tryz.prog 32 #[.int .i64 n] w fun e w' => e = .returned (.bool (inR n)) ∧ w = w' := by
 go_enter Tryz.func32, Tryz.ntmps32
 by_cases h : 1 ≤ n
 ·go_wp2
  go_ret
  exact ⟨by simp [inR, h], rfl⟩
 ·go_wp2
  go_ret
  exact ⟨by simp [inR]; omega, rfl⟩
end Go.Proofs.YtlcalajehnaenaaGreatDoor
namespace Go.Proofs.YtlcalajehnaenaaGreatDoor
open Go.RowKit
theorem setCells_mod (b : Nat) : ∀ (vs : List Value) (o : Nat) (w : World), Mod (fun g => g = b) w (w.setCells b o vs) ∧ (w.setCells b o vs).heap.size = w.heap.size
 | [], _, w => ⟨Mod.refl _ w, rfl⟩
 | v :: vs, o, w => by
   rw [World.setCells]
   obtain ⟨h1, h2⟩ := setCells_mod b vs (o + 1) (w.setCell ⟨b, o, none⟩ v)
   have h3 : (w.setCell ⟨b, o, none⟩ v).heap.size = w.heap.size := by simp [World.setCell]
   exact ⟨(Mod.set (F := fun g => g = b) (Mod.refl _ w) (p := ⟨b, o, none⟩) (.inl rfl) v).trans h1 (fun _ h => .inl h), h2.trans h3⟩
theorem setCells_at (b : Nat) (t : TypeId) (fr : Nat × Nat) : ∀ (vs : List Value) (o : Nat) (w : World) (cur : Array Value), w.heap[b]? = some (.cells cur t fr) →
 ∃ cur', (w.setCells b o vs).heap[b]? = some (.cells cur' t fr) ∧ cur'.size = cur.size ∧ (∀ j, j < o ∨ o + vs.length ≤ j → cur'[j]? = cur[j]?) ∧ (o + vs.length ≤ cur.size → ∀ j, j < vs.length → cur'[o + j]? = vs[j]?)
 | [], o, w, cur, h => ⟨cur, h, rfl, fun _ _ => rfl, fun _ j hj => absurd hj (by simp)⟩
 | v :: vs, o, w, cur, h => by
   rw [World.setCells]
   have h1 : (w.setCell ⟨b, o, none⟩ v).heap[b]? = some (.cells (cur.setIfInBounds o v) t fr) := by simp [World.setCell, Array.getElem?_modify, h]
   obtain ⟨c2, d1, d2, d3, d4⟩ := setCells_at b t fr vs (o + 1) _ _ h1
   refine ⟨c2, d1, by simpa using d2, fun j hj => ?_, fun hc j hj => ?_⟩
   ·rw [d3 j (by simp at hj; omega), Array.getElem?_setIfInBounds_ne (by simp at hj; omega)]
   ·simp at hc hj
    cases j with
    | zero =>
      rw [Nat.add_zero, d3 o (by omega)]
      have ho : o < cur.size := by omega
      simp [ho]
    | succ j =>
      have := d4 (by simp; omega) j (by omega)
      rw [show o + (j + 1) = o + 1 + j by omega, this]
      rfl
theorem clip_any (A : Option Addr) (n c : Nat) (w : World) (hc : n ≤ c) :
 Calls Tryz.prog 79 #[.slice A n c] w fun e w' => e = .returned (.slice A n n) ∧ w = w' := by
 go_enter Tryz.func79, Tryz.ntmps79
 cases A
 ·go_wp2
  go_ret
  exact ⟨rfl, rfl⟩
 ·go_wp2
  go_ret
  exact ⟨rfl, rfl⟩
theorem idsV_one (l : List Nat) : ∀ v ∈ idsV l, v.oneCell' = true := by
 intro v hv
 obtain ⟨k, -, rfl⟩ := List.mem_map.1 hv
 rfl
theorem IRow.cells {W : World} {B : Nat} {A : Option Addr} {n c : Nat} {l : List Nat} (h : IRow W B (A, n, c) l) (a : Addr) (ha : A = some a) : ∀ j v, (idsV l)[j]? = some v → W.cell? (a.add j) = some v := by
 intro j v hv
 have hj : j < n := by
  have := h.1
  have h2 := (List.getElem?_eq_some_iff.1 hv).1
  simp only [idsV, List.length_map] at h2
  dsimp only at this
  omega
 obtain ⟨g, off, cur, h1, h2, h3, h4, h5⟩ := h.2.2.2 (by have := h.2.1; dsimp only at this ⊢; omega)
 dsimp only at h1 h5
 rw [ha] at h1
 injection h1 with h1
 subst h1
 rw [show (⟨g, off, none⟩ : Addr).add j = ⟨g, off + j, none⟩ from Addr.add_lit _ _ _]
 simp only [World.cell?, h3]
 rw [h5 j hj, hv]
 rfl
theorem IRow.fresh {W : World} {B g m c : Nat} {cur : Array Value} {l : List Nat} (hb : Blk W g 3 cur) (hB : B ≤ g) (hl : l.length = m) (hmc : m ≤ c) (hc : c ≤ maxLen) (hs : c ≤ cur.size) (hv : ∀ j, j < m → cur[j]? = (idsV l)[j]?) : IRow W B (some ⟨g, 0, none⟩, m, c) l :=
 ⟨hl, hmc, by simpa [maxLen] using hc, fun _ => ⟨g, 0, cur, rfl, hB, hb, by dsimp only; omega, fun j hj => by rw [Nat.zero_add]; exact hv j hj⟩⟩
theorem ins_any (A : Option Addr) (n i vb : Nat) (x : Nat) (l : List Nat) (B : Nat) (w : World) (h : IRow w B (A, n, n) l) (hi : i ≤ n) (hn : n ≤ 1000000) (hb : Blk w vb 3 #[.int .i64 (x : Int)]) (hB : B ≤ w.heap.size) :
 Calls Tryz.prog 78 #[.slice A n n, .int .i64 (i : Int), .slice (some ⟨vb, 0, none⟩) 1 1] w fun e w' => ∃ A' c', e = .returned (.slice A' (n + 1) c') ∧ IRow w' B (A', n + 1, c') (l.take i ++ [x] ++ l.drop i) ∧ (∀ g, blkOf (A', n + 1, c') = some g → w.heap.size ≤ g) ∧ Below w.heap.size w w' := by
 have hl : l.length = n := h.1
 have hlv : (idsV l).length = n := by simpa [idsV] using hl
 have hvs : ∀ j v, ([Value.int .i64 (x : Int)])[j]? = some v → w.cell? ⟨vb, 0 + j, none⟩ = some v := by
  intro j v hv
  rw [Nat.zero_add]
  rw [hb.cell j]
  simpa using hv
 have h1v : ∀ v ∈ [Value.int .i64 (x : Int)], v.oneCell' = true := by simp [Value.oneCell']
 have hcg := grownCap_ge w (n + 1) n 3
 have hcm := grownCap_le_maxLen w (n + 1) n 3 (by unfold maxLen; omega)
 by_cases hin : i = n
 ·subst hin
  refine (Any2.slices_Insert_int_end_grow Tryz.insertA A i i vb 0 1 1 (idsV l) [.int .i64 (x : Int)] w (by omega) (Nat.le_refl _) (by omega) (by omega) hlv rfl (fun hA => ?_) (fun a ha => h.cells a ha) hvs h1v).mono ?_
  ·cases Nat.eq_zero_or_pos i with
   | inl h0 => exact h0
   | inr h0 =>
     obtain ⟨g, off, cur, h2, -⟩ := h.2.2.2 h0
     dsimp only at h2
     rw [hA] at h2
     cases h2
  ·rintro e w' ⟨rfl, rfl⟩
   refine ⟨_, _, rfl, IRow.fresh (Blk.new w.drew _ _) hB (by simp [hl]) hcg hcm ?_ (fun j hj => ?_), fun g hg => ?_, ?_⟩
   ·have hz1 : (Value.int .i64 0).cells.size = 1 := rfl
    simp [size_zeroCells, hlv, hz1]
    omega
   ·rw [Array.getElem?_append_left (by simp [hlv]; omega), List.getElem?_toArray]
    unfold idsV
    simp [← hl]
   ·simp [blkOf, slV, Value.ownBlock] at hg
    omega
   ·exact bt (below_drewN (Below.refl _ w) 1) ((Below.refl _ _).alloc (Nat.le_refl _) _)
 ·have hlt : i < n := by omega
  obtain ⟨g, off, cur, h2, h3, h4, h5, h6⟩ := h.2.2.2 (by dsimp only; omega)
  dsimp only at h2
  subst h2
  refine (Any2.slices_Insert_int_grow Tryz.insertA g off n n i vb 0 1 1 (idsV l) [.int .i64 (x : Int)] w hlt (by omega) (Nat.le_refl _) (by omega) (by omega) hlv rfl (fun j v hv => by have := h.cells _ rfl j v hv; rwa [Addr.add_lit] at this) hvs (idsV_one l) h1v).mono ?_
  rintro e w' ⟨rfl, rfl⟩
  have e0 : (Tryz.insertA_ren.t 3) = 3 := rfl
  rw [e0]
  obtain ⟨cur0, hcur0⟩ : ∃ cur0, cur0 = (((idsV l).take i).toArray ++ Builtin.zeroCells (Value.int .i64 0).cells (n + 1 - i) ++ Builtin.zeroCells (Value.int .i64 0).cells (grownCap w (n + 1) n 3 - (n + 1))) := ⟨_, rfl⟩
  rw [← hcur0]
  have hs0 : cur0.size = i + (n + 1 - i) + (grownCap w (n + 1) n 3 - (n + 1)) := by
   have hz1 : (Value.int .i64 0).cells.size = 1 := rfl
   rw [hcur0]
   simp [size_zeroCells, hlv, hz1]
   omega
  obtain ⟨c1, a1, a2, a3, a4⟩ := setCells_at w.heap.size 3 (0, 0) [.int .i64 (x : Int)] i (w.alloc (.cells cur0 3)).drew cur0 (Blk.new w _ _)
  obtain ⟨m1, z1⟩ := setCells_mod w.heap.size [.int .i64 (x : Int)] i (w.alloc (.cells cur0 3)).drew
  obtain ⟨c2, d1, d2, d3, d4⟩ := setCells_at w.heap.size 3 (0, 0) ((idsV l).drop i) (i + 1) ((w.alloc (.cells cur0 3)).drew.setCells w.heap.size i [.int .i64 (x : Int)]).drew c1 a1
  obtain ⟨m2, z2⟩ := setCells_mod w.heap.size ((idsV l).drop i) (i + 1) ((w.alloc (.cells cur0 3)).drew.setCells w.heap.size i [.int .i64 (x : Int)]).drew
  have hdl : ((idsV l).drop i).length = n - i := by rw [List.length_drop, hlv]
  refine ⟨_, _, rfl, IRow.fresh d1 hB (by simp [hl]; omega) hcg hcm (by omega) (fun j hj => ?_), fun g hg => ?_, ?_⟩
  ·have hids : idsV (l.take i ++ [x] ++ l.drop i) = (idsV l).take i ++ [.int .i64 (x : Int)] ++ (idsV l).drop i := by simp [idsV]
   rw [hids]
   rcases Nat.lt_trichotomy j i with hj1 | hj1 | hj1
   ·rw [d3 j (by omega), a3 j (by omega), hcur0, List.append_assoc, List.getElem?_append_left (by simp [hlv]; omega), Array.getElem?_append_left (by simp [size_zeroCells, hlv]; omega), Array.getElem?_append_left (by simp [hlv]; omega), List.getElem?_toArray]
   ·subst hj1
    rw [d3 j (by omega)]
    have := a4 (by simp; omega) 0 (by simp)
    rw [Nat.add_zero] at this
    rw [this, List.append_assoc, List.getElem?_append_right (by simp [hlv]; omega)]
    simp [hlv, Nat.min_eq_left hi]
   ·have := d4 (by omega) (j - (i + 1)) (by omega)
    rw [show i + 1 + (j - (i + 1)) = j by omega] at this
    rw [this, List.getElem?_append_right (by simp [hlv]; omega)]
    congr 1
    simp [hlv]
    omega
  ·simp [blkOf, slV, Value.ownBlock] at hg
   omega
  ·have hb1 : Below w.heap.size w (w.alloc (.cells cur0 3)).drew := below_drewN ((Below.refl _ _).alloc (Nat.le_refl _) _) 1
   have hb2 := m1.below hb1 (by simp [World.drew]) (fun b hb => by rw [hb]; exact Nat.le_refl _)
   exact m2.below (below_drewN hb2 1) (below_drewN hb2 1).size (fun b hb => by rw [hb]; exact Nat.le_refl _)
end Go.Proofs.YtlcalajehnaenaaGreatDoor
namespace Go.Proofs.YtlcalajehnaenaaGreatDoor
open Go.RowKit
theorem app_intsI {w : World} {s : Sl} {xs ys : List Int} {B n c : Nat} {A : Option Addr} (ty : TypeId) (h0 : OwnI w B A n c ys) (h : NIn w w.heap.size s xs) (hn : n + s.2.1 ≤ 1000000) (hB : B ≤ w.heap.size) :
 ∃ A' c' w', (Builtin.append_ #[22, 22] ty #[.slice A n c, slV s]).run Tryz.prog w = .ok (.slice A' (n + s.2.1) c') w' ∧ OwnI w' B A' (n + s.2.1) c' (ys ++ xs) ∧ Below B w w' := by
 obtain ⟨A', c', w', hrun, hown, hb⟩ := app_cells (ty := ty) (base := B) slT_ints h0 s.1 s.2.1 s.2.2 (xs.map (Value.int .i64)) (by rw [List.length_map, h.len, Nat.mul_one]) h.none_ h.news (by
  intro u hu
  obtain ⟨x, -, rfl⟩ := List.mem_map.1 hu
  rfl) (by omega) (by decide) hB
 refine ⟨A', c', w', hrun, ?_, hb⟩
 unfold OwnI
 rw [List.map_append]
 exact hown
theorem grow_any (x : Int) (m : Nat) (w : World) (hx : x = (m : Int)) (hm : m ≤ 1000000) :
 Calls Tryz.prog 163 #[.slice none 0 0, .int .i64 x] w fun e w' => ∃ A c, e = .returned (.slice A 0 c) ∧ OwnI w' w.heap.size A 0 c [] ∧ Below w.heap.size w w' := by
 subst hx
 by_cases h0 : m = 0
 ·subst h0
  refine (Any8.slices_Grow_room Tryz.growA none 0 0 0 w (by omega) (by omega) (by omega) (by omega)).mono ?_
  rintro e w' ⟨rfl, rfl⟩
  exact ⟨_, _, rfl, OwnI.nil _ _, Below.refl _ _⟩
 ·obtain ⟨i0, z, -, hi, hz, hs, hb, hzs, hsz⟩ := slT_ints
  have hcm := grownCap_le_maxLen w (0 + m) 0 3 (by unfold maxLen; omega)
  have hcg := grownCap_ge w (0 + m) 0 3
  refine (Any8.slices_Grow_grow Tryz.growA i0 z hi hz (by omega) none 0 0 m [] w (by omega) (by omega) (by rw [hb]; omega) (by omega) (by simp) (by simp) (by simp)).mono ?_
  rintro e w' ⟨rfl, rfl⟩
  refine ⟨_, _, rfl, World.ownsRow_made w.drew _ _ (Nat.le_refl _) hcm ?_, ?_⟩
  ·have e0 : (Tryz.growA_ren.t 25) = 3 := rfl
   rw [e0]
   simp only [Array.size_append, size_zeroCells, hzs]
   rw [Nat.zero_add] at hcg ⊢
   simp
   omega
  ·exact bt (below_drewN (Below.refl _ w) 1) ((Below.refl _ _).alloc (Nat.le_refl _) _)
def catN (n1 n2 : Nat) : Nat → Nat
 | 0 => 0
 | 1 => n1
 | _ => n1 + n2
def catL (x1 x2 : List Int) : Nat → List Int
 | 0 => []
 | 1 => x1
 | _ => x1 ++ x2
theorem cat_any (s1 s2 : Sl) (x1 x2 : List Int) (gb : Nat) (w : World) (h1 : Hid (NIn w w.heap.size s1 x1)) (h2 : Hid (NIn w w.heap.size s2 x2)) (hb : Blk w gb 22 #[slV s1, slV s2]) (hn1 : s1.2.1 ≤ 100000) (hn2 : s2.2.1 ≤ 100000) :
 Calls Tryz.prog 81 #[.slice (some ⟨gb, 0, none⟩) 2 2] w fun e w' => ∃ A c, e = .returned (.slice A (s1.2.1 + s2.2.1) c) ∧ OwnI w' w.heap.size A (s1.2.1 + s2.2.1) c (x1 ++ x2) ∧ Below w.heap.size w w' := by
 have c0 : w.cell? ⟨gb, 0, none⟩ = some (slV s1) := by rw [hb.cell]; rfl
 have c1 : w.cell? ⟨gb, 1, none⟩ = some (slV s2) := by rw [hb.cell]; rfl
 have hgb := hb.lt
 clear hb
 obtain ⟨A1, n1, k1⟩ := s1
 obtain ⟨A2, n2, k2⟩ := s2
 dsimp only at hn1 hn2 ⊢
 unfold slV at c0 c1
 dsimp only at c0 c1
 go_enter Tryz.func81, Tryz.ntmps81
 go_wp2
 go_loopw [3, 11] (fun tv kv wr => ∃ k : Nat, k ≤ 2 ∧ kv = .int .i64 (k : Int) ∧ tv = .int .i64 ((catN n1 n2 k : Nat) : Int) ∧ wr = w) (fun _ kv _ => 2 - (intOf kv).toNat)
 case atStart => exact ⟨0, by omega, rfl, rfl, rfl⟩
 case round =>
  obtain ⟨k, hk, rfl, rfl, rfl⟩ := hrel
  rcases Nat.lt_or_ge k 2 with hk2 | hk2
  ·obtain ⟨t, ht⟩ : ∃ t, catN n1 n2 k = t := ⟨_, rfl⟩
   rw [ht]
   have ht2 : t ≤ 100000 := by
    rw [← ht]
    rcases Nat.lt_or_ge k 1 with hk1 | hk1
    ·obtain rfl : k = 0 := by omega
     simp [catN]
    ·obtain rfl : k = 1 := by omega
     simpa [catN] using hn1
   rcases Nat.lt_or_ge k 1 with hk1 | hk1
   ·obtain rfl : k = 0 := by omega
    have hw : wrap64 ((t : Int) + (n1 : Int)) = ((t + n1 : Nat) : Int) := by unfold wrap64; omega
    have hs0 : ¬ (((t + n1 : Nat) : Int) < 0) := by omega
    go_wp2
    refine ⟨⟨1, by omega, rfl, ?_, trivial⟩, by simp [intOf]⟩
    rw [← ht]
    simp [catN]
   ·obtain rfl : k = 1 := by omega
    have hw : wrap64 ((t : Int) + (n2 : Int)) = ((t + n2 : Nat) : Int) := by unfold wrap64; omega
    have hs0 : ¬ (((t + n2 : Nat) : Int) < 0) := by omega
    go_wp2
    refine ⟨⟨2, by omega, rfl, ?_, trivial⟩, by simp [intOf]⟩
    rw [← ht]
    simp [catN]
  ·obtain rfl : k = 2 := by omega
   obtain ⟨w0, rfl⟩ : ∃ w0, w0 = wr := ⟨_, rfl⟩
   have hcn : catN n1 n2 2 = n1 + n2 := rfl
   rw [hcn]
   clear hcn
   go_wp2_with (go_at_call 163; ((with_reducible refine (grow_any _ (n1 + n2) _ (by omega) (by omega)).mono ?_); rintro e w1 ⟨A0, cc0, rfl, ho0, hb1⟩))
   have HO0 := Lib.hid ho0
   have HB1 := Lib.hid hb1
   clear ho0 hb1
   go_loopw [6, 27] (fun sv kv w2 => ∃ (k : Nat) (A : Option Addr) (c : Nat), k ≤ 2 ∧ kv = .int .i64 (k : Int) ∧ sv = .slice A (catN n1 n2 k) c ∧ Hid (OwnI w2 w0.heap.size A (catN n1 n2 k) c (catL x1 x2 k)) ∧ Hid (Below w0.heap.size w0 w2)) (fun _ kv _ => 2 - (intOf kv).toNat)
   case atStart => exact ⟨0, A0, cc0, by omega, rfl, rfl, HO0, HB1⟩
   case round =>
    obtain ⟨k, A, c, hk, rfl, rfl, HO, HB⟩ := hrel
    have d0 := (HB.out.cell (p := ⟨gb, 0, none⟩) hgb).trans c0
    have d1 := (HB.out.cell (p := ⟨gb, 1, none⟩) hgb).trans c1
    rcases Nat.lt_or_ge k 2 with hk2 | hk2
    ·obtain ⟨t, ht⟩ : ∃ t, catN n1 n2 k = t := ⟨_, rfl⟩
     obtain ⟨L, hL⟩ : ∃ L, catL x1 x2 k = L := ⟨_, rfl⟩
     rw [ht, hL] at HO
     have ht2 : t ≤ 100000 := by
      rw [← ht]
      rcases Nat.lt_or_ge k 1 with hk1 | hk1
      ·obtain rfl : k = 0 := by omega
       simp [catN]
      ·obtain rfl : k = 1 := by omega
       simpa [catN] using hn1
     rw [ht]
     rcases Nat.lt_or_ge k 1 with hk1 | hk1
     ·obtain rfl : k = 0 := by omega
      obtain ⟨A', c', w3, hrun, hown, hb3⟩ := app_intsI 22 HO.out (NIn.all h1.out HB.out) (by dsimp only; omega) HB.out.size
      unfold slV at hrun
      dsimp only at hrun hown
      have HO3 : Hid (OwnI w3 w0.heap.size A' (catN n1 n2 1) c' (catL x1 x2 1)) := by
       rw [← ht, ← hL] at hown
       refine Lib.hid ?_
       simpa [catN, catL] using hown
      have ht3 : t + n1 = catN n1 n2 1 := by
       rw [← ht]
       simp [catN]
      have HB3 := Lib.hid (HB.out.trans hb3)
      clear hown hb3 ht hL
      go_wp2_with (at_builtin; refine Lib.wpList_append_run _ rfl _ _ _ _ rfl _ _ rfl rfl _ _ hrun ?_)
      exact ⟨⟨1, A', c', by omega, rfl, rfl, HO3, HB3⟩, by simp [intOf]⟩
     ·obtain rfl : k = 1 := by omega
      obtain ⟨A', c', w3, hrun, hown, hb3⟩ := app_intsI 22 HO.out (NIn.all h2.out HB.out) (by dsimp only; omega) HB.out.size
      unfold slV at hrun
      dsimp only at hrun hown
      have HO3 : Hid (OwnI w3 w0.heap.size A' (catN n1 n2 2) c' (catL x1 x2 2)) := by
       rw [← ht, ← hL] at hown
       refine Lib.hid ?_
       exact hown
      have ht3 : t + n2 = catN n1 n2 2 := by
       rw [← ht]
       simp [catN]
      have HB3 := Lib.hid (HB.out.trans hb3)
      clear hown hb3 ht hL
      go_wp2_with (at_builtin; refine Lib.wpList_append_run _ rfl _ _ _ _ rfl _ _ rfl rfl _ _ hrun ?_)
      exact ⟨⟨2, A', c', by omega, rfl, rfl, HO3, HB3⟩, by simp [intOf]⟩
    ·obtain rfl : k = 2 := by omega
     go_wp2
     go_ret
     exact ⟨A, c, rfl, HO.out, HB.out⟩
end Go.Proofs.YtlcalajehnaenaaGreatDoor
namespace Go.Proofs.YtlcalajehnaenaaGreatDoor
open Go.RowKit
structure BkV where
 oA : Option Addr
 oc : Nat
 b : Sl
 s : Sl
abbrev bet1 : Value := .func (.func 26) #[] #[]
abbrev bet2 : Value := .func (.func 27) #[] #[]
def BkV.os (V : BkV) (n : Nat) : Value := .slice V.oA n V.oc
structure BkAt (W : World) (B gb : Nat) (V : BkV) (b : BkS) : Prop where
 blk : Blk W gb 101 #[V.os b.os.length, slV V.b, bet1, slV V.s, bet2]
 ge : B ≤ gb
 orders : W.ownsRow B 55 6 (V.os b.os.length) b.os.length (b.os.flatMap Ord.cells)
 bs : IRow W B V.b b.bs
 ss : IRow W B V.s b.ss
 apart : ∀ g, blkOf V.b = some g → blkOf V.s ≠ some g
 ok : b.Ok
 few : b.os.length ≤ 100000
def BkF (gb : Nat) (V : BkV) (n : Nat) (g : Nat) : Prop := g = gb ∨ (V.os n).ownBlock = some g ∨ blkOf V.b = some g ∨ blkOf V.s = some g
section
variable {W W' : World} {B gb : Nat} {V : BkV} {b : BkS} {F : Nat → Prop}
theorem BkAt.mod (h : BkAt W B gb V b) (m : Mod F W W') (hF : ∀ g, BkF gb V b.os.length g → ¬ F g) : BkAt W' B gb V b :=
 ⟨m.blk h.blk (hF gb (.inl rfl)), h.ge, m.own h.orders (fun g hg => hF g (.inr (.inl hg))), h.bs.mod m (fun g hg => hF g (.inr (.inr (.inl hg)))), h.ss.mod m (fun g hg => hF g (.inr (.inr (.inr hg)))), h.apart, h.ok, h.few⟩
theorem BkAt.all (h : BkAt W B gb V b) (hb : Below W.heap.size W W') : BkAt W' B gb V b := h.mod (F := fun _ => False) (Mod.of_below _ hb) (fun _ _ hf => hf)
theorem BkAt.drewN (h : BkAt W B gb V b) (n : Nat) : BkAt (W.drewN n) B gb V b := h.all (below_drewN (Below.refl _ _) n)
theorem BkAt.lt (h : BkAt W B gb V b) {g : Nat} (hg : BkF gb V b.os.length g) : B ≤ g ∧ g < W.heap.size := by
 rcases hg with rfl | hg | hg | hg
 ·exact ⟨h.ge, h.blk.lt⟩
 ·exact own_ge h.orders hg
 ·exact (h.bs.at_ hg).2
 ·exact (h.ss.at_ hg).2
theorem BkAt.order (h : BkAt W B gb V b) {k : Nat} (hk : k < b.os.length) : ∃ g, V.oA = some ⟨g, 0, none⟩ ∧ g < W.heap.size ∧ (V.os b.os.length).ownBlock = some g ∧ W.cell? ⟨g, k * 6, none⟩ = some (.int .i64 (ordAt b.os k).id) ∧ W.cell? ⟨g, k * 6 + 1, none⟩ = some (.int .i64 (ordAt b.os k).acc) ∧ W.cell? ⟨g, k * 6 + 2, none⟩ = some (.bool (ordAt b.os k).buy) ∧ W.cell? ⟨g, k * 6 + 3, none⟩ = some (.int .i64 (ordAt b.os k).price) ∧ W.cell? ⟨g, k * 6 + 4, none⟩ = some (.int .i64 (ordAt b.os k).n) ∧ W.cell? ⟨g, k * 6 + 5, none⟩ = some (.int .i64 (ordAt b.os k).left) := by
 have hl := h.orders.1
 rcases h.orders.2 with ⟨-, h2⟩ | ⟨g, cap, cur, h2, h3, h4, h5, h6, h7, h8⟩
 ·omega
 ·unfold BkV.os at h2
  injection h2 with h2 _ h9
  have hc : ∀ i, i < 6 → W.cell? ⟨g, k * 6 + i, none⟩ = (Ord.cells (ordAt b.os k))[i]? := by
   intro i hi
   rw [ordAt_eq hk, ← flatT_at Ord.cells 6 Ord.cells_length b.os k i hk hi, ← h8, List.getElem?_take_of_lt (by omega)]
   simp [World.cell?, h4]
  refine ⟨g, h2, (Array.getElem?_eq_some_iff.1 h4).1, by unfold BkV.os; rw [h2]; rfl, ?_, hc 1 (by omega), hc 2 (by omega), hc 3 (by omega), hc 4 (by omega), hc 5 (by omega)⟩
  exact hc 0 (by omega)
end
theorem new_any (w : World) : Calls Tryz.prog 6 #[] w fun e w' => ∃ V, e = .returned (.pointer (some ⟨w.heap.size, 0, none⟩)) ∧ BkAt w' w.heap.size w.heap.size V ⟨[], [], []⟩ ∧ Below w.heap.size w w' := by
 go_enter Tryz.func6, Tryz.ntmps6
 go_wp2
 go_ret
 refine ⟨⟨none, 0, (none, 0, 0), (none, 0, 0)⟩, rfl, ⟨?_, Nat.le_refl _, World.ownsRow_nil _ _ _ 6, IRow.nil _ _, IRow.nil _ _, fun g hg => by simp [blkOf] at hg, ?_, by simp⟩, ?_⟩
 ·exact Blk.new w _ _
 ·refine ⟨fun k hk => absurd hk (by simp), fun k hk => absurd hk (by simp), fun buy k hk => ?_, fun buy => ?_, by simp⟩
  ·cases buy <;> simp [BkS.side] at hk
  ·cases buy <;> simp [BkS.side, SortedB]
 ·exact (Below.refl _ _).alloc (Nat.le_refl _) _
end Go.Proofs.YtlcalajehnaenaaGreatDoor
namespace Go.Proofs.YtlcalajehnaenaaGreatDoor
open Go.RowKit
set_option maxRecDepth 100000 in
set_option maxHeartbeats 2000000 in
theorem pl1_raw (p5 p2 p3 gb gr n oc gs off m c i id : Nat) (x o : Ord) (w : World) (hS : (fun w' => w'.cell? ⟨p5, 0, none⟩ = some (.pointer (some ⟨gb, 1, none⟩)) ∧ w'.cell? ⟨p2, 0, none⟩ = some (.pointer (some ⟨gb, 0, none⟩)) ∧ w'.cell? ⟨gb, 0, none⟩ = some (.slice (some ⟨gr, 0, none⟩) n oc) ∧ w'.cell? ⟨gb, 1, none⟩ = some (.slice (some ⟨gs, off, none⟩) m c) ∧ w'.cell? ⟨gb, 2, none⟩ = some bet1 ∧ w'.cell? ⟨gs, off + i, none⟩ = some (.int .i64 (id : Int)) ∧ (w'.cell? ⟨gr, id * 6, none⟩ = some (.int .i64 x.id) ∧ w'.cell? ⟨gr, id * 6 + 1, none⟩ = some (.int .i64 x.acc) ∧ w'.cell? ⟨gr, id * 6 + 2, none⟩ = some (.bool x.buy) ∧ w'.cell? ⟨gr, id * 6 + 3, none⟩ = some (.int .i64 x.price) ∧ w'.cell? ⟨gr, id * 6 + 4, none⟩ = some (.int .i64 x.n) ∧ w'.cell? ⟨gr, id * 6 + 5, none⟩ = some (.int .i64 x.left)) ∧ (w'.cell? ⟨p3, 0, none⟩ = some (.int .i64 o.id) ∧ w'.cell? ⟨p3, 1, none⟩ = some (.int .i64 o.acc) ∧ w'.cell? ⟨p3, 2, none⟩ = some (.bool o.buy) ∧ w'.cell? ⟨p3, 3, none⟩ = some (.int .i64 o.price) ∧ w'.cell? ⟨p3, 4, none⟩ = some (.int .i64 o.n) ∧ w'.cell? ⟨p3, 5, none⟩ = some (.int .i64 o.left))) w) (hi : i < m) (hid : id < n) (l5 : p5 < w.heap.size) (l2 : p2 < w.heap.size) (l3 : p3 < w.heap.size) (lb : gb < w.heap.size) (lr : gr < w.heap.size) (ls : gs < w.heap.size) :
 Calls Tryz.prog 162 #[.int .i64 (i : Int), .pointer (some ⟨p5, 0, none⟩), .pointer (some ⟨p2, 0, none⟩), .pointer (some ⟨p3, 0, none⟩)] w fun e w' => e = .returned (.bool (!betterB true x o)) ∧ Below w.heap.size w w' := by
 have HBL : Hid (∀ w', Below w.heap.size w w' → (fun w' => w'.cell? ⟨p5, 0, none⟩ = some (.pointer (some ⟨gb, 1, none⟩)) ∧ w'.cell? ⟨p2, 0, none⟩ = some (.pointer (some ⟨gb, 0, none⟩)) ∧ w'.cell? ⟨gb, 0, none⟩ = some (.slice (some ⟨gr, 0, none⟩) n oc) ∧ w'.cell? ⟨gb, 1, none⟩ = some (.slice (some ⟨gs, off, none⟩) m c) ∧ w'.cell? ⟨gb, 2, none⟩ = some bet1 ∧ w'.cell? ⟨gs, off + i, none⟩ = some (.int .i64 (id : Int)) ∧ (w'.cell? ⟨gr, id * 6, none⟩ = some (.int .i64 x.id) ∧ w'.cell? ⟨gr, id * 6 + 1, none⟩ = some (.int .i64 x.acc) ∧ w'.cell? ⟨gr, id * 6 + 2, none⟩ = some (.bool x.buy) ∧ w'.cell? ⟨gr, id * 6 + 3, none⟩ = some (.int .i64 x.price) ∧ w'.cell? ⟨gr, id * 6 + 4, none⟩ = some (.int .i64 x.n) ∧ w'.cell? ⟨gr, id * 6 + 5, none⟩ = some (.int .i64 x.left)) ∧ (w'.cell? ⟨p3, 0, none⟩ = some (.int .i64 o.id) ∧ w'.cell? ⟨p3, 1, none⟩ = some (.int .i64 o.acc) ∧ w'.cell? ⟨p3, 2, none⟩ = some (.bool o.buy) ∧ w'.cell? ⟨p3, 3, none⟩ = some (.int .i64 o.price) ∧ w'.cell? ⟨p3, 4, none⟩ = some (.int .i64 o.n) ∧ w'.cell? ⟨p3, 5, none⟩ = some (.int .i64 o.left))) w') := Lib.hid (fun w' hb => by
  obtain ⟨z0, z1, z2, z3, z4, z5, ⟨x0, x1, x2, x3, x4, x5⟩, y0, y1, y2, y3, y4, y5⟩ := hS
  exact ⟨(hb.cell (p := ⟨p5, 0, none⟩) l5).trans z0, (hb.cell (p := ⟨p2, 0, none⟩) l2).trans z1, (hb.cell (p := ⟨gb, 0, none⟩) lb).trans z2, (hb.cell (p := ⟨gb, 1, none⟩) lb).trans z3, (hb.cell (p := ⟨gb, 2, none⟩) lb).trans z4, (hb.cell (p := ⟨gs, off + i, none⟩) ls).trans z5, ⟨(hb.cell (p := ⟨gr, id * 6, none⟩) lr).trans x0, (hb.cell (p := ⟨gr, id * 6 + 1, none⟩) lr).trans x1, (hb.cell (p := ⟨gr, id * 6 + 2, none⟩) lr).trans x2, (hb.cell (p := ⟨gr, id * 6 + 3, none⟩) lr).trans x3, (hb.cell (p := ⟨gr, id * 6 + 4, none⟩) lr).trans x4, (hb.cell (p := ⟨gr, id * 6 + 5, none⟩) lr).trans x5⟩, (hb.cell (p := ⟨p3, 0, none⟩) l3).trans y0, (hb.cell (p := ⟨p3, 1, none⟩) l3).trans y1, (hb.cell (p := ⟨p3, 2, none⟩) l3).trans y2, (hb.cell (p := ⟨p3, 3, none⟩) l3).trans y3, (hb.cell (p := ⟨p3, 4, none⟩) l3).trans y4, (hb.cell (p := ⟨p3, 5, none⟩) l3).trans y5⟩)
 have hii : (i : Int) < (m : Int) := by omega
 obtain ⟨r, hr0⟩ : ∃ r, betterB true x o = r := ⟨_, rfl⟩
 rw [hr0]
 have hr := Lib.hid hr0
 clear hr0
 have hdd : (id : Int) < (n : Int) := by omega
 have hS1 : Below w.heap.size w w.drew := below_drewN (Below.refl _ _) 1
 clear hS l5 l2 l3 lb lr ls
 go_enter Tryz.func162, Tryz.ntmps162
 go_wp2
 refine wp_region_held_drew (S := (fun w' => w'.cell? ⟨p5, 0, none⟩ = some (.pointer (some ⟨gb, 1, none⟩)) ∧ w'.cell? ⟨p2, 0, none⟩ = some (.pointer (some ⟨gb, 0, none⟩)) ∧ w'.cell? ⟨gb, 0, none⟩ = some (.slice (some ⟨gr, 0, none⟩) n oc) ∧ w'.cell? ⟨gb, 1, none⟩ = some (.slice (some ⟨gs, off, none⟩) m c) ∧ w'.cell? ⟨gb, 2, none⟩ = some bet1 ∧ w'.cell? ⟨gs, off + i, none⟩ = some (.int .i64 (id : Int)) ∧ (w'.cell? ⟨gr, id * 6, none⟩ = some (.int .i64 x.id) ∧ w'.cell? ⟨gr, id * 6 + 1, none⟩ = some (.int .i64 x.acc) ∧ w'.cell? ⟨gr, id * 6 + 2, none⟩ = some (.bool x.buy) ∧ w'.cell? ⟨gr, id * 6 + 3, none⟩ = some (.int .i64 x.price) ∧ w'.cell? ⟨gr, id * 6 + 4, none⟩ = some (.int .i64 x.n) ∧ w'.cell? ⟨gr, id * 6 + 5, none⟩ = some (.int .i64 x.left)) ∧ (w'.cell? ⟨p3, 0, none⟩ = some (.int .i64 o.id) ∧ w'.cell? ⟨p3, 1, none⟩ = some (.int .i64 o.acc) ∧ w'.cell? ⟨p3, 2, none⟩ = some (.bool o.buy) ∧ w'.cell? ⟨p3, 3, none⟩ = some (.int .i64 o.price) ∧ w'.cell? ⟨p3, 4, none⟩ = some (.int .i64 o.n) ∧ w'.cell? ⟨p3, 5, none⟩ = some (.int .i64 o.left)))) (by kernel_rfl) (HBL.out _ hS1) (fun hHeld => ?_)
 refine takeJ 0 (some 6) ?_
 refine takeJ 1 (some 7) ?_
 refine takeJ 2 (some 8) ?_
 refine takeJ 3 (some 9) ?_
 refine takeJ 4 (some 10) ?_
 refine takeJ 5 (some 11) ?_
 refine takeJ 6 (some 12) ?_
 refine takeJ 7 (some 13) ?_
 refine takeJ 8 (some 14) ?_
 refine takeJ 9 (some 15) ?_
 refine takeJ 10 (some 16) ?_
 refine takeJ 11 (some 17) ?_
 refine takeJ 12 (some 18) ?_
 refine takeJ 13 (some 19) ?_
 refine takeJ 14 (some 20) ?_
 refine takeJ 15 (some 21) ?_
 refine takeJ 16 (some 22) ?_
 refine takeJ 17 (some 23) ?_
 refine wpAnyH_ready (rs := [18]) (by kernel_rfl) (by simp) ?_
 refine AllReadyH.cons rfl (fun K hK => ?_) AllReadyH.nil
 go_simp
 go_at_call 26
 (refine (bet1_any x.id x.acc x.buy x.price x.n x.left o.id o.acc o.buy o.price o.n o.left _).mono ?_)
 rintro e w2 ⟨he, hb2⟩
 replace he : e = .returned (.bool r) := he.trans (by rw [← hr.out]; rfl)
 subst he
 have hS2 := bt hS1 hb2
 clear hb2
 go_wp2
 refine hK.out _ _ ?_ (fun hh8 => ?_)
 ·exact (HBL.out _ hS2)
 clear hK K
 try simp only [Act.put, pB, pC, pD]
 refine takeJ 19 (some 25) ?_
 refine takeJ 20 (some 5) ?_
 refine wpAnyH_done (by kernel_rfl) ?_ _
 go_wp2
 go_ret
 exact ⟨rfl, hS2⟩
set_option maxRecDepth 100000 in
set_option maxHeartbeats 2000000 in
theorem pl2_raw (p5 p2 p3 gb gr n oc gs off m c i id : Nat) (x o : Ord) (w : World) (hS : (fun w' => w'.cell? ⟨p5, 0, none⟩ = some (.pointer (some ⟨gb, 3, none⟩)) ∧ w'.cell? ⟨p2, 0, none⟩ = some (.pointer (some ⟨gb, 0, none⟩)) ∧ w'.cell? ⟨gb, 0, none⟩ = some (.slice (some ⟨gr, 0, none⟩) n oc) ∧ w'.cell? ⟨gb, 3, none⟩ = some (.slice (some ⟨gs, off, none⟩) m c) ∧ w'.cell? ⟨gb, 4, none⟩ = some bet2 ∧ w'.cell? ⟨gs, off + i, none⟩ = some (.int .i64 (id : Int)) ∧ (w'.cell? ⟨gr, id * 6, none⟩ = some (.int .i64 x.id) ∧ w'.cell? ⟨gr, id * 6 + 1, none⟩ = some (.int .i64 x.acc) ∧ w'.cell? ⟨gr, id * 6 + 2, none⟩ = some (.bool x.buy) ∧ w'.cell? ⟨gr, id * 6 + 3, none⟩ = some (.int .i64 x.price) ∧ w'.cell? ⟨gr, id * 6 + 4, none⟩ = some (.int .i64 x.n) ∧ w'.cell? ⟨gr, id * 6 + 5, none⟩ = some (.int .i64 x.left)) ∧ (w'.cell? ⟨p3, 0, none⟩ = some (.int .i64 o.id) ∧ w'.cell? ⟨p3, 1, none⟩ = some (.int .i64 o.acc) ∧ w'.cell? ⟨p3, 2, none⟩ = some (.bool o.buy) ∧ w'.cell? ⟨p3, 3, none⟩ = some (.int .i64 o.price) ∧ w'.cell? ⟨p3, 4, none⟩ = some (.int .i64 o.n) ∧ w'.cell? ⟨p3, 5, none⟩ = some (.int .i64 o.left))) w) (hi : i < m) (hid : id < n) (l5 : p5 < w.heap.size) (l2 : p2 < w.heap.size) (l3 : p3 < w.heap.size) (lb : gb < w.heap.size) (lr : gr < w.heap.size) (ls : gs < w.heap.size) :
 Calls Tryz.prog 162 #[.int .i64 (i : Int), .pointer (some ⟨p5, 0, none⟩), .pointer (some ⟨p2, 0, none⟩), .pointer (some ⟨p3, 0, none⟩)] w fun e w' => e = .returned (.bool (!betterB false x o)) ∧ Below w.heap.size w w' := by
 have HBL : Hid (∀ w', Below w.heap.size w w' → (fun w' => w'.cell? ⟨p5, 0, none⟩ = some (.pointer (some ⟨gb, 3, none⟩)) ∧ w'.cell? ⟨p2, 0, none⟩ = some (.pointer (some ⟨gb, 0, none⟩)) ∧ w'.cell? ⟨gb, 0, none⟩ = some (.slice (some ⟨gr, 0, none⟩) n oc) ∧ w'.cell? ⟨gb, 3, none⟩ = some (.slice (some ⟨gs, off, none⟩) m c) ∧ w'.cell? ⟨gb, 4, none⟩ = some bet2 ∧ w'.cell? ⟨gs, off + i, none⟩ = some (.int .i64 (id : Int)) ∧ (w'.cell? ⟨gr, id * 6, none⟩ = some (.int .i64 x.id) ∧ w'.cell? ⟨gr, id * 6 + 1, none⟩ = some (.int .i64 x.acc) ∧ w'.cell? ⟨gr, id * 6 + 2, none⟩ = some (.bool x.buy) ∧ w'.cell? ⟨gr, id * 6 + 3, none⟩ = some (.int .i64 x.price) ∧ w'.cell? ⟨gr, id * 6 + 4, none⟩ = some (.int .i64 x.n) ∧ w'.cell? ⟨gr, id * 6 + 5, none⟩ = some (.int .i64 x.left)) ∧ (w'.cell? ⟨p3, 0, none⟩ = some (.int .i64 o.id) ∧ w'.cell? ⟨p3, 1, none⟩ = some (.int .i64 o.acc) ∧ w'.cell? ⟨p3, 2, none⟩ = some (.bool o.buy) ∧ w'.cell? ⟨p3, 3, none⟩ = some (.int .i64 o.price) ∧ w'.cell? ⟨p3, 4, none⟩ = some (.int .i64 o.n) ∧ w'.cell? ⟨p3, 5, none⟩ = some (.int .i64 o.left))) w') := Lib.hid (fun w' hb => by
  obtain ⟨z0, z1, z2, z3, z4, z5, ⟨x0, x1, x2, x3, x4, x5⟩, y0, y1, y2, y3, y4, y5⟩ := hS
  exact ⟨(hb.cell (p := ⟨p5, 0, none⟩) l5).trans z0, (hb.cell (p := ⟨p2, 0, none⟩) l2).trans z1, (hb.cell (p := ⟨gb, 0, none⟩) lb).trans z2, (hb.cell (p := ⟨gb, 3, none⟩) lb).trans z3, (hb.cell (p := ⟨gb, 4, none⟩) lb).trans z4, (hb.cell (p := ⟨gs, off + i, none⟩) ls).trans z5, ⟨(hb.cell (p := ⟨gr, id * 6, none⟩) lr).trans x0, (hb.cell (p := ⟨gr, id * 6 + 1, none⟩) lr).trans x1, (hb.cell (p := ⟨gr, id * 6 + 2, none⟩) lr).trans x2, (hb.cell (p := ⟨gr, id * 6 + 3, none⟩) lr).trans x3, (hb.cell (p := ⟨gr, id * 6 + 4, none⟩) lr).trans x4, (hb.cell (p := ⟨gr, id * 6 + 5, none⟩) lr).trans x5⟩, (hb.cell (p := ⟨p3, 0, none⟩) l3).trans y0, (hb.cell (p := ⟨p3, 1, none⟩) l3).trans y1, (hb.cell (p := ⟨p3, 2, none⟩) l3).trans y2, (hb.cell (p := ⟨p3, 3, none⟩) l3).trans y3, (hb.cell (p := ⟨p3, 4, none⟩) l3).trans y4, (hb.cell (p := ⟨p3, 5, none⟩) l3).trans y5⟩)
 have hii : (i : Int) < (m : Int) := by omega
 obtain ⟨r, hr0⟩ : ∃ r, betterB false x o = r := ⟨_, rfl⟩
 rw [hr0]
 have hr := Lib.hid hr0
 clear hr0
 have hdd : (id : Int) < (n : Int) := by omega
 have hS1 : Below w.heap.size w w.drew := below_drewN (Below.refl _ _) 1
 clear hS l5 l2 l3 lb lr ls
 go_enter Tryz.func162, Tryz.ntmps162
 go_wp2
 refine wp_region_held_drew (S := (fun w' => w'.cell? ⟨p5, 0, none⟩ = some (.pointer (some ⟨gb, 3, none⟩)) ∧ w'.cell? ⟨p2, 0, none⟩ = some (.pointer (some ⟨gb, 0, none⟩)) ∧ w'.cell? ⟨gb, 0, none⟩ = some (.slice (some ⟨gr, 0, none⟩) n oc) ∧ w'.cell? ⟨gb, 3, none⟩ = some (.slice (some ⟨gs, off, none⟩) m c) ∧ w'.cell? ⟨gb, 4, none⟩ = some bet2 ∧ w'.cell? ⟨gs, off + i, none⟩ = some (.int .i64 (id : Int)) ∧ (w'.cell? ⟨gr, id * 6, none⟩ = some (.int .i64 x.id) ∧ w'.cell? ⟨gr, id * 6 + 1, none⟩ = some (.int .i64 x.acc) ∧ w'.cell? ⟨gr, id * 6 + 2, none⟩ = some (.bool x.buy) ∧ w'.cell? ⟨gr, id * 6 + 3, none⟩ = some (.int .i64 x.price) ∧ w'.cell? ⟨gr, id * 6 + 4, none⟩ = some (.int .i64 x.n) ∧ w'.cell? ⟨gr, id * 6 + 5, none⟩ = some (.int .i64 x.left)) ∧ (w'.cell? ⟨p3, 0, none⟩ = some (.int .i64 o.id) ∧ w'.cell? ⟨p3, 1, none⟩ = some (.int .i64 o.acc) ∧ w'.cell? ⟨p3, 2, none⟩ = some (.bool o.buy) ∧ w'.cell? ⟨p3, 3, none⟩ = some (.int .i64 o.price) ∧ w'.cell? ⟨p3, 4, none⟩ = some (.int .i64 o.n) ∧ w'.cell? ⟨p3, 5, none⟩ = some (.int .i64 o.left)))) (by kernel_rfl) (HBL.out _ hS1) (fun hHeld => ?_)
 refine takeJ 0 (some 6) ?_
 refine takeJ 1 (some 7) ?_
 refine takeJ 2 (some 8) ?_
 refine takeJ 3 (some 9) ?_
 refine takeJ 4 (some 10) ?_
 refine takeJ 5 (some 11) ?_
 refine takeJ 6 (some 12) ?_
 refine takeJ 7 (some 13) ?_
 refine takeJ 8 (some 14) ?_
 refine takeJ 9 (some 15) ?_
 refine takeJ 10 (some 16) ?_
 refine takeJ 11 (some 17) ?_
 refine takeJ 12 (some 18) ?_
 refine takeJ 13 (some 19) ?_
 refine takeJ 14 (some 20) ?_
 refine takeJ 15 (some 21) ?_
 refine takeJ 16 (some 22) ?_
 refine takeJ 17 (some 23) ?_
 refine wpAnyH_ready (rs := [18]) (by kernel_rfl) (by simp) ?_
 refine AllReadyH.cons rfl (fun K hK => ?_) AllReadyH.nil
 go_simp
 go_at_call 27
 (refine (bet2_any x.id x.acc x.buy x.price x.n x.left o.id o.acc o.buy o.price o.n o.left _).mono ?_)
 rintro e w2 ⟨he, hb2⟩
 replace he : e = .returned (.bool r) := he.trans (by rw [← hr.out]; rfl)
 subst he
 have hS2 := bt hS1 hb2
 clear hb2
 go_wp2
 refine hK.out _ _ ?_ (fun hh8 => ?_)
 ·exact (HBL.out _ hS2)
 clear hK K
 try simp only [Act.put, pB, pC, pD]
 refine takeJ 19 (some 25) ?_
 refine takeJ 20 (some 5) ?_
 refine wpAnyH_done (by kernel_rfl) ?_ _
 go_wp2
 go_ret
 exact ⟨rfl, hS2⟩
end Go.Proofs.YtlcalajehnaenaaGreatDoor
