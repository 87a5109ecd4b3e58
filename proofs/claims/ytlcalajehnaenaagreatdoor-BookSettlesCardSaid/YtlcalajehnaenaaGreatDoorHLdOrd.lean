/- share.Split: the order of the indices: slices.SortFunc by its contract. -/
import Derived.Test.YtlcalajehnaenaaGreatDoorHG4
import Derived.Test.YtlcalajehnaenaaGreatDoorHG2
import Derived.Test.YtlcalajehnaenaaGreatDoorHG0
namespace Go.Proofs.YtlcalajehnaenaaGreatDoor
open Go.RowKit Go.Sort Go.Shelf
def rAt (rs : List Int) (i : Nat) : Int := rs[i]?.getD 0
def cfR (rs : List Int) {n : Nat} (x y : Fin n) : Int := orI (Lib.compareInt (rAt rs y.1) (rAt rs x.1)) (Lib.compareInt (x.1 : Int) (y.1 : Int))
theorem ltR (rs : List Int) {n : Nat} (x y : Fin n) : ltOf (cfR rs) x y = decide (rAt rs y.1 < rAt rs x.1 ∨ (rAt rs x.1 = rAt rs y.1 ∧ x.1 < y.1)) := by
 unfold ltOf cfR orI Lib.compareInt
 congr 1
 apply propext
 constructor
 ·intro h
  revert h
  repeat' split
  all_goals omega
 ·intro h
  repeat' split
  all_goals omega
theorem swoR (rs : List Int) {n : Nat} : SWO (ltOf (cfR rs (n := n))) where
 irrefl x := by rw [ltR]; simp
 trans x y z h1 h2 := by rw [ltR] at *; simp only [decide_eq_true_eq] at *; omega
 ntrans x y z h1 h2 := by rw [ltR] at *; simp only [decide_eq_false_iff_not] at *; omega
theorem totR (rs : List Int) {n : Nat} (x y : Fin n) (h1 : ltOf (cfR rs) x y = false) (h2 : ltOf (cfR rs) y x = false) : x = y := by
 rw [ltR] at *
 simp only [decide_eq_false_iff_not] at *
 apply Fin.ext
 omega
def encN {n : Nat} (i : Fin n) : Value := .int .i64 (i.1 : Int)
def befR (rs : List Int) (i j : Nat) : Bool := decide (rAt rs j < rAt rs i ∨ (rAt rs i = rAt rs j ∧ i ≤ j))
def ordR (rs : List Int) (n : Nat) : List Nat := (List.range n).mergeSort (befR rs)
theorem fin_range (n : Nat) : (List.ofFn (fun i : Fin n => i)).map Fin.val = List.range n := by
 apply List.ext_getElem
 ·simp
 ·intro i h1 h2
  simp
theorem ordR_map (rs : List Int) (n : Nat) : (((List.ofFn (fun i : Fin n => i)).mergeSort fun x y => !(ltOf (cfR rs)) y x).map Fin.val) = ordR rs n := by
 unfold ordR
 rw [← fin_range]
 apply List.map_mergeSort
 intro x _ y _
 rw [ltR]
 unfold befR
 rw [← decide_not]
 congr 1
 apply propext
 constructor
 ·intro h; omega
 ·intro h; omega
theorem sw_other {α : Type} [Inhabited α] (enc : α → Value) (w : World) (blk off m : Nat) (dk : Array α) (os : Array Obj) (b : Nat) (hb : b < w.heap.size) (hne : blk ≠ b) : (sortWorld enc w blk off m dk os).heap[b]? = w.heap[b]? := by
 unfold sortWorld
 rw [heap_grow_old _ _ (by simpa [putRow, mapBlock] using hb)]
 simp [putRow, mapBlock, Array.getElem?_modify, hne]
set_option maxHeartbeats 1000000 in
theorem sortIdx_any (bx bR bO n : Nat) (rs : List Int) (w : World) (hn : 0 < n) (hn2 : n ≤ 1000000) (hrs : rs.length = n) (h0 : Blk w bx 308 #[.slice (some ⟨bR, 0, none⟩) n n]) (hR : Blk w bR 201 (rs.map (Value.int .u64)).toArray)
 (hO : Blk w bO 3 ((List.range n).map fun (i : Nat) => Value.int .i64 (i : Int)).toArray) (h1 : bO ≠ bR) (h2 : bO ≠ bx) :
 Calls Tryz.prog 247 #[.slice (some ⟨bO, 0, none⟩) n n, .func (.func 248) #[] #[.pointer (some ⟨bx, 0, none⟩)]] w fun e w' =>
  e = .returned (.tuple #[]) ∧ Blk w' bO 3 ((ordR rs n).map fun (i : Nat) => Value.int .i64 (i : Int)).toArray ∧ Mod (fun b => b = bO) w w' := by
 have eg : ∀ args w, (callFunc 248 args).run Tryz.prog w = .ok (.enter 248 args) w := enters_of Tryz.func248 (by kernel_rfl) rfl
 haveI : Inhabited (Fin n) := ⟨⟨0, hn⟩⟩
 obtain ⟨d, hd⟩ : ∃ d : Array (Fin n), d = Array.ofFn (fun i : Fin n => i) := ⟨_, rfl⟩
 have hds : d.size = n := by rw [hd]; simp
 have hdl : d.toList = List.ofFn (fun i : Fin n => i) := by rw [hd]; simp
 have hdg : ∀ j (hj : j < n), d[j]! = ⟨j, hj⟩ := fun j hj => by rw [getElem!_pos d j (by omega)]; simp [hd]
 have hcl : CmpLays1 Tryz.prog 248 #[.pointer (some ⟨bx, 0, none⟩)] (encN (n := n)) (cfR rs) bO 0 d.size w := by
  intro m os dk _ x y
  have hb1 := (sw_other (encN (n := n)) w bO 0 m dk os bx h0.lt h2).trans h0
  have hb2 := (sw_other (encN (n := n)) w bO 0 m dk os bR hR.lt h1).trans hR
  have hc : ∀ z : Fin n, (sortWorld (encN (n := n)) w bO 0 m dk os).cell? ⟨bR, z.1, none⟩ = some (.int .u64 (rAt rs z.1)) := fun z => by
   rw [Blk.cell hb2]
   have hz : z.1 < rs.length := by rw [hrs]; exact z.2
   simp [rAt, hz]
  exact split1_any bx bR n x.1 y.1 (rAt rs x.1) (rAt rs y.1) _ (by rw [Blk.cell hb1]; rfl) (hc x) (hc y) x.2 y.2
 have hH : Holds (encN (n := n)) w bO 0 d := fun j hj => by
  rw [hds] at hj
  refine ⟨?_, by simp only [Nat.zero_add]; exact hO.frozen _⟩
  rw [Nat.zero_add, hO.cell, hdg j hj]
  simp [encN, hj]
 have hS := Any.slices_SortFunc_total Tryz.sortFL (encN (n := n)) (fun _ => rfl) (cfR rs) (swoR rs) 248 #[.pointer (some ⟨bx, 0, none⟩)] bO 0 n d w eg hcl hH hO.lt (by omega) (totR rs)
 rw [hds, hdl] at hS
 refine Calls.mono hS ?_
 rintro e w' ⟨rfl, k, os, rfl⟩
 have hmap := ordR_map rs n
 obtain ⟨ys, hys⟩ : ∃ ys, ((List.ofFn (fun i : Fin n => i)).mergeSort fun x y => !(ltOf (cfR rs)) y x) = ys := ⟨_, rfl⟩
 have hyl : ys.length = n := by rw [← hys, List.length_mergeSort]; simp
 rw [hys] at hmap ⊢
 rw [← hmap]
 refine ⟨rfl, ?_, ⟨rfl, rfl, rfl, by simp [sortWorld, grow, putRow, mapBlock], fun b hb hF => sw_other (encN (n := n)) w bO 0 k ys.toArray os b hb (fun e => hF e.symm)⟩⟩
 unfold Blk at hO ⊢
 unfold sortWorld
 rw [heap_grow_old _ _ (by simpa [putRow, mapBlock] using (Array.getElem?_eq_some_iff.1 hO).1)]
 simp only [putRow, mapBlock]
 rw [Array.getElem?_modify, if_pos rfl]
 have e : (Sort.ahead w k).heap[bO]? = w.heap[bO]? := rfl
 rw [e, hO]
 simp only [Option.map_some, onCells]
 congr 2
 apply Array.ext
 ·simp [putCells, hyl]
 ·intro j hj1 hj2
  have hj : j < n := by simpa [hyl] using hj2
  simp [putCells, hyl, hj, encN]
end Go.Proofs.YtlcalajehnaenaaGreatDoor
