/- ledger: the closure of Holdings, and the sort by it. -/
import Derived.Test.YtgjbbobphfejoaaGreatDoorHLdShH
import Derived.Test.YtgjbbobphfejoaaGreatDoorHLdOrd
import Derived.Test.YtgjbbobphfejoaaGreatDoorHG15
import Derived.Shelf.SlSortCmp.NoneTotal

namespace Go.Proofs.YtgjbbobphfejoaaGreatDoor
open Go.RowKit
open Go.Lib Go.Sort Go.Shelf

theorem grow_three (w : World) (o1 o2 o3 : Obj) : (((w.alloc o1).alloc o2).alloc o3).drew = Sort.grow (w.drewN 1) #[o1, o2, o3] := by
  unfold Sort.grow World.alloc World.drew World.drewN
  simp only [World.mk.injEq, and_true]
  exact Array.ext' (by simp)
set_option maxRecDepth 100000 in
theorem hold1_any (a i n a2 i2 n2 : Int) (w : World) :
    Calls Tryz.prog 32 #[.agg #[.int .i64 a, .int .i64 i, .int .i64 n], .agg #[.int .i64 a2, .int .i64 i2, .int .i64 n2]] w fun e w' => e = .returned (.int .i64 (orI (Lib.compareInt a a2) (Lib.compareInt i i2))) ∧ ∃ q os, w' = Sort.grow (w.drewN q) os := by
  go_enter Tryz.func32, Tryz.ntmps32
  go_wp2_with fail
  have k1 := Blk.alloc (Blk.new w 69 #[.int .i64 a, .int .i64 i, .int .i64 n]) (.cells #[.int .i64 a2, .int .i64 i2, .int .i64 n2] 69)
  have k2 := Blk.new0 (g := w.heap.size + 1) (w.alloc (.cells #[.int .i64 a, .int .i64 i, .int .i64 n] 69)) 69 #[.int .i64 a2, .int .i64 i2, .int .i64 n2] (by simp)
  obtain ⟨w2, hw2⟩ : ∃ w2, (w.alloc (.cells #[.int .i64 a, .int .i64 i, .int .i64 n] 69)).alloc (.cells #[.int .i64 a2, .int .i64 i2, .int .i64 n2] 69) = w2 := ⟨_, rfl⟩
  obtain ⟨b, hb⟩ : ∃ b, w.heap.size = b := ⟨_, rfl⟩
  rw [hw2] at k1 k2 ⊢
  rw [hb] at k1 k2 ⊢
  have HW := Lib.hid hw2
  have l1 := k1.lt
  have l2 := k2.lt
  have hS : ∀ y, Below w2.heap.size w2 y → (fun y => y.cell? ⟨b, 0, none⟩ = some (.int .i64 a) ∧ y.cell? ⟨b, 1, none⟩ = some (.int .i64 i) ∧ y.cell? ⟨b + 1, 0, none⟩ = some (.int .i64 a2) ∧ y.cell? ⟨b + 1, 1, none⟩ = some (.int .i64 i2)) y := fun y hy => ⟨(hy.cell (p := ⟨b, 0, none⟩) l1).trans (k1.cell 0), (hy.cell (p := ⟨b, 1, none⟩) l1).trans (k1.cell 1), (hy.cell (p := ⟨b + 1, 0, none⟩) l2).trans (k2.cell 0), (hy.cell (p := ⟨b + 1, 1, none⟩) l2).trans (k2.cell 1)⟩
  clear hw2 hb k1 k2 l1 l2
  refine wp_region_held_drew (S := (fun y => y.cell? ⟨b, 0, none⟩ = some (.int .i64 a) ∧ y.cell? ⟨b, 1, none⟩ = some (.int .i64 i) ∧ y.cell? ⟨b + 1, 0, none⟩ = some (.int .i64 a2) ∧ y.cell? ⟨b + 1, 1, none⟩ = some (.int .i64 i2))) (by kernel_rfl) (hS _ (Below.refl _ w2).drew) (fun hHeld => ?_)
  refine takeI 0 (some 5) (v := ?_) ?_ ?_
  rotate_left
  · (intro o ho w hSw; obtain ⟨z0, z1, z2, z3⟩ := hSw; cases ho; go_simp; try with_reducible rfl)
  try simp only [Act.put, pB, pC, pD]
  refine takeI 1 (some 6) (v := ?_) ?_ ?_
  rotate_left
  · (intro o ho w hSw; obtain ⟨z0, z1, z2, z3⟩ := hSw; cases ho; go_simp; try with_reducible rfl)
  try simp only [Act.put, pB, pC, pD]
  refine takeI 2 (some 7) (v := ?_) ?_ ?_
  rotate_left
  · (intro o ho w hSw; obtain ⟨z0, z1, z2, z3⟩ := hSw; cases ho; go_simp; try with_reducible rfl)
  try simp only [Act.put, pB, pC, pD]
  refine takeI 3 (some 8) (v := ?_) ?_ ?_
  rotate_left
  · (intro o ho w hSw; obtain ⟨z0, z1, z2, z3⟩ := hSw; cases ho; go_simp; try with_reducible rfl)
  try simp only [Act.put, pB, pC, pD]
  refine takeI 5 (some 10) (v := ?_) ?_ ?_
  rotate_left
  · (intro o ho w hSw; obtain ⟨z0, z1, z2, z3⟩ := hSw; cases ho; go_simp; try with_reducible rfl)
  try simp only [Act.put, pB, pC, pD]
  refine takeI 6 (some 11) (v := ?_) ?_ ?_
  rotate_left
  · (intro o ho w hSw; obtain ⟨z0, z1, z2, z3⟩ := hSw; cases ho; go_simp; try with_reducible rfl)
  try simp only [Act.put, pB, pC, pD]
  refine takeI 7 (some 12) (v := ?_) ?_ ?_
  rotate_left
  · (intro o ho w hSw; obtain ⟨z0, z1, z2, z3⟩ := hSw; cases ho; go_simp; try with_reducible rfl)
  try simp only [Act.put, pB, pC, pD]
  refine takeI 8 (some 13) (v := ?_) ?_ ?_
  rotate_left
  · (intro o ho w hSw; obtain ⟨z0, z1, z2, z3⟩ := hSw; cases ho; go_simp; try with_reducible rfl)
  try simp only [Act.put, pB, pC, pD]
  refine wpAnyH_ready (rs := [4]) (by kernel_rfl) (by simp) ?_
  refine AllReadyH.cons rfl (fun K hK => ?_) AllReadyH.nil
  go_simp
  go_at_call 34
  (refine (cmpI_any a a2 _).mono ?_)
  rintro e w3 ⟨rfl, rfl⟩
  go_wp2
  refine hK.out _ _ ?_ (fun hH4 => ?_)
  · exact (hS _ (Below.refl _ w2).drew)
  clear hK K
  try simp only [Act.put, pB, pC, pD]
  refine wpAnyH_ready (rs := [9]) (by kernel_rfl) (by simp) ?_
  refine AllReadyH.cons rfl (fun K hK => ?_) AllReadyH.nil
  go_simp
  go_at_call 34
  (refine (cmpI_any i i2 _).mono ?_)
  rintro e w3 ⟨rfl, rfl⟩
  go_wp2
  refine hK.out _ _ ?_ (fun hH9 => ?_)
  · exact (hS _ (Below.refl _ w2).drew)
  clear hK K
  try simp only [Act.put, pB, pC, pD]
  refine wpAnyH_ready (rs := [10]) (by kernel_rfl) (by simp) ?_
  refine AllReadyH.cons rfl (fun K hK => ?_) AllReadyH.nil
  go_simp
  refine hK.out _ _ ?_ (fun hH10 => ?_)
  · exact (hS _ ((Below.refl _ w2).drew.alloc (Nat.le_refl _) _))
  clear hK K
  try simp only [Act.put, pB, pC, pD]
  refine wpAnyH_ready (rs := [11]) (by kernel_rfl) (by simp) ?_
  refine AllReadyH.cons rfl (fun K hK => ?_) AllReadyH.nil
  go_simp
  go_at_call 33
  (refine (or_any w2.heap.size _ _ ((w2.alloc (.cells #[.int .i64 (Lib.compareInt a a2), .int .i64 (Lib.compareInt i i2)] 3)).drew) (show Blk (w2.alloc (.cells #[.int .i64 (Lib.compareInt a a2), .int .i64 (Lib.compareInt i i2)] 3)) w2.heap.size 3 _ from Blk.new w2 _ _) (show w2.heap.size < (w2.alloc (.cells #[.int .i64 (Lib.compareInt a a2), .int .i64 (Lib.compareInt i i2)] 3)).heap.size by simp)).mono ?_)
  rintro e w3 ⟨rfl, rfl⟩
  go_wp2
  refine hK.out _ _ ?_ (fun hH11 => ?_)
  · exact (hS _ ((Below.refl _ w2).drew.alloc (Nat.le_refl _) _))
  clear hK K
  try simp only [Act.put, pB, pC, pD]
  refine takeI 12 (some 4) (v := ?_) ?_ ?_
  rotate_left
  · (intro o ho w hSw; obtain ⟨z0, z1, z2, z3⟩ := hSw; cases ho; go_simp; try with_reducible rfl)
  try simp only [Act.put, pB, pC, pD]
  refine wpAnyH_done (by kernel_rfl) ?_ _
  go_wp2
  go_ret
  refine ⟨rfl, 1, ?os, ?_⟩
  rotate_left
  · rw [← HW.out]
    exact grow_three w _ _ _

/-- A holding's cells. -/
def hcells (S : LSt) (k : LK) : List Value := [.int .i64 (k.1.1 : Int), .int .i64 (k.2.1 : Int), .int .i64 (totL (S.st k))]
theorem hcells_len (S : LSt) (k : LK) : (hcells S k).length = 3 := rfl
def cfK (x y : LK) : Int := orI (Lib.compareInt (x.1.1 : Int) (y.1.1 : Int)) (Lib.compareInt (x.2.1 : Int) (y.2.1 : Int))
theorem ltK (x y : LK) : ltOf cfK x y = decide (x.1.1 < y.1.1 ∨ (x.1.1 = y.1.1 ∧ x.2.1 < y.2.1)) := by
  unfold ltOf cfK orI Lib.compareInt
  by_cases h1 : x.1.1 < y.1.1
  · have : (x.1.1 : Int) < (y.1.1 : Int) := by omega
    simp [h1, this]
  · have h1' : ¬ (x.1.1 : Int) < (y.1.1 : Int) := by omega
    by_cases h2 : y.1.1 < x.1.1
    · have : (y.1.1 : Int) < (x.1.1 : Int) := by omega
      have h3 : ¬ x.1.1 = y.1.1 := by omega
      simp [h1, h1', this, h3]
    · have h2' : ¬ (y.1.1 : Int) < (x.1.1 : Int) := by omega
      have h3 : x.1.1 = y.1.1 := by omega
      by_cases h4 : x.2.1 < y.2.1
      · have h4' : (x.2.1 : Int) < (y.2.1 : Int) := by omega
        simp [h3, h4, h4']
      · have h4' : ¬ (x.2.1 : Int) < (y.2.1 : Int) := by omega
        by_cases h5 : (y.2.1 : Int) < (x.2.1 : Int) <;> simp [h3, h4, h4', h5]
theorem swoK : SWO (ltOf cfK) where
  irrefl x := by rw [ltK]; simp
  trans x y z h1 h2 := by rw [ltK] at *; simp at *; omega
  ntrans x y z h1 h2 := by rw [ltK] at *; simp at *; omega
theorem totK (x y : LK) (h1 : ltOf cfK x y = false) (h2 : ltOf cfK y x = false) : x = y := by
  rw [ltK] at h1 h2
  simp at h1 h2
  obtain ⟨⟨a, ha⟩, ⟨b, hb⟩⟩ := x
  obtain ⟨⟨c, hc⟩, ⟨d, hd⟩⟩ := y
  simp at h1 h2
  have e1 : a = c := by omega
  have e2 : b = d := by omega
  subst e1 e2
  rfl
def sortK (ks : List LK) : List LK := ks.mergeSort fun x y => !(ltOf cfK) y x
theorem sortK_perm (ks : List LK) : (sortK ks).Perm ks := List.mergeSort_perm _ _
theorem sortK_sorted {ks : List LK} (hn : ks.Nodup) : (sortK ks).Pairwise (fun x y => ltOf cfK x y = true) := by
  have h := List.pairwise_mergeSort (le := fun x y : LK => !(ltOf cfK) y x) (fun a b c h1 h2 => by rw [ltK] at *; simp at *; omega) (fun a b => by rw [ltK, ltK]; simp; omega) ks
  have hnd : (sortK ks).Nodup := (sortK_perm ks).nodup_iff.2 hn
  refine (h.and hnd).imp (fun {a b} hab => ?_)
  obtain ⟨h1, h2⟩ := hab
  cases hx : ltOf cfK a b with
  | true => rfl
  | false => exact absurd (totK a b hx (by simpa using h1)) h2
/-- The list of keys that the holdings show: sorted, each once, those of stacks that are not empty. -/
def HoldIs (S : LSt) (ks : List LK) : Prop := ks.Pairwise (fun x y => ltOf cfK x y = true) ∧ ∀ k, k ∈ ks ↔ S.st k ≠ []
theorem sorted_eq : ∀ {a b : List LK}, a.Pairwise (fun x y => ltOf cfK x y = true) → b.Pairwise (fun x y => ltOf cfK x y = true) → (∀ k, k ∈ a ↔ k ∈ b) → a = b
  | [], [], _, _, _ => rfl
  | [], y :: b, _, _, h => absurd ((h y).2 (by simp)) (by simp)
  | x :: a, [], _, _, h => absurd ((h x).1 (by simp)) (by simp)
  | x :: a, y :: b, ha, hb, h => by
    rw [List.pairwise_cons] at ha hb
    have irr : ∀ z, ltOf cfK z z = true → False := fun z hz => by rw [swoK.irrefl z] at hz; cases hz
    have hxy : x = y := by
      rcases List.mem_cons.1 ((h x).1 (by simp)) with e | hx
      · exact e
      · rcases List.mem_cons.1 ((h y).2 (by simp)) with e | hy
        · exact e.symm
        · exact absurd (swoK.trans x y x (ha.1 y hy) (hb.1 x hx)) (fun e => irr x e)
    subst hxy
    congr 1
    refine sorted_eq ha.2 hb.2 (fun k => ⟨fun hk => ?_, fun hk => ?_⟩)
    · rcases List.mem_cons.1 ((h k).1 (List.mem_cons_of_mem _ hk)) with e | hk'
      · subst e
        exact absurd (ha.1 k hk) (fun e => irr k e)
      · exact hk'
    · rcases List.mem_cons.1 ((h k).2 (List.mem_cons_of_mem _ hk)) with e | hk'
      · subst e
        exact absurd (hb.1 k hk) (fun e => irr k e)
      · exact hk'
theorem HoldIs.unique {S : LSt} {a b : List LK} (h : HoldIs S a) (h' : HoldIs S b) : a = b := sorted_eq h.1 h'.1 (fun k => (h.2 k).trans (h'.2 k).symm)
theorem swK_other {α : Type} [Inhabited α] (enc : α → List Value) (q : Nat) (w : World) (blk off m : Nat) (dk : Array α) (os : Array Obj) (b : Nat) (hb : b < w.heap.size) (hne : blk ≠ b) : (sortWorldK enc q w blk off m dk os).heap[b]? = w.heap[b]? := by
  unfold sortWorldK putRowK
  rw [heap_grow_old _ _ (by simpa [putRow, mapBlock] using hb)]
  simp [putRow, mapBlock, Array.getElem?_modify, hne]
theorem flatK_at {S : LSt} (ks : List LK) (d : Array LK) (hd : d = ks.toArray) {j : Nat} (hj : j < ks.length * 3) : (ks.flatMap (hcells S))[j]? = some ((flatK (hcells S) 3 d)[j]!) := by
  have h1 : j / 3 < ks.length := by omega
  have h := flatT_at (hcells S) 3 (hcells_len S) ks (j / 3) (j % 3) h1 (by omega)
  have e : j / 3 * 3 + j % 3 = j := by omega
  rw [e] at h
  rw [h, get_flatK _ _ _ _ (by rw [hd]; simpa using hj)]
  have e2 : d[j / 3]! = ks[j / 3] := by rw [hd, getElem!_pos _ _ (by simpa using h1)]; simp
  rw [e2, List.getElem?_eq_getElem (by rw [hcells_len]; omega), getElem!_pos _ _ (by rw [hcells_len]; omega)]
set_option maxHeartbeats 1000000 in
theorem sortH_any (S : LSt) (gH n c : Nat) (ks : List LK) (cs : Array Value) (w : World) (hn : 0 < n) (hl : ks.length = n) (hn2 : n ≤ 1000000) (hB : w.heap[gH]? = some (.cells cs 69 (0, 0))) (hcs : ∀ j, j < n * 3 → cs[j]? = (ks.flatMap (hcells S))[j]?) :
    Calls Tryz.prog 31 #[.slice (some ⟨gH, 0, none⟩) n c, .func (.func 32) #[] #[]] w fun e w' =>
      e = .returned (.tuple #[]) ∧ (∃ cs', w'.heap[gH]? = some (.cells cs' 69 (0, 0)) ∧ ∀ j, j < n * 3 → cs'[j]? = ((sortK ks).flatMap (hcells S))[j]?) ∧ Mod (fun b => b = gH) w w' := by
  have eg : ∀ args w, (callFunc 32 args).run Tryz.prog w = .ok (.enter 32 args) w := enters_of Tryz.func32 (by kernel_rfl) rfl
  obtain ⟨d, hd⟩ : ∃ d : Array LK, d = ks.toArray := ⟨_, rfl⟩
  have hds : d.size = n := by rw [hd]; simpa using hl
  have hdl : d.toList = ks := by rw [hd]
  have hlt : gH < w.heap.size := (Array.getElem?_eq_some_iff.1 hB).1
  have hcl : CmpLays Tryz.prog 32 #[] (hcells S) 3 cfK gH 0 d.size w := by
    intro m os dk _ x y
    exact hold1_any _ _ _ _ _ _ _
  have hH : HoldsK (hcells S) 3 w gH 0 d := fun j hj => by
    rw [size_flatK, hds] at hj
    rw [Nat.zero_add]
    refine ⟨?_, by simp [World.frozen?, hB]⟩
    have : w.cell? ⟨gH, j, none⟩ = cs[j]? := by simp [World.cell?, hB]
    rw [this, hcs j hj, flatK_at ks d hd (by rw [hl]; exact hj)]
    rfl
  have hS := AnyQ.slices_SortFunc_total Tryz.sortFH 3 Tryz.isAgg69 Tryz.sizeOf69 (hcells S) (hcells_len S) (fun x v hv => by simp [hcells] at hv; rcases hv with rfl | rfl | rfl <;> rfl) cfK swoK 32 #[] gH 0 c d w eg hcl hH hlt (by omega) totK
  rw [hds, hdl] at hS
  refine Calls.mono hS ?_
  rintro e w' ⟨rfl, k, os, rfl⟩
  obtain ⟨ys, hys⟩ : ∃ ys, sortK ks = ys := ⟨_, rfl⟩
  have hyl : ys.length = n := by rw [← hys]; unfold sortK; rw [List.length_mergeSort, hl]
  have hys2 : (ks.mergeSort fun x y => !(ltOf cfK) y x) = ys := hys
  rw [hys2, hys]
  refine ⟨rfl, ?_, ⟨rfl, rfl, rfl, by simp [sortWorldK, putRowK, grow, putRow, mapBlock], fun b hb hF => swK_other (hcells S) 3 w gH 0 k ys.toArray os b hb (fun e => hF e.symm)⟩⟩
  refine ⟨putCells id 0 (flatK (hcells S) 3 ys.toArray) cs, ?_, fun j hj => ?_⟩
  · unfold sortWorldK putRowK
    rw [heap_grow_old _ _ (by simpa [putRow, mapBlock] using hlt)]
    simp only [putRow, mapBlock]
    rw [Array.getElem?_modify, if_pos rfl]
    have e : (Sort.ahead w k).heap[gH]? = w.heap[gH]? := rfl
    rw [e, hB]
    rfl
  · have hjc : j < cs.size := by
      have h1 := hcs j hj
      rw [List.getElem?_eq_getElem (by rw [flatT_length _ 3 (hcells_len S), hl]; exact hj)] at h1
      exact (Array.getElem?_eq_some_iff.1 h1).1
    rw [flatK_at ys ys.toArray rfl (by rw [hyl]; exact hj)]
    simp [putCells, hyl, hj, hjc]
end Go.Proofs.YtgjbbobphfejoaaGreatDoor
