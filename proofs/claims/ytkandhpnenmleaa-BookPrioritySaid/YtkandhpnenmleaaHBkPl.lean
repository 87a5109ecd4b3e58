/- book: the closure of place. -/
import Derived.Test.YtkandhpnenmleaaHBkB

namespace Go.Proofs.Ytkandhpnenmleaa
open Go.RowKit

set_option maxRecDepth 100000 in
set_option maxHeartbeats 2000000 in
theorem pl1_raw (p5 p2 p3 gb gr n oc gs off m c i id : Nat) (x o : Ord) (w : World) (hS : (fun w' => w'.cell? ⟨p5, 0, none⟩ = some (.pointer (some ⟨gb, 1, none⟩)) ∧ w'.cell? ⟨p2, 0, none⟩ = some (.pointer (some ⟨gb, 0, none⟩)) ∧ w'.cell? ⟨gb, 0, none⟩ = some (.slice (some ⟨gr, 0, none⟩) n oc) ∧ w'.cell? ⟨gb, 1, none⟩ = some (.slice (some ⟨gs, off, none⟩) m c) ∧ w'.cell? ⟨gb, 2, none⟩ = some bet1 ∧ w'.cell? ⟨gs, off + i, none⟩ = some (.int .i64 (id : Int)) ∧ (w'.cell? ⟨gr, id * 6, none⟩ = some (.int .i64 x.id) ∧ w'.cell? ⟨gr, id * 6 + 1, none⟩ = some (.int .i64 x.acc) ∧ w'.cell? ⟨gr, id * 6 + 2, none⟩ = some (.bool x.buy) ∧ w'.cell? ⟨gr, id * 6 + 3, none⟩ = some (.int .i64 x.price) ∧ w'.cell? ⟨gr, id * 6 + 4, none⟩ = some (.int .i64 x.n) ∧ w'.cell? ⟨gr, id * 6 + 5, none⟩ = some (.int .i64 x.left)) ∧ (w'.cell? ⟨p3, 0, none⟩ = some (.int .i64 o.id) ∧ w'.cell? ⟨p3, 1, none⟩ = some (.int .i64 o.acc) ∧ w'.cell? ⟨p3, 2, none⟩ = some (.bool o.buy) ∧ w'.cell? ⟨p3, 3, none⟩ = some (.int .i64 o.price) ∧ w'.cell? ⟨p3, 4, none⟩ = some (.int .i64 o.n) ∧ w'.cell? ⟨p3, 5, none⟩ = some (.int .i64 o.left))) w) (hi : i < m) (hid : id < n) (l5 : p5 < w.heap.size) (l2 : p2 < w.heap.size) (l3 : p3 < w.heap.size) (lb : gb < w.heap.size) (lr : gr < w.heap.size) (ls : gs < w.heap.size) :
    Calls Try.prog 65 #[.int .i64 (i : Int), .pointer (some ⟨p5, 0, none⟩), .pointer (some ⟨p2, 0, none⟩), .pointer (some ⟨p3, 0, none⟩)] w fun e w' => e = .returned (.bool (!betterB true x o)) ∧ Below w.heap.size w w' := by
  have HBL : Hid (∀ w', Below w.heap.size w w' → (fun w' => w'.cell? ⟨p5, 0, none⟩ = some (.pointer (some ⟨gb, 1, none⟩)) ∧ w'.cell? ⟨p2, 0, none⟩ = some (.pointer (some ⟨gb, 0, none⟩)) ∧ w'.cell? ⟨gb, 0, none⟩ = some (.slice (some ⟨gr, 0, none⟩) n oc) ∧ w'.cell? ⟨gb, 1, none⟩ = some (.slice (some ⟨gs, off, none⟩) m c) ∧ w'.cell? ⟨gb, 2, none⟩ = some bet1 ∧ w'.cell? ⟨gs, off + i, none⟩ = some (.int .i64 (id : Int)) ∧ (w'.cell? ⟨gr, id * 6, none⟩ = some (.int .i64 x.id) ∧ w'.cell? ⟨gr, id * 6 + 1, none⟩ = some (.int .i64 x.acc) ∧ w'.cell? ⟨gr, id * 6 + 2, none⟩ = some (.bool x.buy) ∧ w'.cell? ⟨gr, id * 6 + 3, none⟩ = some (.int .i64 x.price) ∧ w'.cell? ⟨gr, id * 6 + 4, none⟩ = some (.int .i64 x.n) ∧ w'.cell? ⟨gr, id * 6 + 5, none⟩ = some (.int .i64 x.left)) ∧ (w'.cell? ⟨p3, 0, none⟩ = some (.int .i64 o.id) ∧ w'.cell? ⟨p3, 1, none⟩ = some (.int .i64 o.acc) ∧ w'.cell? ⟨p3, 2, none⟩ = some (.bool o.buy) ∧ w'.cell? ⟨p3, 3, none⟩ = some (.int .i64 o.price) ∧ w'.cell? ⟨p3, 4, none⟩ = some (.int .i64 o.n) ∧ w'.cell? ⟨p3, 5, none⟩ = some (.int .i64 o.left))) w') := Lib.hid (fun w' hb => by
    obtain ⟨z0, z1, z2, z3, z4, z5, ⟨x0, x1, x2, x3, x4, x5⟩, y0, y1, y2, y3, y4, y5⟩ := hS
    exact ⟨(hb.cell (p := ⟨p5, 0, none⟩) l5).trans z0, (hb.cell (p := ⟨p2, 0, none⟩) l2).trans z1, (hb.cell (p := ⟨gb, 0, none⟩) lb).trans z2, (hb.cell (p := ⟨gb, 1, none⟩) lb).trans z3, (hb.cell (p := ⟨gb, 2, none⟩) lb).trans z4, (hb.cell (p := ⟨gs, off + i, none⟩) ls).trans z5, ⟨(hb.cell (p := ⟨gr, id * 6, none⟩) lr).trans x0, (hb.cell (p := ⟨gr, id * 6 + 1, none⟩) lr).trans x1, (hb.cell (p := ⟨gr, id * 6 + 2, none⟩) lr).trans x2, (hb.cell (p := ⟨gr, id * 6 + 3, none⟩) lr).trans x3, (hb.cell (p := ⟨gr, id * 6 + 4, none⟩) lr).trans x4, (hb.cell (p := ⟨gr, id * 6 + 5, none⟩) lr).trans x5⟩, (hb.cell (p := ⟨p3, 0, none⟩) l3).trans y0, (hb.cell (p := ⟨p3, 1, none⟩) l3).trans y1, (hb.cell (p := ⟨p3, 2, none⟩) l3).trans y2, (hb.cell (p := ⟨p3, 3, none⟩) l3).trans y3, (hb.cell (p := ⟨p3, 4, none⟩) l3).trans y4, (hb.cell (p := ⟨p3, 5, none⟩) l3).trans y5⟩)
  have hii : (i : Int) < (m : Int) := by omega
  obtain ⟨r, hr0⟩ : ∃ r, betterB true x o = r := ⟨_, rfl⟩
  rw [hr0]
  have hr := Lib.hid hr0
  clear hr0
  have hdd : (id : Int) < (n : Int) := by omega
  have hS1 : Below w.heap.size w w.drew := below_drewN (Below.refl _ _) 1
  clear hS l5 l2 l3 lb lr ls
  go_enter Try.func65, Try.ntmps65
  go_wp2
  refine wp_region_held_drew (S := (fun w' => w'.cell? ⟨p5, 0, none⟩ = some (.pointer (some ⟨gb, 1, none⟩)) ∧ w'.cell? ⟨p2, 0, none⟩ = some (.pointer (some ⟨gb, 0, none⟩)) ∧ w'.cell? ⟨gb, 0, none⟩ = some (.slice (some ⟨gr, 0, none⟩) n oc) ∧ w'.cell? ⟨gb, 1, none⟩ = some (.slice (some ⟨gs, off, none⟩) m c) ∧ w'.cell? ⟨gb, 2, none⟩ = some bet1 ∧ w'.cell? ⟨gs, off + i, none⟩ = some (.int .i64 (id : Int)) ∧ (w'.cell? ⟨gr, id * 6, none⟩ = some (.int .i64 x.id) ∧ w'.cell? ⟨gr, id * 6 + 1, none⟩ = some (.int .i64 x.acc) ∧ w'.cell? ⟨gr, id * 6 + 2, none⟩ = some (.bool x.buy) ∧ w'.cell? ⟨gr, id * 6 + 3, none⟩ = some (.int .i64 x.price) ∧ w'.cell? ⟨gr, id * 6 + 4, none⟩ = some (.int .i64 x.n) ∧ w'.cell? ⟨gr, id * 6 + 5, none⟩ = some (.int .i64 x.left)) ∧ (w'.cell? ⟨p3, 0, none⟩ = some (.int .i64 o.id) ∧ w'.cell? ⟨p3, 1, none⟩ = some (.int .i64 o.acc) ∧ w'.cell? ⟨p3, 2, none⟩ = some (.bool o.buy) ∧ w'.cell? ⟨p3, 3, none⟩ = some (.int .i64 o.price) ∧ w'.cell? ⟨p3, 4, none⟩ = some (.int .i64 o.n) ∧ w'.cell? ⟨p3, 5, none⟩ = some (.int .i64 o.left)))) (by kernel_rfl) (HBL.out _ hS1) (fun hHeld => ?_)
  refine takeH 0 (some 6) (v := ?_) (by rfl) (by rfl) (by kernel_rfl) (by kernel_rfl) (by kernel_rfl) (fun _ _ _ h => h) ?_ (by assumption) ?_
  rotate_left
  · (intro o ho w hSw; obtain ⟨z0, z1, z2, z3, z4, z5, ⟨x0, x1, x2, x3, x4, x5⟩, y0, y1, y2, y3, y4, y5⟩ := hSw; cases ho; go_simp; try with_reducible rfl)
  try simp only [Act.put, List.setIfInBounds_toArray, List.set_cons_zero, List.set_cons_succ]
  refine takeH 1 (some 7) (v := ?_) (by rfl) (by rfl) (by kernel_rfl) (by kernel_rfl) (by kernel_rfl) (fun _ _ _ h => h) ?_ (by assumption) ?_
  rotate_left
  · (intro o ho w hSw; obtain ⟨z0, z1, z2, z3, z4, z5, ⟨x0, x1, x2, x3, x4, x5⟩, y0, y1, y2, y3, y4, y5⟩ := hSw; cases ho; go_simp; try with_reducible rfl)
  try simp only [Act.put, List.setIfInBounds_toArray, List.set_cons_zero, List.set_cons_succ]
  refine takeH 2 (some 8) (v := ?_) (by rfl) (by rfl) (by kernel_rfl) (by kernel_rfl) (by kernel_rfl) (fun _ _ _ h => h) ?_ (by assumption) ?_
  rotate_left
  · (intro o ho w hSw; obtain ⟨z0, z1, z2, z3, z4, z5, ⟨x0, x1, x2, x3, x4, x5⟩, y0, y1, y2, y3, y4, y5⟩ := hSw; cases ho; go_simp; try with_reducible rfl)
  try simp only [Act.put, List.setIfInBounds_toArray, List.set_cons_zero, List.set_cons_succ]
  refine takeH 3 (some 9) (v := ?_) (by rfl) (by rfl) (by kernel_rfl) (by kernel_rfl) (by kernel_rfl) (fun _ _ _ h => h) ?_ (by assumption) ?_
  rotate_left
  · (intro o ho w hSw; obtain ⟨z0, z1, z2, z3, z4, z5, ⟨x0, x1, x2, x3, x4, x5⟩, y0, y1, y2, y3, y4, y5⟩ := hSw; cases ho; go_simp; try with_reducible rfl)
  try simp only [Act.put, List.setIfInBounds_toArray, List.set_cons_zero, List.set_cons_succ]
  refine takeH 4 (some 10) (v := ?_) (by rfl) (by rfl) (by kernel_rfl) (by kernel_rfl) (by kernel_rfl) (fun _ _ _ h => h) ?_ (by assumption) ?_
  rotate_left
  · (intro o ho w hSw; obtain ⟨z0, z1, z2, z3, z4, z5, ⟨x0, x1, x2, x3, x4, x5⟩, y0, y1, y2, y3, y4, y5⟩ := hSw; cases ho; go_simp; try with_reducible rfl)
  try simp only [Act.put, List.setIfInBounds_toArray, List.set_cons_zero, List.set_cons_succ]
  refine takeH 5 (some 11) (v := ?_) (by rfl) (by rfl) (by kernel_rfl) (by kernel_rfl) (by kernel_rfl) (fun _ _ _ h => h) ?_ (by assumption) ?_
  rotate_left
  · (intro o ho w hSw; obtain ⟨z0, z1, z2, z3, z4, z5, ⟨x0, x1, x2, x3, x4, x5⟩, y0, y1, y2, y3, y4, y5⟩ := hSw; cases ho; go_simp; try with_reducible rfl)
  try simp only [Act.put, List.setIfInBounds_toArray, List.set_cons_zero, List.set_cons_succ]
  refine takeH 6 (some 12) (v := ?_) (by rfl) (by rfl) (by kernel_rfl) (by kernel_rfl) (by kernel_rfl) (fun _ _ _ h => h) ?_ (by assumption) ?_
  rotate_left
  · (intro o ho w hSw; obtain ⟨z0, z1, z2, z3, z4, z5, ⟨x0, x1, x2, x3, x4, x5⟩, y0, y1, y2, y3, y4, y5⟩ := hSw; cases ho; go_simp; try with_reducible rfl)
  try simp only [Act.put, List.setIfInBounds_toArray, List.set_cons_zero, List.set_cons_succ]
  refine takeH 7 (some 13) (v := ?_) (by rfl) (by rfl) (by kernel_rfl) (by kernel_rfl) (by kernel_rfl) (fun _ _ _ h => h) ?_ (by assumption) ?_
  rotate_left
  · (intro o ho w hSw; obtain ⟨z0, z1, z2, z3, z4, z5, ⟨x0, x1, x2, x3, x4, x5⟩, y0, y1, y2, y3, y4, y5⟩ := hSw; cases ho; go_simp; try with_reducible rfl)
  try simp only [Act.put, List.setIfInBounds_toArray, List.set_cons_zero, List.set_cons_succ]
  refine takeH 8 (some 14) (v := ?_) (by rfl) (by rfl) (by kernel_rfl) (by kernel_rfl) (by kernel_rfl) (fun _ _ _ h => h) ?_ (by assumption) ?_
  rotate_left
  · (intro o ho w hSw; obtain ⟨z0, z1, z2, z3, z4, z5, ⟨x0, x1, x2, x3, x4, x5⟩, y0, y1, y2, y3, y4, y5⟩ := hSw; cases ho; go_simp; try with_reducible rfl)
  try simp only [Act.put, List.setIfInBounds_toArray, List.set_cons_zero, List.set_cons_succ]
  refine takeH 9 (some 15) (v := ?_) (by rfl) (by rfl) (by kernel_rfl) (by kernel_rfl) (by kernel_rfl) (fun _ _ _ h => h) ?_ (by assumption) ?_
  rotate_left
  · (intro o ho w hSw; obtain ⟨z0, z1, z2, z3, z4, z5, ⟨x0, x1, x2, x3, x4, x5⟩, y0, y1, y2, y3, y4, y5⟩ := hSw; cases ho; go_simp; try with_reducible rfl)
  try simp only [Act.put, List.setIfInBounds_toArray, List.set_cons_zero, List.set_cons_succ]
  refine takeH 10 (some 16) (v := ?_) (by rfl) (by rfl) (by kernel_rfl) (by kernel_rfl) (by kernel_rfl) (fun _ _ _ h => h) ?_ (by assumption) ?_
  rotate_left
  · (intro o ho w hSw; obtain ⟨z0, z1, z2, z3, z4, z5, ⟨x0, x1, x2, x3, x4, x5⟩, y0, y1, y2, y3, y4, y5⟩ := hSw; cases ho; go_simp; try with_reducible rfl)
  try simp only [Act.put, List.setIfInBounds_toArray, List.set_cons_zero, List.set_cons_succ]
  refine takeH 11 (some 17) (v := ?_) (by rfl) (by rfl) (by kernel_rfl) (by kernel_rfl) (by kernel_rfl) (fun _ _ _ h => h) ?_ (by assumption) ?_
  rotate_left
  · (intro o ho w hSw; obtain ⟨z0, z1, z2, z3, z4, z5, ⟨x0, x1, x2, x3, x4, x5⟩, y0, y1, y2, y3, y4, y5⟩ := hSw; cases ho; go_simp; try with_reducible rfl)
  try simp only [Act.put, List.setIfInBounds_toArray, List.set_cons_zero, List.set_cons_succ]
  refine takeH 12 (some 18) (v := ?_) (by rfl) (by rfl) (by kernel_rfl) (by kernel_rfl) (by kernel_rfl) (fun _ _ _ h => h) ?_ (by assumption) ?_
  rotate_left
  · (intro o ho w hSw; obtain ⟨z0, z1, z2, z3, z4, z5, ⟨x0, x1, x2, x3, x4, x5⟩, y0, y1, y2, y3, y4, y5⟩ := hSw; cases ho; go_simp; try with_reducible rfl)
  try simp only [Act.put, List.setIfInBounds_toArray, List.set_cons_zero, List.set_cons_succ]
  refine takeH 13 (some 19) (v := ?_) (by rfl) (by rfl) (by kernel_rfl) (by kernel_rfl) (by kernel_rfl) (fun _ _ _ h => h) ?_ (by assumption) ?_
  rotate_left
  · (intro o ho w hSw; obtain ⟨z0, z1, z2, z3, z4, z5, ⟨x0, x1, x2, x3, x4, x5⟩, y0, y1, y2, y3, y4, y5⟩ := hSw; cases ho; go_simp; try with_reducible rfl)
  try simp only [Act.put, List.setIfInBounds_toArray, List.set_cons_zero, List.set_cons_succ]
  refine takeH 14 (some 20) (v := ?_) (by rfl) (by rfl) (by kernel_rfl) (by kernel_rfl) (by kernel_rfl) (fun _ _ _ h => h) ?_ (by assumption) ?_
  rotate_left
  · (intro o ho w hSw; obtain ⟨z0, z1, z2, z3, z4, z5, ⟨x0, x1, x2, x3, x4, x5⟩, y0, y1, y2, y3, y4, y5⟩ := hSw; cases ho; go_simp; try with_reducible rfl)
  try simp only [Act.put, List.setIfInBounds_toArray, List.set_cons_zero, List.set_cons_succ]
  refine takeH 15 (some 21) (v := ?_) (by rfl) (by rfl) (by kernel_rfl) (by kernel_rfl) (by kernel_rfl) (fun _ _ _ h => h) ?_ (by assumption) ?_
  rotate_left
  · (intro o ho w hSw; obtain ⟨z0, z1, z2, z3, z4, z5, ⟨x0, x1, x2, x3, x4, x5⟩, y0, y1, y2, y3, y4, y5⟩ := hSw; cases ho; go_simp; try with_reducible rfl)
  try simp only [Act.put, List.setIfInBounds_toArray, List.set_cons_zero, List.set_cons_succ]
  refine takeH 16 (some 22) (v := ?_) (by rfl) (by rfl) (by kernel_rfl) (by kernel_rfl) (by kernel_rfl) (fun _ _ _ h => h) ?_ (by assumption) ?_
  rotate_left
  · (intro o ho w hSw; obtain ⟨z0, z1, z2, z3, z4, z5, ⟨x0, x1, x2, x3, x4, x5⟩, y0, y1, y2, y3, y4, y5⟩ := hSw; cases ho; go_simp; try with_reducible rfl)
  try simp only [Act.put, List.setIfInBounds_toArray, List.set_cons_zero, List.set_cons_succ]
  refine takeH 17 (some 23) (v := ?_) (by rfl) (by rfl) (by kernel_rfl) (by kernel_rfl) (by kernel_rfl) (fun _ _ _ h => h) ?_ (by assumption) ?_
  rotate_left
  · (intro o ho w hSw; obtain ⟨z0, z1, z2, z3, z4, z5, ⟨x0, x1, x2, x3, x4, x5⟩, y0, y1, y2, y3, y4, y5⟩ := hSw; cases ho; go_simp; try with_reducible rfl)
  try simp only [Act.put, List.setIfInBounds_toArray, List.set_cons_zero, List.set_cons_succ]
  refine wpAnyH_ready (rs := [18]) (by kernel_rfl) (by simp) ?_
  refine AllReadyH.cons rfl (fun K hK => ?_) AllReadyH.nil
  go_simp
  go_at_call 27
  (refine (bet1_any x.id x.acc x.buy x.price x.n x.left o.id o.acc o.buy o.price o.n o.left _).mono ?_)
  rintro e w2 ⟨he, hb2⟩
  replace he : e = .returned (.bool r) := he.trans (by rw [← hr.out]; rfl)
  subst he
  have hS2 := bt hS1 hb2
  clear hb2
  go_wp2
  refine hK.out _ _ ?_ (fun hh8 => ?_)
  · exact (HBL.out _ hS2)
  clear hK K
  try simp only [Act.put, List.setIfInBounds_toArray, List.set_cons_zero, List.set_cons_succ]
  refine takeH 19 (some 25) (v := ?_) (by rfl) (by rfl) (by kernel_rfl) (by kernel_rfl) (by kernel_rfl) (fun _ _ _ h => h) ?_ (by assumption) ?_
  rotate_left
  · (intro o ho w hSw; obtain ⟨z0, z1, z2, z3, z4, z5, ⟨x0, x1, x2, x3, x4, x5⟩, y0, y1, y2, y3, y4, y5⟩ := hSw; cases ho; go_simp; try with_reducible rfl)
  try simp only [Act.put, List.setIfInBounds_toArray, List.set_cons_zero, List.set_cons_succ]
  refine takeH 20 (some 5) (v := ?_) (by rfl) (by rfl) (by kernel_rfl) (by kernel_rfl) (by kernel_rfl) (fun _ _ _ h => h) ?_ (by assumption) ?_
  rotate_left
  · (intro o ho w hSw; obtain ⟨z0, z1, z2, z3, z4, z5, ⟨x0, x1, x2, x3, x4, x5⟩, y0, y1, y2, y3, y4, y5⟩ := hSw; cases ho; go_simp; try with_reducible rfl)
  try simp only [Act.put, List.setIfInBounds_toArray, List.set_cons_zero, List.set_cons_succ]
  refine wpAnyH_done (by kernel_rfl) ?_ _
  go_wp2
  go_ret
  exact ⟨rfl, hS2⟩
set_option maxRecDepth 100000 in
set_option maxHeartbeats 2000000 in
theorem pl2_raw (p5 p2 p3 gb gr n oc gs off m c i id : Nat) (x o : Ord) (w : World) (hS : (fun w' => w'.cell? ⟨p5, 0, none⟩ = some (.pointer (some ⟨gb, 3, none⟩)) ∧ w'.cell? ⟨p2, 0, none⟩ = some (.pointer (some ⟨gb, 0, none⟩)) ∧ w'.cell? ⟨gb, 0, none⟩ = some (.slice (some ⟨gr, 0, none⟩) n oc) ∧ w'.cell? ⟨gb, 3, none⟩ = some (.slice (some ⟨gs, off, none⟩) m c) ∧ w'.cell? ⟨gb, 4, none⟩ = some bet2 ∧ w'.cell? ⟨gs, off + i, none⟩ = some (.int .i64 (id : Int)) ∧ (w'.cell? ⟨gr, id * 6, none⟩ = some (.int .i64 x.id) ∧ w'.cell? ⟨gr, id * 6 + 1, none⟩ = some (.int .i64 x.acc) ∧ w'.cell? ⟨gr, id * 6 + 2, none⟩ = some (.bool x.buy) ∧ w'.cell? ⟨gr, id * 6 + 3, none⟩ = some (.int .i64 x.price) ∧ w'.cell? ⟨gr, id * 6 + 4, none⟩ = some (.int .i64 x.n) ∧ w'.cell? ⟨gr, id * 6 + 5, none⟩ = some (.int .i64 x.left)) ∧ (w'.cell? ⟨p3, 0, none⟩ = some (.int .i64 o.id) ∧ w'.cell? ⟨p3, 1, none⟩ = some (.int .i64 o.acc) ∧ w'.cell? ⟨p3, 2, none⟩ = some (.bool o.buy) ∧ w'.cell? ⟨p3, 3, none⟩ = some (.int .i64 o.price) ∧ w'.cell? ⟨p3, 4, none⟩ = some (.int .i64 o.n) ∧ w'.cell? ⟨p3, 5, none⟩ = some (.int .i64 o.left))) w) (hi : i < m) (hid : id < n) (l5 : p5 < w.heap.size) (l2 : p2 < w.heap.size) (l3 : p3 < w.heap.size) (lb : gb < w.heap.size) (lr : gr < w.heap.size) (ls : gs < w.heap.size) :
    Calls Try.prog 65 #[.int .i64 (i : Int), .pointer (some ⟨p5, 0, none⟩), .pointer (some ⟨p2, 0, none⟩), .pointer (some ⟨p3, 0, none⟩)] w fun e w' => e = .returned (.bool (!betterB false x o)) ∧ Below w.heap.size w w' := by
  have HBL : Hid (∀ w', Below w.heap.size w w' → (fun w' => w'.cell? ⟨p5, 0, none⟩ = some (.pointer (some ⟨gb, 3, none⟩)) ∧ w'.cell? ⟨p2, 0, none⟩ = some (.pointer (some ⟨gb, 0, none⟩)) ∧ w'.cell? ⟨gb, 0, none⟩ = some (.slice (some ⟨gr, 0, none⟩) n oc) ∧ w'.cell? ⟨gb, 3, none⟩ = some (.slice (some ⟨gs, off, none⟩) m c) ∧ w'.cell? ⟨gb, 4, none⟩ = some bet2 ∧ w'.cell? ⟨gs, off + i, none⟩ = some (.int .i64 (id : Int)) ∧ (w'.cell? ⟨gr, id * 6, none⟩ = some (.int .i64 x.id) ∧ w'.cell? ⟨gr, id * 6 + 1, none⟩ = some (.int .i64 x.acc) ∧ w'.cell? ⟨gr, id * 6 + 2, none⟩ = some (.bool x.buy) ∧ w'.cell? ⟨gr, id * 6 + 3, none⟩ = some (.int .i64 x.price) ∧ w'.cell? ⟨gr, id * 6 + 4, none⟩ = some (.int .i64 x.n) ∧ w'.cell? ⟨gr, id * 6 + 5, none⟩ = some (.int .i64 x.left)) ∧ (w'.cell? ⟨p3, 0, none⟩ = some (.int .i64 o.id) ∧ w'.cell? ⟨p3, 1, none⟩ = some (.int .i64 o.acc) ∧ w'.cell? ⟨p3, 2, none⟩ = some (.bool o.buy) ∧ w'.cell? ⟨p3, 3, none⟩ = some (.int .i64 o.price) ∧ w'.cell? ⟨p3, 4, none⟩ = some (.int .i64 o.n) ∧ w'.cell? ⟨p3, 5, none⟩ = some (.int .i64 o.left))) w') := Lib.hid (fun w' hb => by
    obtain ⟨z0, z1, z2, z3, z4, z5, ⟨x0, x1, x2, x3, x4, x5⟩, y0, y1, y2, y3, y4, y5⟩ := hS
    exact ⟨(hb.cell (p := ⟨p5, 0, none⟩) l5).trans z0, (hb.cell (p := ⟨p2, 0, none⟩) l2).trans z1, (hb.cell (p := ⟨gb, 0, none⟩) lb).trans z2, (hb.cell (p := ⟨gb, 3, none⟩) lb).trans z3, (hb.cell (p := ⟨gb, 4, none⟩) lb).trans z4, (hb.cell (p := ⟨gs, off + i, none⟩) ls).trans z5, ⟨(hb.cell (p := ⟨gr, id * 6, none⟩) lr).trans x0, (hb.cell (p := ⟨gr, id * 6 + 1, none⟩) lr).trans x1, (hb.cell (p := ⟨gr, id * 6 + 2, none⟩) lr).trans x2, (hb.cell (p := ⟨gr, id * 6 + 3, none⟩) lr).trans x3, (hb.cell (p := ⟨gr, id * 6 + 4, none⟩) lr).trans x4, (hb.cell (p := ⟨gr, id * 6 + 5, none⟩) lr).trans x5⟩, (hb.cell (p := ⟨p3, 0, none⟩) l3).trans y0, (hb.cell (p := ⟨p3, 1, none⟩) l3).trans y1, (hb.cell (p := ⟨p3, 2, none⟩) l3).trans y2, (hb.cell (p := ⟨p3, 3, none⟩) l3).trans y3, (hb.cell (p := ⟨p3, 4, none⟩) l3).trans y4, (hb.cell (p := ⟨p3, 5, none⟩) l3).trans y5⟩)
  have hii : (i : Int) < (m : Int) := by omega
  obtain ⟨r, hr0⟩ : ∃ r, betterB false x o = r := ⟨_, rfl⟩
  rw [hr0]
  have hr := Lib.hid hr0
  clear hr0
  have hdd : (id : Int) < (n : Int) := by omega
  have hS1 : Below w.heap.size w w.drew := below_drewN (Below.refl _ _) 1
  clear hS l5 l2 l3 lb lr ls
  go_enter Try.func65, Try.ntmps65
  go_wp2
  refine wp_region_held_drew (S := (fun w' => w'.cell? ⟨p5, 0, none⟩ = some (.pointer (some ⟨gb, 3, none⟩)) ∧ w'.cell? ⟨p2, 0, none⟩ = some (.pointer (some ⟨gb, 0, none⟩)) ∧ w'.cell? ⟨gb, 0, none⟩ = some (.slice (some ⟨gr, 0, none⟩) n oc) ∧ w'.cell? ⟨gb, 3, none⟩ = some (.slice (some ⟨gs, off, none⟩) m c) ∧ w'.cell? ⟨gb, 4, none⟩ = some bet2 ∧ w'.cell? ⟨gs, off + i, none⟩ = some (.int .i64 (id : Int)) ∧ (w'.cell? ⟨gr, id * 6, none⟩ = some (.int .i64 x.id) ∧ w'.cell? ⟨gr, id * 6 + 1, none⟩ = some (.int .i64 x.acc) ∧ w'.cell? ⟨gr, id * 6 + 2, none⟩ = some (.bool x.buy) ∧ w'.cell? ⟨gr, id * 6 + 3, none⟩ = some (.int .i64 x.price) ∧ w'.cell? ⟨gr, id * 6 + 4, none⟩ = some (.int .i64 x.n) ∧ w'.cell? ⟨gr, id * 6 + 5, none⟩ = some (.int .i64 x.left)) ∧ (w'.cell? ⟨p3, 0, none⟩ = some (.int .i64 o.id) ∧ w'.cell? ⟨p3, 1, none⟩ = some (.int .i64 o.acc) ∧ w'.cell? ⟨p3, 2, none⟩ = some (.bool o.buy) ∧ w'.cell? ⟨p3, 3, none⟩ = some (.int .i64 o.price) ∧ w'.cell? ⟨p3, 4, none⟩ = some (.int .i64 o.n) ∧ w'.cell? ⟨p3, 5, none⟩ = some (.int .i64 o.left)))) (by kernel_rfl) (HBL.out _ hS1) (fun hHeld => ?_)
  refine takeH 0 (some 6) (v := ?_) (by rfl) (by rfl) (by kernel_rfl) (by kernel_rfl) (by kernel_rfl) (fun _ _ _ h => h) ?_ (by assumption) ?_
  rotate_left
  · (intro o ho w hSw; obtain ⟨z0, z1, z2, z3, z4, z5, ⟨x0, x1, x2, x3, x4, x5⟩, y0, y1, y2, y3, y4, y5⟩ := hSw; cases ho; go_simp; try with_reducible rfl)
  try simp only [Act.put, List.setIfInBounds_toArray, List.set_cons_zero, List.set_cons_succ]
  refine takeH 1 (some 7) (v := ?_) (by rfl) (by rfl) (by kernel_rfl) (by kernel_rfl) (by kernel_rfl) (fun _ _ _ h => h) ?_ (by assumption) ?_
  rotate_left
  · (intro o ho w hSw; obtain ⟨z0, z1, z2, z3, z4, z5, ⟨x0, x1, x2, x3, x4, x5⟩, y0, y1, y2, y3, y4, y5⟩ := hSw; cases ho; go_simp; try with_reducible rfl)
  try simp only [Act.put, List.setIfInBounds_toArray, List.set_cons_zero, List.set_cons_succ]
  refine takeH 2 (some 8) (v := ?_) (by rfl) (by rfl) (by kernel_rfl) (by kernel_rfl) (by kernel_rfl) (fun _ _ _ h => h) ?_ (by assumption) ?_
  rotate_left
  · (intro o ho w hSw; obtain ⟨z0, z1, z2, z3, z4, z5, ⟨x0, x1, x2, x3, x4, x5⟩, y0, y1, y2, y3, y4, y5⟩ := hSw; cases ho; go_simp; try with_reducible rfl)
  try simp only [Act.put, List.setIfInBounds_toArray, List.set_cons_zero, List.set_cons_succ]
  refine takeH 3 (some 9) (v := ?_) (by rfl) (by rfl) (by kernel_rfl) (by kernel_rfl) (by kernel_rfl) (fun _ _ _ h => h) ?_ (by assumption) ?_
  rotate_left
  · (intro o ho w hSw; obtain ⟨z0, z1, z2, z3, z4, z5, ⟨x0, x1, x2, x3, x4, x5⟩, y0, y1, y2, y3, y4, y5⟩ := hSw; cases ho; go_simp; try with_reducible rfl)
  try simp only [Act.put, List.setIfInBounds_toArray, List.set_cons_zero, List.set_cons_succ]
  refine takeH 4 (some 10) (v := ?_) (by rfl) (by rfl) (by kernel_rfl) (by kernel_rfl) (by kernel_rfl) (fun _ _ _ h => h) ?_ (by assumption) ?_
  rotate_left
  · (intro o ho w hSw; obtain ⟨z0, z1, z2, z3, z4, z5, ⟨x0, x1, x2, x3, x4, x5⟩, y0, y1, y2, y3, y4, y5⟩ := hSw; cases ho; go_simp; try with_reducible rfl)
  try simp only [Act.put, List.setIfInBounds_toArray, List.set_cons_zero, List.set_cons_succ]
  refine takeH 5 (some 11) (v := ?_) (by rfl) (by rfl) (by kernel_rfl) (by kernel_rfl) (by kernel_rfl) (fun _ _ _ h => h) ?_ (by assumption) ?_
  rotate_left
  · (intro o ho w hSw; obtain ⟨z0, z1, z2, z3, z4, z5, ⟨x0, x1, x2, x3, x4, x5⟩, y0, y1, y2, y3, y4, y5⟩ := hSw; cases ho; go_simp; try with_reducible rfl)
  try simp only [Act.put, List.setIfInBounds_toArray, List.set_cons_zero, List.set_cons_succ]
  refine takeH 6 (some 12) (v := ?_) (by rfl) (by rfl) (by kernel_rfl) (by kernel_rfl) (by kernel_rfl) (fun _ _ _ h => h) ?_ (by assumption) ?_
  rotate_left
  · (intro o ho w hSw; obtain ⟨z0, z1, z2, z3, z4, z5, ⟨x0, x1, x2, x3, x4, x5⟩, y0, y1, y2, y3, y4, y5⟩ := hSw; cases ho; go_simp; try with_reducible rfl)
  try simp only [Act.put, List.setIfInBounds_toArray, List.set_cons_zero, List.set_cons_succ]
  refine takeH 7 (some 13) (v := ?_) (by rfl) (by rfl) (by kernel_rfl) (by kernel_rfl) (by kernel_rfl) (fun _ _ _ h => h) ?_ (by assumption) ?_
  rotate_left
  · (intro o ho w hSw; obtain ⟨z0, z1, z2, z3, z4, z5, ⟨x0, x1, x2, x3, x4, x5⟩, y0, y1, y2, y3, y4, y5⟩ := hSw; cases ho; go_simp; try with_reducible rfl)
  try simp only [Act.put, List.setIfInBounds_toArray, List.set_cons_zero, List.set_cons_succ]
  refine takeH 8 (some 14) (v := ?_) (by rfl) (by rfl) (by kernel_rfl) (by kernel_rfl) (by kernel_rfl) (fun _ _ _ h => h) ?_ (by assumption) ?_
  rotate_left
  · (intro o ho w hSw; obtain ⟨z0, z1, z2, z3, z4, z5, ⟨x0, x1, x2, x3, x4, x5⟩, y0, y1, y2, y3, y4, y5⟩ := hSw; cases ho; go_simp; try with_reducible rfl)
  try simp only [Act.put, List.setIfInBounds_toArray, List.set_cons_zero, List.set_cons_succ]
  refine takeH 9 (some 15) (v := ?_) (by rfl) (by rfl) (by kernel_rfl) (by kernel_rfl) (by kernel_rfl) (fun _ _ _ h => h) ?_ (by assumption) ?_
  rotate_left
  · (intro o ho w hSw; obtain ⟨z0, z1, z2, z3, z4, z5, ⟨x0, x1, x2, x3, x4, x5⟩, y0, y1, y2, y3, y4, y5⟩ := hSw; cases ho; go_simp; try with_reducible rfl)
  try simp only [Act.put, List.setIfInBounds_toArray, List.set_cons_zero, List.set_cons_succ]
  refine takeH 10 (some 16) (v := ?_) (by rfl) (by rfl) (by kernel_rfl) (by kernel_rfl) (by kernel_rfl) (fun _ _ _ h => h) ?_ (by assumption) ?_
  rotate_left
  · (intro o ho w hSw; obtain ⟨z0, z1, z2, z3, z4, z5, ⟨x0, x1, x2, x3, x4, x5⟩, y0, y1, y2, y3, y4, y5⟩ := hSw; cases ho; go_simp; try with_reducible rfl)
  try simp only [Act.put, List.setIfInBounds_toArray, List.set_cons_zero, List.set_cons_succ]
  refine takeH 11 (some 17) (v := ?_) (by rfl) (by rfl) (by kernel_rfl) (by kernel_rfl) (by kernel_rfl) (fun _ _ _ h => h) ?_ (by assumption) ?_
  rotate_left
  · (intro o ho w hSw; obtain ⟨z0, z1, z2, z3, z4, z5, ⟨x0, x1, x2, x3, x4, x5⟩, y0, y1, y2, y3, y4, y5⟩ := hSw; cases ho; go_simp; try with_reducible rfl)
  try simp only [Act.put, List.setIfInBounds_toArray, List.set_cons_zero, List.set_cons_succ]
  refine takeH 12 (some 18) (v := ?_) (by rfl) (by rfl) (by kernel_rfl) (by kernel_rfl) (by kernel_rfl) (fun _ _ _ h => h) ?_ (by assumption) ?_
  rotate_left
  · (intro o ho w hSw; obtain ⟨z0, z1, z2, z3, z4, z5, ⟨x0, x1, x2, x3, x4, x5⟩, y0, y1, y2, y3, y4, y5⟩ := hSw; cases ho; go_simp; try with_reducible rfl)
  try simp only [Act.put, List.setIfInBounds_toArray, List.set_cons_zero, List.set_cons_succ]
  refine takeH 13 (some 19) (v := ?_) (by rfl) (by rfl) (by kernel_rfl) (by kernel_rfl) (by kernel_rfl) (fun _ _ _ h => h) ?_ (by assumption) ?_
  rotate_left
  · (intro o ho w hSw; obtain ⟨z0, z1, z2, z3, z4, z5, ⟨x0, x1, x2, x3, x4, x5⟩, y0, y1, y2, y3, y4, y5⟩ := hSw; cases ho; go_simp; try with_reducible rfl)
  try simp only [Act.put, List.setIfInBounds_toArray, List.set_cons_zero, List.set_cons_succ]
  refine takeH 14 (some 20) (v := ?_) (by rfl) (by rfl) (by kernel_rfl) (by kernel_rfl) (by kernel_rfl) (fun _ _ _ h => h) ?_ (by assumption) ?_
  rotate_left
  · (intro o ho w hSw; obtain ⟨z0, z1, z2, z3, z4, z5, ⟨x0, x1, x2, x3, x4, x5⟩, y0, y1, y2, y3, y4, y5⟩ := hSw; cases ho; go_simp; try with_reducible rfl)
  try simp only [Act.put, List.setIfInBounds_toArray, List.set_cons_zero, List.set_cons_succ]
  refine takeH 15 (some 21) (v := ?_) (by rfl) (by rfl) (by kernel_rfl) (by kernel_rfl) (by kernel_rfl) (fun _ _ _ h => h) ?_ (by assumption) ?_
  rotate_left
  · (intro o ho w hSw; obtain ⟨z0, z1, z2, z3, z4, z5, ⟨x0, x1, x2, x3, x4, x5⟩, y0, y1, y2, y3, y4, y5⟩ := hSw; cases ho; go_simp; try with_reducible rfl)
  try simp only [Act.put, List.setIfInBounds_toArray, List.set_cons_zero, List.set_cons_succ]
  refine takeH 16 (some 22) (v := ?_) (by rfl) (by rfl) (by kernel_rfl) (by kernel_rfl) (by kernel_rfl) (fun _ _ _ h => h) ?_ (by assumption) ?_
  rotate_left
  · (intro o ho w hSw; obtain ⟨z0, z1, z2, z3, z4, z5, ⟨x0, x1, x2, x3, x4, x5⟩, y0, y1, y2, y3, y4, y5⟩ := hSw; cases ho; go_simp; try with_reducible rfl)
  try simp only [Act.put, List.setIfInBounds_toArray, List.set_cons_zero, List.set_cons_succ]
  refine takeH 17 (some 23) (v := ?_) (by rfl) (by rfl) (by kernel_rfl) (by kernel_rfl) (by kernel_rfl) (fun _ _ _ h => h) ?_ (by assumption) ?_
  rotate_left
  · (intro o ho w hSw; obtain ⟨z0, z1, z2, z3, z4, z5, ⟨x0, x1, x2, x3, x4, x5⟩, y0, y1, y2, y3, y4, y5⟩ := hSw; cases ho; go_simp; try with_reducible rfl)
  try simp only [Act.put, List.setIfInBounds_toArray, List.set_cons_zero, List.set_cons_succ]
  refine wpAnyH_ready (rs := [18]) (by kernel_rfl) (by simp) ?_
  refine AllReadyH.cons rfl (fun K hK => ?_) AllReadyH.nil
  go_simp
  go_at_call 28
  (refine (bet2_any x.id x.acc x.buy x.price x.n x.left o.id o.acc o.buy o.price o.n o.left _).mono ?_)
  rintro e w2 ⟨he, hb2⟩
  replace he : e = .returned (.bool r) := he.trans (by rw [← hr.out]; rfl)
  subst he
  have hS2 := bt hS1 hb2
  clear hb2
  go_wp2
  refine hK.out _ _ ?_ (fun hh8 => ?_)
  · exact (HBL.out _ hS2)
  clear hK K
  try simp only [Act.put, List.setIfInBounds_toArray, List.set_cons_zero, List.set_cons_succ]
  refine takeH 19 (some 25) (v := ?_) (by rfl) (by rfl) (by kernel_rfl) (by kernel_rfl) (by kernel_rfl) (fun _ _ _ h => h) ?_ (by assumption) ?_
  rotate_left
  · (intro o ho w hSw; obtain ⟨z0, z1, z2, z3, z4, z5, ⟨x0, x1, x2, x3, x4, x5⟩, y0, y1, y2, y3, y4, y5⟩ := hSw; cases ho; go_simp; try with_reducible rfl)
  try simp only [Act.put, List.setIfInBounds_toArray, List.set_cons_zero, List.set_cons_succ]
  refine takeH 20 (some 5) (v := ?_) (by rfl) (by rfl) (by kernel_rfl) (by kernel_rfl) (by kernel_rfl) (fun _ _ _ h => h) ?_ (by assumption) ?_
  rotate_left
  · (intro o ho w hSw; obtain ⟨z0, z1, z2, z3, z4, z5, ⟨x0, x1, x2, x3, x4, x5⟩, y0, y1, y2, y3, y4, y5⟩ := hSw; cases ho; go_simp; try with_reducible rfl)
  try simp only [Act.put, List.setIfInBounds_toArray, List.set_cons_zero, List.set_cons_succ]
  refine wpAnyH_done (by kernel_rfl) ?_ _
  go_wp2
  go_ret
  exact ⟨rfl, hS2⟩
end Go.Proofs.Ytkandhpnenmleaa
