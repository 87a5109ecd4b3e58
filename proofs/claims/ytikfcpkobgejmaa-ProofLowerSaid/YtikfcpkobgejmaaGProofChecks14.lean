/- Part 14 of the texts that ProofChecks needs: PfRRightD PfRRight PfRCheck Law. -/
import Derived.Deep.RegionWith
import Derived.Test.YtikfcpkobgejmaaRows
import Derived.WalkKit
import Derived.ProofKit
import Derived.OpenShut
import Derived.JoinedCond
import Derived.Test.YtikfcpkobgejmaaGProofChecks13

/- reference: right, an inner node. -/
namespace Go.Proofs.Ytikfcpkobgejmaa
open Go.RowKit

set_option maxRecDepth 100000 in
set_option maxHeartbeats 8000000 in
theorem rnode_both (n : Nat) (A : Option Addr) (m c : Nat) (v : Int) (b off nn cn : Nat) (iq oq : Int) (sA : Option Addr) (sn sc : Nat) (Ai : Option Addr) (ni ci : Nat) (Ao : Option Addr) (no co : Nat) (i : Nat) (k : Nat) (inn out : List Int) (r2 : Bool) (w : World) (_hbw : b < w.heap.size) (_hi : i < nn) (_c0 : w.cell? ⟨b, off + i * 4, none⟩ = some (.int .i64 (k : Int))) (_c1 : w.cell? ⟨b, off + i * 4 + 1, none⟩ = some (.int .i64 iq)) (_c2 : w.cell? ⟨b, off + i * 4 + 2, none⟩ = some (.int .i64 oq)) (_c3 : w.cell? ⟨b, off + i * 4 + 3, none⟩ = some (.slice sA sn sc)) (hko : (k : Int) < (m : Int)) (hs0 : sn = 0) (hq1 : (i : Int) < iq) (hq2 : iq < (nn : Int)) (hq3 : (i : Int) < oq) (hq4 : oq < (nn : Int)) (hni : ni ≤ 3000) (hno : no ≤ 3000) (HII : Hid (NIn w w.heap.size (Ai, ni, ci) inn)) (HOO : Hid (NIn w w.heap.size (Ao, no, co) out)) (HPO : Hid (∀ w', Below w.heap.size w w' → Calls Try.prog 65 #[.slice A m c, .slice Ai ni ci, .slice Ao no co, .int .i64 (k : Int)] w' fun e w'' => e = .returned (.bool true) ∧ Below w'.heap.size w' w'')) (H1 : Hid (∀ (A1 : Option Addr) (c1 : Nat) (w' : World), Below w.heap.size w w' → NIn w' w'.heap.size (A1, ni + 1, c1) (inn ++ [(k : Int)]) → Calls Try.prog 50 #[.int .i64 (n : Int), .slice A m c, .agg #[.int .i64 v, .slice (some ⟨b, off, none⟩) nn cn], .int .i64 iq, .slice A1 (ni + 1) c1, .slice Ao no co] w' fun e w'' => e = .returned (.bool true) ∧ Below w'.heap.size w' w'')) (H2 : Hid (∀ (A1 : Option Addr) (c1 : Nat) (w' : World), Below w.heap.size w w' → NIn w' w'.heap.size (A1, no + 1, c1) (out ++ [(k : Int)]) → Calls Try.prog 50 #[.int .i64 (n : Int), .slice A m c, .agg #[.int .i64 v, .slice (some ⟨b, off, none⟩) nn cn], .int .i64 oq, .slice Ai ni ci, .slice A1 (no + 1) c1] w' fun e w'' => e = .returned (.bool r2) ∧ Below w'.heap.size w' w'')) :
    Calls Try.prog 50 #[.int .i64 (n : Int), .slice A m c, .agg #[.int .i64 v, .slice (some ⟨b, off, none⟩) nn cn], .int .i64 (i : Int), .slice Ai ni ci, .slice Ao no co] w fun e w' => e = .returned (.bool (r2)) ∧ Below w.heap.size w w' := by
  have hb1 := (Below.refl w.heap.size w).alloc (Nat.le_refl _) (.cells #[.int .i64 v, .slice (some ⟨b, off, none⟩) nn cn] 30)
  have hb2 := hb1.alloc (by simp) (.cells #[.int .i64 (k : Int), .int .i64 iq, .int .i64 oq, .slice sA sn sc] 34)
  have hc : RCells w.heap.size v (some ⟨b, off, none⟩) nn cn (k : Int) iq oq sA sn sc ((w.alloc (.cells #[.int .i64 v, .slice (some ⟨b, off, none⟩) nn cn] 30)).alloc (.cells #[.int .i64 (k : Int), .int .i64 iq, .int .i64 oq, .slice sA sn sc] 34)) := by
    have h2 := Blk.new (w.alloc (.cells #[.int .i64 v, .slice (some ⟨b, off, none⟩) nn cn] 30)) 34 #[.int .i64 (k : Int), .int .i64 iq, .int .i64 oq, .slice sA sn sc]
    rw [World.size_alloc] at h2
    exact ⟨Blk.alloc (Blk.new _ _ _) _, h2⟩
  have q0 := (hb1.cell (p := ⟨b, off + i * 4, none⟩) _hbw).trans _c0
  have q1 := (hb1.cell (p := ⟨b, off + i * 4 + 1, none⟩) _hbw).trans _c1
  have q2 := (hb1.cell (p := ⟨b, off + i * 4 + 2, none⟩) _hbw).trans _c2
  have q3 := (hb1.cell (p := ⟨b, off + i * 4 + 3, none⟩) _hbw).trans _c3
  have HCE := Lib.hid hc
  have HB2 := Lib.hid hb2
  clear hb1 hb2 hc _c0 _c1 _c2 _c3
  have HSTOP : Hid True := Lib.hid trivial
  have hkn : ((k : Int) == -1) = false := by simp
  have hsi : ¬ (0 : Int) < (sn : Int) := by omega
  clear hs0
  go_enter Try.func50, Try.ntmps50
  go_upto_if 26 with (fail)
  obtain ⟨gc, hgc⟩ : ∃ gc, w.heap.size = gc := ⟨_, rfl⟩
  obtain ⟨w2, hw2⟩ : ∃ w2, (w.alloc (.cells #[.int .i64 v, .slice (some ⟨b, off, none⟩) nn cn] 30)).alloc (.cells #[.int .i64 (k : Int), .int .i64 iq, .int .i64 oq, .slice sA sn sc] 34) = w2 := ⟨_, rfl⟩
  rw [hw2] at HCE HB2 ⊢
  rw [hgc] at HCE ⊢
  obtain ⟨k0, k1, k2, k3, k4, k5⟩ := HCE.out.cells
  clear q0 q1 q2 q3 hgc hw2 _hbw _hi HSTOP
  go_wp2_with fail
  refine (HPO.out _ HB2.out).mono ?_
  rintro e w3 ⟨rfl, hb3⟩
  have HB3 := Lib.hid hb3
  clear k0 k1 k2 k3 k4 k5 hb3
  obtain ⟨k0, k1, k2, k3, k4, k5⟩ := (HCE.out.all HB3.out).cells
  obtain ⟨A4, c4, w4, hr4, ho4, hb4⟩ := app_ints (w := w3) (s := (Ai, ni, ci)) (xs := inn) w2.heap.size 22 (NIn.all HII.out (bt HB2.out HB3.out)) (by dsimp only; omega) HB3.out.size
  unfold slV at hr4
  dsimp only at hr4 ho4
  have HR4 := Lib.hid hr4
  have HO4 := Lib.hid ho4
  have HB4 : Hid (Below w2.heap.size w2 w4) := Lib.hid (bt HB3.out hb4)
  clear hr4 ho4 hb4
  go_wp2_with (at_builtin; refine wpList_append_run HR4.out (by rfl) (by rfl) (by rfl) (by rfl) ?_)
  clear HR4 k0 k1 k2 k3 k4 k5
  have HD5 : Hid (Below w2.heap.size w2 w4.drew) := Lib.hid (bt HB4.out (below_drewN (Below.refl _ _) 1))
  obtain ⟨A5, c5, w5, hr5, ho5, hb5⟩ := app_int (w := w4.drew) 22 (k : Int) (HO4.out.all (below_drewN (Below.refl w4.heap.size w4) 1)) (by omega) HD5.out.size
  have HR5 := Lib.hid hr5
  have HO5 := Lib.hid ho5
  have HE5 : Hid (Below w2.heap.size w2 (w4.drew.alloc (.cells #[.int .i64 (k : Int)] 3))) := Lib.hid (HD5.out.alloc HD5.out.size _)
  have HB5 : Hid (Below w2.heap.size w2 w5) := Lib.hid (HD5.out.trans hb5)
  clear hr5 ho5 hb5
--@1
  refine wp_region_held_drew (S := (fun w' => w'.cell? ⟨gc, 0, none⟩ = some (.int .i64 v) ∧ w'.cell? ⟨gc, 1, none⟩ = some (.slice (some ⟨b, off, none⟩) nn cn) ∧ w'.cell? ⟨gc + 1, 0, none⟩ = some (.int .i64 (k : Int)) ∧ w'.cell? ⟨gc + 1, 1, none⟩ = some (.int .i64 iq) ∧ w'.cell? ⟨gc + 1, 2, none⟩ = some (.int .i64 oq) ∧ w'.cell? ⟨gc + 1, 3, none⟩ = some (.slice sA sn sc))) (by kernel_rfl) (HCE.out.all HD5.out).cells (fun hHeld => ?_)
  refine takeH 0 (some 125) (v := ?_) (by rfl) (by rfl) (by kernel_rfl) (by kernel_rfl) (by kernel_rfl) (fun _ _ _ h => h) ?_ (by assumption) ?_
  rotate_left
  · (intro o ho w hSw; obtain ⟨k0, k1, k2, k3, k4, k5⟩ := hSw; cases ho; go_simp; try with_reducible rfl)
  try simp only [Act.put, List.setIfInBounds_toArray, List.set_cons_zero, List.set_cons_succ]
  refine takeH 1 (some 126) (v := ?_) (by rfl) (by rfl) (by kernel_rfl) (by kernel_rfl) (by kernel_rfl) (fun _ _ _ h => h) ?_ (by assumption) ?_
  rotate_left
  · (intro o ho w hSw; obtain ⟨k0, k1, k2, k3, k4, k5⟩ := hSw; cases ho; go_simp; try with_reducible rfl)
  try simp only [Act.put, List.setIfInBounds_toArray, List.set_cons_zero, List.set_cons_succ]
  refine takeH 2 (some 127) (v := ?_) (by rfl) (by rfl) (by kernel_rfl) (by kernel_rfl) (by kernel_rfl) (fun _ _ _ h => h) ?_ (by assumption) ?_
  rotate_left
  · (intro o ho w hSw; obtain ⟨k0, k1, k2, k3, k4, k5⟩ := hSw; cases ho; go_simp; try with_reducible rfl)
  try simp only [Act.put, List.setIfInBounds_toArray, List.set_cons_zero, List.set_cons_succ]
  refine takeH 3 (some 128) (v := ?_) (by rfl) (by rfl) (by kernel_rfl) (by kernel_rfl) (by kernel_rfl) (fun _ _ _ h => h) ?_ (by assumption) ?_
  rotate_left
  · (intro o ho w hSw; obtain ⟨k0, k1, k2, k3, k4, k5⟩ := hSw; cases ho; go_simp; try with_reducible rfl)
  try simp only [Act.put, List.setIfInBounds_toArray, List.set_cons_zero, List.set_cons_succ]
  refine takeH 4 (some 129) (v := ?_) (by rfl) (by rfl) (by kernel_rfl) (by kernel_rfl) (by kernel_rfl) (fun _ _ _ h => h) ?_ (by assumption) ?_
  rotate_left
  · (intro o ho w hSw; obtain ⟨k0, k1, k2, k3, k4, k5⟩ := hSw; cases ho; go_simp; try with_reducible rfl)
  try simp only [Act.put, List.setIfInBounds_toArray, List.set_cons_zero, List.set_cons_succ]
  refine takeH 5 (some 130) (v := ?_) (by rfl) (by rfl) (by kernel_rfl) (by kernel_rfl) (by kernel_rfl) (fun _ _ _ h => h) ?_ (by assumption) ?_
  rotate_left
  · (intro o ho w hSw; obtain ⟨k0, k1, k2, k3, k4, k5⟩ := hSw; cases ho; go_simp; try with_reducible rfl)
  try simp only [Act.put, List.setIfInBounds_toArray, List.set_cons_zero, List.set_cons_succ]
  refine takeH 6 (some 131) (v := ?_) (by rfl) (by rfl) (by kernel_rfl) (by kernel_rfl) (by kernel_rfl) (fun _ _ _ h => h) ?_ (by assumption) ?_
  rotate_left
  · (intro o ho w hSw; obtain ⟨k0, k1, k2, k3, k4, k5⟩ := hSw; cases ho; go_simp; try with_reducible rfl)
  try simp only [Act.put, List.setIfInBounds_toArray, List.set_cons_zero, List.set_cons_succ]
  refine takeH 7 (some 132) (v := ?_) (by rfl) (by rfl) (by kernel_rfl) (by kernel_rfl) (by kernel_rfl) (fun _ _ _ h => h) ?_ (by assumption) ?_
  rotate_left
  · (intro o ho w hSw; obtain ⟨k0, k1, k2, k3, k4, k5⟩ := hSw; cases ho; go_simp; try with_reducible rfl)
  try simp only [Act.put, List.setIfInBounds_toArray, List.set_cons_zero, List.set_cons_succ]
  refine takeH 10 (some 135) (v := ?_) (by rfl) (by rfl) (by kernel_rfl) (by kernel_rfl) (by kernel_rfl) (fun _ _ _ h => h) ?_ (by assumption) ?_
  rotate_left
  · (intro o ho w hSw; obtain ⟨k0, k1, k2, k3, k4, k5⟩ := hSw; cases ho; go_simp; try with_reducible rfl)
  try simp only [Act.put, List.setIfInBounds_toArray, List.set_cons_zero, List.set_cons_succ]
  refine wpAnyH_ready (rs := [8]) (by kernel_rfl) (by simp) ?_
  refine AllReadyH.cons rfl (fun K hK => ?_) AllReadyH.nil
  go_simp
  refine hK.out _ _ ?_ (fun hHa5 => ?_)
  · exact (HCE.out.all HE5.out).cells
  clear hK K
  try simp only [Act.put, List.setIfInBounds_toArray, List.set_cons_zero, List.set_cons_succ]
  refine wpAnyH_ready (rs := [9]) (by kernel_rfl) (by simp) ?_
  refine AllReadyH.cons rfl (fun K hK => ?_) AllReadyH.nil
  refine step_app (t := 22) HR5.out (by kernel_rfl) (by rfl) (by rfl) (by rfl) ?_
  refine hK.out _ _ ?_ (fun hHb5 => ?_)
  · exact (HCE.out.all HB5.out).cells
  clear hK K
  try simp only [Act.put, List.setIfInBounds_toArray]
  refine wpAnyH_ready (rs := [11]) (by kernel_rfl) (by simp) ?_
  refine AllReadyH.cons rfl (fun K hK => ?_) AllReadyH.nil
  go_simp
  go_at_call 50
  (with_reducible refine (H1.out A5 c5 w5 (bt HB2.out HB5.out) HO5.out.nin).mono ?_)
  rintro e w6 ⟨rfl, hb6⟩
  go_wp2
  refine hK.out _ _ ?_ (fun hHc5 => ?_)
  · exact (HCE.out.all (bt HB5.out hb6)).cells
  clear hK K
  try simp only [Act.put, List.setIfInBounds_toArray, List.set_cons_zero, List.set_cons_succ]
  refine takeH 12 (some 17) (v := ?_) (by rfl) (by rfl) (by kernel_rfl) (by kernel_rfl) (by kernel_rfl) (fun _ _ _ h => h) ?_ (by assumption) ?_
  rotate_left
  · (intro o ho w hSw; obtain ⟨k0, k1, k2, k3, k4, k5⟩ := hSw; cases ho; go_simp; try with_reducible rfl)
  (try simp only [Act.put]); (try simp only [List.setIfInBounds_toArray]); (try simp only [List.set_cons_succ]); (try simp only [List.set_cons_zero])
  refine wpAnyH_done (by kernel_rfl) ?_ _
  have HB6 : Hid (Below w2.heap.size w2 w6) := Lib.hid (bt HB5.out hb6)
  clear hb6 hHa5 hHb5 hHc5 hHeld
--@2
  obtain ⟨A7, c7, w7, hr7, ho7, hb7⟩ := app_ints (w := w6) (s := (Ao, no, co)) (xs := out) w2.heap.size 22 (NIn.all HOO.out (bt HB2.out HB6.out)) (by dsimp only; omega) HB6.out.size
  unfold slV at hr7
  dsimp only at hr7 ho7
  have HR7 := Lib.hid hr7
  have HO7 := Lib.hid ho7
  have HB7 : Hid (Below w2.heap.size w2 w7) := Lib.hid (bt HB6.out hb7)
  clear hr7 ho7 hb7
  go_wp2_with (at_builtin; refine wpList_append_run HR7.out (by rfl) (by rfl) (by rfl) (by rfl) ?_)
  clear HR7
--@3
  have HD8 : Hid (Below w2.heap.size w2 w7.drew) := Lib.hid (bt HB7.out (below_drewN (Below.refl _ _) 1))
  obtain ⟨A8, c8, w8, hr8, ho8, hb8⟩ := app_int (w := w7.drew) 22 (k : Int) (HO7.out.all (below_drewN (Below.refl w7.heap.size w7) 1)) (by omega) HD8.out.size
  have HR8 := Lib.hid hr8
  have HO8 := Lib.hid ho8
  have HE8 : Hid (Below w2.heap.size w2 (w7.drew.alloc (.cells #[.int .i64 (k : Int)] 3))) := Lib.hid (HD8.out.alloc HD8.out.size _)
  have HB8 : Hid (Below w2.heap.size w2 w8) := Lib.hid (HD8.out.trans hb8)
  clear hr8 ho8 hb8
  refine wp_region_held_drew (S := (fun w' => w'.cell? ⟨gc, 0, none⟩ = some (.int .i64 v) ∧ w'.cell? ⟨gc, 1, none⟩ = some (.slice (some ⟨b, off, none⟩) nn cn) ∧ w'.cell? ⟨gc + 1, 0, none⟩ = some (.int .i64 (k : Int)) ∧ w'.cell? ⟨gc + 1, 1, none⟩ = some (.int .i64 iq) ∧ w'.cell? ⟨gc + 1, 2, none⟩ = some (.int .i64 oq) ∧ w'.cell? ⟨gc + 1, 3, none⟩ = some (.slice sA sn sc))) (by kernel_rfl) (HCE.out.all HD8.out).cells (fun hHeld => ?_)
  refine takeH 0 (some 140) (v := ?_) (by rfl) (by rfl) (by kernel_rfl) (by kernel_rfl) (by kernel_rfl) (fun _ _ _ h => h) ?_ (by assumption) ?_
  rotate_left
  · (intro o ho w hSw; obtain ⟨k0, k1, k2, k3, k4, k5⟩ := hSw; cases ho; go_simp; try with_reducible rfl)
  try simp only [Act.put, List.setIfInBounds_toArray, List.set_cons_zero, List.set_cons_succ]
  refine takeH 1 (some 141) (v := ?_) (by rfl) (by rfl) (by kernel_rfl) (by kernel_rfl) (by kernel_rfl) (fun _ _ _ h => h) ?_ (by assumption) ?_
  rotate_left
  · (intro o ho w hSw; obtain ⟨k0, k1, k2, k3, k4, k5⟩ := hSw; cases ho; go_simp; try with_reducible rfl)
  try simp only [Act.put, List.setIfInBounds_toArray, List.set_cons_zero, List.set_cons_succ]
  first
  | refine skipH 2 (some 142) (by rfl) (by rfl) (by kernel_rfl) (by kernel_rfl) (by kernel_rfl) (fun _ _ _ h => h) (by assumption) ?_
  | refine takeH 2 (some 142) (v := ?_) (by rfl) (by rfl) (by kernel_rfl) (by kernel_rfl) (by kernel_rfl) (fun _ _ _ h => h) ?_ (by assumption) ?_
    rotate_left
    · (intro o ho w hSw; obtain ⟨k0, k1, k2, k3, k4, k5⟩ := hSw; cases ho; go_simp; try with_reducible rfl)
  try simp only [Act.put, List.setIfInBounds_toArray, List.set_cons_zero, List.set_cons_succ]
  first
  | refine skipH 3 (some 143) (by rfl) (by rfl) (by kernel_rfl) (by kernel_rfl) (by kernel_rfl) (fun _ _ _ h => h) (by assumption) ?_
  | refine takeH 3 (some 143) (v := ?_) (by rfl) (by rfl) (by kernel_rfl) (by kernel_rfl) (by kernel_rfl) (fun _ _ _ h => h) ?_ (by assumption) ?_
    rotate_left
    · (intro o ho w hSw; obtain ⟨k0, k1, k2, k3, k4, k5⟩ := hSw; cases ho; go_simp; try with_reducible rfl)
  try simp only [Act.put, List.setIfInBounds_toArray, List.set_cons_zero, List.set_cons_succ]
  first
  | refine skipH 4 (some 144) (by rfl) (by rfl) (by kernel_rfl) (by kernel_rfl) (by kernel_rfl) (fun _ _ _ h => h) (by assumption) ?_
  | refine takeH 4 (some 144) (v := ?_) (by rfl) (by rfl) (by kernel_rfl) (by kernel_rfl) (by kernel_rfl) (fun _ _ _ h => h) ?_ (by assumption) ?_
    rotate_left
    · (intro o ho w hSw; obtain ⟨k0, k1, k2, k3, k4, k5⟩ := hSw; cases ho; go_simp; try with_reducible rfl)
  try simp only [Act.put, List.setIfInBounds_toArray, List.set_cons_zero, List.set_cons_succ]
  first
  | refine skipH 5 (some 145) (by rfl) (by rfl) (by kernel_rfl) (by kernel_rfl) (by kernel_rfl) (fun _ _ _ h => h) (by assumption) ?_
  | refine takeH 5 (some 145) (v := ?_) (by rfl) (by rfl) (by kernel_rfl) (by kernel_rfl) (by kernel_rfl) (fun _ _ _ h => h) ?_ (by assumption) ?_
    rotate_left
    · (intro o ho w hSw; obtain ⟨k0, k1, k2, k3, k4, k5⟩ := hSw; cases ho; go_simp; try with_reducible rfl)
  try simp only [Act.put, List.setIfInBounds_toArray, List.set_cons_zero, List.set_cons_succ]
  first
  | refine skipH 6 (some 146) (by rfl) (by rfl) (by kernel_rfl) (by kernel_rfl) (by kernel_rfl) (fun _ _ _ h => h) (by assumption) ?_
  | refine takeH 6 (some 146) (v := ?_) (by rfl) (by rfl) (by kernel_rfl) (by kernel_rfl) (by kernel_rfl) (fun _ _ _ h => h) ?_ (by assumption) ?_
    rotate_left
    · (intro o ho w hSw; obtain ⟨k0, k1, k2, k3, k4, k5⟩ := hSw; cases ho; go_simp; try with_reducible rfl)
  try simp only [Act.put, List.setIfInBounds_toArray, List.set_cons_zero, List.set_cons_succ]
  first
  | refine skipH 7 (some 147) (by rfl) (by rfl) (by kernel_rfl) (by kernel_rfl) (by kernel_rfl) (fun _ _ _ h => h) (by assumption) ?_
  | refine takeH 7 (some 147) (v := ?_) (by rfl) (by rfl) (by kernel_rfl) (by kernel_rfl) (by kernel_rfl) (fun _ _ _ h => h) ?_ (by assumption) ?_
    rotate_left
    · (intro o ho w hSw; obtain ⟨k0, k1, k2, k3, k4, k5⟩ := hSw; cases ho; go_simp; try with_reducible rfl)
  try simp only [Act.put, List.setIfInBounds_toArray, List.set_cons_zero, List.set_cons_succ]
  first
  | refine skipH 8 (some 148) (by rfl) (by rfl) (by kernel_rfl) (by kernel_rfl) (by kernel_rfl) (fun _ _ _ h => h) (by assumption) ?_
  | refine takeH 8 (some 148) (v := ?_) (by rfl) (by rfl) (by kernel_rfl) (by kernel_rfl) (by kernel_rfl) (fun _ _ _ h => h) ?_ (by assumption) ?_
    rotate_left
    · (intro o ho w hSw; obtain ⟨k0, k1, k2, k3, k4, k5⟩ := hSw; cases ho; go_simp; try with_reducible rfl)
  try simp only [Act.put, List.setIfInBounds_toArray, List.set_cons_zero, List.set_cons_succ]
  first
  | refine skipH 9 (some 149) (by rfl) (by rfl) (by kernel_rfl) (by kernel_rfl) (by kernel_rfl) (fun _ _ _ h => h) (by assumption) ?_
  | refine takeH 9 (some 149) (v := ?_) (by rfl) (by rfl) (by kernel_rfl) (by kernel_rfl) (by kernel_rfl) (fun _ _ _ h => h) ?_ (by assumption) ?_
    rotate_left
    · (intro o ho w hSw; obtain ⟨k0, k1, k2, k3, k4, k5⟩ := hSw; cases ho; go_simp; try with_reducible rfl)
  try simp only [Act.put, List.setIfInBounds_toArray, List.set_cons_zero, List.set_cons_succ]
  first
  | refine skipH 10 (some 150) (by rfl) (by rfl) (by kernel_rfl) (by kernel_rfl) (by kernel_rfl) (fun _ _ _ h => h) (by assumption) ?_
  | refine takeH 10 (some 150) (v := ?_) (by rfl) (by rfl) (by kernel_rfl) (by kernel_rfl) (by kernel_rfl) (fun _ _ _ h => h) ?_ (by assumption) ?_
    rotate_left
    · (intro o ho w hSw; obtain ⟨k0, k1, k2, k3, k4, k5⟩ := hSw; cases ho; go_simp; try with_reducible rfl)
  try simp only [Act.put, List.setIfInBounds_toArray, List.set_cons_zero, List.set_cons_succ]
  refine wpAnyH_ready (rs := [11]) (by kernel_rfl) (by simp) ?_
  refine AllReadyH.cons rfl (fun K hK => ?_) AllReadyH.nil
  go_simp
  refine hK.out _ _ ?_ (fun hHa8 => ?_)
  · exact (HCE.out.all HE8.out).cells
  clear hK K
  try simp only [Act.put, List.setIfInBounds_toArray, List.set_cons_zero, List.set_cons_succ]
  refine wpAnyH_ready (rs := [12]) (by kernel_rfl) (by simp) ?_
  refine AllReadyH.cons rfl (fun K hK => ?_) AllReadyH.nil
  refine step_app (t := 22) HR8.out (by kernel_rfl) (by rfl) (by rfl) (by rfl) ?_
  refine hK.out _ _ ?_ (fun hHb8 => ?_)
  · exact (HCE.out.all HB8.out).cells
  clear hK K
  try simp only [Act.put, List.setIfInBounds_toArray]
  refine wpAnyH_ready (rs := [13]) (by kernel_rfl) (by simp) ?_
  refine AllReadyH.cons rfl (fun K hK => ?_) AllReadyH.nil
  go_simp
  go_at_call 50
  (with_reducible refine (H2.out A8 c8 w8 (bt HB2.out HB8.out) HO8.out.nin).mono ?_)
  rintro e w9 ⟨rfl, hb9⟩
  go_wp2
  refine hK.out _ _ ?_ (fun hHc8 => ?_)
  · exact (HCE.out.all (bt HB8.out hb9)).cells
  clear hK K
  try simp only [Act.put, List.setIfInBounds_toArray, List.set_cons_zero, List.set_cons_succ]
  refine takeH 14 (some 154) (v := ?_) (by rfl) (by rfl) (by kernel_rfl) (by kernel_rfl) (by kernel_rfl) (fun _ _ _ h => h) ?_ (by assumption) ?_
  rotate_left
  · (intro o ho w hSw; obtain ⟨k0, k1, k2, k3, k4, k5⟩ := hSw; cases ho; go_simp; try with_reducible rfl)
  (try simp only [Act.put]); (try simp only [List.setIfInBounds_toArray]); (try simp only [List.set_cons_succ]); (try simp only [List.set_cons_zero])
  refine takeH 15 (some 12) (v := ?_) (by rfl) (by rfl) (by kernel_rfl) (by kernel_rfl) (by kernel_rfl) (fun _ _ _ h => h) ?_ (by assumption) ?_
  rotate_left
  · (intro o ho w hSw; obtain ⟨k0, k1, k2, k3, k4, k5⟩ := hSw; cases ho; go_simp; try with_reducible rfl)
  (try simp only [Act.put]); (try simp only [List.setIfInBounds_toArray]); (try simp only [List.set_cons_succ]); (try simp only [List.set_cons_zero])
  refine wpAnyH_done (by kernel_rfl) ?_ _
  have HB9 : Hid (Below w2.heap.size w2 w9) := Lib.hid (bt HB8.out hb9)
  clear hb9 hHa8 hHb8 hHc8 hHeld
  go_wp2
  go_ret
  exact ⟨rfl, bt HB2.out HB9.out⟩
end Go.Proofs.Ytikfcpkobgejmaa

/- reference: right. -/
namespace Go.Proofs.Ytikfcpkobgejmaa
open Go.RowKit

set_option maxHeartbeats 1000000 in
theorem right_any (n : Nat) (A : Option Addr) (m c : Nat) (v : Int) (An : Option Addr) (nn cn : Nat) (L : List Bd) (N : List Nd) (hm : m ≤ 10) (hn : n ≤ 8) (HB : Hid (BidsOk n L)) (hnn : nn ≤ 2047) :
    ∀ (f i : Nat) (Ai : Option Addr) (ni ci : Nat) (Ao : Option Addr) (no co : Nat) (inn out D : List Int) (w : World) (_HL : Hid (Bds w (A, m, c) L)) (_HN : Hid (Nds w (An, nn, cn) N)) (_HI : Hid (NIn w w.heap.size (Ai, ni, ci) inn)) (_HO : Hid (NIn w w.heap.size (Ao, no, co) out)) (_HD : Hid (DI m D inn out)) (_hi : i < nn) (_hf : nn ≤ i + f) (_hs : ni + no ≤ i),
      Calls Try.prog 50 #[.int .i64 (n : Int), .slice A m c, .agg #[.int .i64 v, .slice An nn cn], .int .i64 (i : Int), .slice Ai ni ci, .slice Ao no co] w fun e w' => e = .returned (.bool (rightD n L v N f i D)) ∧ Below w.heap.size w w' := by
  intro f
  induction f with
  | zero => intro i Ai ni ci Ao no co inn out D w _ _ _ _ _ hi hf; omega
  | succ f ih =>
    intro i Ai ni ci Ao no co inn out D w HL HN HI HO HD hi hf hs
    have IH := Lib.hid ih
    clear ih
    have HNL := Lib.hid HN.out.rows.len
    have HLEN := Lib.hid HL.out.rows.len
    dsimp only at HNL HLEN
    have HDL : Hid (DI L.length D inn out) := Lib.hid (by rw [HLEN.out]; exact HD.out)
    have HLS : Hid (∀ b ∈ L, b.s.2.1 ≤ 1000000) := Lib.hid (fun b hb => by have := (HB.out b hb).2.2.1; omega)
    obtain ⟨b, off, bi, iq, oq, sA, sn, sc, ps, rfl, hbw, c0, c1, c2, c3, hin, he⟩ := HN.out.get (k := i) (by rw [HNL.out]; exact hi)
    have HF : Hid (rightD n L v N (f + 1) i D = if bi = -1 then leafB n L D v ⟨bi, iq, oq, (sA, sn, sc), ps⟩ else if 0 < ps.length ∨ kidOk nn i ⟨bi, iq, oq, (sA, sn, sc), ps⟩ = false ∨ possB L D bi = false then false else rightD n L v N f iq.toNat (D.set bi.toNat 1) && rightD n L v N f oq.toNat (D.set bi.toNat 2)) := Lib.hid (by
      conv => lhs; unfold rightD
      rw [he, HNL.out])
    have HPL := Lib.hid hin.len
    dsimp only at HPL
    rw [HF.out]
    clear HF he
    by_cases hl : bi = -1
    · subst hl
      rw [if_pos rfl]
      by_cases hz : iq ≠ 0 ∨ oq ≠ 0 ∨ sn ≠ n
      · have HE : leafB n L D v ⟨-1, iq, oq, (sA, sn, sc), ps⟩ = false := by
          simp only [leafB]
          rw [HPL.out]
          rcases hz with h | h | h
          · simp [h]
          · simp [h]
          · have : ¬ (sn : Int) = (n : Int) := by omega
            simp [this]
        rw [HE]
        exact rleaf_odd n A m c v b off nn cn iq oq sA sn sc Ai ni ci Ao no co i w hbw hi c0 c1 c2 c3 hz
      · obtain ⟨rfl, rfl, rfl⟩ : iq = 0 ∧ oq = 0 ∧ sn = n := by omega
        have HE : leafB sn L D v ⟨-1, 0, 0, (sA, sn, sc), ps⟩ = (priB ps && decide (rBoundF L inn out ps ≤ v)) := by
          simp only [leafB]
          rw [HPL.out, rBound_eq HDL.out]
          simp
        rw [HE]
        exact rleaf_in sn A m c v b off nn cn 0 0 sA sn sc Ai ni ci Ao no co i ps _ w hbw hi c0 c1 c2 c3 (Lib.hid ⟨rfl, rfl, rfl⟩) (Lib.hid hin) (Lib.hid fun hp w' hb =>
          rbound_any A m c Ai ni ci Ao no co sA sn sc L inn out ps w' (Lib.hid (HL.out.all hb)) (Lib.hid (NIn.all HI.out hb)) (Lib.hid (NIn.all HO.out hb)) (Lib.hid (NIn.all hin hb)) (by omega) (by omega) (by omega) (by omega) (Lib.hid HD.out.range) HB (Lib.hid hp))
    · rw [if_neg hl]
      have hko : kidOk nn i ⟨bi, iq, oq, (sA, sn, sc), ps⟩ = (decide ((i : Int) < iq) && decide (iq < (nn : Int)) && decide ((i : Int) < oq) && decide (oq < (nn : Int))) := by
        simp only [kidOk, hl, decide_false, Bool.false_or]
      by_cases hz : bi < 0 ∨ (m : Int) ≤ bi ∨ 0 < sn ∨ iq ≤ (i : Int) ∨ (nn : Int) ≤ iq ∨ oq ≤ (i : Int) ∨ (nn : Int) ≤ oq
      · have hcond : 0 < ps.length ∨ kidOk nn i ⟨bi, iq, oq, (sA, sn, sc), ps⟩ = false ∨ possB L D bi = false := by
          rw [hko, HPL.out]
          by_cases h1 : bi < 0
          · exact .inr (.inr (possB_out (.inl h1)))
          by_cases h2 : (m : Int) ≤ bi
          · exact .inr (.inr (possB_out (.inr (by rw [HLEN.out]; exact h2))))
          by_cases h3 : 0 < sn
          · exact .inl h3
          refine .inr (.inl ?_)
          rw [Bool.eq_false_iff]
          simp only [ne_eq, Bool.and_eq_true, decide_eq_true_eq]
          omega
        rw [if_pos hcond]
        exact rnode_bad n A m c v b off nn cn iq oq sA sn sc Ai ni ci Ao no co i bi (Lib.hid hl) w hbw hi c0 c1 c2 c3 (Lib.hid hz)
      obtain ⟨k, rfl⟩ := Int.eq_ofNat_of_zero_le (show 0 ≤ bi by omega)
      have hkm : k < m := by omega
      have hrp := fun (w' : World) (hb : Below w.heap.size w w') => rposs_any A m c Ai ni ci Ao no co L inn out k w' (Lib.hid (HL.out.all hb)) (Lib.hid (NIn.all HI.out hb)) (Lib.hid (NIn.all HO.out hb)) hkm (by omega) (by omega) (Lib.hid HD.out.range) HLS
      have hpe : rPossB L inn out k = possB L D (k : Int) := rPoss_eq HDL.out (by rw [HLEN.out]; exact hkm)
      rw [hpe] at hrp
      have hkt : kidOk nn i ⟨(k : Int), iq, oq, (sA, sn, sc), ps⟩ = true := by
        rw [hko]
        simp only [Bool.and_eq_true, decide_eq_true_eq]
        omega
      cases hq : possB L D (k : Int) with
      | false =>
        rw [hq] at hrp
        rw [if_pos (Or.inr (Or.inr rfl))]
        exact rnode_imp n A m c v b off nn cn iq oq sA sn sc Ai ni ci Ao no co i k w hbw hi c0 c1 c2 c3 (by omega) (by omega) (by omega) (by omega) (by omega) (by omega) (Lib.hid hrp)
      | true =>
        rw [hq] at hrp
        rw [if_neg (by rw [hkt, HPL.out]; simp; omega)]
        obtain ⟨ci', rfl⟩ := Int.eq_ofNat_of_zero_le (show 0 ≤ iq by omega)
        obtain ⟨co', rfl⟩ := Int.eq_ofNat_of_zero_le (show 0 ≤ oq by omega)
        simp only [Int.toNat_natCast]
        have hd0 : D[k]?.getD 0 = 0 := by
          rw [possB_in (by rw [HLEN.out]; exact hkm)] at hq
          simp only [Bool.and_eq_true, decide_eq_true_eq] at hq
          exact hq.1
        have ih1 := fun (A1 : Option Addr) (c1 : Nat) (w' : World) (hb : Below w.heap.size w w') (h : NIn w' w'.heap.size (A1, ni + 1, c1) (inn ++ [(k : Int)])) => IH.out ci' A1 (ni + 1) c1 Ao no co (inn ++ [(k : Int)]) out (D.set k 1) w' (Lib.hid (HL.out.all hb)) (Lib.hid (HN.out.all hb)) (Lib.hid h) (Lib.hid (NIn.all HO.out hb)) (Lib.hid (HD.out.win hkm hd0)) (by omega) (by omega) (by omega)
        have ih2 := fun (A1 : Option Addr) (c1 : Nat) (w' : World) (hb : Below w.heap.size w w') (h : NIn w' w'.heap.size (A1, no + 1, c1) (out ++ [(k : Int)])) => IH.out co' Ai ni ci A1 (no + 1) c1 inn (out ++ [(k : Int)]) (D.set k 2) w' (Lib.hid (HL.out.all hb)) (Lib.hid (HN.out.all hb)) (Lib.hid (NIn.all HI.out hb)) (Lib.hid h) (Lib.hid (HD.out.lose hkm hd0)) (by omega) (by omega) (by omega)
        cases h1 : rightD n L v N f ci' (D.set k 1) with
        | false =>
          rw [h1] at ih1
          exact rnode_fst n A m c v b off nn cn (ci' : Int) (co' : Int) sA sn sc Ai ni ci Ao no co i k inn out w hbw hi c0 c1 c2 c3 (by omega) (by omega) (by omega) (by omega) (by omega) (by omega) (by omega) (by omega) HI HO (Lib.hid hrp) (Lib.hid ih1)
        | true =>
          rw [h1] at ih1
          rw [Bool.true_and]
          exact rnode_both n A m c v b off nn cn (ci' : Int) (co' : Int) sA sn sc Ai ni ci Ao no co i k inn out _ w hbw hi c0 c1 c2 c3 (by omega) (by omega) (by omega) (by omega) (by omega) (by omega) (by omega) (by omega) HI HO (Lib.hid hrp) (Lib.hid ih1) (Lib.hid ih2)
end Go.Proofs.Ytikfcpkobgejmaa

/- reference: Check, of any arguments: it answers as the package's. -/
namespace Go.Proofs.Ytikfcpkobgejmaa
open Go.RowKit

set_option maxHeartbeats 1000000 in
theorem rcheck_any (n : Int) (A : Option Addr) (m c : Nat) (Aw : Option Addr) (nw cw : Nat) (v : Int) (An : Option Addr) (nn cn : Nat) (L : List Bd) (win : List Int) (N : List Nd) (w : World)
    (HL : Hid (Bds w (A, m, c) L)) (HW : Hid (NIn w w.heap.size (Aw, nw, cw) win)) (HN : Hid (Nds w (An, nn, cn) N)) (hw : nw ≤ 1000000) :
    Calls Try.prog 21 #[.int .i64 n, .slice A m c, .slice Aw nw cw, .agg #[.int .i64 v, .slice An nn cn]] w fun e w' => e = .returned (.int .i64 (checkE n L win v N)) ∧ Below w.heap.size w w' := by
  rw [← checkR_eq]
  have hlm : L.length = m := HL.out.rows.len
  have hnl : N.length = nn := HN.out.rows.len
  have hva := fun (w' : World) (hb : Below w.heap.size w w') => rvalid_any n (A, m, c) L w' (Lib.hid (HL.out.all hb))
  unfold slV at hva
  dsimp only at hva
  unfold checkR
  by_cases he : validE n L = 0
  rotate_left
  · rw [if_neg he]
    exact rchk_valid n A m c Aw nw cw v An nn cn _ w he (Lib.hid hva)
  rw [if_pos he]
  rw [he] at hva
  obtain ⟨hn1, hn8, hL, HB⟩ := valid_ok he HL.out
  have hfe := fun (w' : World) (hb : Below w.heap.size w w') => rfeas_any A m c Aw nw cw L win w' (Lib.hid (HL.out.all hb)) (Lib.hid (NIn.all HW.out hb)) hw (Lib.hid (fun b hb => by have := (HB b hb).2.2.1; omega))
  have hvl := fun (w' : World) (hb : Below w.heap.size w w') => rvalue_any (A, m, c) (Aw, nw, cw) L win w' (Lib.hid (HL.out.all hb)) (Lib.hid (NIn.all HW.out hb)) (Lib.hid HB.prices) hw
  unfold slV at hvl
  dsimp only at hvl
  cases hf : feasB L win with
  | false =>
    rw [hf] at hfe
    rw [if_neg (by simp)]
    exact rchk_feas n A m c Aw nw cw v An nn cn w (Lib.hid hva) (Lib.hid hfe)
  | true =>
  rw [hf] at hfe
  rw [if_pos rfl]
  by_cases hnn : 2047 < N.length
  · rw [if_pos hnn]
    exact rchk_long n A m c Aw nw cw v An nn cn w (by omega) (Lib.hid hva) (Lib.hid hfe)
  rw [if_neg hnn]
  by_cases h0 : nn = 0
  · have hp : proofR n.toNat L win v N = false := by
      unfold proofR
      rw [decide_eq_false (by omega : ¬ 0 < N.length)]
      rfl
    rw [hp, if_neg (by simp)]
    exact rchk_none n A m c Aw nw cw v An nn cn w h0 (Lib.hid hva) (Lib.hid hfe)
  by_cases hv : v = valueB L win
  rotate_left
  · have hp : proofR n.toNat L win v N = false := by
      unfold proofR
      rw [decide_eq_false hv]
      simp
    rw [hp, if_neg (by simp)]
    exact rchk_value n A m c Aw nw cw v An nn cn _ w (by omega) (by omega) hv (Lib.hid hva) (Lib.hid hfe) (Lib.hid hvl)
  obtain ⟨k, rfl⟩ := Int.eq_ofNat_of_zero_le (show 0 ≤ n by omega)
  have hrt := fun (w' : World) (hb : Below w.heap.size w w') => right_any k A m c v An nn cn L N (by omega) (by omega) (Lib.hid (by simpa using HB)) (by omega) nn 0 none 0 0 none 0 0 [] [] (List.replicate m 0) w' (Lib.hid (HL.out.all hb)) (Lib.hid (HN.out.all hb)) (Lib.hid (NIn.nil _ _)) (Lib.hid (NIn.nil _ _)) (Lib.hid (DI.start m)) (by omega) (by omega) (by omega)
  rw [← hv] at hvl
  refine rchk_loops (k : Int) A m c Aw nw cw v An nn cn N _ _ (Lib.hid ?_) w HN (by omega) (by omega) (Lib.hid hva) (Lib.hid hfe) (Lib.hid hvl) (Lib.hid hrt)
  unfold proofR
  rw [decide_eq_true (by omega : 0 < N.length), decide_eq_true hv, Int.toNat_natCast, hnl, hlm]
  simp only [Bool.true_and]
end Go.Proofs.Ytikfcpkobgejmaa

/- A law's row out of its walk: the call returns true, and nothing that lay when it began has turned. -/
namespace Go.Proofs.Ytikfcpkobgejmaa
open Go.ChangeShapes Go.WideShapes Go.ChangeAt Go.RowKit

theorem Try.own : ownKnob Try.prog.godebug = none := by kernel_rfl
theorem Try.laidOut : laidOutB Try.prog = true := by kernel_rfl

theorem wf_u8 {n : Int} (h : (Lit.int .u8 n).wf = true) : 0 ≤ n ∧ n ≤ 255 := by simpa [Lit.wf, IntKind.min, IntKind.max, IntKind.signed, IntKind.bits] using h
theorem wf_i64 {n : Int} (h : (Lit.int .i64 n).wf = true) : -9223372036854775808 ≤ n ∧ n ≤ 9223372036854775807 := by simpa [Lit.wf, IntKind.min, IntKind.max, IntKind.signed, IntKind.bits] using h
theorem wf_u64 {n : Int} (h : (Lit.int .u64 n).wf = true) : 0 ≤ n ∧ n ≤ 18446744073709551615 := by simpa [Lit.wf, IntKind.min, IntKind.max, IntKind.signed, IntKind.bits] using h
theorem bytes_wf {n : Nat} {f : Nat → Int} (h : Hid (∀ j, j < n → (Lit.int .u8 (f j)).wf = true)) : ∀ j, j < n → 0 ≤ f j ∧ f j ≤ 255 := fun j hj => wf_u8 (h.out j hj)

theorem byte_of_wf {n : Int} (h : (Lit.int .u8 n).wf = true) : ∃ b : UInt8, n = ((b.toNat : Nat) : Int) := by
  have := wf_u8 h
  exact ⟨UInt8.ofNat n.toNat, by rw [UInt8.toNat_ofNat']; omega⟩
/-- '^' on bytes, under a name that the walk does not open. -/
def xorB (x y : UInt8) : UInt8 := x ^^^ y
theorem xor_u8 (x y : UInt8) : bits BinOp.xor IntKind.u8 ((x.toNat : Nat) : Int) ((y.toNat : Nat) : Int) = (((xorB x y).toNat : Nat) : Int) := by
  unfold xorB
  show IntKind.u8.wrap ((BitVec.ofInt 8 ((x.toNat : Nat) : Int) ^^^ BitVec.ofInt 8 ((y.toNat : Nat) : Int)).toNat : Int) = _
  have e : ∀ z : UInt8, (BitVec.ofInt 8 ((z.toNat : Nat) : Int)).toNat = z.toNat := fun z => by
    rw [BitVec.ofInt_natCast, BitVec.toNat_ofNat]; exact Nat.mod_eq_of_lt z.toNat_lt
  rw [BitVec.toNat_xor, e, e, UInt8.toNat_xor]
  have hx : x.toNat ^^^ y.toNat < 2 ^ 8 := Nat.xor_lt_two_pow x.toNat_lt y.toNat_lt
  simp [IntKind.wrap, IntKind.bits, IntKind.signed]
  omega

section
variable {H : Type} {enc : TypeId × Value → H} {P : Program}

theorem trodAll_stays (hl : laidOutB P = true) {W W' : World} {sp' : Nat → Bool} : ∀ {ts : List TypeId} (_ : ts.all (fun t => P.readableRec t && decide (t < P.types.size)) = true) {vs : List Value} {ds : List (DataW H)} {ps : List MemPlace}
    (_ : DataW.TrodAll enc P W 0 (fun _ => true) true ts vs ds ps) (_ : ∀ p ∈ ps, W.sameAt W' p) (_ : ∀ p ∈ ps, sp' p.block = true), DataW.TrodAll enc P W' 0 sp' true ts vs ds ps
  | [], _, vs, ds, ps, h, _, _ => by
    obtain ⟨rfl, rfl, rfl⟩ := trodAll_nil h
    exact trodAll_mk0
  | t :: ts, hr, vs, ds, ps, h, hs, hp => by
    obtain ⟨v, vs', d, ds', p, q, rfl, rfl, rfl, h1, h2⟩ := trodAll_cons h
    simp only [List.all_cons, Bool.and_eq_true, decide_eq_true_eq] at hr
    exact trodAll_cons_mk (WideElems.Trod_stays hl hr.1.1 hr.1.2 h1 (fun x hx => hs x (by simp [hx])) (fun x hx => hp x (by simp [hx])))
      (trodAll_stays hl hr.2 h2 (fun x hx => hs x (by simp [hx])) (fun x hx => hp x (by simp [hx])))

theorem law_post {f : Func} {s : ChangeSpec} {tb : TypeId} {W W' : World} {args : Array Value} {ds gs : List (DataW H)} {before : List MemPlace} (hl : laidOutB P = true)
    (hr : f.params.toList.all (fun t => P.readableRec t && decide (t < P.types.size)) = true) (hres : f.resultTypes = #[tb]) (hb : P.underlying tb = some .bool) (hv : s.vars = [])
    (hW : DataW.Whole enc P f.params.toList s.vars false W args.toList ds gs before) (hspec : s.fn H ds = { results := [.lit (.bool true)], args := ds }) (hB : Below W.heap.size W W') :
    s.post enc P f false true false false W args (.bool true) W' := by
  have hW' := hW
  obtain ⟨p, q, hA, hV, rfl, hfz, hnd⟩ := hW
  rw [hv] at hV
  obtain ⟨rfl, rfl⟩ := trodVars_none hV
  refine ⟨ds, [], p ++ [], [], p, [], hW', ?_, ?_, ?_, hB.frame _, fun h => by cases h⟩
  · rw [hres, List.append_nil, hspec]
    exact trodAll_mk1 (shut_bool hb true)
  · rw [List.append_nil, hspec]
    exact trodAll_stays hl hr hA (fun x hx => hB.same (by simpa using hW'.lt x (by simp [hx]))) (fun x hx => by simpa using hW'.lt x (by simp [hx]))
  · rw [hv, List.append_nil, hspec]
    rfl

theorem cell_spot {w : World} {a : Addr} {v : Value} (h : w.cell? a = some v) : a.spot = none ∧ a.block < w.heap.size := by
  unfold World.cell? at h
  split at h
  · rename_i c t f hc
    refine ⟨?_, (Array.getElem?_eq_some_iff.1 hc).1⟩
    cases hs : a.spot with
    | none => rfl
    | some x => simp [hs] at h
  · cases h

/-- A slice of integers that came in. -/
theorem open_sl {t e : TypeId} {k : IntKind} {W : World} {v : Value} {d : DataW H} {ps : List MemPlace} {r : Reach} {b0 : Nat} (ht : P.underlying t = some (.slice e)) (he : P.underlying e = some (.int k)) (hc : P.cellsOf e = 1)
    (hval : Value.okWide P W r b0 t v) (h : DataW.Trod enc P W 0 (fun _ => true) true t v d ps) :
    ∃ (A : Option Addr) (n c : Nat) (f : Nat → Int), v = .slice A n c ∧ (A = none → n = 0) ∧ n ≤ c ∧ c ≤ 9223372036854775807 ∧ Rd W W.heap.size A n (fun j => .int k (f j)) ∧ ∀ j, j < n → (Lit.int k (f j)).wf = true := by
  obtain ⟨a0, len, cap, rfl⟩ := okWide_slice ht hval
  obtain ⟨fuel, hf⟩ := h
  rcases open_ints ht he hc hf with ⟨hcs, hx⟩ | ⟨a, len', cap', zs, hcs, _, hl, hm, hz, hx, hcell, hwz⟩
  · simp [Value.cells] at hcs
    obtain ⟨rfl, rfl, rfl⟩ := hcs
    exact ⟨none, 0, 0, fun _ => 0, rfl, fun _ => rfl, by omega, by omega, Rd.nil, fun j hj => absurd hj (by omega)⟩
  · simp [Value.cells] at hcs
    obtain ⟨rfl, rfl, rfl⟩ := hcs
    simp only [if_true] at hz
    refine ⟨some a, len, cap, fun j => zs.getD j 0, rfl, (fun h => by cases h), hl, (by simpa [maxLen] using hm), ?_, ?_⟩
    · intro hn
      have h0 := hcell 0 (by omega)
      have hs := cell_spot h0
      have ea : a.add 0 = a := by simp [Addr.add]
      rw [ea] at hs
      refine ⟨a.block, a.off, ?_, hs.2, fun j hj => ?_⟩
      · cases a; simp_all
      · rw [← hcell j (by omega)]
        congr 1
        unfold Addr.add
        split
        · rename_i h; subst h; cases a; simp_all
        · cases a; simp_all
    · intro j hj
      refine hwz _ ?_
      show zs.getD j 0 ∈ zs
      have : zs.getD j 0 = zs[j]'(by omega) := by simp [List.getD, show j < zs.length by omega]
      rw [this]
      exact List.getElem_mem _
end

end Go.Proofs.Ytikfcpkobgejmaa
