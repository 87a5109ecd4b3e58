/- Part 4 of the texts that ProofChecks needs: PfNodeB PfNodeC PfHolds PfChkA PfChkN PfChkB PfChkC PfChkD PfChkE PfCheck. -/
import Derived.Deep.RegionWith
import Derived.Test.YtikfcpkobgejmaaGProofChecks3

/- proof: holds at an inner node. -/
namespace Go.Proofs.Ytikfcpkobgejmaa
open Go.RowKit

set_option maxRecDepth 100000 in
set_option maxHeartbeats 8000000 in
theorem node_both (n : Nat) (A : Option Addr) (m c : Nat) (v : Int) (b off nn cn : Nat) (iq oq : Int) (sA : Option Addr) (sc : Nat) (AD : Option Addr) (cD i : Nat) (k : Nat) (D : List Int) (h2 : Bool) (w : World) (_hbw : b < w.heap.size) (_hi : i < nn) (_c0 : w.cell? ⟨b, off + i * 4, none⟩ = some (.int .i64 (k : Int))) (_c1 : w.cell? ⟨b, off + i * 4 + 1, none⟩ = some (.int .i64 iq)) (_c2 : w.cell? ⟨b, off + i * 4 + 2, none⟩ = some (.int .i64 oq)) (_c3 : w.cell? ⟨b, off + i * 4 + 3, none⟩ = some (.slice sA 0 sc)) (HDL : Hid (D.length = m)) (HPO : Hid (∀ w', Below w.heap.size w w' → Calls Try.prog 54 #[.slice A m c, .slice AD m cD, .int .i64 (k : Int)] w' fun e w'' => e = .returned (.bool true) ∧ Below w'.heap.size w' w'')) (HDE : Hid (∀ (how : Int) (w' : World), Below w.heap.size w w' → Calls Try.prog 55 #[.slice AD m cD, .int .i64 (k : Int), .int .i64 how] w' (DecPost (D.set k how) w'))) (H1 : Hid (∀ (A1 : Option Addr) (c1 : Nat) (w' : World), Below w.heap.size w w' → NIn w' w'.heap.size (A1, m, c1) (D.set k 1) → Calls Try.prog 49 #[.agg #[.int .i64 (n : Int), .slice A m c, .int .i64 v, .slice (some ⟨b, off, none⟩) nn cn], .int .i64 iq, .slice A1 m c1] w' fun e w'' => e = .returned (.bool true) ∧ Below w'.heap.size w' w'')) (H2 : Hid (∀ (A1 : Option Addr) (c1 : Nat) (w' : World), Below w.heap.size w w' → NIn w' w'.heap.size (A1, m, c1) (D.set k 2) → Calls Try.prog 49 #[.agg #[.int .i64 (n : Int), .slice A m c, .int .i64 v, .slice (some ⟨b, off, none⟩) nn cn], .int .i64 oq, .slice A1 m c1] w' fun e w'' => e = .returned (.bool h2) ∧ Below w'.heap.size w' w'')) :
    Calls Try.prog 49 #[.agg #[.int .i64 (n : Int), .slice A m c, .int .i64 v, .slice (some ⟨b, off, none⟩) nn cn], .int .i64 (i : Int), .slice AD m cD] w fun e w' => e = .returned (.bool (h2)) ∧ Below w.heap.size w w' := by
  have hb1 := (Below.refl w.heap.size w).alloc (Nat.le_refl _) (.cells #[.int .i64 (n : Int), .slice A m c, .int .i64 v, .slice (some ⟨b, off, none⟩) nn cn] 91)
  have hb2 := hb1.alloc (by simp) (.cells #[.int .i64 (k : Int), .int .i64 iq, .int .i64 oq, .slice sA 0 sc] 55)
  have hc : HCells w.heap.size (w.heap.size + 1) n A m c v (some ⟨b, off, none⟩) nn cn (k : Int) iq oq sA 0 sc ((w.alloc (.cells #[.int .i64 (n : Int), .slice A m c, .int .i64 v, .slice (some ⟨b, off, none⟩) nn cn] 91)).alloc (.cells #[.int .i64 (k : Int), .int .i64 iq, .int .i64 oq, .slice sA 0 sc] 55)) := by
    have h2 := Blk.new (w.alloc (.cells #[.int .i64 (n : Int), .slice A m c, .int .i64 v, .slice (some ⟨b, off, none⟩) nn cn] 91)) 55 #[.int .i64 (k : Int), .int .i64 iq, .int .i64 oq, .slice sA 0 sc]
    rw [World.size_alloc] at h2
    exact ⟨Blk.alloc (Blk.new _ _ _) _, h2⟩
  have q0 := (hb1.cell (p := ⟨b, off + i * 4, none⟩) _hbw).trans _c0
  have q1 := (hb1.cell (p := ⟨b, off + i * 4 + 1, none⟩) _hbw).trans _c1
  have q2 := (hb1.cell (p := ⟨b, off + i * 4 + 2, none⟩) _hbw).trans _c2
  have q3 := (hb1.cell (p := ⟨b, off + i * 4 + 3, none⟩) _hbw).trans _c3
  have HCE := Lib.hid hc
  have HB2 := Lib.hid hb2
  clear hb1 hb2 hc _c0 _c1 _c2 _c3
  have hkn : ((k : Int) == -1) = false := by simp
  go_enter Try.func49, Try.ntmps49
  go_wp2_with fail
  obtain ⟨gc, hgc⟩ : ∃ gc, w.heap.size = gc := ⟨_, rfl⟩
  obtain ⟨w2, hw2⟩ : ∃ w2, (w.alloc (.cells #[.int .i64 (n : Int), .slice A m c, .int .i64 v, .slice (some ⟨b, off, none⟩) nn cn] 91)).alloc (.cells #[.int .i64 (k : Int), .int .i64 iq, .int .i64 oq, .slice sA 0 sc] 55) = w2 := ⟨_, rfl⟩
  rw [hw2] at HCE HB2 ⊢
  rw [hgc] at HCE ⊢
  obtain ⟨k0, k1, k2, k3, k4, k5, k6, k7⟩ := HCE.out.cells
  clear q0 q1 q2 q3 hgc hw2 _hbw _hi
--@1
  refine (HPO.out _ HB2.out).mono ?_
  rintro e w3 ⟨rfl, hb3⟩
  have HC3 := Lib.hid (HCE.out.all hb3)
  have HB3 := Lib.hid (bt HB2.out hb3)
  clear hb3 HCE HB2 k0 k1 k2 k3 k4 k5 k6 k7
  obtain ⟨k0, k1, k2, k3, k4, k5, k6, k7⟩ := HC3.out.cells
  go_wp2_with fail
--@2
  have HCE := HC3
  have HB2 := HB3
  clear HC3 HB3
  have HBD : Hid (Below w.heap.size w w3.drew) := Lib.hid (below_drewN HB2.out 1)
  refine wp_region_held_drew (S := (fun w' => w'.cell? ⟨gc, 0, none⟩ = some (.int .i64 (n : Int)) ∧ w'.cell? ⟨gc, 1, none⟩ = some (.slice A m c) ∧ w'.cell? ⟨gc, 2, none⟩ = some (.int .i64 v) ∧ w'.cell? ⟨gc, 3, none⟩ = some (.slice (some ⟨b, off, none⟩) nn cn) ∧ w'.cell? ⟨gc + 1, 0, none⟩ = some (.int .i64 (k : Int)) ∧ w'.cell? ⟨gc + 1, 1, none⟩ = some (.int .i64 iq) ∧ w'.cell? ⟨gc + 1, 2, none⟩ = some (.int .i64 oq) ∧ w'.cell? ⟨gc + 1, 3, none⟩ = some (.slice sA 0 sc))) (by kernel_rfl) ⟨k0, k1, k2, k3, k4, k5, k6, k7⟩ (fun hHeld => ?_)
  clear k0 k1 k2 k3 k4 k5 k6 k7
  refine takeH 0 (some 59) (v := ?_) (by rfl) (by rfl) (by kernel_rfl) (by kernel_rfl) (by kernel_rfl) (fun _ _ _ h => h) ?_ (by assumption) ?_
  rotate_left
  · intro o ho w hSw
    obtain ⟨k0, k1, k2, k3, k4, k5, k6, k7⟩ := hSw
    cases ho
    go_simp
    try with_reducible rfl
  try simp only [Act.put, List.setIfInBounds_toArray, List.set_cons_zero, List.set_cons_succ]
  refine takeH 1 (some 60) (v := ?_) (by rfl) (by rfl) (by kernel_rfl) (by kernel_rfl) (by kernel_rfl) (fun _ _ _ h => h) ?_ (by assumption) ?_
  rotate_left
  · intro o ho w hSw
    obtain ⟨k0, k1, k2, k3, k4, k5, k6, k7⟩ := hSw
    cases ho
    go_simp
    try with_reducible rfl
  try simp only [Act.put, List.setIfInBounds_toArray, List.set_cons_zero, List.set_cons_succ]
  refine takeH 2 (some 61) (v := ?_) (by rfl) (by rfl) (by kernel_rfl) (by kernel_rfl) (by kernel_rfl) (fun _ _ _ h => h) ?_ (by assumption) ?_
  rotate_left
  · intro o ho w hSw
    obtain ⟨k0, k1, k2, k3, k4, k5, k6, k7⟩ := hSw
    cases ho
    go_simp
    try with_reducible rfl
  try simp only [Act.put, List.setIfInBounds_toArray, List.set_cons_zero, List.set_cons_succ]
  refine takeH 3 (some 62) (v := ?_) (by rfl) (by rfl) (by kernel_rfl) (by kernel_rfl) (by kernel_rfl) (fun _ _ _ h => h) ?_ (by assumption) ?_
  rotate_left
  · intro o ho w hSw
    obtain ⟨k0, k1, k2, k3, k4, k5, k6, k7⟩ := hSw
    cases ho
    go_simp
    try with_reducible rfl
  try simp only [Act.put, List.setIfInBounds_toArray, List.set_cons_zero, List.set_cons_succ]
  refine takeH 4 (some 63) (v := ?_) (by rfl) (by rfl) (by kernel_rfl) (by kernel_rfl) (by kernel_rfl) (fun _ _ _ h => h) ?_ (by assumption) ?_
  rotate_left
  · intro o ho w hSw
    obtain ⟨k0, k1, k2, k3, k4, k5, k6, k7⟩ := hSw
    cases ho
    go_simp
    try with_reducible rfl
  try simp only [Act.put, List.setIfInBounds_toArray, List.set_cons_zero, List.set_cons_succ]
  refine takeH 5 (some 64) (v := ?_) (by rfl) (by rfl) (by kernel_rfl) (by kernel_rfl) (by kernel_rfl) (fun _ _ _ h => h) ?_ (by assumption) ?_
  rotate_left
  · intro o ho w hSw
    obtain ⟨k0, k1, k2, k3, k4, k5, k6, k7⟩ := hSw
    cases ho
    go_simp
    try with_reducible rfl
  try simp only [Act.put, List.setIfInBounds_toArray, List.set_cons_zero, List.set_cons_succ]
--@3
  refine wpAnyH_ready (rs := [6]) (by kernel_rfl) (by simp) ?_
  refine AllReadyH.cons rfl (fun K hK => ?_) AllReadyH.nil
  go_simp
  go_at_call 55
  (with_reducible refine (HDE.out 1 _ HBD.out).mono ?_)
  rintro e w4 ⟨⟨A1, m1, c1⟩, rfl, hl1, hi1, hb4⟩
  obtain rfl : m = m1 := by have := HDL.out; rw [List.length_set] at hl1; dsimp only at hl1; omega
  have HI4 := Lib.hid hi1
  have hS4 := undrew hb4
  clear hb4 hi1 hl1
  dsimp only [slV]
  go_wp2
  refine hK.out _ _ ?_ (fun hHeld4 => ?_)
  · exact (HCE.out.all hS4).cells
  clear hK K
  try simp only [Act.put, List.setIfInBounds_toArray, List.set_cons_zero, List.set_cons_succ]
--@4
  refine wpAnyH_ready (rs := [7]) (by kernel_rfl) (by simp) ?_
  refine AllReadyH.cons rfl (fun K hK => ?_) AllReadyH.nil
  go_simp
  go_at_call 49
  (with_reducible refine (H1.out _ _ _ (bt HB2.out hS4) HI4.out).mono ?_)
  rintro e w5 ⟨rfl, hb5⟩
  have hS5 := bt hS4 hb5
  clear hb5
  go_wp2
  refine hK.out _ _ ?_ (fun hHeld5 => ?_)
  · exact (HCE.out.all hS5).cells
  clear hK K
  try simp only [Act.put, List.setIfInBounds_toArray, List.set_cons_zero, List.set_cons_succ]
--@5
  refine takeH 8 (some 67) (v := ?_) (by rfl) (by rfl) (by kernel_rfl) (by kernel_rfl) (by kernel_rfl) (fun _ _ _ h => h) ?_ (by assumption) ?_
  rotate_left
  · intro o ho w hSw
    obtain ⟨k0, k1, k2, k3, k4, k5, k6, k7⟩ := hSw
    cases ho
    go_simp
    try with_reducible rfl
  try simp only [Act.put, List.setIfInBounds_toArray, List.set_cons_zero, List.set_cons_succ]
  refine takeH 9 (some 68) (v := ?_) (by rfl) (by rfl) (by kernel_rfl) (by kernel_rfl) (by kernel_rfl) (fun _ _ _ h => h) ?_ (by assumption) ?_
  rotate_left
  · intro o ho w hSw
    obtain ⟨k0, k1, k2, k3, k4, k5, k6, k7⟩ := hSw
    cases ho
    go_simp
    try with_reducible rfl
  try simp only [Act.put, List.setIfInBounds_toArray, List.set_cons_zero, List.set_cons_succ]
  refine takeH 10 (some 69) (v := ?_) (by rfl) (by rfl) (by kernel_rfl) (by kernel_rfl) (by kernel_rfl) (fun _ _ _ h => h) ?_ (by assumption) ?_
  rotate_left
  · intro o ho w hSw
    obtain ⟨k0, k1, k2, k3, k4, k5, k6, k7⟩ := hSw
    cases ho
    go_simp
    try with_reducible rfl
  try simp only [Act.put, List.setIfInBounds_toArray, List.set_cons_zero, List.set_cons_succ]
  refine takeH 11 (some 70) (v := ?_) (by rfl) (by rfl) (by kernel_rfl) (by kernel_rfl) (by kernel_rfl) (fun _ _ _ h => h) ?_ (by assumption) ?_
  rotate_left
  · intro o ho w hSw
    obtain ⟨k0, k1, k2, k3, k4, k5, k6, k7⟩ := hSw
    cases ho
    go_simp
    try with_reducible rfl
  try simp only [Act.put, List.setIfInBounds_toArray, List.set_cons_zero, List.set_cons_succ]
  refine takeH 12 (some 71) (v := ?_) (by rfl) (by rfl) (by kernel_rfl) (by kernel_rfl) (by kernel_rfl) (fun _ _ _ h => h) ?_ (by assumption) ?_
  rotate_left
  · intro o ho w hSw
    obtain ⟨k0, k1, k2, k3, k4, k5, k6, k7⟩ := hSw
    cases ho
    go_simp
    try with_reducible rfl
  try simp only [Act.put, List.setIfInBounds_toArray, List.set_cons_zero, List.set_cons_succ]
  refine takeH 13 (some 72) (v := ?_) (by rfl) (by rfl) (by kernel_rfl) (by kernel_rfl) (by kernel_rfl) (fun _ _ _ h => h) ?_ (by assumption) ?_
  rotate_left
  · intro o ho w hSw
    obtain ⟨k0, k1, k2, k3, k4, k5, k6, k7⟩ := hSw
    cases ho
    go_simp
    try with_reducible rfl
  try simp only [Act.put, List.setIfInBounds_toArray, List.set_cons_zero, List.set_cons_succ]
  refine takeH 14 (some 73) (v := ?_) (by rfl) (by rfl) (by kernel_rfl) (by kernel_rfl) (by kernel_rfl) (fun _ _ _ h => h) ?_ (by assumption) ?_
  rotate_left
  · intro o ho w hSw
    obtain ⟨k0, k1, k2, k3, k4, k5, k6, k7⟩ := hSw
    cases ho
    go_simp
    try with_reducible rfl
  try simp only [Act.put, List.setIfInBounds_toArray, List.set_cons_zero, List.set_cons_succ]
--@6
  refine wpAnyH_ready (rs := [15]) (by kernel_rfl) (by simp) ?_
  refine AllReadyH.cons rfl (fun K hK => ?_) AllReadyH.nil
  go_simp
  go_at_call 55
  (with_reducible refine (HDE.out 2 _ (bt HB2.out hS5)).mono ?_)
  rintro e w6 ⟨⟨A1, m1, c1⟩, rfl, hl1, hi1, hb6⟩
  obtain rfl : m = m1 := by have := HDL.out; rw [List.length_set] at hl1; dsimp only at hl1; omega
  have HI6 := Lib.hid hi1
  have hS6 := bt hS5 hb6
  clear hb6 hi1 hl1
  dsimp only [slV]
  go_wp2
  refine hK.out _ _ ?_ (fun hHeld6 => ?_)
  · exact (HCE.out.all hS6).cells
  clear hK K
  try simp only [Act.put, List.setIfInBounds_toArray, List.set_cons_zero, List.set_cons_succ]
--@7
  refine wpAnyH_ready (rs := [16]) (by kernel_rfl) (by simp) ?_
  refine AllReadyH.cons rfl (fun K hK => ?_) AllReadyH.nil
  go_simp
  go_at_call 49
  (with_reducible refine (H2.out _ _ _ (bt HB2.out hS6) HI6.out).mono ?_)
  rintro e w7 ⟨rfl, hb7⟩
  have hS7 := bt hS6 hb7
  clear hb7
  go_wp2
  refine hK.out _ _ ?_ (fun hHeld7 => ?_)
  · exact (HCE.out.all hS7).cells
  clear hK K
  try simp only [Act.put, List.setIfInBounds_toArray, List.set_cons_zero, List.set_cons_succ]
--@8
  refine takeH 17 (some 76) (v := ?_) (by rfl) (by rfl) (by kernel_rfl) (by kernel_rfl) (by kernel_rfl) (fun _ _ _ h => h) ?_ (by assumption) ?_
  rotate_left
  · intro o ho w hSw
    obtain ⟨k0, k1, k2, k3, k4, k5, k6, k7⟩ := hSw
    cases ho
    go_simp
    try with_reducible rfl
  try simp only [Act.put, List.setIfInBounds_toArray, List.set_cons_zero, List.set_cons_succ]
  refine takeH 18 (some 6) (v := ?_) (by rfl) (by rfl) (by kernel_rfl) (by kernel_rfl) (by kernel_rfl) (fun _ _ _ h => h) ?_ (by assumption) ?_
  rotate_left
  · intro o ho w hSw
    obtain ⟨k0, k1, k2, k3, k4, k5, k6, k7⟩ := hSw
    cases ho
    go_simp
    try with_reducible rfl
  try simp only [Act.put, List.setIfInBounds_toArray, List.set_cons_zero, List.set_cons_succ]
  refine wpAnyH_done (by kernel_rfl) ?_ _
  have HB9 := Lib.hid (bt HB2.out hS7)
  clear hS4 hS5 hS6 hS7
  go_wp2
  go_ret
  exact ⟨rfl, HB9.out⟩
end Go.Proofs.Ytikfcpkobgejmaa

/- proof: holds at an inner node that is not possible. -/
namespace Go.Proofs.Ytikfcpkobgejmaa
open Go.RowKit

set_option maxRecDepth 100000 in
set_option maxHeartbeats 8000000 in
theorem node_prices (n : Nat) (A : Option Addr) (m c : Nat) (v : Int) (b off nn cn : Nat) (iq oq : Int) (sA : Option Addr) (sc : Nat) (AD : Option Addr) (cD i : Nat) (sn : Nat) (bi : Int) (hbi : bi ≠ -1) (hsn : 0 < sn) (w : World) (_hbw : b < w.heap.size) (_hi : i < nn) (_c0 : w.cell? ⟨b, off + i * 4, none⟩ = some (.int .i64 bi)) (_c1 : w.cell? ⟨b, off + i * 4 + 1, none⟩ = some (.int .i64 iq)) (_c2 : w.cell? ⟨b, off + i * 4 + 2, none⟩ = some (.int .i64 oq)) (_c3 : w.cell? ⟨b, off + i * 4 + 3, none⟩ = some (.slice sA sn sc)) :
    Calls Try.prog 49 #[.agg #[.int .i64 (n : Int), .slice A m c, .int .i64 v, .slice (some ⟨b, off, none⟩) nn cn], .int .i64 (i : Int), .slice AD m cD] w fun e w' => e = .returned (.bool (false)) ∧ Below w.heap.size w w' := by
  have hb1 := (Below.refl w.heap.size w).alloc (Nat.le_refl _) (.cells #[.int .i64 (n : Int), .slice A m c, .int .i64 v, .slice (some ⟨b, off, none⟩) nn cn] 91)
  have hb2 := hb1.alloc (by simp) (.cells #[.int .i64 bi, .int .i64 iq, .int .i64 oq, .slice sA sn sc] 55)
  have hc : HCells w.heap.size (w.heap.size + 1) n A m c v (some ⟨b, off, none⟩) nn cn bi iq oq sA sn sc ((w.alloc (.cells #[.int .i64 (n : Int), .slice A m c, .int .i64 v, .slice (some ⟨b, off, none⟩) nn cn] 91)).alloc (.cells #[.int .i64 bi, .int .i64 iq, .int .i64 oq, .slice sA sn sc] 55)) := by
    have h2 := Blk.new (w.alloc (.cells #[.int .i64 (n : Int), .slice A m c, .int .i64 v, .slice (some ⟨b, off, none⟩) nn cn] 91)) 55 #[.int .i64 bi, .int .i64 iq, .int .i64 oq, .slice sA sn sc]
    rw [World.size_alloc] at h2
    exact ⟨Blk.alloc (Blk.new _ _ _) _, h2⟩
  have q0 := (hb1.cell (p := ⟨b, off + i * 4, none⟩) _hbw).trans _c0
  have q1 := (hb1.cell (p := ⟨b, off + i * 4 + 1, none⟩) _hbw).trans _c1
  have q2 := (hb1.cell (p := ⟨b, off + i * 4 + 2, none⟩) _hbw).trans _c2
  have q3 := (hb1.cell (p := ⟨b, off + i * 4 + 3, none⟩) _hbw).trans _c3
  have HCE := Lib.hid hc
  have HB2 := Lib.hid hb2
  clear hb1 hb2 hc _c0 _c1 _c2 _c3
  have hkn : (bi == -1) = false := by simpa using hbi
  have hsp : (0 : Int) < (sn : Int) := by omega
  clear hbi hsn
  go_enter Try.func49, Try.ntmps49
  go_wp2_with fail
  obtain ⟨gc, hgc⟩ : ∃ gc, w.heap.size = gc := ⟨_, rfl⟩
  obtain ⟨w2, hw2⟩ : ∃ w2, (w.alloc (.cells #[.int .i64 (n : Int), .slice A m c, .int .i64 v, .slice (some ⟨b, off, none⟩) nn cn] 91)).alloc (.cells #[.int .i64 bi, .int .i64 iq, .int .i64 oq, .slice sA sn sc] 55) = w2 := ⟨_, rfl⟩
  rw [hw2] at HCE HB2 ⊢
  rw [hgc] at HCE ⊢
  obtain ⟨k0, k1, k2, k3, k4, k5, k6, k7⟩ := HCE.out.cells
  clear q0 q1 q2 q3 hw2 _hbw _hi
  clear k0 k1 k2 k3 k4 k5 k6 k7
  go_ret
  exact ⟨rfl, by rw [← hgc]; exact HB2.out⟩

set_option maxRecDepth 100000 in
set_option maxHeartbeats 8000000 in
theorem node_imp (n : Nat) (A : Option Addr) (m c : Nat) (v : Int) (b off nn cn : Nat) (iq oq : Int) (sA : Option Addr) (sc : Nat) (AD : Option Addr) (cD i : Nat) (bi : Int) (hbi : bi ≠ -1) (w : World) (_hbw : b < w.heap.size) (_hi : i < nn) (_c0 : w.cell? ⟨b, off + i * 4, none⟩ = some (.int .i64 bi)) (_c1 : w.cell? ⟨b, off + i * 4 + 1, none⟩ = some (.int .i64 iq)) (_c2 : w.cell? ⟨b, off + i * 4 + 2, none⟩ = some (.int .i64 oq)) (_c3 : w.cell? ⟨b, off + i * 4 + 3, none⟩ = some (.slice sA 0 sc)) (HPO : Hid (∀ w', Below w.heap.size w w' → Calls Try.prog 54 #[.slice A m c, .slice AD m cD, .int .i64 bi] w' fun e w'' => e = .returned (.bool false) ∧ Below w'.heap.size w' w'')) :
    Calls Try.prog 49 #[.agg #[.int .i64 (n : Int), .slice A m c, .int .i64 v, .slice (some ⟨b, off, none⟩) nn cn], .int .i64 (i : Int), .slice AD m cD] w fun e w' => e = .returned (.bool (false)) ∧ Below w.heap.size w w' := by
  have hb1 := (Below.refl w.heap.size w).alloc (Nat.le_refl _) (.cells #[.int .i64 (n : Int), .slice A m c, .int .i64 v, .slice (some ⟨b, off, none⟩) nn cn] 91)
  have hb2 := hb1.alloc (by simp) (.cells #[.int .i64 bi, .int .i64 iq, .int .i64 oq, .slice sA 0 sc] 55)
  have hc : HCells w.heap.size (w.heap.size + 1) n A m c v (some ⟨b, off, none⟩) nn cn bi iq oq sA 0 sc ((w.alloc (.cells #[.int .i64 (n : Int), .slice A m c, .int .i64 v, .slice (some ⟨b, off, none⟩) nn cn] 91)).alloc (.cells #[.int .i64 bi, .int .i64 iq, .int .i64 oq, .slice sA 0 sc] 55)) := by
    have h2 := Blk.new (w.alloc (.cells #[.int .i64 (n : Int), .slice A m c, .int .i64 v, .slice (some ⟨b, off, none⟩) nn cn] 91)) 55 #[.int .i64 bi, .int .i64 iq, .int .i64 oq, .slice sA 0 sc]
    rw [World.size_alloc] at h2
    exact ⟨Blk.alloc (Blk.new _ _ _) _, h2⟩
  have q0 := (hb1.cell (p := ⟨b, off + i * 4, none⟩) _hbw).trans _c0
  have q1 := (hb1.cell (p := ⟨b, off + i * 4 + 1, none⟩) _hbw).trans _c1
  have q2 := (hb1.cell (p := ⟨b, off + i * 4 + 2, none⟩) _hbw).trans _c2
  have q3 := (hb1.cell (p := ⟨b, off + i * 4 + 3, none⟩) _hbw).trans _c3
  have HCE := Lib.hid hc
  have HB2 := Lib.hid hb2
  clear hb1 hb2 hc _c0 _c1 _c2 _c3
  have hkn : (bi == -1) = false := by simpa using hbi
  clear hbi
  go_enter Try.func49, Try.ntmps49
  go_wp2_with fail
  obtain ⟨gc, hgc⟩ : ∃ gc, w.heap.size = gc := ⟨_, rfl⟩
  obtain ⟨w2, hw2⟩ : ∃ w2, (w.alloc (.cells #[.int .i64 (n : Int), .slice A m c, .int .i64 v, .slice (some ⟨b, off, none⟩) nn cn] 91)).alloc (.cells #[.int .i64 bi, .int .i64 iq, .int .i64 oq, .slice sA 0 sc] 55) = w2 := ⟨_, rfl⟩
  rw [hw2] at HCE HB2 ⊢
  rw [hgc] at HCE ⊢
  obtain ⟨k0, k1, k2, k3, k4, k5, k6, k7⟩ := HCE.out.cells
  clear q0 q1 q2 q3 hgc hw2 _hbw _hi
  refine (HPO.out _ HB2.out).mono ?_
  rintro e w3 ⟨rfl, hb3⟩
  have HB3 := Lib.hid (bt HB2.out hb3)
  clear hb3 HCE HB2 k0 k1 k2 k3 k4 k5 k6 k7
  go_wp2_with fail
  go_ret
  exact ⟨rfl, HB3.out⟩
end Go.Proofs.Ytikfcpkobgejmaa

/- proof: holds. -/
namespace Go.Proofs.Ytikfcpkobgejmaa
open Go.RowKit

theorem possB_range {L : List Bd} {D : List Int} {k : Int} (h : possB L D k = true) : 0 ≤ k ∧ k < L.length := by
  unfold possB at h
  split at h
  · assumption
  · cases h
set_option maxHeartbeats 1000000 in
theorem holds_any (n : Nat) (A : Option Addr) (m c : Nat) (v : Int) (An : Option Addr) (nn cn : Nat) (L : List Bd) (N : List Nd) (hm : m ≤ 10) (hn : n ≤ 8) (HB : Hid (BidsOk n L)) (hnn : nn ≤ 2047) (HK : Hid (∀ t, t < nn → kidOk nn t (ndAt N t) = true)) :
    ∀ (f i : Nat) (AD : Option Addr) (cD : Nat) (D : List Int) (w : World) (_HL : Hid (Bds w (A, m, c) L)) (_HN : Hid (Nds w (An, nn, cn) N)) (_HD : Hid (NIn w w.heap.size (AD, m, cD) D)) (_hi : i < nn) (_hf : nn ≤ i + f),
      Calls Try.prog 49 #[.agg #[.int .i64 (n : Int), .slice A m c, .int .i64 v, .slice An nn cn], .int .i64 (i : Int), .slice AD m cD] w fun e w' => e = .returned (.bool (holdsF n L v N f i D)) ∧ Below w.heap.size w w' := by
  intro f
  induction f with
  | zero => intro i AD cD D w _ _ _ hi hf; omega
  | succ f ih =>
    intro i AD cD D w HL HN HD hi hf
    have IH := Lib.hid ih
    clear ih
    have HNL := Lib.hid HN.out.rows.len
    have HLEN := Lib.hid HL.out.rows.len
    dsimp only at HNL HLEN
    obtain ⟨b, off, bi, iq, oq, sA, sn, sc, ps, rfl, hbw, c0, c1, c2, c3, hin, he⟩ := HN.out.get (k := i) (by rw [HNL.out]; exact hi)
    have HKI := Lib.hid (HK.out i hi)
    rw [he] at HKI
    have HF : Hid (holdsF n L v N (f + 1) i D = if bi = -1 then leafB n L D v ⟨bi, iq, oq, (sA, sn, sc), ps⟩ else if 0 < ps.length ∨ possB L D bi = false then false else holdsF n L v N f iq.toNat (D.set bi.toNat 1) && holdsF n L v N f oq.toNat (D.set bi.toNat 2)) := Lib.hid (by
      conv => lhs; unfold holdsF
      rw [he])
    have HPL := Lib.hid hin.len
    dsimp only at HPL
    by_cases hl : bi = -1
    · subst hl
      have HF2 : Hid (holdsF n L v N (f + 1) i D = leafB n L D v ⟨-1, iq, oq, (sA, sn, sc), ps⟩) := Lib.hid (by rw [HF.out, if_pos rfl])
      rw [HF2.out]
      have hap := fun (w' : World) (hb : Below w.heap.size w w') => arePri_any (n : Int) A m c v (some ⟨b, off, none⟩) nn cn (sA, sn, sc) ps w' (Lib.hid (NIn.all hin hb))
      unfold slV at hap
      dsimp only at hap
      by_cases h0 : iq = 0 ∧ oq = 0
      · obtain ⟨rfl, rfl⟩ := h0
        cases hpr : (priB ps && decide ((ps.length : Int) = (n : Int))) with
        | false =>
          rw [hpr] at hap
          have HE : leafB n L D v ⟨-1, 0, 0, (sA, sn, sc), ps⟩ = false := by simp only [leafB, hpr]; simp
          rw [HE]
          exact leaf_bad n A m c v b off nn cn sA sn sc AD m cD i w hbw hi c0 c1 c2 c3 (Lib.hid hap)
        | true =>
          rw [hpr] at hap
          have hpn : ps.length = n := by
            simp at hpr
            omega
          have hbo := fun (w' : World) (hb : Below w.heap.size w w') => bound_any (A, m, c) (AD, m, cD) (sA, sn, sc) L D ps w' (Lib.hid (HL.out.all hb)) (Lib.hid (NIn.all HD.out hb)) (Lib.hid (NIn.all hin hb)) rfl hm (by have := HPL.out; dsimp only; omega) (Lib.hid (by rw [hpn]; exact HB.out)) (Lib.hid (priB_ok (by simp at hpr; simp [hpr])))
          unfold slV at hbo
          dsimp only at hbo
          have HE : leafB n L D v ⟨-1, 0, 0, (sA, sn, sc), ps⟩ = decide (boundP L D ps ≤ v) := by simp only [leafB, hpr]; simp
          rw [HE]
          exact leaf_good n A m c v b off nn cn sA sn sc AD m cD i (boundP L D ps) w hbw hi c0 c1 c2 c3 (Lib.hid hap) (Lib.hid hbo)
      · have HE : leafB n L D v ⟨-1, iq, oq, (sA, sn, sc), ps⟩ = false := by
          simp only [leafB]
          rcases Decidable.not_and_iff_or_not.1 h0 with h | h <;> simp [h]
        rw [HE]
        exact leaf_odd n A m c v b off nn cn iq oq sA sc AD cD i sn h0 w hbw hi c0 c1 c2 c3
    · have HF2 : Hid (holdsF n L v N (f + 1) i D = if 0 < ps.length ∨ possB L D bi = false then false else holdsF n L v N f iq.toNat (D.set bi.toNat 1) && holdsF n L v N f oq.toNat (D.set bi.toNat 2)) := Lib.hid (by rw [HF.out, if_neg hl])
      rw [HF2.out]
      have hps := fun (w' : World) (hb : Below w.heap.size w w') => possible_any (A, m, c) (AD, m, cD) L D bi w' (Lib.hid (HL.out.all hb)) (Lib.hid (NIn.all HD.out hb)) rfl (by dsimp only; omega) (Lib.hid (fun b hb => by have := (HB.out b hb).2.2.1; omega))
      unfold slV at hps
      dsimp only at hps
      have hsn := HPL.out
      by_cases hp : 0 < ps.length
      · rw [if_pos (Or.inl hp)]
        exact node_prices n A m c v b off nn cn iq oq sA sc AD cD i sn bi hl (by omega) w hbw hi c0 c1 c2 c3
      obtain rfl : sn = 0 := by omega
      cases hq : possB L D bi with
      | false =>
        rw [hq] at hps
        rw [if_pos (Or.inr rfl)]
        exact node_imp n A m c v b off nn cn iq oq sA sc AD cD i bi hl w hbw hi c0 c1 c2 c3 (Lib.hid hps)
      | true =>
        rw [hq] at hps
        have hDL : D.length = m := HD.out.len
        obtain ⟨hz, hlt⟩ := possB_range hq
        obtain ⟨k, rfl⟩ := Int.eq_ofNat_of_zero_le hz
        rw [HLEN.out] at hlt
        rw [if_neg (by rintro (h | h); exact hp h; simp at h)]
        have hko := HKI.out
        simp [kidOk] at hko
        obtain ⟨q1, q2, q3, q4⟩ : (i : Int) < iq ∧ iq < nn ∧ (i : Int) < oq ∧ oq < nn := by omega
        obtain ⟨ci, rfl⟩ := Int.eq_ofNat_of_zero_le (show 0 ≤ iq by omega)
        obtain ⟨co, rfl⟩ := Int.eq_ofNat_of_zero_le (show 0 ≤ oq by omega)
        simp only [Int.toNat_natCast]
        have hde := fun (how : Int) (w' : World) (hb : Below w.heap.size w w') => decide_any (AD, m, cD) D k how w' (Lib.hid (NIn.all HD.out hb)) (by dsimp only; omega) (by dsimp only; omega)
        unfold slV at hde
        dsimp only at hde
        have ih1 := fun (A1 : Option Addr) (c1 : Nat) (w' : World) (hb : Below w.heap.size w w') (h : NIn w' w'.heap.size (A1, m, c1) (D.set k 1)) => IH.out ci A1 c1 (D.set k 1) w' (Lib.hid (HL.out.all hb)) (Lib.hid (HN.out.all hb)) (Lib.hid h) (by omega) (by omega)
        have ih2 := fun (A1 : Option Addr) (c1 : Nat) (w' : World) (hb : Below w.heap.size w w') (h : NIn w' w'.heap.size (A1, m, c1) (D.set k 2)) => IH.out co A1 c1 (D.set k 2) w' (Lib.hid (HL.out.all hb)) (Lib.hid (HN.out.all hb)) (Lib.hid h) (by omega) (by omega)
        cases h1 : holdsF n L v N f ci (D.set k 1) with
        | false =>
          rw [h1] at ih1
          exact node_fst n A m c v b off nn cn (ci : Int) (co : Int) sA sc AD cD i k D w hbw hi c0 c1 c2 c3 (Lib.hid hDL) (Lib.hid hps) (Lib.hid hde) (Lib.hid ih1)
        | true =>
          rw [h1] at ih1
          rw [Bool.true_and]
          exact node_both n A m c v b off nn cn (ci : Int) (co : Int) sA sc AD cD i k D _ w hbw hi c0 c1 c2 c3 (Lib.hid hDL) (Lib.hid hps) (Lib.hid hde) (Lib.hid ih1) (Lib.hid ih2)
end Go.Proofs.Ytikfcpkobgejmaa

/- proof: what valid bids are, and what Check answers. -/
namespace Go.Proofs.Ytikfcpkobgejmaa
open Go.RowKit

theorem lotsBad_ok {n : Int} : ∀ {xs : List Int} {last : Int}, lotsBad n last xs = false → last < n → (xs.length : Int) ≤ n - 1 - last ∧ ∀ x ∈ xs, last < x ∧ x < n
  | [], last, _, hl => ⟨by simp; omega, fun x hx => by simp at hx⟩
  | x :: t, last, h, hl => by
    simp only [lotsBad, Bool.or_eq_false_iff, decide_eq_false_iff_not] at h
    obtain ⟨⟨h1, h2⟩, h3⟩ := h
    obtain ⟨g1, g2⟩ := lotsBad_ok h3 (by omega)
    refine ⟨by simp only [List.length_cons]; omega, fun y hy => ?_⟩
    rcases List.mem_cons.1 hy with rfl | hy
    · omega
    · have := g2 y hy
      omega
theorem firstE_ok {n : Int} : ∀ {L : List Bd}, firstE n L = 0 → ∀ b ∈ L, bidE n b = 0
  | [], _, b, hb => by simp at hb
  | x :: t, h, b, hb => by
    simp only [firstE] at h
    split at h
    · rcases List.mem_cons.1 hb with rfl | hb
      · assumption
      · exact firstE_ok h b hb
    · exact absurd h (by assumption)
theorem valid_ok {n : Int} {L : List Bd} {w : World} {s : Sl} (h : validE n L = 0) (HL : Bds w s L) : 1 ≤ n ∧ n ≤ 8 ∧ L.length ≤ 10 ∧ BidsOk n.toNat L := by
  unfold validE at h
  split at h
  · cases h
  split at h
  · cases h
  refine ⟨by omega, by omega, by omega, fun b hb => ?_⟩
  have hbe := firstE_ok h b hb
  unfold bidE at hbe
  split at hbe
  · cases hbe
  split at hbe
  · cases hbe
  split at hbe
  · cases hbe
  split at hbe
  · cases hbe
  rename_i h1 h2 h3 h4
  obtain ⟨g1, g2⟩ := lotsBad_ok (by simpa using h4) (by omega)
  have hlen := (HL.ok b hb).len
  refine ⟨by omega, by omega, by omega, by omega, fun x hx => ?_⟩
  have := g2 x hx
  omega
theorem BidsOk.prices {n : Nat} {L : List Bd} (h : BidsOk n L) : PricesOk L := fun b hb => ⟨(h b hb).1, (h b hb).2.1⟩
/-- What Check answers. -/
def proofB (n : Nat) (L : List Bd) (win : List Int) (v : Int) (N : List Nd) : Bool := decide (v = valueB L win) && (treeB N && holdsF n L v N N.length 0 (List.replicate L.length 0))
def checkE (n : Int) (L : List Bd) (win : List Int) (v : Int) (N : List Nd) : Int := if validE n L = 0 then (if feasB L win then (if 2047 < N.length then 4 else if proofB n.toNat L win v N then 0 else 20) else 1) else validE n L
theorem treeB_ok {N : List Nd} (h : treeB N = true) : 0 < N.length ∧ ∀ t, t < N.length → kidOk N.length t (ndAt N t) = true := by
  simp only [treeB, Bool.and_eq_true, decide_eq_true_eq, List.all_eq_true, List.mem_range] at h
  exact ⟨h.2, fun t ht => h.1.1 t ht⟩
end Go.Proofs.Ytikfcpkobgejmaa

/- proof: Check. -/
namespace Go.Proofs.Ytikfcpkobgejmaa
open Go.RowKit

set_option maxRecDepth 100000 in
set_option maxHeartbeats 8000000 in
theorem chk_valid (n : Int) (A : Option Addr) (m c : Nat) (Aw : Option Addr) (nw cw : Nat) (v : Int) (An : Option Addr) (nn cn : Nat) (w : World) (er : Int) (her : er ≠ 0) (HVA : Hid (∀ w', Below w.heap.size w w' → Calls Try.prog 47 #[.int .i64 n, .slice A m c] w' fun e w'' => e = .returned (.int .i64 er) ∧ Below w'.heap.size w' w'')) :
    Calls Try.prog 18 #[.int .i64 n, .slice A m c, .slice Aw nw cw, .agg #[.int .i64 v, .slice An nn cn]] w fun e w' => e = .returned (.int .i64 er) ∧ Below w.heap.size w w' := by
  have hb1 := (Below.refl w.heap.size w).alloc (Nat.le_refl _) (.cells #[.int .i64 v, .slice An nn cn] 44)
  have hbp := Blk.new w 44 #[.int .i64 v, .slice An nn cn]
  have HB1 := Lib.hid hb1
  have HP1 := Lib.hid hbp
  clear hb1 hbp
  go_enter Try.func18, Try.ntmps18
  go_wp2_with fail
  refine (HVA.out _ HB1.out).mono ?_
  rintro e w2 ⟨rfl, hb2⟩
  have HB2 := Lib.hid (bt HB1.out hb2)
  have HP2 := Lib.hid (HP1.out.all hb2)
  clear hb2 HB1 HP1 HVA
  have he : (er != 0) = true := by simpa using her
  clear her
  go_wp2_with fail
  go_ret
  exact ⟨rfl, HB2.out⟩

set_option maxRecDepth 100000 in
set_option maxHeartbeats 8000000 in
theorem chk_feas (n : Int) (A : Option Addr) (m c : Nat) (Aw : Option Addr) (nw cw : Nat) (v : Int) (An : Option Addr) (nn cn : Nat) (w : World) (HVA : Hid (∀ w', Below w.heap.size w w' → Calls Try.prog 47 #[.int .i64 n, .slice A m c] w' fun e w'' => e = .returned (.int .i64 0) ∧ Below w'.heap.size w' w'')) (HFE : Hid (∀ w', Below w.heap.size w w' → Calls Try.prog 33 #[.slice A m c, .slice Aw nw cw] w' fun e w'' => e = .returned (.bool false) ∧ Below w'.heap.size w' w'')) :
    Calls Try.prog 18 #[.int .i64 n, .slice A m c, .slice Aw nw cw, .agg #[.int .i64 v, .slice An nn cn]] w fun e w' => e = .returned (.int .i64 1) ∧ Below w.heap.size w w' := by
  have hb1 := (Below.refl w.heap.size w).alloc (Nat.le_refl _) (.cells #[.int .i64 v, .slice An nn cn] 44)
  have hbp := Blk.new w 44 #[.int .i64 v, .slice An nn cn]
  have HB1 := Lib.hid hb1
  have HP1 := Lib.hid hbp
  clear hb1 hbp
  go_enter Try.func18, Try.ntmps18
  go_wp2_with fail
  refine (HVA.out _ HB1.out).mono ?_
  rintro e w2 ⟨rfl, hb2⟩
  have HB2 := Lib.hid (bt HB1.out hb2)
  have HP2 := Lib.hid (HP1.out.all hb2)
  clear hb2 HB1 HP1 HVA
  go_wp2_with fail
  refine (HFE.out _ HB2.out).mono ?_
  rintro e w3 ⟨rfl, hb3⟩
  have HB3 := Lib.hid (bt HB2.out hb3)
  have HP3 := Lib.hid (HP2.out.all hb3)
  clear hb3 HB2 HP2 HFE
  obtain ⟨gp, hgp⟩ : ∃ gp, w.heap.size = gp := ⟨_, rfl⟩
  have p0 := HP3.out.cell 0
  have p1 := HP3.out.cell 1
  simp at p0 p1
  clear p0 p1 hgp
  go_wp2_with fail
  go_ret
  exact ⟨rfl, HB3.out⟩

set_option maxRecDepth 100000 in
set_option maxHeartbeats 8000000 in
theorem chk_long (n : Int) (A : Option Addr) (m c : Nat) (Aw : Option Addr) (nw cw : Nat) (v : Int) (An : Option Addr) (nn cn : Nat) (w : World) (hnn : 2047 < nn) (HVA : Hid (∀ w', Below w.heap.size w w' → Calls Try.prog 47 #[.int .i64 n, .slice A m c] w' fun e w'' => e = .returned (.int .i64 0) ∧ Below w'.heap.size w' w'')) (HFE : Hid (∀ w', Below w.heap.size w w' → Calls Try.prog 33 #[.slice A m c, .slice Aw nw cw] w' fun e w'' => e = .returned (.bool true) ∧ Below w'.heap.size w' w'')) :
    Calls Try.prog 18 #[.int .i64 n, .slice A m c, .slice Aw nw cw, .agg #[.int .i64 v, .slice An nn cn]] w fun e w' => e = .returned (.int .i64 4) ∧ Below w.heap.size w w' := by
  have hb1 := (Below.refl w.heap.size w).alloc (Nat.le_refl _) (.cells #[.int .i64 v, .slice An nn cn] 44)
  have hbp := Blk.new w 44 #[.int .i64 v, .slice An nn cn]
  have HB1 := Lib.hid hb1
  have HP1 := Lib.hid hbp
  clear hb1 hbp
  go_enter Try.func18, Try.ntmps18
  go_wp2_with fail
  refine (HVA.out _ HB1.out).mono ?_
  rintro e w2 ⟨rfl, hb2⟩
  have HB2 := Lib.hid (bt HB1.out hb2)
  have HP2 := Lib.hid (HP1.out.all hb2)
  clear hb2 HB1 HP1 HVA
  have hni : (2047 : Int) < (nn : Int) := by omega
  clear hnn
  go_wp2_with fail
  refine (HFE.out _ HB2.out).mono ?_
  rintro e w3 ⟨rfl, hb3⟩
  have HB3 := Lib.hid (bt HB2.out hb3)
  have HP3 := Lib.hid (HP2.out.all hb3)
  clear hb3 HB2 HP2 HFE
  obtain ⟨gp, hgp⟩ : ∃ gp, w.heap.size = gp := ⟨_, rfl⟩
  have p0 := HP3.out.cell 0
  have p1 := HP3.out.cell 1
  simp at p0 p1
  clear hgp
  go_wp2_with fail
  go_ret
  exact ⟨rfl, HB3.out⟩
end Go.Proofs.Ytikfcpkobgejmaa

/- proof: Check. -/
namespace Go.Proofs.Ytikfcpkobgejmaa
open Go.RowKit

set_option maxRecDepth 100000 in
set_option maxHeartbeats 8000000 in
theorem chk_value (n : Int) (A : Option Addr) (m c : Nat) (Aw : Option Addr) (nw cw : Nat) (v : Int) (An : Option Addr) (nn cn : Nat) (w : World) (x : Int) (hnn : nn ≤ 2047) (HVA : Hid (∀ w', Below w.heap.size w w' → Calls Try.prog 47 #[.int .i64 n, .slice A m c] w' fun e w'' => e = .returned (.int .i64 0) ∧ Below w'.heap.size w' w'')) (HFE : Hid (∀ w', Below w.heap.size w w' → Calls Try.prog 33 #[.slice A m c, .slice Aw nw cw] w' fun e w'' => e = .returned (.bool true) ∧ Below w'.heap.size w' w'')) (HVL : Hid (∀ w', Below w.heap.size w w' → Calls Try.prog 26 #[.slice A m c, .slice Aw nw cw] w' fun e w'' => e = .returned (.int .i64 x) ∧ w' = w'')) (hne : (v != x) = true) :
    Calls Try.prog 18 #[.int .i64 n, .slice A m c, .slice Aw nw cw, .agg #[.int .i64 v, .slice An nn cn]] w fun e w' => e = .returned (.int .i64 20) ∧ Below w.heap.size w w' := by
  have hb1 := (Below.refl w.heap.size w).alloc (Nat.le_refl _) (.cells #[.int .i64 v, .slice An nn cn] 44)
  have hbp := Blk.new w 44 #[.int .i64 v, .slice An nn cn]
  have HB1 := Lib.hid hb1
  have HP1 := Lib.hid hbp
  clear hb1 hbp
  go_enter Try.func18, Try.ntmps18
  go_wp2_with fail
  refine (HVA.out _ HB1.out).mono ?_
  rintro e w2 ⟨rfl, hb2⟩
  have HB2 := Lib.hid (bt HB1.out hb2)
  have HP2 := Lib.hid (HP1.out.all hb2)
  clear hb2 HB1 HP1 HVA
  have hni : ¬ ((2047 : Int) < (nn : Int)) := by omega
  clear hnn
  go_wp2_with fail
  refine (HFE.out _ HB2.out).mono ?_
  rintro e w3 ⟨rfl, hb3⟩
  have HB3 := Lib.hid (bt HB2.out hb3)
  have HP3 := Lib.hid (HP2.out.all hb3)
  clear hb3 HB2 HP2 HFE
  obtain ⟨gp, hgp⟩ : ∃ gp, w.heap.size = gp := ⟨_, rfl⟩
  have p0 := HP3.out.cell 0
  have p1 := HP3.out.cell 1
  simp at p0 p1
  have hb4 := HB3.out.alloc HB3.out.size (.cells #[.int .i64 n, .slice A m c, .int .i64 v, .slice An nn cn] 91)
  have hbk := Blk.new w3 91 #[.int .i64 n, .slice A m c, .int .i64 v, .slice An nn cn]
  have HB4 := Lib.hid hb4
  have HK4 := Lib.hid hbk
  have HP4 := Lib.hid (Blk.alloc HP3.out (.cells #[.int .i64 n, .slice A m c, .int .i64 v, .slice An nn cn] 91))
  clear hb4 hbk HB3 HP3
  rw [hgp] at p0 p1 HP4 ⊢
--@1
  go_wp2_with fail
--@2
  obtain ⟨gk, hgk⟩ : ∃ gk, w3.heap.size = gk := ⟨_, rfl⟩
  obtain ⟨w4, hw4⟩ : ∃ w4, w3.alloc (.cells #[.int .i64 n, .slice A m c, .int .i64 v, .slice An nn cn] 91) = w4 := ⟨_, rfl⟩
  rw [hw4] at HB4 HK4 HP4 ⊢
  rw [hgk] at HK4 ⊢
  clear hw4 hgk hgp p0 p1
  have HS : Hid (∀ w', Below w4.heap.size w4 w' → (fun w' => w'.cell? ⟨gp, 0, none⟩ = some (.int .i64 v) ∧ w'.cell? ⟨gp, 1, none⟩ = some (.slice An nn cn) ∧ w'.cell? ⟨gk, 0, none⟩ = some (.int .i64 n) ∧ w'.cell? ⟨gk, 1, none⟩ = some (.slice A m c) ∧ w'.cell? ⟨gk, 2, none⟩ = some (.int .i64 v) ∧ w'.cell? ⟨gk, 3, none⟩ = some (.slice An nn cn)) w') := Lib.hid (fun w' hb => ⟨(HP4.out.all hb).cell 0, (HP4.out.all hb).cell 1, (HK4.out.all hb).cell 0, (HK4.out.all hb).cell 1, (HK4.out.all hb).cell 2, (HK4.out.all hb).cell 3⟩)
  have HBD : Hid (Below w.heap.size w w4.drew) := Lib.hid (below_drewN HB4.out 1)
  refine wp_region_held_drew (S := (fun w' => w'.cell? ⟨gp, 0, none⟩ = some (.int .i64 v) ∧ w'.cell? ⟨gp, 1, none⟩ = some (.slice An nn cn) ∧ w'.cell? ⟨gk, 0, none⟩ = some (.int .i64 n) ∧ w'.cell? ⟨gk, 1, none⟩ = some (.slice A m c) ∧ w'.cell? ⟨gk, 2, none⟩ = some (.int .i64 v) ∧ w'.cell? ⟨gk, 3, none⟩ = some (.slice An nn cn))) (by kernel_rfl) (HS.out _ (below_drewN (Below.refl _ _) 1)) (fun hHeld => ?_)
  refine takeH 0 (some 29) (v := ?_) (by rfl) (by rfl) (by kernel_rfl) (by kernel_rfl) (by kernel_rfl) (fun _ _ _ h => h) ?_ (by assumption) ?_
  rotate_left
  · intro o ho w hSw
    obtain ⟨k0, k1, k2, k3, k4, k5⟩ := hSw
    cases ho
    go_simp
    try with_reducible rfl
  try simp only [Act.put, List.setIfInBounds_toArray, List.set_cons_zero, List.set_cons_succ]
  refine takeH 1 (some 30) (v := ?_) (by rfl) (by rfl) (by kernel_rfl) (by kernel_rfl) (by kernel_rfl) (fun _ _ _ h => h) ?_ (by assumption) ?_
  rotate_left
  · intro o ho w hSw
    obtain ⟨k0, k1, k2, k3, k4, k5⟩ := hSw
    cases ho
    go_simp
    try with_reducible rfl
  try simp only [Act.put, List.setIfInBounds_toArray, List.set_cons_zero, List.set_cons_succ]
  refine takeH 2 (some 31) (v := ?_) (by rfl) (by rfl) (by kernel_rfl) (by kernel_rfl) (by kernel_rfl) (fun _ _ _ h => h) ?_ (by assumption) ?_
  rotate_left
  · intro o ho w hSw
    obtain ⟨k0, k1, k2, k3, k4, k5⟩ := hSw
    cases ho
    go_simp
    try with_reducible rfl
  try simp only [Act.put, List.setIfInBounds_toArray, List.set_cons_zero, List.set_cons_succ]
  refine takeH 3 (some 32) (v := ?_) (by rfl) (by rfl) (by kernel_rfl) (by kernel_rfl) (by kernel_rfl) (fun _ _ _ h => h) ?_ (by assumption) ?_
  rotate_left
  · intro o ho w hSw
    obtain ⟨k0, k1, k2, k3, k4, k5⟩ := hSw
    cases ho
    go_simp
    try with_reducible rfl
  try simp only [Act.put, List.setIfInBounds_toArray, List.set_cons_zero, List.set_cons_succ]
--@3
  refine wpAnyH_ready (rs := [4]) (by kernel_rfl) (by simp) ?_
  refine AllReadyH.cons rfl (fun K hK => ?_) AllReadyH.nil
  go_simp
  go_at_call 26
  (with_reducible refine (HVL.out _ HBD.out).mono ?_)
  rintro e w5 ⟨rfl, rfl⟩
  go_wp2
  refine hK.out _ _ ?_ (fun hHeld5 => ?_)
  · exact (HS.out _ (below_drewN (Below.refl _ _) 1))
  clear hK K
  try simp only [Act.put, List.setIfInBounds_toArray, List.set_cons_zero, List.set_cons_succ]
--@4
  refine takeH 5 (some 34) (v := ?_) (by rfl) (by rfl) (by kernel_rfl) (by kernel_rfl) (by kernel_rfl) (fun _ _ _ h => h) ?_ (by assumption) ?_
  rotate_left
  · intro o ho w hSw
    obtain ⟨k0, k1, k2, k3, k4, k5⟩ := hSw
    cases ho
    go_simp
    try with_reducible rfl
  try simp only [Act.put, List.setIfInBounds_toArray, List.set_cons_zero, List.set_cons_succ]
  refine takeH 6 (some 35) (v := ?_) (by rfl) (by rfl) (by kernel_rfl) (by kernel_rfl) (by kernel_rfl) (fun _ _ _ h => h) ?_ (by assumption) ?_
  rotate_left
  · intro o ho w hSw
    obtain ⟨k0, k1, k2, k3, k4, k5⟩ := hSw
    cases ho
    go_simp
    try with_reducible rfl
  try simp only [Act.put, List.setIfInBounds_toArray, List.set_cons_zero, List.set_cons_succ]
  refine skipH 7 (some 36) (by rfl) (by rfl) (by kernel_rfl) (by kernel_rfl) (by kernel_rfl) (fun _ _ _ h => h) (by assumption) ?_
  try simp only [Act.put, List.setIfInBounds_toArray, List.set_cons_zero, List.set_cons_succ]
  refine skipH 8 (some 37) (by rfl) (by rfl) (by kernel_rfl) (by kernel_rfl) (by kernel_rfl) (fun _ _ _ h => h) (by assumption) ?_
  try simp only [Act.put, List.setIfInBounds_toArray, List.set_cons_zero, List.set_cons_succ]
  refine skipH 9 (some 38) (by rfl) (by rfl) (by kernel_rfl) (by kernel_rfl) (by kernel_rfl) (fun _ _ _ h => h) (by assumption) ?_
  try simp only [Act.put, List.setIfInBounds_toArray, List.set_cons_zero, List.set_cons_succ]
  refine takeH 10 (some 39) (v := ?_) (by rfl) (by rfl) (by kernel_rfl) (by kernel_rfl) (by kernel_rfl) (fun _ _ _ h => h) ?_ (by assumption) ?_
  rotate_left
  · intro o ho w hSw
    obtain ⟨k0, k1, k2, k3, k4, k5⟩ := hSw
    cases ho
    go_simp
    try with_reducible rfl
  try simp only [Act.put, List.setIfInBounds_toArray, List.set_cons_zero, List.set_cons_succ]
  refine takeH 11 (some 40) (v := ?_) (by rfl) (by rfl) (by kernel_rfl) (by kernel_rfl) (by kernel_rfl) (fun _ _ _ h => h) ?_ (by assumption) ?_
  rotate_left
  · intro o ho w hSw
    obtain ⟨k0, k1, k2, k3, k4, k5⟩ := hSw
    cases ho
    go_simp
    try with_reducible rfl
  try simp only [Act.put, List.setIfInBounds_toArray, List.set_cons_zero, List.set_cons_succ]
  refine skipH 12 (some 41) (by rfl) (by rfl) (by kernel_rfl) (by kernel_rfl) (by kernel_rfl) (fun _ _ _ h => h) (by assumption) ?_
  try simp only [Act.put, List.setIfInBounds_toArray, List.set_cons_zero, List.set_cons_succ]
  refine skipH 13 (some 42) (by rfl) (by rfl) (by kernel_rfl) (by kernel_rfl) (by kernel_rfl) (fun _ _ _ h => h) (by assumption) ?_
  try simp only [Act.put, List.setIfInBounds_toArray, List.set_cons_zero, List.set_cons_succ]
  refine skipH 14 (some 43) (by rfl) (by rfl) (by kernel_rfl) (by kernel_rfl) (by kernel_rfl) (fun _ _ _ h => h) (by assumption) ?_
  try simp only [Act.put, List.setIfInBounds_toArray, List.set_cons_zero, List.set_cons_succ]
  refine skipH 15 (some 44) (by rfl) (by rfl) (by kernel_rfl) (by kernel_rfl) (by kernel_rfl) (fun _ _ _ h => h) (by assumption) ?_
  try simp only [Act.put, List.setIfInBounds_toArray, List.set_cons_zero, List.set_cons_succ]
  refine skipH 16 (some 45) (by rfl) (by rfl) (by kernel_rfl) (by kernel_rfl) (by kernel_rfl) (fun _ _ _ h => h) (by assumption) ?_
  try simp only [Act.put, List.setIfInBounds_toArray, List.set_cons_zero, List.set_cons_succ]
  refine skipH 17 (some 46) (by rfl) (by rfl) (by kernel_rfl) (by kernel_rfl) (by kernel_rfl) (fun _ _ _ h => h) (by assumption) ?_
  try simp only [Act.put, List.setIfInBounds_toArray, List.set_cons_zero, List.set_cons_succ]
  refine takeH 18 (some 47) (v := ?_) (by rfl) (by rfl) (by kernel_rfl) (by kernel_rfl) (by kernel_rfl) (fun _ _ _ h => h) ?_ (by assumption) ?_
  rotate_left
  · intro o ho w hSw
    obtain ⟨k0, k1, k2, k3, k4, k5⟩ := hSw
    cases ho
    go_simp
    try with_reducible rfl
  try simp only [Act.put, List.setIfInBounds_toArray, List.set_cons_zero, List.set_cons_succ]
  refine wpAnyH_done (by kernel_rfl) ?_ _
--@9
  go_wp2_with fail
  go_ret
  exact ⟨rfl, HBD.out⟩
end Go.Proofs.Ytikfcpkobgejmaa

/- proof: Check. -/
namespace Go.Proofs.Ytikfcpkobgejmaa
open Go.RowKit

set_option maxRecDepth 100000 in
set_option maxHeartbeats 8000000 in
theorem chk_tree (n : Int) (A : Option Addr) (m c : Nat) (Aw : Option Addr) (nw cw : Nat) (v : Int) (An : Option Addr) (nn cn : Nat) (w : World) (x : Int) (hnn : nn ≤ 2047) (HVA : Hid (∀ w', Below w.heap.size w w' → Calls Try.prog 47 #[.int .i64 n, .slice A m c] w' fun e w'' => e = .returned (.int .i64 0) ∧ Below w'.heap.size w' w'')) (HFE : Hid (∀ w', Below w.heap.size w w' → Calls Try.prog 33 #[.slice A m c, .slice Aw nw cw] w' fun e w'' => e = .returned (.bool true) ∧ Below w'.heap.size w' w'')) (HVL : Hid (∀ w', Below w.heap.size w w' → Calls Try.prog 26 #[.slice A m c, .slice Aw nw cw] w' fun e w'' => e = .returned (.int .i64 x) ∧ w' = w'')) (hne : (v != x) = false) (HTR : Hid (∀ w', Below w.heap.size w w' → Calls Try.prog 48 #[.agg #[.int .i64 n, .slice A m c, .int .i64 v, .slice An nn cn]] w' fun e w'' => e = .returned (.bool false) ∧ Below w'.heap.size w' w'')) :
    Calls Try.prog 18 #[.int .i64 n, .slice A m c, .slice Aw nw cw, .agg #[.int .i64 v, .slice An nn cn]] w fun e w' => e = .returned (.int .i64 20) ∧ Below w.heap.size w w' := by
  have hb1 := (Below.refl w.heap.size w).alloc (Nat.le_refl _) (.cells #[.int .i64 v, .slice An nn cn] 44)
  have hbp := Blk.new w 44 #[.int .i64 v, .slice An nn cn]
  have HB1 := Lib.hid hb1
  have HP1 := Lib.hid hbp
  clear hb1 hbp
  go_enter Try.func18, Try.ntmps18
  go_wp2_with fail
  refine (HVA.out _ HB1.out).mono ?_
  rintro e w2 ⟨rfl, hb2⟩
  have HB2 := Lib.hid (bt HB1.out hb2)
  have HP2 := Lib.hid (HP1.out.all hb2)
  clear hb2 HB1 HP1 HVA
  have hni : ¬ ((2047 : Int) < (nn : Int)) := by omega
  clear hnn
  go_wp2_with fail
  refine (HFE.out _ HB2.out).mono ?_
  rintro e w3 ⟨rfl, hb3⟩
  have HB3 := Lib.hid (bt HB2.out hb3)
  have HP3 := Lib.hid (HP2.out.all hb3)
  clear hb3 HB2 HP2 HFE
  obtain ⟨gp, hgp⟩ : ∃ gp, w.heap.size = gp := ⟨_, rfl⟩
  have p0 := HP3.out.cell 0
  have p1 := HP3.out.cell 1
  simp at p0 p1
  have hb4 := HB3.out.alloc HB3.out.size (.cells #[.int .i64 n, .slice A m c, .int .i64 v, .slice An nn cn] 91)
  have hbk := Blk.new w3 91 #[.int .i64 n, .slice A m c, .int .i64 v, .slice An nn cn]
  have HB4 := Lib.hid hb4
  have HK4 := Lib.hid hbk
  have HP4 := Lib.hid (Blk.alloc HP3.out (.cells #[.int .i64 n, .slice A m c, .int .i64 v, .slice An nn cn] 91))
  clear hb4 hbk HB3 HP3
  rw [hgp] at p0 p1 HP4 ⊢
--@1
  go_wp2_with fail
--@2
  obtain ⟨gk, hgk⟩ : ∃ gk, w3.heap.size = gk := ⟨_, rfl⟩
  obtain ⟨w4, hw4⟩ : ∃ w4, w3.alloc (.cells #[.int .i64 n, .slice A m c, .int .i64 v, .slice An nn cn] 91) = w4 := ⟨_, rfl⟩
  rw [hw4] at HB4 HK4 HP4 ⊢
  rw [hgk] at HK4 ⊢
  clear hw4 hgk hgp p0 p1
  have HS : Hid (∀ w', Below w4.heap.size w4 w' → (fun w' => w'.cell? ⟨gp, 0, none⟩ = some (.int .i64 v) ∧ w'.cell? ⟨gp, 1, none⟩ = some (.slice An nn cn) ∧ w'.cell? ⟨gk, 0, none⟩ = some (.int .i64 n) ∧ w'.cell? ⟨gk, 1, none⟩ = some (.slice A m c) ∧ w'.cell? ⟨gk, 2, none⟩ = some (.int .i64 v) ∧ w'.cell? ⟨gk, 3, none⟩ = some (.slice An nn cn)) w') := Lib.hid (fun w' hb => ⟨(HP4.out.all hb).cell 0, (HP4.out.all hb).cell 1, (HK4.out.all hb).cell 0, (HK4.out.all hb).cell 1, (HK4.out.all hb).cell 2, (HK4.out.all hb).cell 3⟩)
  have HBD : Hid (Below w.heap.size w w4.drew) := Lib.hid (below_drewN HB4.out 1)
  refine wp_region_held_drew (S := (fun w' => w'.cell? ⟨gp, 0, none⟩ = some (.int .i64 v) ∧ w'.cell? ⟨gp, 1, none⟩ = some (.slice An nn cn) ∧ w'.cell? ⟨gk, 0, none⟩ = some (.int .i64 n) ∧ w'.cell? ⟨gk, 1, none⟩ = some (.slice A m c) ∧ w'.cell? ⟨gk, 2, none⟩ = some (.int .i64 v) ∧ w'.cell? ⟨gk, 3, none⟩ = some (.slice An nn cn))) (by kernel_rfl) (HS.out _ (below_drewN (Below.refl _ _) 1)) (fun hHeld => ?_)
  refine takeH 0 (some 29) (v := ?_) (by rfl) (by rfl) (by kernel_rfl) (by kernel_rfl) (by kernel_rfl) (fun _ _ _ h => h) ?_ (by assumption) ?_
  rotate_left
  · intro o ho w hSw
    obtain ⟨k0, k1, k2, k3, k4, k5⟩ := hSw
    cases ho
    go_simp
    try with_reducible rfl
  try simp only [Act.put, List.setIfInBounds_toArray, List.set_cons_zero, List.set_cons_succ]
  refine takeH 1 (some 30) (v := ?_) (by rfl) (by rfl) (by kernel_rfl) (by kernel_rfl) (by kernel_rfl) (fun _ _ _ h => h) ?_ (by assumption) ?_
  rotate_left
  · intro o ho w hSw
    obtain ⟨k0, k1, k2, k3, k4, k5⟩ := hSw
    cases ho
    go_simp
    try with_reducible rfl
  try simp only [Act.put, List.setIfInBounds_toArray, List.set_cons_zero, List.set_cons_succ]
  refine takeH 2 (some 31) (v := ?_) (by rfl) (by rfl) (by kernel_rfl) (by kernel_rfl) (by kernel_rfl) (fun _ _ _ h => h) ?_ (by assumption) ?_
  rotate_left
  · intro o ho w hSw
    obtain ⟨k0, k1, k2, k3, k4, k5⟩ := hSw
    cases ho
    go_simp
    try with_reducible rfl
  try simp only [Act.put, List.setIfInBounds_toArray, List.set_cons_zero, List.set_cons_succ]
  refine takeH 3 (some 32) (v := ?_) (by rfl) (by rfl) (by kernel_rfl) (by kernel_rfl) (by kernel_rfl) (fun _ _ _ h => h) ?_ (by assumption) ?_
  rotate_left
  · intro o ho w hSw
    obtain ⟨k0, k1, k2, k3, k4, k5⟩ := hSw
    cases ho
    go_simp
    try with_reducible rfl
  try simp only [Act.put, List.setIfInBounds_toArray, List.set_cons_zero, List.set_cons_succ]
--@3
  refine wpAnyH_ready (rs := [4]) (by kernel_rfl) (by simp) ?_
  refine AllReadyH.cons rfl (fun K hK => ?_) AllReadyH.nil
  go_simp
  go_at_call 26
  (with_reducible refine (HVL.out _ HBD.out).mono ?_)
  rintro e w5 ⟨rfl, rfl⟩
  go_wp2
  refine hK.out _ _ ?_ (fun hHeld5 => ?_)
  · exact (HS.out _ (below_drewN (Below.refl _ _) 1))
  clear hK K
  try simp only [Act.put, List.setIfInBounds_toArray, List.set_cons_zero, List.set_cons_succ]
--@4
  refine takeH 5 (some 34) (v := ?_) (by rfl) (by rfl) (by kernel_rfl) (by kernel_rfl) (by kernel_rfl) (fun _ _ _ h => h) ?_ (by assumption) ?_
  rotate_left
  · intro o ho w hSw
    obtain ⟨k0, k1, k2, k3, k4, k5⟩ := hSw
    cases ho
    go_simp
    try with_reducible rfl
  try simp only [Act.put, List.setIfInBounds_toArray, List.set_cons_zero, List.set_cons_succ]
  refine takeH 6 (some 35) (v := ?_) (by rfl) (by rfl) (by kernel_rfl) (by kernel_rfl) (by kernel_rfl) (fun _ _ _ h => h) ?_ (by assumption) ?_
  rotate_left
  · intro o ho w hSw
    obtain ⟨k0, k1, k2, k3, k4, k5⟩ := hSw
    cases ho
    go_simp
    try with_reducible rfl
  try simp only [Act.put, List.setIfInBounds_toArray, List.set_cons_zero, List.set_cons_succ]
  refine takeH 7 (some 36) (v := ?_) (by rfl) (by rfl) (by kernel_rfl) (by kernel_rfl) (by kernel_rfl) (fun _ _ _ h => h) ?_ (by assumption) ?_
  rotate_left
  · intro o ho w hSw
    obtain ⟨k0, k1, k2, k3, k4, k5⟩ := hSw
    cases ho
    go_simp
    try with_reducible rfl
  try simp only [Act.put, List.setIfInBounds_toArray, List.set_cons_zero, List.set_cons_succ]
  refine wpAnyH_ready (rs := [8]) (by kernel_rfl) (by simp) ?_
  refine AllReadyH.cons rfl (fun K hK => ?_) AllReadyH.nil
  go_simp
  go_at_call 48
  (with_reducible refine (HTR.out _ HBD.out).mono ?_)
  rintro e w6 ⟨rfl, hb6⟩
  have hS6 := undrew hb6
  clear hb6
  go_wp2
  refine hK.out _ _ ?_ (fun hHeld6 => ?_)
  · exact (HS.out _ hS6)
  clear hK K
  try simp only [Act.put, List.setIfInBounds_toArray, List.set_cons_zero, List.set_cons_succ]
--@5
  refine takeH 9 (some 38) (v := ?_) (by rfl) (by rfl) (by kernel_rfl) (by kernel_rfl) (by kernel_rfl) (fun _ _ _ h => h) ?_ (by assumption) ?_
  rotate_left
  · intro o ho w hSw
    obtain ⟨k0, k1, k2, k3, k4, k5⟩ := hSw
    cases ho
    go_simp
    try with_reducible rfl
  try simp only [Act.put, List.setIfInBounds_toArray, List.set_cons_zero, List.set_cons_succ]
  refine takeH 10 (some 39) (v := ?_) (by rfl) (by rfl) (by kernel_rfl) (by kernel_rfl) (by kernel_rfl) (fun _ _ _ h => h) ?_ (by assumption) ?_
  rotate_left
  · intro o ho w hSw
    obtain ⟨k0, k1, k2, k3, k4, k5⟩ := hSw
    cases ho
    go_simp
    try with_reducible rfl
  try simp only [Act.put, List.setIfInBounds_toArray, List.set_cons_zero, List.set_cons_succ]
  refine takeH 11 (some 40) (v := ?_) (by rfl) (by rfl) (by kernel_rfl) (by kernel_rfl) (by kernel_rfl) (fun _ _ _ h => h) ?_ (by assumption) ?_
  rotate_left
  · intro o ho w hSw
    obtain ⟨k0, k1, k2, k3, k4, k5⟩ := hSw
    cases ho
    go_simp
    try with_reducible rfl
  try simp only [Act.put, List.setIfInBounds_toArray, List.set_cons_zero, List.set_cons_succ]
  refine skipH 12 (some 41) (by rfl) (by rfl) (by kernel_rfl) (by kernel_rfl) (by kernel_rfl) (fun _ _ _ h => h) (by assumption) ?_
  try simp only [Act.put, List.setIfInBounds_toArray, List.set_cons_zero, List.set_cons_succ]
  refine skipH 13 (some 42) (by rfl) (by rfl) (by kernel_rfl) (by kernel_rfl) (by kernel_rfl) (fun _ _ _ h => h) (by assumption) ?_
  try simp only [Act.put, List.setIfInBounds_toArray, List.set_cons_zero, List.set_cons_succ]
  refine skipH 14 (some 43) (by rfl) (by rfl) (by kernel_rfl) (by kernel_rfl) (by kernel_rfl) (fun _ _ _ h => h) (by assumption) ?_
  try simp only [Act.put, List.setIfInBounds_toArray, List.set_cons_zero, List.set_cons_succ]
  refine skipH 15 (some 44) (by rfl) (by rfl) (by kernel_rfl) (by kernel_rfl) (by kernel_rfl) (fun _ _ _ h => h) (by assumption) ?_
  try simp only [Act.put, List.setIfInBounds_toArray, List.set_cons_zero, List.set_cons_succ]
  refine skipH 16 (some 45) (by rfl) (by rfl) (by kernel_rfl) (by kernel_rfl) (by kernel_rfl) (fun _ _ _ h => h) (by assumption) ?_
  try simp only [Act.put, List.setIfInBounds_toArray, List.set_cons_zero, List.set_cons_succ]
  refine skipH 17 (some 46) (by rfl) (by rfl) (by kernel_rfl) (by kernel_rfl) (by kernel_rfl) (fun _ _ _ h => h) (by assumption) ?_
  try simp only [Act.put, List.setIfInBounds_toArray, List.set_cons_zero, List.set_cons_succ]
  refine takeH 18 (some 47) (v := ?_) (by rfl) (by rfl) (by kernel_rfl) (by kernel_rfl) (by kernel_rfl) (fun _ _ _ h => h) ?_ (by assumption) ?_
  rotate_left
  · intro o ho w hSw
    obtain ⟨k0, k1, k2, k3, k4, k5⟩ := hSw
    cases ho
    go_simp
    try with_reducible rfl
  try simp only [Act.put, List.setIfInBounds_toArray, List.set_cons_zero, List.set_cons_succ]
  refine wpAnyH_done (by kernel_rfl) ?_ _
  have HB6 := Lib.hid (bt HB4.out hS6)
--@9
  go_wp2_with fail
  go_ret
  exact ⟨rfl, HB6.out⟩
end Go.Proofs.Ytikfcpkobgejmaa

/- proof: Check. -/
namespace Go.Proofs.Ytikfcpkobgejmaa
open Go.RowKit

set_option maxRecDepth 100000 in
set_option maxHeartbeats 8000000 in
theorem chk_holds (n : Int) (A : Option Addr) (m c : Nat) (Aw : Option Addr) (nw cw : Nat) (v : Int) (An : Option Addr) (nn cn : Nat) (w : World) (x : Int) (hnn : nn ≤ 2047) (HVA : Hid (∀ w', Below w.heap.size w w' → Calls Try.prog 47 #[.int .i64 n, .slice A m c] w' fun e w'' => e = .returned (.int .i64 0) ∧ Below w'.heap.size w' w'')) (HFE : Hid (∀ w', Below w.heap.size w w' → Calls Try.prog 33 #[.slice A m c, .slice Aw nw cw] w' fun e w'' => e = .returned (.bool true) ∧ Below w'.heap.size w' w'')) (HVL : Hid (∀ w', Below w.heap.size w w' → Calls Try.prog 26 #[.slice A m c, .slice Aw nw cw] w' fun e w'' => e = .returned (.int .i64 x) ∧ w' = w'')) (hm : m ≤ 10) (hne : (v != x) = false) (HTR : Hid (∀ w', Below w.heap.size w w' → Calls Try.prog 48 #[.agg #[.int .i64 n, .slice A m c, .int .i64 v, .slice An nn cn]] w' fun e w'' => e = .returned (.bool true) ∧ Below w'.heap.size w' w'')) (HHO : Hid (∀ (gs : Nat) (w' : World), Below w.heap.size w w' → NIn w' w'.heap.size (some ⟨gs, 0, none⟩, m, m) (List.replicate m 0) → Calls Try.prog 49 #[.agg #[.int .i64 n, .slice A m c, .int .i64 v, .slice An nn cn], .int .i64 0, .slice (some ⟨gs, 0, none⟩) m m] w' fun e w'' => e = .returned (.bool false) ∧ Below w'.heap.size w' w'')) :
    Calls Try.prog 18 #[.int .i64 n, .slice A m c, .slice Aw nw cw, .agg #[.int .i64 v, .slice An nn cn]] w fun e w' => e = .returned (.int .i64 20) ∧ Below w.heap.size w w' := by
  have hb1 := (Below.refl w.heap.size w).alloc (Nat.le_refl _) (.cells #[.int .i64 v, .slice An nn cn] 44)
  have hbp := Blk.new w 44 #[.int .i64 v, .slice An nn cn]
  have HB1 := Lib.hid hb1
  have HP1 := Lib.hid hbp
  clear hb1 hbp
  go_enter Try.func18, Try.ntmps18
  go_wp2_with fail
  refine (HVA.out _ HB1.out).mono ?_
  rintro e w2 ⟨rfl, hb2⟩
  have HB2 := Lib.hid (bt HB1.out hb2)
  have HP2 := Lib.hid (HP1.out.all hb2)
  clear hb2 HB1 HP1 HVA
  have hni : ¬ ((2047 : Int) < (nn : Int)) := by omega
  clear hnn
  go_wp2_with fail
  refine (HFE.out _ HB2.out).mono ?_
  rintro e w3 ⟨rfl, hb3⟩
  have HB3 := Lib.hid (bt HB2.out hb3)
  have HP3 := Lib.hid (HP2.out.all hb3)
  clear hb3 HB2 HP2 HFE
  obtain ⟨gp, hgp⟩ : ∃ gp, w.heap.size = gp := ⟨_, rfl⟩
  have p0 := HP3.out.cell 0
  have p1 := HP3.out.cell 1
  simp at p0 p1
  have hb4 := HB3.out.alloc HB3.out.size (.cells #[.int .i64 n, .slice A m c, .int .i64 v, .slice An nn cn] 91)
  have hbk := Blk.new w3 91 #[.int .i64 n, .slice A m c, .int .i64 v, .slice An nn cn]
  have HB4 := Lib.hid hb4
  have HK4 := Lib.hid hbk
  have HP4 := Lib.hid (Blk.alloc HP3.out (.cells #[.int .i64 n, .slice A m c, .int .i64 v, .slice An nn cn] 91))
  clear hb4 hbk HB3 HP3
  rw [hgp] at p0 p1 HP4 ⊢
--@1
  go_wp2_with fail
--@2
  obtain ⟨gk, hgk⟩ : ∃ gk, w3.heap.size = gk := ⟨_, rfl⟩
  obtain ⟨w4, hw4⟩ : ∃ w4, w3.alloc (.cells #[.int .i64 n, .slice A m c, .int .i64 v, .slice An nn cn] 91) = w4 := ⟨_, rfl⟩
  rw [hw4] at HB4 HK4 HP4 ⊢
  rw [hgk] at HK4 ⊢
  clear hw4 hgk hgp p0 p1
  have HS : Hid (∀ w', Below w4.heap.size w4 w' → (fun w' => w'.cell? ⟨gp, 0, none⟩ = some (.int .i64 v) ∧ w'.cell? ⟨gp, 1, none⟩ = some (.slice An nn cn) ∧ w'.cell? ⟨gk, 0, none⟩ = some (.int .i64 n) ∧ w'.cell? ⟨gk, 1, none⟩ = some (.slice A m c) ∧ w'.cell? ⟨gk, 2, none⟩ = some (.int .i64 v) ∧ w'.cell? ⟨gk, 3, none⟩ = some (.slice An nn cn)) w') := Lib.hid (fun w' hb => ⟨(HP4.out.all hb).cell 0, (HP4.out.all hb).cell 1, (HK4.out.all hb).cell 0, (HK4.out.all hb).cell 1, (HK4.out.all hb).cell 2, (HK4.out.all hb).cell 3⟩)
  have HBD : Hid (Below w.heap.size w w4.drew) := Lib.hid (below_drewN HB4.out 1)
  refine wp_region_held_drew (S := (fun w' => w'.cell? ⟨gp, 0, none⟩ = some (.int .i64 v) ∧ w'.cell? ⟨gp, 1, none⟩ = some (.slice An nn cn) ∧ w'.cell? ⟨gk, 0, none⟩ = some (.int .i64 n) ∧ w'.cell? ⟨gk, 1, none⟩ = some (.slice A m c) ∧ w'.cell? ⟨gk, 2, none⟩ = some (.int .i64 v) ∧ w'.cell? ⟨gk, 3, none⟩ = some (.slice An nn cn))) (by kernel_rfl) (HS.out _ (below_drewN (Below.refl _ _) 1)) (fun hHeld => ?_)
  refine takeH 0 (some 29) (v := ?_) (by rfl) (by rfl) (by kernel_rfl) (by kernel_rfl) (by kernel_rfl) (fun _ _ _ h => h) ?_ (by assumption) ?_
  rotate_left
  · intro o ho w hSw
    obtain ⟨k0, k1, k2, k3, k4, k5⟩ := hSw
    cases ho
    go_simp
    try with_reducible rfl
  try simp only [Act.put, List.setIfInBounds_toArray, List.set_cons_zero, List.set_cons_succ]
  refine takeH 1 (some 30) (v := ?_) (by rfl) (by rfl) (by kernel_rfl) (by kernel_rfl) (by kernel_rfl) (fun _ _ _ h => h) ?_ (by assumption) ?_
  rotate_left
  · intro o ho w hSw
    obtain ⟨k0, k1, k2, k3, k4, k5⟩ := hSw
    cases ho
    go_simp
    try with_reducible rfl
  try simp only [Act.put, List.setIfInBounds_toArray, List.set_cons_zero, List.set_cons_succ]
  refine takeH 2 (some 31) (v := ?_) (by rfl) (by rfl) (by kernel_rfl) (by kernel_rfl) (by kernel_rfl) (fun _ _ _ h => h) ?_ (by assumption) ?_
  rotate_left
  · intro o ho w hSw
    obtain ⟨k0, k1, k2, k3, k4, k5⟩ := hSw
    cases ho
    go_simp
    try with_reducible rfl
  try simp only [Act.put, List.setIfInBounds_toArray, List.set_cons_zero, List.set_cons_succ]
  refine takeH 3 (some 32) (v := ?_) (by rfl) (by rfl) (by kernel_rfl) (by kernel_rfl) (by kernel_rfl) (fun _ _ _ h => h) ?_ (by assumption) ?_
  rotate_left
  · intro o ho w hSw
    obtain ⟨k0, k1, k2, k3, k4, k5⟩ := hSw
    cases ho
    go_simp
    try with_reducible rfl
  try simp only [Act.put, List.setIfInBounds_toArray, List.set_cons_zero, List.set_cons_succ]
--@3
  refine wpAnyH_ready (rs := [4]) (by kernel_rfl) (by simp) ?_
  refine AllReadyH.cons rfl (fun K hK => ?_) AllReadyH.nil
  go_simp
  go_at_call 26
  (with_reducible refine (HVL.out _ HBD.out).mono ?_)
  rintro e w5 ⟨rfl, rfl⟩
  go_wp2
  refine hK.out _ _ ?_ (fun hHeld5 => ?_)
  · exact (HS.out _ (below_drewN (Below.refl _ _) 1))
  clear hK K
  try simp only [Act.put, List.setIfInBounds_toArray, List.set_cons_zero, List.set_cons_succ]
--@4
  refine takeH 5 (some 34) (v := ?_) (by rfl) (by rfl) (by kernel_rfl) (by kernel_rfl) (by kernel_rfl) (fun _ _ _ h => h) ?_ (by assumption) ?_
  rotate_left
  · intro o ho w hSw
    obtain ⟨k0, k1, k2, k3, k4, k5⟩ := hSw
    cases ho
    go_simp
    try with_reducible rfl
  try simp only [Act.put, List.setIfInBounds_toArray, List.set_cons_zero, List.set_cons_succ]
  refine takeH 6 (some 35) (v := ?_) (by rfl) (by rfl) (by kernel_rfl) (by kernel_rfl) (by kernel_rfl) (fun _ _ _ h => h) ?_ (by assumption) ?_
  rotate_left
  · intro o ho w hSw
    obtain ⟨k0, k1, k2, k3, k4, k5⟩ := hSw
    cases ho
    go_simp
    try with_reducible rfl
  try simp only [Act.put, List.setIfInBounds_toArray, List.set_cons_zero, List.set_cons_succ]
  refine takeH 7 (some 36) (v := ?_) (by rfl) (by rfl) (by kernel_rfl) (by kernel_rfl) (by kernel_rfl) (fun _ _ _ h => h) ?_ (by assumption) ?_
  rotate_left
  · intro o ho w hSw
    obtain ⟨k0, k1, k2, k3, k4, k5⟩ := hSw
    cases ho
    go_simp
    try with_reducible rfl
  try simp only [Act.put, List.setIfInBounds_toArray, List.set_cons_zero, List.set_cons_succ]
  refine wpAnyH_ready (rs := [8]) (by kernel_rfl) (by simp) ?_
  refine AllReadyH.cons rfl (fun K hK => ?_) AllReadyH.nil
  go_simp
  go_at_call 48
  (with_reducible refine (HTR.out _ HBD.out).mono ?_)
  rintro e w6 ⟨rfl, hb6⟩
  have hS6 := undrew hb6
  clear hb6
  go_wp2
  refine hK.out _ _ ?_ (fun hHeld6 => ?_)
  · exact (HS.out _ hS6)
  clear hK K
  try simp only [Act.put, List.setIfInBounds_toArray, List.set_cons_zero, List.set_cons_succ]
--@5
  refine takeH 9 (some 38) (v := ?_) (by rfl) (by rfl) (by kernel_rfl) (by kernel_rfl) (by kernel_rfl) (fun _ _ _ h => h) ?_ (by assumption) ?_
  rotate_left
  · intro o ho w hSw
    obtain ⟨k0, k1, k2, k3, k4, k5⟩ := hSw
    cases ho
    go_simp
    try with_reducible rfl
  try simp only [Act.put, List.setIfInBounds_toArray, List.set_cons_zero, List.set_cons_succ]
  refine takeH 10 (some 39) (v := ?_) (by rfl) (by rfl) (by kernel_rfl) (by kernel_rfl) (by kernel_rfl) (fun _ _ _ h => h) ?_ (by assumption) ?_
  rotate_left
  · intro o ho w hSw
    obtain ⟨k0, k1, k2, k3, k4, k5⟩ := hSw
    cases ho
    go_simp
    try with_reducible rfl
  try simp only [Act.put, List.setIfInBounds_toArray, List.set_cons_zero, List.set_cons_succ]
  refine takeH 11 (some 40) (v := ?_) (by rfl) (by rfl) (by kernel_rfl) (by kernel_rfl) (by kernel_rfl) (fun _ _ _ h => h) ?_ (by assumption) ?_
  rotate_left
  · intro o ho w hSw
    obtain ⟨k0, k1, k2, k3, k4, k5⟩ := hSw
    cases ho
    go_simp
    try with_reducible rfl
  try simp only [Act.put, List.setIfInBounds_toArray, List.set_cons_zero, List.set_cons_succ]
  refine takeH 12 (some 41) (v := ?_) (by rfl) (by rfl) (by kernel_rfl) (by kernel_rfl) (by kernel_rfl) (fun _ _ _ h => h) ?_ (by assumption) ?_
  rotate_left
  · intro o ho w hSw
    obtain ⟨k0, k1, k2, k3, k4, k5⟩ := hSw
    cases ho
    go_simp
    try with_reducible rfl
  try simp only [Act.put, List.setIfInBounds_toArray, List.set_cons_zero, List.set_cons_succ]
  refine takeH 13 (some 42) (v := ?_) (by rfl) (by rfl) (by kernel_rfl) (by kernel_rfl) (by kernel_rfl) (fun _ _ _ h => h) ?_ (by assumption) ?_
  rotate_left
  · intro o ho w hSw
    obtain ⟨k0, k1, k2, k3, k4, k5⟩ := hSw
    cases ho
    go_simp
    try with_reducible rfl
  try simp only [Act.put, List.setIfInBounds_toArray, List.set_cons_zero, List.set_cons_succ]
  refine takeH 14 (some 43) (v := ?_) (by rfl) (by rfl) (by kernel_rfl) (by kernel_rfl) (by kernel_rfl) (fun _ _ _ h => h) ?_ (by assumption) ?_
  rotate_left
  · intro o ho w hSw
    obtain ⟨k0, k1, k2, k3, k4, k5⟩ := hSw
    cases ho
    go_simp
    try with_reducible rfl
  try simp only [Act.put, List.setIfInBounds_toArray, List.set_cons_zero, List.set_cons_succ]
--@6
  obtain ⟨i0, hi, hz0, hz1, hz2⟩ := info_parts int_info
  obtain ⟨w7, hmk, hown7, hb7, hlt7⟩ := make_all (P := Try.prog) w6 22 3 i0 _ 8 Try.underlying22 hi hz0 hz1 hz2 rfl .i64 .i64 m (by omega) (by unfold maxLen; omega)
  have hS7 := bt hS6 hb7
  have HI7 : Hid (NIn w7 w7.heap.size (some ⟨w6.heap.size, 0, none⟩, m, m) (List.replicate m 0)) := Lib.hid (NIn.own (by rw [List.map_replicate]; exact hown7))
  clear hi hz0 hz1 hz2 hown7 hb7 hlt7
  refine wpAnyH_ready (rs := [15]) (by kernel_rfl) (by simp) ?_
  refine AllReadyH.cons rfl (fun K hK => ?_) AllReadyH.nil
  go_simp
  refine hK.out _ _ ?_ (fun hHeld7 => ?_)
  · exact HS.out _ hS7
  clear hK K hmk
  try simp only [Act.put, List.setIfInBounds_toArray, List.set_cons_zero, List.set_cons_succ]
--@7
  refine wpAnyH_ready (rs := [16]) (by kernel_rfl) (by simp) ?_
  refine AllReadyH.cons rfl (fun K hK => ?_) AllReadyH.nil
  go_simp
  go_at_call 49
  (with_reducible refine (HHO.out _ _ (bt HB4.out hS7) HI7.out).mono ?_)
  rintro e w8 ⟨rfl, hb8⟩
  have hS8 := bt hS7 hb8
  clear hb8
  go_wp2
  refine hK.out _ _ ?_ (fun hHeld8 => ?_)
  · exact (HS.out _ hS8)
  clear hK K
  try simp only [Act.put, List.setIfInBounds_toArray, List.set_cons_zero, List.set_cons_succ]
--@8
  refine takeH 17 (some 46) (v := ?_) (by rfl) (by rfl) (by kernel_rfl) (by kernel_rfl) (by kernel_rfl) (fun _ _ _ h => h) ?_ (by assumption) ?_
  rotate_left
  · intro o ho w hSw
    obtain ⟨k0, k1, k2, k3, k4, k5⟩ := hSw
    cases ho
    go_simp
    try with_reducible rfl
  try simp only [Act.put, List.setIfInBounds_toArray, List.set_cons_zero, List.set_cons_succ]
  refine takeH 18 (some 47) (v := ?_) (by rfl) (by rfl) (by kernel_rfl) (by kernel_rfl) (by kernel_rfl) (fun _ _ _ h => h) ?_ (by assumption) ?_
  rotate_left
  · intro o ho w hSw
    obtain ⟨k0, k1, k2, k3, k4, k5⟩ := hSw
    cases ho
    go_simp
    try with_reducible rfl
  try simp only [Act.put, List.setIfInBounds_toArray, List.set_cons_zero, List.set_cons_succ]
  refine wpAnyH_done (by kernel_rfl) ?_ _
  have HB8 := Lib.hid (bt HB4.out hS8)
--@9
  go_wp2_with fail
  go_ret
  exact ⟨rfl, HB8.out⟩
end Go.Proofs.Ytikfcpkobgejmaa

/- proof: Check. -/
namespace Go.Proofs.Ytikfcpkobgejmaa
open Go.RowKit

set_option maxRecDepth 100000 in
set_option maxHeartbeats 8000000 in
theorem chk_ok (n : Int) (A : Option Addr) (m c : Nat) (Aw : Option Addr) (nw cw : Nat) (v : Int) (An : Option Addr) (nn cn : Nat) (w : World) (x : Int) (hnn : nn ≤ 2047) (HVA : Hid (∀ w', Below w.heap.size w w' → Calls Try.prog 47 #[.int .i64 n, .slice A m c] w' fun e w'' => e = .returned (.int .i64 0) ∧ Below w'.heap.size w' w'')) (HFE : Hid (∀ w', Below w.heap.size w w' → Calls Try.prog 33 #[.slice A m c, .slice Aw nw cw] w' fun e w'' => e = .returned (.bool true) ∧ Below w'.heap.size w' w'')) (HVL : Hid (∀ w', Below w.heap.size w w' → Calls Try.prog 26 #[.slice A m c, .slice Aw nw cw] w' fun e w'' => e = .returned (.int .i64 x) ∧ w' = w'')) (hm : m ≤ 10) (hne : (v != x) = false) (HTR : Hid (∀ w', Below w.heap.size w w' → Calls Try.prog 48 #[.agg #[.int .i64 n, .slice A m c, .int .i64 v, .slice An nn cn]] w' fun e w'' => e = .returned (.bool true) ∧ Below w'.heap.size w' w'')) (HHO : Hid (∀ (gs : Nat) (w' : World), Below w.heap.size w w' → NIn w' w'.heap.size (some ⟨gs, 0, none⟩, m, m) (List.replicate m 0) → Calls Try.prog 49 #[.agg #[.int .i64 n, .slice A m c, .int .i64 v, .slice An nn cn], .int .i64 0, .slice (some ⟨gs, 0, none⟩) m m] w' fun e w'' => e = .returned (.bool true) ∧ Below w'.heap.size w' w'')) :
    Calls Try.prog 18 #[.int .i64 n, .slice A m c, .slice Aw nw cw, .agg #[.int .i64 v, .slice An nn cn]] w fun e w' => e = .returned (.int .i64 0) ∧ Below w.heap.size w w' := by
  have hb1 := (Below.refl w.heap.size w).alloc (Nat.le_refl _) (.cells #[.int .i64 v, .slice An nn cn] 44)
  have hbp := Blk.new w 44 #[.int .i64 v, .slice An nn cn]
  have HB1 := Lib.hid hb1
  have HP1 := Lib.hid hbp
  clear hb1 hbp
  go_enter Try.func18, Try.ntmps18
  go_wp2_with fail
  refine (HVA.out _ HB1.out).mono ?_
  rintro e w2 ⟨rfl, hb2⟩
  have HB2 := Lib.hid (bt HB1.out hb2)
  have HP2 := Lib.hid (HP1.out.all hb2)
  clear hb2 HB1 HP1 HVA
  have hni : ¬ ((2047 : Int) < (nn : Int)) := by omega
  clear hnn
  go_wp2_with fail
  refine (HFE.out _ HB2.out).mono ?_
  rintro e w3 ⟨rfl, hb3⟩
  have HB3 := Lib.hid (bt HB2.out hb3)
  have HP3 := Lib.hid (HP2.out.all hb3)
  clear hb3 HB2 HP2 HFE
  obtain ⟨gp, hgp⟩ : ∃ gp, w.heap.size = gp := ⟨_, rfl⟩
  have p0 := HP3.out.cell 0
  have p1 := HP3.out.cell 1
  simp at p0 p1
  have hb4 := HB3.out.alloc HB3.out.size (.cells #[.int .i64 n, .slice A m c, .int .i64 v, .slice An nn cn] 91)
  have hbk := Blk.new w3 91 #[.int .i64 n, .slice A m c, .int .i64 v, .slice An nn cn]
  have HB4 := Lib.hid hb4
  have HK4 := Lib.hid hbk
  have HP4 := Lib.hid (Blk.alloc HP3.out (.cells #[.int .i64 n, .slice A m c, .int .i64 v, .slice An nn cn] 91))
  clear hb4 hbk HB3 HP3
  rw [hgp] at p0 p1 HP4 ⊢
--@1
  go_wp2_with fail
--@2
  obtain ⟨gk, hgk⟩ : ∃ gk, w3.heap.size = gk := ⟨_, rfl⟩
  obtain ⟨w4, hw4⟩ : ∃ w4, w3.alloc (.cells #[.int .i64 n, .slice A m c, .int .i64 v, .slice An nn cn] 91) = w4 := ⟨_, rfl⟩
  rw [hw4] at HB4 HK4 HP4 ⊢
  rw [hgk] at HK4 ⊢
  clear hw4 hgk hgp p0 p1
  have HS : Hid (∀ w', Below w4.heap.size w4 w' → (fun w' => w'.cell? ⟨gp, 0, none⟩ = some (.int .i64 v) ∧ w'.cell? ⟨gp, 1, none⟩ = some (.slice An nn cn) ∧ w'.cell? ⟨gk, 0, none⟩ = some (.int .i64 n) ∧ w'.cell? ⟨gk, 1, none⟩ = some (.slice A m c) ∧ w'.cell? ⟨gk, 2, none⟩ = some (.int .i64 v) ∧ w'.cell? ⟨gk, 3, none⟩ = some (.slice An nn cn)) w') := Lib.hid (fun w' hb => ⟨(HP4.out.all hb).cell 0, (HP4.out.all hb).cell 1, (HK4.out.all hb).cell 0, (HK4.out.all hb).cell 1, (HK4.out.all hb).cell 2, (HK4.out.all hb).cell 3⟩)
  have HBD : Hid (Below w.heap.size w w4.drew) := Lib.hid (below_drewN HB4.out 1)
  refine wp_region_held_drew (S := (fun w' => w'.cell? ⟨gp, 0, none⟩ = some (.int .i64 v) ∧ w'.cell? ⟨gp, 1, none⟩ = some (.slice An nn cn) ∧ w'.cell? ⟨gk, 0, none⟩ = some (.int .i64 n) ∧ w'.cell? ⟨gk, 1, none⟩ = some (.slice A m c) ∧ w'.cell? ⟨gk, 2, none⟩ = some (.int .i64 v) ∧ w'.cell? ⟨gk, 3, none⟩ = some (.slice An nn cn))) (by kernel_rfl) (HS.out _ (below_drewN (Below.refl _ _) 1)) (fun hHeld => ?_)
  refine takeH 0 (some 29) (v := ?_) (by rfl) (by rfl) (by kernel_rfl) (by kernel_rfl) (by kernel_rfl) (fun _ _ _ h => h) ?_ (by assumption) ?_
  rotate_left
  · intro o ho w hSw
    obtain ⟨k0, k1, k2, k3, k4, k5⟩ := hSw
    cases ho
    go_simp
    try with_reducible rfl
  try simp only [Act.put, List.setIfInBounds_toArray, List.set_cons_zero, List.set_cons_succ]
  refine takeH 1 (some 30) (v := ?_) (by rfl) (by rfl) (by kernel_rfl) (by kernel_rfl) (by kernel_rfl) (fun _ _ _ h => h) ?_ (by assumption) ?_
  rotate_left
  · intro o ho w hSw
    obtain ⟨k0, k1, k2, k3, k4, k5⟩ := hSw
    cases ho
    go_simp
    try with_reducible rfl
  try simp only [Act.put, List.setIfInBounds_toArray, List.set_cons_zero, List.set_cons_succ]
  refine takeH 2 (some 31) (v := ?_) (by rfl) (by rfl) (by kernel_rfl) (by kernel_rfl) (by kernel_rfl) (fun _ _ _ h => h) ?_ (by assumption) ?_
  rotate_left
  · intro o ho w hSw
    obtain ⟨k0, k1, k2, k3, k4, k5⟩ := hSw
    cases ho
    go_simp
    try with_reducible rfl
  try simp only [Act.put, List.setIfInBounds_toArray, List.set_cons_zero, List.set_cons_succ]
  refine takeH 3 (some 32) (v := ?_) (by rfl) (by rfl) (by kernel_rfl) (by kernel_rfl) (by kernel_rfl) (fun _ _ _ h => h) ?_ (by assumption) ?_
  rotate_left
  · intro o ho w hSw
    obtain ⟨k0, k1, k2, k3, k4, k5⟩ := hSw
    cases ho
    go_simp
    try with_reducible rfl
  try simp only [Act.put, List.setIfInBounds_toArray, List.set_cons_zero, List.set_cons_succ]
--@3
  refine wpAnyH_ready (rs := [4]) (by kernel_rfl) (by simp) ?_
  refine AllReadyH.cons rfl (fun K hK => ?_) AllReadyH.nil
  go_simp
  go_at_call 26
  (with_reducible refine (HVL.out _ HBD.out).mono ?_)
  rintro e w5 ⟨rfl, rfl⟩
  go_wp2
  refine hK.out _ _ ?_ (fun hHeld5 => ?_)
  · exact (HS.out _ (below_drewN (Below.refl _ _) 1))
  clear hK K
  try simp only [Act.put, List.setIfInBounds_toArray, List.set_cons_zero, List.set_cons_succ]
--@4
  refine takeH 5 (some 34) (v := ?_) (by rfl) (by rfl) (by kernel_rfl) (by kernel_rfl) (by kernel_rfl) (fun _ _ _ h => h) ?_ (by assumption) ?_
  rotate_left
  · intro o ho w hSw
    obtain ⟨k0, k1, k2, k3, k4, k5⟩ := hSw
    cases ho
    go_simp
    try with_reducible rfl
  try simp only [Act.put, List.setIfInBounds_toArray, List.set_cons_zero, List.set_cons_succ]
  refine takeH 6 (some 35) (v := ?_) (by rfl) (by rfl) (by kernel_rfl) (by kernel_rfl) (by kernel_rfl) (fun _ _ _ h => h) ?_ (by assumption) ?_
  rotate_left
  · intro o ho w hSw
    obtain ⟨k0, k1, k2, k3, k4, k5⟩ := hSw
    cases ho
    go_simp
    try with_reducible rfl
  try simp only [Act.put, List.setIfInBounds_toArray, List.set_cons_zero, List.set_cons_succ]
  refine takeH 7 (some 36) (v := ?_) (by rfl) (by rfl) (by kernel_rfl) (by kernel_rfl) (by kernel_rfl) (fun _ _ _ h => h) ?_ (by assumption) ?_
  rotate_left
  · intro o ho w hSw
    obtain ⟨k0, k1, k2, k3, k4, k5⟩ := hSw
    cases ho
    go_simp
    try with_reducible rfl
  try simp only [Act.put, List.setIfInBounds_toArray, List.set_cons_zero, List.set_cons_succ]
  refine wpAnyH_ready (rs := [8]) (by kernel_rfl) (by simp) ?_
  refine AllReadyH.cons rfl (fun K hK => ?_) AllReadyH.nil
  go_simp
  go_at_call 48
  (with_reducible refine (HTR.out _ HBD.out).mono ?_)
  rintro e w6 ⟨rfl, hb6⟩
  have hS6 := undrew hb6
  clear hb6
  go_wp2
  refine hK.out _ _ ?_ (fun hHeld6 => ?_)
  · exact (HS.out _ hS6)
  clear hK K
  try simp only [Act.put, List.setIfInBounds_toArray, List.set_cons_zero, List.set_cons_succ]
--@5
  refine takeH 9 (some 38) (v := ?_) (by rfl) (by rfl) (by kernel_rfl) (by kernel_rfl) (by kernel_rfl) (fun _ _ _ h => h) ?_ (by assumption) ?_
  rotate_left
  · intro o ho w hSw
    obtain ⟨k0, k1, k2, k3, k4, k5⟩ := hSw
    cases ho
    go_simp
    try with_reducible rfl
  try simp only [Act.put, List.setIfInBounds_toArray, List.set_cons_zero, List.set_cons_succ]
  refine takeH 10 (some 39) (v := ?_) (by rfl) (by rfl) (by kernel_rfl) (by kernel_rfl) (by kernel_rfl) (fun _ _ _ h => h) ?_ (by assumption) ?_
  rotate_left
  · intro o ho w hSw
    obtain ⟨k0, k1, k2, k3, k4, k5⟩ := hSw
    cases ho
    go_simp
    try with_reducible rfl
  try simp only [Act.put, List.setIfInBounds_toArray, List.set_cons_zero, List.set_cons_succ]
  refine takeH 11 (some 40) (v := ?_) (by rfl) (by rfl) (by kernel_rfl) (by kernel_rfl) (by kernel_rfl) (fun _ _ _ h => h) ?_ (by assumption) ?_
  rotate_left
  · intro o ho w hSw
    obtain ⟨k0, k1, k2, k3, k4, k5⟩ := hSw
    cases ho
    go_simp
    try with_reducible rfl
  try simp only [Act.put, List.setIfInBounds_toArray, List.set_cons_zero, List.set_cons_succ]
  refine takeH 12 (some 41) (v := ?_) (by rfl) (by rfl) (by kernel_rfl) (by kernel_rfl) (by kernel_rfl) (fun _ _ _ h => h) ?_ (by assumption) ?_
  rotate_left
  · intro o ho w hSw
    obtain ⟨k0, k1, k2, k3, k4, k5⟩ := hSw
    cases ho
    go_simp
    try with_reducible rfl
  try simp only [Act.put, List.setIfInBounds_toArray, List.set_cons_zero, List.set_cons_succ]
  refine takeH 13 (some 42) (v := ?_) (by rfl) (by rfl) (by kernel_rfl) (by kernel_rfl) (by kernel_rfl) (fun _ _ _ h => h) ?_ (by assumption) ?_
  rotate_left
  · intro o ho w hSw
    obtain ⟨k0, k1, k2, k3, k4, k5⟩ := hSw
    cases ho
    go_simp
    try with_reducible rfl
  try simp only [Act.put, List.setIfInBounds_toArray, List.set_cons_zero, List.set_cons_succ]
  refine takeH 14 (some 43) (v := ?_) (by rfl) (by rfl) (by kernel_rfl) (by kernel_rfl) (by kernel_rfl) (fun _ _ _ h => h) ?_ (by assumption) ?_
  rotate_left
  · intro o ho w hSw
    obtain ⟨k0, k1, k2, k3, k4, k5⟩ := hSw
    cases ho
    go_simp
    try with_reducible rfl
  try simp only [Act.put, List.setIfInBounds_toArray, List.set_cons_zero, List.set_cons_succ]
--@6
  obtain ⟨i0, hi, hz0, hz1, hz2⟩ := info_parts int_info
  obtain ⟨w7, hmk, hown7, hb7, hlt7⟩ := make_all (P := Try.prog) w6 22 3 i0 _ 8 Try.underlying22 hi hz0 hz1 hz2 rfl .i64 .i64 m (by omega) (by unfold maxLen; omega)
  have hS7 := bt hS6 hb7
  have HI7 : Hid (NIn w7 w7.heap.size (some ⟨w6.heap.size, 0, none⟩, m, m) (List.replicate m 0)) := Lib.hid (NIn.own (by rw [List.map_replicate]; exact hown7))
  clear hi hz0 hz1 hz2 hown7 hb7 hlt7
  refine wpAnyH_ready (rs := [15]) (by kernel_rfl) (by simp) ?_
  refine AllReadyH.cons rfl (fun K hK => ?_) AllReadyH.nil
  go_simp
  refine hK.out _ _ ?_ (fun hHeld7 => ?_)
  · exact HS.out _ hS7
  clear hK K hmk
  try simp only [Act.put, List.setIfInBounds_toArray, List.set_cons_zero, List.set_cons_succ]
--@7
  refine wpAnyH_ready (rs := [16]) (by kernel_rfl) (by simp) ?_
  refine AllReadyH.cons rfl (fun K hK => ?_) AllReadyH.nil
  go_simp
  go_at_call 49
  (with_reducible refine (HHO.out _ _ (bt HB4.out hS7) HI7.out).mono ?_)
  rintro e w8 ⟨rfl, hb8⟩
  have hS8 := bt hS7 hb8
  clear hb8
  go_wp2
  refine hK.out _ _ ?_ (fun hHeld8 => ?_)
  · exact (HS.out _ hS8)
  clear hK K
  try simp only [Act.put, List.setIfInBounds_toArray, List.set_cons_zero, List.set_cons_succ]
--@8
  refine takeH 17 (some 46) (v := ?_) (by rfl) (by rfl) (by kernel_rfl) (by kernel_rfl) (by kernel_rfl) (fun _ _ _ h => h) ?_ (by assumption) ?_
  rotate_left
  · intro o ho w hSw
    obtain ⟨k0, k1, k2, k3, k4, k5⟩ := hSw
    cases ho
    go_simp
    try with_reducible rfl
  try simp only [Act.put, List.setIfInBounds_toArray, List.set_cons_zero, List.set_cons_succ]
  refine takeH 18 (some 47) (v := ?_) (by rfl) (by rfl) (by kernel_rfl) (by kernel_rfl) (by kernel_rfl) (fun _ _ _ h => h) ?_ (by assumption) ?_
  rotate_left
  · intro o ho w hSw
    obtain ⟨k0, k1, k2, k3, k4, k5⟩ := hSw
    cases ho
    go_simp
    try with_reducible rfl
  try simp only [Act.put, List.setIfInBounds_toArray, List.set_cons_zero, List.set_cons_succ]
  refine wpAnyH_done (by kernel_rfl) ?_ _
  have HB8 := Lib.hid (bt HB4.out hS8)
--@9
  go_wp2_with fail
  go_ret
  exact ⟨rfl, HB8.out⟩
end Go.Proofs.Ytikfcpkobgejmaa

/- proof: Check, of any arguments. -/
namespace Go.Proofs.Ytikfcpkobgejmaa
open Go.RowKit

set_option maxHeartbeats 1000000 in
theorem check_any (n : Int) (A : Option Addr) (m c : Nat) (Aw : Option Addr) (nw cw : Nat) (v : Int) (An : Option Addr) (nn cn : Nat) (L : List Bd) (win : List Int) (N : List Nd) (w : World)
    (HL : Hid (Bds w (A, m, c) L)) (HW : Hid (NIn w w.heap.size (Aw, nw, cw) win)) (HN : Hid (Nds w (An, nn, cn) N)) (hw : nw ≤ 1000000) :
    Calls Try.prog 18 #[.int .i64 n, .slice A m c, .slice Aw nw cw, .agg #[.int .i64 v, .slice An nn cn]] w fun e w' => e = .returned (.int .i64 (checkE n L win v N)) ∧ Below w.heap.size w w' := by
  have hlm : L.length = m := HL.out.rows.len
  have hnl : N.length = nn := HN.out.rows.len
  have hva := fun (w' : World) (hb : Below w.heap.size w w') => valid_any n (A, m, c) L w' (Lib.hid (HL.out.all hb))
  unfold slV at hva
  dsimp only at hva
  unfold checkE
  by_cases he : validE n L = 0
  rotate_left
  · rw [if_neg he]
    exact chk_valid n A m c Aw nw cw v An nn cn w _ he (Lib.hid hva)
  rw [if_pos he]
  rw [he] at hva
  obtain ⟨hn1, hn8, hL, HB⟩ := valid_ok he HL.out
  have hfe := fun (w' : World) (hb : Below w.heap.size w w') => feasible_any (A, m, c) (Aw, nw, cw) L win w' (Lib.hid (HL.out.all hb)) (Lib.hid (NIn.all HW.out hb)) hw (Lib.hid (fun b hb => by have := (HB b hb).2.2.1; omega))
  have hvl := fun (w' : World) (hb : Below w.heap.size w w') => value_any (A, m, c) (Aw, nw, cw) L win w' (Lib.hid (HL.out.all hb)) (Lib.hid (NIn.all HW.out hb)) (Lib.hid HB.prices) hw
  unfold slV at hfe hvl
  dsimp only at hfe hvl
  cases hf : feasB L win with
  | false =>
    rw [hf] at hfe
    rw [if_neg (by simp)]
    exact chk_feas n A m c Aw nw cw v An nn cn w (Lib.hid hva) (Lib.hid hfe)
  | true =>
  rw [hf] at hfe
  rw [if_pos rfl]
  by_cases hnn : 2047 < N.length
  · rw [if_pos hnn]
    exact chk_long n A m c Aw nw cw v An nn cn w (by omega) (Lib.hid hva) (Lib.hid hfe)
  rw [if_neg hnn]
  obtain ⟨k, rfl⟩ := Int.eq_ofNat_of_zero_le (show 0 ≤ n by omega)
  have htr := fun (w' : World) (hb : Below w.heap.size w w') => isTree_any (k : Int) A m c v An nn cn N w' (Lib.hid (HN.out.all hb)) (by omega)
  by_cases hv : v = valueB L win
  rotate_left
  · rw [if_neg (by simp [proofB, hv])]
    exact chk_value (k : Int) A m c Aw nw cw v An nn cn w (valueB L win) (by omega) (Lib.hid hva) (Lib.hid hfe) (Lib.hid hvl) (by simpa using hv)
  cases ht : treeB N with
  | false =>
    rw [ht] at htr
    rw [if_neg (by simp [proofB, ht])]
    exact chk_tree (k : Int) A m c Aw nw cw v An nn cn w (valueB L win) (by omega) (Lib.hid hva) (Lib.hid hfe) (Lib.hid hvl) (by simpa using hv) (Lib.hid htr)
  | true =>
  rw [ht] at htr
  obtain ⟨h0, hk⟩ := treeB_ok ht
  rw [hnl] at h0 hk
  have hho := fun (gs : Nat) (w' : World) (hb : Below w.heap.size w w') (hs : NIn w' w'.heap.size (some ⟨gs, 0, none⟩, m, m) (List.replicate m 0)) => holds_any k A m c v An nn cn L N (by omega) (by omega) (Lib.hid (by simpa using HB)) (by omega) (Lib.hid hk) nn 0 (some ⟨gs, 0, none⟩) m (List.replicate m 0) w' (Lib.hid (HL.out.all hb)) (Lib.hid (HN.out.all hb)) (Lib.hid hs) h0 (by omega)
  have hpb : proofB (k : Int).toNat L win v N = holdsF k L v N nn 0 (List.replicate m 0) := by
    unfold proofB
    rw [Int.toNat_natCast, ht, decide_eq_true hv, hnl, hlm]
    rfl
  rw [hpb]
  cases hh : holdsF k L v N nn 0 (List.replicate m 0) with
  | false =>
    rw [hh] at hho
    rw [if_neg (by simp)]
    exact chk_holds (k : Int) A m c Aw nw cw v An nn cn w (valueB L win) (by omega) (Lib.hid hva) (Lib.hid hfe) (Lib.hid hvl) (by omega) (by simpa using hv) (Lib.hid htr) (Lib.hid hho)
  | true =>
    rw [hh] at hho
    rw [if_pos rfl]
    exact chk_ok (k : Int) A m c Aw nw cw v An nn cn w (valueB L win) (by omega) (Lib.hid hva) (Lib.hid hfe) (Lib.hid hvl) (by omega) (by simpa using hv) (Lib.hid htr) (Lib.hid hho)
end Go.Proofs.Ytikfcpkobgejmaa
