/- For every list of numbers worldmintlaw29.ProofChecks returns true: Check answers as the reference does, for six certificates. No condition. -/
import Derived.Test.YtikfcpkobgejmaaGProofChecks14

/- For every list of numbers worldmintlaw29.ProofChecks returns true: Check answers as the reference does, for six certificates. No condition. -/
namespace Go.Proofs.Ytikfcpkobgejmaa
open Go.ChangeShapes Go.WideShapes Go.ChangeAt Go.RowKit Go.ChangeMaps

theorem td7_ok (x : Int) (h1 : -9223372036854775808 ≤ x) (h2 : x ≤ 9223372036854775807) : -9223372036854775808 ≤ x.tdiv 7 ∧ x.tdiv 7 ≤ 9223372036854775807 := by
  rcases Int.le_total 0 x with h | h
  · have := td_ok x 7 h (by omega)
    omega
  · obtain ⟨y, hy⟩ : ∃ y, -x = y := ⟨_, rfl⟩
    obtain rfl : x = -y := by omega
    have := td_ok y 7 (by omega) (by omega)
    rw [Int.neg_tdiv]
    omega
/-- A certificate: its value, its slice of nodes, and these. -/
structure Cf where
  v : Int
  s : Sl
  N : List Nd
def Cf.cells (x : Cf) : List Value := [.int .i64 x.v, slV x.s]
theorem Cf.cells_length (x : Cf) : x.cells.length = 2 := rfl
structure Cfs (w : World) (g : Nat) (L : List Cf) : Prop where
  rows : Rows Cf.cells 2 w (some ⟨g, 0, none⟩, 6, 6) L
  ok : ∀ x ∈ L, Nds w x.s x.N ∧ x.s.2.1 ≤ 10000
theorem Cfs.all {w w' : World} {g : Nat} {L : List Cf} (h : Cfs w g L) (hb : Below w.heap.size w w') : Cfs w' g L := ⟨h.rows.all hb, fun x hx => ⟨(h.ok x hx).1.all hb, (h.ok x hx).2⟩⟩
theorem Cfs.get {w : World} {g : Nat} {L : List Cf} (h : Cfs w g L) {i : Nat} (hi : i < 6) : ∃ v A n c N, w.cell? ⟨g, i * 2, none⟩ = some (.int .i64 v) ∧ w.cell? ⟨g, i * 2 + 1, none⟩ = some (.slice A n c) ∧ Nds w (A, n, c) N ∧ n ≤ 10000 := by
  have hl : i < L.length := by rw [h.rows.len]; exact hi
  obtain ⟨b, off, e, -, hc⟩ := h.rows.cells Cf.cells_length hl (by decide)
  injection e with e
  injection e with e1 e2 _
  subst e1 e2
  have h0 := hc 0 (.int .i64 L[i].v) rfl
  have h1 := hc 1 (slV L[i].s) rfl
  rw [Nat.zero_add] at h0 h1
  have hk := h.ok _ (List.getElem_mem hl)
  obtain ⟨x, hx⟩ : ∃ x, L[i] = x := ⟨_, rfl⟩
  rw [hx] at h0 h1 hk
  obtain ⟨v, ⟨A, n, c⟩, N⟩ := x
  exact ⟨v, A, n, c, N, h0, h1, hk.1, hk.2⟩
theorem alt_small {N N' : List Nd} {n : Int} {m : Nat} (h : NdsAlt N n N') (hN : ∀ x ∈ N, x.s.2.1 ≤ m) : ∀ x ∈ N', x.s.2.1 ≤ m + 1 := fun x hx => by
  rcases h x hx with rfl | ⟨y, hy, -, -, -, h4, -⟩
  · simp [nl0]
  · have := hN y hy
    omega

set_option maxRecDepth 100000 in
set_option maxHeartbeats 8000000 in
theorem ProofChecks_walk (W : World) (a0 : Int) (ha0 : Hid ((Lit.int .i64 a0).wf = true)) (A1 : Option Addr) (n1 c1 : Nat) (f1 : Nat → Int) (_hA1 : A1 = none → n1 = 0) (_hn1 : n1 ≤ c1) (_hc1 : c1 ≤ 9223372036854775807) (hR1 : Rd W W.heap.size A1 n1 (fun j => .int .i64 (f1 j))) (hw1 : Hid (∀ j, j < n1 → (Lit.int .i64 (f1 j)).wf = true)) (A2 : Option Addr) (n2 c2 : Nat) (f2 : Nat → Int) (_hA2 : A2 = none → n2 = 0) (_hn2 : n2 ≤ c2) (_hc2 : c2 ≤ 9223372036854775807) (hR2 : Rd W W.heap.size A2 n2 (fun j => .int .i64 (f2 j))) (hw2 : Hid (∀ j, j < n2 → (Lit.int .i64 (f2 j)).wf = true)) (a3 : Int) (ha3 : Hid ((Lit.int .i64 a3).wf = true)) (a4 : Int) (ha4 : Hid ((Lit.int .i64 a4).wf = true)) (a5 : Int) (ha5 : Hid ((Lit.int .i64 a5).wf = true)) (a6 : Int) (ha6 : Hid ((Lit.int .i64 a6).wf = true)) :
    Calls Try.prog 3 #[.int .i64 a0, .slice A1 n1 c1, .slice A2 n2 c2, .int .i64 a3, .int .i64 a4, .int .i64 a5, .int .i64 a6] W fun e w' => e = .returned (.bool true) ∧ Below W.heap.size W w' := by
  obtain ⟨p00, p01⟩ := wf_i64 ha0.out
  obtain ⟨p30, p31⟩ := wf_i64 ha3.out
  obtain ⟨p40, p41⟩ := wf_i64 ha4.out
  obtain ⟨p50, p51⟩ := wf_i64 ha5.out
  obtain ⟨p60, p61⟩ := wf_i64 ha6.out
  have HR1 := Lib.hid hR1
  have HR2 := Lib.hid hR2
  have HW1 : Hid (∀ j, j < n1 → -9223372036854775808 ≤ f1 j ∧ f1 j ≤ 9223372036854775807) := Lib.hid (fun j hj => wf_i64 (hw1.out j hj))
  have HW2 : Hid (∀ j, j < n2 → -9223372036854775808 ≤ f2 j ∧ f2 j ≤ 9223372036854775807) := Lib.hid (fun j hj => wf_i64 (hw2.out j hj))
  clear hR1 hR2 hw1 hw2 ha0 ha3 ha4 ha5 ha6
  go_enter Try.func3, Try.ntmps3
  go_wp2_with fail
  refine (lots27_any a0 W p00 p01).mono ?_
  rintro e w1 ⟨k, rfl, hk1, hk8, rfl⟩
  go_wp2_with fail
  refine (bids_any k A1 n1 c1 f1 6 6 (by rfl) W hk1 hk8 (by omega) HR1.out HW1).mono ?_
  rintro e w2 ⟨Aa, ca, La, rfl, hla, hoa, hOa, hva, hb2⟩
  have HBA2 : Hid (Bds w2 (Aa, La.length, ca) La) := Lib.hid (Bds.of_own hoa (fun b hb => (hOa b hb).ok))
  have HVA : Hid (validE (k : Int) La = 0) := Lib.hid (by
    unfold validE
    rw [if_neg (by omega), if_neg (by omega)]
    exact hva)
  have HOK := Lib.hid (BidsOk.of_valid HVA.out HBA2.out)
  have HLS : Hid (∀ b ∈ La, b.s.2.1 ≤ 1000000) := Lib.hid (fun b hb => by have := (HOK.out b hb).2.2.1; omega)
  obtain ⟨m, hm⟩ : ∃ m, La.length = m := ⟨_, rfl⟩
  have HLam := Lib.hid hm
  rw [hm] at HBA2 hla ⊢
  have HB2 := Lib.hid hb2
  clear hoa hOa hva hb2 hm
  go_wp2_with fail
  refine (rwin_any k Aa m ca La a3 w2 HBA2 HVA p30 p31).mono ?_
  rintro e w4 ⟨Aw, nw, cw, win, rfl, hW4, -, hnw, hb4⟩
  have HW4 := Lib.hid hW4
  have HBA4 := Lib.hid (HBA2.out.all hb4)
  have HB4 := Lib.hid (bt HB2.out hb4)
  clear hW4 hb4 HBA2 HB2
  have HVL := Lib.hid (rvalue_any (Aa, m, ca) (Aw, nw, cw) La win w4 HBA4 HW4 (Lib.hid HOK.out.prices) (by dsimp only; omega))
  unfold slV at HVL
  dsimp only at HVL
  obtain ⟨v, hv⟩ : ∃ v, valueB La win = v := ⟨_, rfl⟩
  rw [hv] at HVL
  clear hv
  go_wp2_with (go_at_call 13; (with_reducible refine HVL.out.mono ?_); rintro e w4b ⟨rfl, rfl⟩)
  clear HVL
  refine (full_any k Aa m ca v La w4 HBA4 (by omega) hk8 HLS).mono ?_
  rintro e w5 ⟨Af, mf, cf, Nf, rfl, hmf0, hmf, hNf, hb5⟩
  have HB5 := Lib.hid (bt HB4.out hb5)
  have HA6 : Hid (Below w5.heap.size w5 (w5.alloc (.cells #[.int .i64 v, .slice Af mf cf] 30))) := Lib.hid ((Below.refl _ _).alloc (Nat.le_refl _) _)
  have HBA6 := Lib.hid ((HBA4.out.all hb5).all HA6.out)
  have HW6 := Lib.hid (NIn.all (NIn.all HW4.out hb5) HA6.out)
  have HNF6 := Lib.hid (hNf.ndsT.all HA6.out)
  have HNS : Hid (∀ x ∈ Nf, x.s.2.1 ≤ 1000000) := Lib.hid (fun x hx => by have := (hNf.fine x hx).1; omega)
  have HNS9 : Hid (∀ x ∈ Nf, x.s.2.1 ≤ 8) := Lib.hid (fun x hx => (hNf.fine x hx).1)
  obtain ⟨g1, hg1⟩ : ∃ g, w5.heap.size = g := ⟨_, rfl⟩
  have HK16 : Hid (Blk (w5.alloc (.cells #[.int .i64 v, .slice Af mf cf] 30)) g1 30 #[.int .i64 v, .slice Af mf cf]) := Lib.hid (by rw [← hg1]; exact Blk.new _ _ _)
  have HB6 := Lib.hid (bt HB5.out HA6.out)
  clear hNf hb5 HBA4 HW4 HB4 HB5
  go_upto_region 6 with (fail)
  obtain ⟨w6, hw6⟩ : ∃ w6, w5.alloc (.cells #[.int .i64 v, .slice Af mf cf] 30) = w6 := ⟨_, rfl⟩
  try rw [hg1]
  rw [hw6] at HBA6 HW6 HNF6 HK16 HB6 ⊢
  clear hw6 hg1 HA6
  go_wp2_with fail
  refine (lots28_any k A2 n2 c2 f2 w6 hk8 (HR2.out.all HB6.out) HW2).mono ?_
  rintro e w7 ⟨Ap, cp, P, rfl, hoP, hlP, -, hb7⟩
  have HP7 := Lib.hid (TI.own hoP)
  have HB7 := Lib.hid (bt HB6.out hb7)
  have HBA7 := Lib.hid (HBA6.out.all hb7)
  have HW7 := Lib.hid (NIn.all HW6.out hb7)
  have HNF7 := Lib.hid (HNF6.out.all hb7)
  have HK17 := Lib.hid (HK16.out.all hb7)
  clear hoP hlP hb7 HBA6 HW6 HNF6 HK16 HB6
  go_upto_region 7 with (fail)
  obtain ⟨gm, hgm⟩ : ∃ gm, w7.heap.size = gm := ⟨_, rfl⟩
  obtain ⟨w8, hw8⟩ : ∃ w8, (w7.alloc (.cells #[.int .i64 (-1), .int .i64 0, .int .i64 0, .slice Ap k cp] 34)).alloc (.cells #[.int .i64 v, .slice (some ⟨gm, 0, none⟩) 1 1] 30) = w8 := ⟨_, rfl⟩
  have hkm : Blk w8 gm 34 #[.int .i64 (-1), .int .i64 0, .int .i64 0, .slice Ap k cp] := by
    rw [← hw8, ← hgm]
    exact Blk.alloc (Blk.new _ _ _) _
  have HK2 : Hid (Blk w8 (gm + 1) 30 #[.int .i64 v, .slice (some ⟨gm, 0, none⟩) 1 1]) := Lib.hid (by
    rw [← hw8]
    exact Blk.new' _ _ _ (by rw [World.size_alloc, hgm]))
  have hb8 : Below w7.heap.size w7 w8 := by
    rw [← hw8]
    exact ((Below.refl _ _).alloc (Nat.le_refl _) _).alloc (by simp) _
  have HNM : Hid (NdsT w8 (some ⟨gm, 0, none⟩, 1, 1) [⟨-1, 0, 0, (Ap, k, cp), P⟩]) := Lib.hid ⟨Rows.of_blk hkm Nd.cells_length rfl rfl (by decide), fun _ => ⟨gm, 0, rfl, hkm.ty⟩, fun b hb => by
    rw [List.mem_singleton] at hb
    subst hb
    exact HP7.out.all hb8⟩
  have HNSM : Hid (∀ x ∈ [(⟨-1, 0, 0, (Ap, k, cp), P⟩ : Nd)], x.s.2.1 ≤ 1000000) := Lib.hid (fun x hx => by
    rw [List.mem_singleton] at hx
    subst hx
    dsimp only
    omega)
  have HBA := Lib.hid (HBA7.out.all hb8)
  have HW := Lib.hid (NIn.all HW7.out hb8)
  have HNF := Lib.hid (HNF7.out.all hb8)
  have HK1 := Lib.hid (HK17.out.all hb8)
  have HB8 := Lib.hid (bt HB7.out hb8)
  try rw [hgm]
  rw [hw8]
  obtain ⟨g2, hg2⟩ : ∃ g, gm + 1 = g := ⟨_, rfl⟩
  rw [hg2] at HK2 ⊢
  clear hgm hw8 hkm hb8 HP7 HBA7 HW7 HNF7 HK17 HB7 hg2
  have hS10 : Below w8.heap.size w8 w8.drew := below_drewN (Below.refl _ _) 1
--@1
  refine wp_region_held_drew (S := (fun w' => w'.cell? ⟨g1, 0, none⟩ = some (.int .i64 v) ∧ w'.cell? ⟨g1, 1, none⟩ = some (.slice Af mf cf))) (by kernel_rfl) ⟨(HK1.out.all hS10).cell 0, (HK1.out.all hS10).cell 1⟩ (fun hHeld => ?_)
  refine takeH 0 (some 47) (v := ?_) (by rfl) (by rfl) (by kernel_rfl) (by kernel_rfl) (by kernel_rfl) (fun _ _ _ h => h) ?_ (by assumption) ?_
  rotate_left
  · (intro o ho w hSw; obtain ⟨z0, z1⟩ := hSw; cases ho; go_simp; try with_reducible rfl)
  try simp only [Act.put, List.setIfInBounds_toArray, List.set_cons_zero, List.set_cons_succ]
  refine takeH 1 (some 48) (v := ?_) (by rfl) (by rfl) (by kernel_rfl) (by kernel_rfl) (by kernel_rfl) (fun _ _ _ h => h) ?_ (by assumption) ?_
  rotate_left
  · (intro o ho w hSw; obtain ⟨z0, z1⟩ := hSw; cases ho; go_simp; try with_reducible rfl)
  try simp only [Act.put, List.setIfInBounds_toArray, List.set_cons_zero, List.set_cons_succ]
  refine takeH 2 (some 49) (v := ?_) (by rfl) (by rfl) (by kernel_rfl) (by kernel_rfl) (by kernel_rfl) (fun _ _ _ h => h) ?_ (by assumption) ?_
  rotate_left
  · (intro o ho w hSw; obtain ⟨z0, z1⟩ := hSw; cases ho; go_simp; try with_reducible rfl)
  try simp only [Act.put, List.setIfInBounds_toArray, List.set_cons_zero, List.set_cons_succ]
  refine takeH 3 (some 50) (v := ?_) (by rfl) (by rfl) (by kernel_rfl) (by kernel_rfl) (by kernel_rfl) (fun _ _ _ h => h) ?_ (by assumption) ?_
  rotate_left
  · (intro o ho w hSw; obtain ⟨z0, z1⟩ := hSw; cases ho; go_simp; try with_reducible rfl)
  try simp only [Act.put, List.setIfInBounds_toArray, List.set_cons_zero, List.set_cons_succ]
  refine wpAnyH_ready (rs := [4, 7]) (by kernel_rfl) (by simp) ?_
  refine AllReadyH.cons rfl (fun K hK => ?_) (AllReadyH.cons rfl (fun K hK => ?_) AllReadyH.nil)
  · go_simp
    go_at_call 17
    (refine (around_nat a6 12 12 _ (by rfl) p60 p61 (by omega) (by omega)).mono ?_)
    rintro e w11 ⟨r, rfl, hr, -, rfl⟩
    have hrw : IntKind.i64.wrap ((r : Int) - 2) = (r : Int) - 2 := by rw [IntKind.wrap_i64]; omega
    go_wp2
    refine hK.out _ _ ?_ (fun hh4 => ?_)
    · exact ⟨(HK1.out.all hS10).cell 0, (HK1.out.all hS10).cell 1⟩
    clear hK K
    try simp only [Act.put, List.setIfInBounds_toArray, List.set_cons_zero, List.set_cons_succ]
    refine takeH 5 (some 52) (v := ?_) (by rfl) (by rfl) (by kernel_rfl) (by kernel_rfl) (by kernel_rfl) (fun _ _ _ h => h) ?_ (by assumption) ?_
    rotate_left
    · (intro o ho w hSw; obtain ⟨z0, z1⟩ := hSw; cases ho; go_simp; try with_reducible rfl)
    try simp only [Act.put, List.setIfInBounds_toArray, List.set_cons_zero, List.set_cons_succ]
    refine wpAnyH_ready (rs := [6, 7]) (by kernel_rfl) (by simp) ?_
    refine AllReadyH.cons rfl (fun K hK => ?_) (AllReadyH.cons rfl (fun K hK => ?_) AllReadyH.nil)
    · go_simp
      go_at_call 16
      try rw [hrw]
      (refine (spoilt29_any v Af mf cf Nf a4 a5 ((r : Int) - 2) _ (Lib.hid (HNF.out.all hS10)) (by omega) HNS p40 p41 p50 p51).mono ?_)
      rintro e w3 ⟨v3, A3, m3, c3, N3, rfl, hm3, hN3, hb3, hal3, -⟩
      have hS3 := bt hS10 hb3
      have HN3 := Lib.hid hN3
      have HAL3 := Lib.hid hal3
      have hT3 := hb3
      clear hb3 hN3 hal3
      go_wp2
      refine hK.out _ _ ?_ (fun hh6 => ?_)
      · exact ⟨(HK1.out.all hS3).cell 0, (HK1.out.all hS3).cell 1⟩
      clear hK K
      try simp only [Act.put, List.setIfInBounds_toArray, List.set_cons_zero, List.set_cons_succ]
      refine wpAnyH_ready (rs := [7]) (by kernel_rfl) (by simp) ?_
      refine AllReadyH.cons rfl (fun K hK => ?_) AllReadyH.nil
      go_simp
      refine hK.out _ _ ?_ (fun hh7 => ?_)
      · exact ⟨(HK1.out.all (bt hS3 ((Below.refl _ _).alloc (Nat.le_refl _) (.cells #[.int .i64 0, .slice none 0 0] 30)))).cell 0, (HK1.out.all (bt hS3 ((Below.refl _ _).alloc (Nat.le_refl _) (.cells #[.int .i64 0, .slice none 0 0] 30)))).cell 1⟩
      clear hK K
      try simp only [Act.put, List.setIfInBounds_toArray, List.set_cons_zero, List.set_cons_succ]
      refine wpAnyH_ready (rs := [8]) (by kernel_rfl) (by simp) ?_
      refine AllReadyH.cons rfl (fun K hK => ?_) AllReadyH.nil
      clear hHeld
      go_simp
      have HB9 : Hid (Below w8.heap.size w8 (w3.alloc (.cells #[.int .i64 v3, .slice A3 m3 c3] 30))) := Lib.hid (bt hS3 ((Below.refl _ _).alloc (Nat.le_refl _) _))
      have HK39 : Hid (Blk (w3.alloc (.cells #[.int .i64 v3, .slice A3 m3 c3] 30)) w3.heap.size 30 #[.int .i64 v3, .slice A3 m3 c3]) := Lib.hid (Blk.new _ _ _)
      have HN9 : Hid (NdsT (w3.alloc (.cells #[.int .i64 v3, .slice A3 m3 c3] 30)) (A3, m3, c3) N3) := Lib.hid (HN3.out.all ((Below.refl _ _).alloc (Nat.le_refl _) _))
      refine hK.out _ _ ?_ (fun hh8 => ?_)
      · exact ⟨(HK1.out.all HB9.out).cell 0, (HK1.out.all HB9.out).cell 1⟩
      clear hK K
      refine wpAnyH_done (by kernel_rfl) ?_ _
      obtain ⟨w9, hw9⟩ : ∃ w9, w3.alloc (.cells #[.int .i64 v3, .slice A3 m3 c3] 30) = w9 := ⟨_, rfl⟩
      obtain ⟨g3, hg3⟩ : ∃ g, w3.heap.size = g := ⟨_, rfl⟩
      rw [hw9] at HB9 HK39 HN9 ⊢
      rw [hg3] at HK39 ⊢
      have HK3 := Lib.hid HK39.out
      have HBA9 := Lib.hid (HBA.out.all HB9.out)
      have HW9 := Lib.hid (NIn.all HW.out HB9.out)
      have HNF9 := Lib.hid (HNF.out.all HB9.out)
      have HNM9 := Lib.hid (HNM.out.all HB9.out)
      have HK19 := Lib.hid (HK1.out.all HB9.out)
      have HK29 := Lib.hid (HK2.out.all HB9.out)
      have HB89 := Lib.hid (bt HB8.out HB9.out)
      clear hw9 hg3 HK39 HBA HW HNF HNM HK1 HK2 HB8 HB9 HN3 hh4 hh6 hh7 hh8 hS10 hS3 hT3 hrw
      have HBA := HBA9
      have HW := HW9
      have HNF := HNF9
      have HNM := HNM9
      have HN3 := HN9
      have HK1 := HK19
      have HK2 := HK29
      have HB8 := HB89
      clear HBA9 HW9 HNF9 HNM9 HN9 HK19 HK29 HB89
      have hS13 : Below w9.heap.size w9 w9.drew := below_drewN (Below.refl _ _) 1
      go_wp2
    --@2
      have HNS3 : Hid (∀ x ∈ N3, x.s.2.1 ≤ 1000000) := Lib.hid (fun x hx => by have := alt_small HAL3.out HNS9.out x hx; omega)
      have HQ4 := td7_ok a4 p40 p41
      have HQ5 := td7_ok a5 p50 p51
      obtain ⟨q4, hq4⟩ : ∃ q, a4.tdiv 7 = q := ⟨_, rfl⟩
      obtain ⟨q5, hq5⟩ : ∃ q, a5.tdiv 7 = q := ⟨_, rfl⟩
      rw [hq4] at HQ4
      rw [hq5] at HQ5
      obtain ⟨hq40, hq41⟩ := HQ4
      obtain ⟨hq50, hq51⟩ := HQ5
      have hqw4 : IntKind.i64.wrap q4 = q4 := by rw [IntKind.wrap_i64]; omega
      have hqw5 : IntKind.i64.wrap q5 = q5 := by rw [IntKind.wrap_i64]; omega
    --@3
      refine wp_region_held_drew (S := (fun w' => w'.cell? ⟨g1, 0, none⟩ = some (.int .i64 v) ∧ w'.cell? ⟨g1, 1, none⟩ = some (.slice Af mf cf) ∧ w'.cell? ⟨g2, 0, none⟩ = some (.int .i64 v) ∧ w'.cell? ⟨g2, 1, none⟩ = some (.slice (some ⟨gm, 0, none⟩) 1 1) ∧ w'.cell? ⟨g3, 0, none⟩ = some (.int .i64 v3) ∧ w'.cell? ⟨g3, 1, none⟩ = some (.slice A3 m3 c3))) (by kernel_rfl) ⟨(HK1.out.all hS13).cell 0, (HK1.out.all hS13).cell 1, (HK2.out.all hS13).cell 0, (HK2.out.all hS13).cell 1, (HK3.out.all hS13).cell 0, (HK3.out.all hS13).cell 1⟩ (fun hHeld => ?_)
      refine takeH 0 (some 54) (v := ?_) (by rfl) (by rfl) (by kernel_rfl) (by kernel_rfl) (by kernel_rfl) (fun _ _ _ h => h) ?_ (by assumption) ?_
      rotate_left
      · (intro o ho w hSw; obtain ⟨z0, z1, z2, z3, z4, z5⟩ := hSw; cases ho; go_simp; try with_reducible rfl)
      try simp only [Act.put, List.setIfInBounds_toArray, List.set_cons_zero, List.set_cons_succ]
      refine takeH 1 (some 55) (v := ?_) (by rfl) (by rfl) (by kernel_rfl) (by kernel_rfl) (by kernel_rfl) (fun _ _ _ h => h) ?_ (by assumption) ?_
      rotate_left
      · (intro o ho w hSw; obtain ⟨z0, z1, z2, z3, z4, z5⟩ := hSw; cases ho; go_simp; try with_reducible rfl)
      try simp only [Act.put, List.setIfInBounds_toArray, List.set_cons_zero, List.set_cons_succ]
      refine takeH 2 (some 56) (v := ?_) (by rfl) (by rfl) (by kernel_rfl) (by kernel_rfl) (by kernel_rfl) (fun _ _ _ h => h) ?_ (by assumption) ?_
      rotate_left
      · (intro o ho w hSw; obtain ⟨z0, z1, z2, z3, z4, z5⟩ := hSw; cases ho; go_simp; try with_reducible rfl)
      try simp only [Act.put, List.setIfInBounds_toArray, List.set_cons_zero, List.set_cons_succ]
      refine takeH 3 (some 57) (v := ?_) (by rfl) (by rfl) (by kernel_rfl) (by kernel_rfl) (by kernel_rfl) (fun _ _ _ h => h) ?_ (by assumption) ?_
      rotate_left
      · (intro o ho w hSw; obtain ⟨z0, z1, z2, z3, z4, z5⟩ := hSw; cases ho; go_simp; try with_reducible rfl)
      try simp only [Act.put, List.setIfInBounds_toArray, List.set_cons_zero, List.set_cons_succ]
      refine takeH 4 (some 58) (v := ?_) (by rfl) (by rfl) (by kernel_rfl) (by kernel_rfl) (by kernel_rfl) (fun _ _ _ h => h) ?_ (by assumption) ?_
      rotate_left
      · (intro o ho w hSw; obtain ⟨z0, z1, z2, z3, z4, z5⟩ := hSw; cases ho; go_simp; try with_reducible rfl)
      try simp only [Act.put, List.setIfInBounds_toArray, List.set_cons_zero, List.set_cons_succ]
      refine takeH 5 (some 59) (v := ?_) (by rfl) (by rfl) (by kernel_rfl) (by kernel_rfl) (by kernel_rfl) (fun _ _ _ h => h) ?_ (by assumption) ?_
      rotate_left
      · (intro o ho w hSw; obtain ⟨z0, z1, z2, z3, z4, z5⟩ := hSw; cases ho; go_simp; try with_reducible rfl)
      try simp only [Act.put, List.setIfInBounds_toArray, List.set_cons_zero, List.set_cons_succ]
      refine takeH 6 (some 60) (v := ?_) (by rfl) (by rfl) (by kernel_rfl) (by kernel_rfl) (by kernel_rfl) (fun _ _ _ h => h) ?_ (by assumption) ?_
      rotate_left
      · (intro o ho w hSw; obtain ⟨z0, z1, z2, z3, z4, z5⟩ := hSw; cases ho; go_simp; try with_reducible rfl)
      try simp only [Act.put, List.setIfInBounds_toArray, List.set_cons_zero, List.set_cons_succ]
      refine takeH 7 (some 61) (v := ?_) (by rfl) (by rfl) (by kernel_rfl) (by kernel_rfl) (by kernel_rfl) (fun _ _ _ h => h) ?_ (by assumption) ?_
      rotate_left
      · (intro o ho w hSw; obtain ⟨z0, z1, z2, z3, z4, z5⟩ := hSw; cases ho; go_simp; try with_reducible rfl)
      try simp only [Act.put, List.setIfInBounds_toArray, List.set_cons_zero, List.set_cons_succ]
      refine takeH 8 (some 62) (v := ?_) (by rfl) (by rfl) (by kernel_rfl) (by kernel_rfl) (by kernel_rfl) (fun _ _ _ h => h) ?_ (by assumption) ?_
      rotate_left
      · (intro o ho w hSw; obtain ⟨z0, z1, z2, z3, z4, z5⟩ := hSw; cases ho; go_simp; try with_reducible rfl)
      try simp only [Act.put, List.setIfInBounds_toArray, List.set_cons_zero, List.set_cons_succ]
      refine takeH 10 (some 64) (v := ?_) (by rfl) (by rfl) (by kernel_rfl) (by kernel_rfl) (by kernel_rfl) (fun _ _ _ h => h) ?_ (by assumption) ?_
      rotate_left
      · (intro o ho w hSw; obtain ⟨z0, z1, z2, z3, z4, z5⟩ := hSw; cases ho; go_simp; try with_reducible rfl)
      try simp only [Act.put, List.setIfInBounds_toArray, List.set_cons_zero, List.set_cons_succ]
      refine takeH 11 (some 65) (v := ?_) (by rfl) (by rfl) (by kernel_rfl) (by kernel_rfl) (by kernel_rfl) (fun _ _ _ h => h) ?_ (by assumption) ?_
      rotate_left
      · (intro o ho w hSw; obtain ⟨z0, z1, z2, z3, z4, z5⟩ := hSw; cases ho; go_simp; try with_reducible rfl)
      try simp only [Act.put, List.setIfInBounds_toArray, List.set_cons_zero, List.set_cons_succ]
      refine takeH 12 (some 66) (v := ?_) (by rfl) (by rfl) (by kernel_rfl) (by kernel_rfl) (by kernel_rfl) (fun _ _ _ h => h) ?_ (by assumption) ?_
      rotate_left
      · (intro o ho w hSw; obtain ⟨z0, z1, z2, z3, z4, z5⟩ := hSw; cases ho; go_simp; try with_reducible rfl)
      try simp only [Act.put, List.setIfInBounds_toArray, List.set_cons_zero, List.set_cons_succ]
      refine takeH 13 (some 67) (v := ?_) (by rfl) (by rfl) (by kernel_rfl) (by kernel_rfl) (by kernel_rfl) (fun _ _ _ h => h) ?_ (by assumption) ?_
      rotate_left
      · (intro o ho w hSw; obtain ⟨z0, z1, z2, z3, z4, z5⟩ := hSw; cases ho; go_simp; try with_reducible rfl)
      try simp only [Act.put, List.setIfInBounds_toArray, List.set_cons_zero, List.set_cons_succ]
      refine takeH 15 (some 69) (v := ?_) (by rfl) (by rfl) (by kernel_rfl) (by kernel_rfl) (by kernel_rfl) (fun _ _ _ h => h) ?_ (by assumption) ?_
      rotate_left
      · (intro o ho w hSw; obtain ⟨z0, z1, z2, z3, z4, z5⟩ := hSw; cases ho; go_simp; try with_reducible rfl)
      try simp only [Act.put, List.setIfInBounds_toArray, List.set_cons_zero, List.set_cons_succ]
      refine takeH 16 (some 70) (v := ?_) (by rfl) (by rfl) (by kernel_rfl) (by kernel_rfl) (by kernel_rfl) (fun _ _ _ h => h) ?_ (by assumption) ?_
      rotate_left
      · (intro o ho w hSw; obtain ⟨z0, z1, z2, z3, z4, z5⟩ := hSw; cases ho; go_simp; try with_reducible rfl)
      try simp only [Act.put, List.setIfInBounds_toArray, List.set_cons_zero, List.set_cons_succ]
      refine wpAnyH_ready (rs := [9]) (by kernel_rfl) (by simp) ?_
      refine AllReadyH.cons rfl (fun K hK => ?_) AllReadyH.nil
      go_simp
      go_at_call 16
      try rw [hqw4, hqw5]
      (refine (spoilt29_any v3 A3 m3 c3 N3 q4 q5 a6 _ (Lib.hid (HN3.out.all hS13)) (by omega) HNS3 hq40 hq41 hq50 hq51).mono ?_)
      rintro e w14 ⟨v14, A14, m14, c14, N14, rfl, hm14, hN14, hb14, hal14, -⟩
      have hS14 := bt hS13 hb14
      have HN14 := Lib.hid hN14
      have HAL14 := Lib.hid hal14
      have hT14 := hb14
      clear hb14 hN14 hal14
      go_wp2
      refine hK.out _ _ ?_ (fun hh9 => ?_)
      · exact ⟨(HK1.out.all hS14).cell 0, (HK1.out.all hS14).cell 1, (HK2.out.all hS14).cell 0, (HK2.out.all hS14).cell 1, (HK3.out.all hS14).cell 0, (HK3.out.all hS14).cell 1⟩
      clear hK K
      try simp only [Act.put, List.setIfInBounds_toArray, List.set_cons_zero, List.set_cons_succ]
      refine wpAnyH_ready (rs := [14]) (by kernel_rfl) (by simp) ?_
      refine AllReadyH.cons rfl (fun K hK => ?_) AllReadyH.nil
      go_simp
      go_at_call 16
      (refine (spoilt29_any v (some ⟨gm, 0, none⟩) 1 1 [⟨-1, 0, 0, (Ap, k, cp), P⟩] a4 a5 a6 _ (Lib.hid (HNM.out.all hS14)) (by omega) HNSM p40 p41 p50 p51).mono ?_)
      rintro e w15 ⟨v15, A15, m15, c15, N15, rfl, hm15, hN15, hb15, hal15, -⟩
      have hS15 := bt hS14 hb15
      have HN15 := Lib.hid hN15
      have HAL15 := Lib.hid hal15
      have hT15 := hb15
      clear hb15 hN15 hal15
      go_wp2
      refine hK.out _ _ ?_ (fun hh14 => ?_)
      · exact ⟨(HK1.out.all hS15).cell 0, (HK1.out.all hS15).cell 1, (HK2.out.all hS15).cell 0, (HK2.out.all hS15).cell 1, (HK3.out.all hS15).cell 0, (HK3.out.all hS15).cell 1⟩
      clear hK K
      try simp only [Act.put, List.setIfInBounds_toArray, List.set_cons_zero, List.set_cons_succ]
      refine wpAnyH_ready (rs := [17]) (by kernel_rfl) (by simp) ?_
      refine AllReadyH.cons rfl (fun K hK => ?_) AllReadyH.nil
      go_simp
      refine hK.out _ _ ?_ (fun hh17 => ?_)
      · exact ⟨(HK1.out.all (bt hS15 ((Below.refl _ _).alloc (Nat.le_refl _) (.cells #[.int .i64 v, .slice Af mf cf, .int .i64 v, .slice (some ⟨gm, 0, none⟩) 1 1, .int .i64 v3, .slice A3 m3 c3, .int .i64 v14, .slice A14 m14 c14, .int .i64 v15, .slice A15 m15 c15, .int .i64 v, .slice none 0 0] 30)))).cell 0, (HK1.out.all (bt hS15 ((Below.refl _ _).alloc (Nat.le_refl _) (.cells #[.int .i64 v, .slice Af mf cf, .int .i64 v, .slice (some ⟨gm, 0, none⟩) 1 1, .int .i64 v3, .slice A3 m3 c3, .int .i64 v14, .slice A14 m14 c14, .int .i64 v15, .slice A15 m15 c15, .int .i64 v, .slice none 0 0] 30)))).cell 1, (HK2.out.all (bt hS15 ((Below.refl _ _).alloc (Nat.le_refl _) (.cells #[.int .i64 v, .slice Af mf cf, .int .i64 v, .slice (some ⟨gm, 0, none⟩) 1 1, .int .i64 v3, .slice A3 m3 c3, .int .i64 v14, .slice A14 m14 c14, .int .i64 v15, .slice A15 m15 c15, .int .i64 v, .slice none 0 0] 30)))).cell 0, (HK2.out.all (bt hS15 ((Below.refl _ _).alloc (Nat.le_refl _) (.cells #[.int .i64 v, .slice Af mf cf, .int .i64 v, .slice (some ⟨gm, 0, none⟩) 1 1, .int .i64 v3, .slice A3 m3 c3, .int .i64 v14, .slice A14 m14 c14, .int .i64 v15, .slice A15 m15 c15, .int .i64 v, .slice none 0 0] 30)))).cell 1, (HK3.out.all (bt hS15 ((Below.refl _ _).alloc (Nat.le_refl _) (.cells #[.int .i64 v, .slice Af mf cf, .int .i64 v, .slice (some ⟨gm, 0, none⟩) 1 1, .int .i64 v3, .slice A3 m3 c3, .int .i64 v14, .slice A14 m14 c14, .int .i64 v15, .slice A15 m15 c15, .int .i64 v, .slice none 0 0] 30)))).cell 0, (HK3.out.all (bt hS15 ((Below.refl _ _).alloc (Nat.le_refl _) (.cells #[.int .i64 v, .slice Af mf cf, .int .i64 v, .slice (some ⟨gm, 0, none⟩) 1 1, .int .i64 v3, .slice A3 m3 c3, .int .i64 v14, .slice A14 m14 c14, .int .i64 v15, .slice A15 m15 c15, .int .i64 v, .slice none 0 0] 30)))).cell 1⟩
      clear hK K
      try simp only [Act.put, List.setIfInBounds_toArray, List.set_cons_zero, List.set_cons_succ]
      refine takeH 18 (some 22) (v := ?_) (by rfl) (by rfl) (by kernel_rfl) (by kernel_rfl) (by kernel_rfl) (fun _ _ _ h => h) ?_ (by assumption) ?_
      rotate_left
      · (intro o ho w hSw; obtain ⟨z0, z1, z2, z3, z4, z5⟩ := hSw; cases ho; go_simp; try with_reducible rfl)
      try simp only [Act.put, List.setIfInBounds_toArray, List.set_cons_zero, List.set_cons_succ]
      refine wpAnyH_done (by kernel_rfl) ?_ _
    --@4
      have hbb : Below w15.heap.size w15 (w15.alloc (.cells #[.int .i64 v, .slice Af mf cf, .int .i64 v, .slice (some ⟨gm, 0, none⟩) 1 1, .int .i64 v3, .slice A3 m3 c3, .int .i64 v14, .slice A14 m14 c14, .int .i64 v15, .slice A15 m15 c15, .int .i64 v, .slice none 0 0] 30)) := (Below.refl _ _).alloc (Nat.le_refl _) _
      have hS16 := bt hS15 hbb
      obtain ⟨ga, hga⟩ : ∃ g, w15.heap.size = g := ⟨_, rfl⟩
      have HCF : Hid (Cfs (w15.alloc (.cells #[.int .i64 v, .slice Af mf cf, .int .i64 v, .slice (some ⟨gm, 0, none⟩) 1 1, .int .i64 v3, .slice A3 m3 c3, .int .i64 v14, .slice A14 m14 c14, .int .i64 v15, .slice A15 m15 c15, .int .i64 v, .slice none 0 0] 30)) ga [⟨v, (Af, mf, cf), Nf⟩, ⟨v, (some ⟨gm, 0, none⟩, 1, 1), [⟨-1, 0, 0, (Ap, k, cp), P⟩]⟩, ⟨v3, (A3, m3, c3), N3⟩, ⟨v14, (A14, m14, c14), N14⟩, ⟨v15, (A15, m15, c15), N15⟩, ⟨v, (none, 0, 0), []⟩]) := Lib.hid ⟨Rows.of_blk (by rw [← hga]; exact Blk.new _ 30 #[.int .i64 v, .slice Af mf cf, .int .i64 v, .slice (some ⟨gm, 0, none⟩) 1 1, .int .i64 v3, .slice A3 m3 c3, .int .i64 v14, .slice A14 m14 c14, .int .i64 v15, .slice A15 m15 c15, .int .i64 v, .slice none 0 0]) Cf.cells_length rfl rfl (by decide), fun x hx => by
        simp only [List.mem_cons, List.not_mem_nil, or_false] at hx
        rcases hx with rfl | rfl | rfl | rfl | rfl | rfl
        · exact ⟨HNF.out.nds.all hS16, by dsimp only; omega⟩
        · exact ⟨HNM.out.nds.all hS16, by dsimp only; omega⟩
        · exact ⟨HN3.out.nds.all hS16, by dsimp only; omega⟩
        · exact ⟨HN14.out.nds.all (bt hT15 hbb), by dsimp only; omega⟩
        · exact ⟨HN15.out.nds.all ((Below.refl _ _).alloc (Nat.le_refl _) _), by dsimp only; omega⟩
        · exact ⟨⟨Rows.nil, fun b hb => by simp at hb⟩, by dsimp only; omega⟩⟩
      have HBB := Lib.hid (bt HB8.out (bt hS15 hbb))
      have HBAb := Lib.hid (HBA.out.all (bt hS15 hbb))
      have HWb := Lib.hid (NIn.all HW.out (bt hS15 hbb))
      have hgb : ga < (w15.alloc (.cells #[.int .i64 v, .slice Af mf cf, .int .i64 v, .slice (some ⟨gm, 0, none⟩) 1 1, .int .i64 v3, .slice A3 m3 c3, .int .i64 v14, .slice A14 m14 c14, .int .i64 v15, .slice A15 m15 c15, .int .i64 v, .slice none 0 0] 30)).heap.size := by rw [World.size_alloc, hga]; exact Nat.lt_succ_self _
      obtain ⟨wb, hwb⟩ : ∃ wb, w15.alloc (.cells #[.int .i64 v, .slice Af mf cf, .int .i64 v, .slice (some ⟨gm, 0, none⟩) 1 1, .int .i64 v3, .slice A3 m3 c3, .int .i64 v14, .slice A14 m14 c14, .int .i64 v15, .slice A15 m15 c15, .int .i64 v, .slice none 0 0] 30) = wb := ⟨_, rfl⟩
      rw [hwb] at HCF HBB HBAb HWb hgb ⊢
      obtain ⟨CL, hCL⟩ : ∃ CL, [(⟨v, (Af, mf, cf), Nf⟩ : Cf), ⟨v, (some ⟨gm, 0, none⟩, 1, 1), [⟨-1, 0, 0, (Ap, k, cp), P⟩]⟩, ⟨v3, (A3, m3, c3), N3⟩, ⟨v14, (A14, m14, c14), N14⟩, ⟨v15, (A15, m15, c15), N15⟩, ⟨v, (none, 0, 0), []⟩] = CL := ⟨_, rfl⟩
      rw [hCL] at HCF
      clear hCL hwb hbb
      go_wp2
      try rw [hga]
      clear hga
      go_loopw [23] (fun iv wr => ∃ i : Nat, i ≤ 6 ∧ iv = .int .i64 (i : Int) ∧ Hid (Below wb.heap.size wb wr)) (fun iv _ => 6 - (intOf iv).toNat)
      case atStart => exact ⟨0, by omega, rfl, Lib.hid (Below.refl _ _)⟩
      case round =>
        obtain ⟨i, hi, rfl, HBr⟩ := hrel
        by_cases hi6 : i < 6
        rotate_left
        · obtain rfl : i = 6 := by omega
          go_wp2_with fail
          refine (lives_any _).mono ?_
          rintro e wz ⟨rfl, hbz⟩
          go_wp2
          go_ret
          exact ⟨rfl, bt (bt HBB.out HBr.out) hbz⟩
        have HCr := Lib.hid (HCF.out.all HBr.out)
        have HBAr := Lib.hid (HBAb.out.all HBr.out)
        have HWr := Lib.hid (NIn.all HWb.out HBr.out)
        have hga1 : ga < wr.heap.size := Nat.lt_of_lt_of_le hgb HBr.out.size
        obtain ⟨vi, Ai, ni, ci, Ni, hv1, hv2, hni, hni2⟩ := HCr.out.get hi6
        have HV1 := Lib.hid hv1
        have HV2 := Lib.hid hv2
        have HNI := Lib.hid hni
        have HNim := Lib.hid hni.rows.len
        dsimp only at HNim
        clear hv1 hv2 hni HCr
        have hii : (i : Int) < 6 := by omega
        go_wp2
        have hS20 : Below wr.heap.size wr wr.drew := below_drewN (Below.refl _ _) 1
    --@5
        refine wp_region_held_drew (S := (fun w' => w'.cell? ⟨ga, i * 2, none⟩ = some (.int .i64 vi) ∧ w'.cell? ⟨ga, i * 2 + 1, none⟩ = some (.slice Ai ni ci))) (by kernel_rfl) ⟨(Below.cell hS20 (p := ⟨ga, i * 2, none⟩) hga1).trans HV1.out, (Below.cell hS20 (p := ⟨ga, i * 2 + 1, none⟩) hga1).trans HV2.out⟩ (fun hHeld => ?_)
        refine takeH 0 (some 78) (v := ?_) (by rfl) (by rfl) (by kernel_rfl) (by kernel_rfl) (by kernel_rfl) (fun _ _ _ h => h) ?_ (by assumption) ?_
        rotate_left
        · (intro o ho w hSw; obtain ⟨z0, z1⟩ := hSw; cases ho; go_simp; try with_reducible rfl)
        try simp only [Act.put, List.setIfInBounds_toArray, List.set_cons_zero, List.set_cons_succ]
        refine takeH 1 (some 79) (v := ?_) (by rfl) (by rfl) (by kernel_rfl) (by kernel_rfl) (by kernel_rfl) (fun _ _ _ h => h) ?_ (by assumption) ?_
        rotate_left
        · (intro o ho w hSw; obtain ⟨z0, z1⟩ := hSw; cases ho; go_simp; try with_reducible rfl)
        try simp only [Act.put, List.setIfInBounds_toArray, List.set_cons_zero, List.set_cons_succ]
        refine takeH 3 (some 81) (v := ?_) (by rfl) (by rfl) (by kernel_rfl) (by kernel_rfl) (by kernel_rfl) (fun _ _ _ h => h) ?_ (by assumption) ?_
        rotate_left
        · (intro o ho w hSw; obtain ⟨z0, z1⟩ := hSw; cases ho; go_simp; try with_reducible rfl)
        try simp only [Act.put, List.setIfInBounds_toArray, List.set_cons_zero, List.set_cons_succ]
        refine takeH 4 (some 82) (v := ?_) (by rfl) (by rfl) (by kernel_rfl) (by kernel_rfl) (by kernel_rfl) (fun _ _ _ h => h) ?_ (by assumption) ?_
        rotate_left
        · (intro o ho w hSw; obtain ⟨z0, z1⟩ := hSw; cases ho; go_simp; try with_reducible rfl)
        try simp only [Act.put, List.setIfInBounds_toArray, List.set_cons_zero, List.set_cons_succ]
        refine takeH 5 (some 83) (v := ?_) (by rfl) (by rfl) (by kernel_rfl) (by kernel_rfl) (by kernel_rfl) (fun _ _ _ h => h) ?_ (by assumption) ?_
        rotate_left
        · (intro o ho w hSw; obtain ⟨z0, z1⟩ := hSw; cases ho; go_simp; try with_reducible rfl)
        try simp only [Act.put, List.setIfInBounds_toArray, List.set_cons_zero, List.set_cons_succ]
        refine takeH 6 (some 84) (v := ?_) (by rfl) (by rfl) (by kernel_rfl) (by kernel_rfl) (by kernel_rfl) (fun _ _ _ h => h) ?_ (by assumption) ?_
        rotate_left
        · (intro o ho w hSw; obtain ⟨z0, z1⟩ := hSw; cases ho; go_simp; try with_reducible rfl)
        try simp only [Act.put, List.setIfInBounds_toArray, List.set_cons_zero, List.set_cons_succ]
        refine takeH 7 (some 85) (v := ?_) (by rfl) (by rfl) (by kernel_rfl) (by kernel_rfl) (by kernel_rfl) (fun _ _ _ h => h) ?_ (by assumption) ?_
        rotate_left
        · (intro o ho w hSw; obtain ⟨z0, z1⟩ := hSw; cases ho; go_simp; try with_reducible rfl)
        try simp only [Act.put, List.setIfInBounds_toArray, List.set_cons_zero, List.set_cons_succ]
        refine takeH 10 (some 88) (v := ?_) (by rfl) (by rfl) (by kernel_rfl) (by kernel_rfl) (by kernel_rfl) (fun _ _ _ h => h) ?_ (by assumption) ?_
        rotate_left
        · (intro o ho w hSw; obtain ⟨z0, z1⟩ := hSw; cases ho; go_simp; try with_reducible rfl)
        try simp only [Act.put, List.setIfInBounds_toArray, List.set_cons_zero, List.set_cons_succ]
        refine takeH 11 (some 89) (v := ?_) (by rfl) (by rfl) (by kernel_rfl) (by kernel_rfl) (by kernel_rfl) (fun _ _ _ h => h) ?_ (by assumption) ?_
        rotate_left
        · (intro o ho w hSw; obtain ⟨z0, z1⟩ := hSw; cases ho; go_simp; try with_reducible rfl)
        try simp only [Act.put, List.setIfInBounds_toArray, List.set_cons_zero, List.set_cons_succ]
        refine takeH 12 (some 90) (v := ?_) (by rfl) (by rfl) (by kernel_rfl) (by kernel_rfl) (by kernel_rfl) (fun _ _ _ h => h) ?_ (by assumption) ?_
        rotate_left
        · (intro o ho w hSw; obtain ⟨z0, z1⟩ := hSw; cases ho; go_simp; try with_reducible rfl)
        try simp only [Act.put, List.setIfInBounds_toArray, List.set_cons_zero, List.set_cons_succ]
        refine takeH 13 (some 91) (v := ?_) (by rfl) (by rfl) (by kernel_rfl) (by kernel_rfl) (by kernel_rfl) (fun _ _ _ h => h) ?_ (by assumption) ?_
        rotate_left
        · (intro o ho w hSw; obtain ⟨z0, z1⟩ := hSw; cases ho; go_simp; try with_reducible rfl)
        try simp only [Act.put, List.setIfInBounds_toArray, List.set_cons_zero, List.set_cons_succ]
        refine takeH 14 (some 92) (v := ?_) (by rfl) (by rfl) (by kernel_rfl) (by kernel_rfl) (by kernel_rfl) (fun _ _ _ h => h) ?_ (by assumption) ?_
        rotate_left
        · (intro o ho w hSw; obtain ⟨z0, z1⟩ := hSw; cases ho; go_simp; try with_reducible rfl)
        try simp only [Act.put, List.setIfInBounds_toArray, List.set_cons_zero, List.set_cons_succ]
        refine takeH 15 (some 93) (v := ?_) (by rfl) (by rfl) (by kernel_rfl) (by kernel_rfl) (by kernel_rfl) (fun _ _ _ h => h) ?_ (by assumption) ?_
        rotate_left
        · (intro o ho w hSw; obtain ⟨z0, z1⟩ := hSw; cases ho; go_simp; try with_reducible rfl)
        try simp only [Act.put, List.setIfInBounds_toArray, List.set_cons_zero, List.set_cons_succ]
        refine takeH 16 (some 94) (v := ?_) (by rfl) (by rfl) (by kernel_rfl) (by kernel_rfl) (by kernel_rfl) (fun _ _ _ h => h) ?_ (by assumption) ?_
        rotate_left
        · (intro o ho w hSw; obtain ⟨z0, z1⟩ := hSw; cases ho; go_simp; try with_reducible rfl)
        try simp only [Act.put, List.setIfInBounds_toArray, List.set_cons_zero, List.set_cons_succ]
        refine wpAnyH_ready (rs := [2]) (by kernel_rfl) (by simp) ?_
        refine AllReadyH.cons rfl (fun K hK => ?_) AllReadyH.nil
        go_simp
        go_at_call 19
        (refine (given_any Aa m ca La _ (Lib.hid (HBAr.out.all hS20)) (by omega)).mono ?_)
        rintro e wg ⟨Agg, cgg, rfl, hogg, hbgg⟩
        have hSg := bt hS20 hbgg
        rw [HLam.out] at hogg ⊢
        have HGg : Hid (Bds wg (Agg, m, cgg) La) := Lib.hid (Bds.of_own hogg (fun b hb => (HBAr.out.ok b hb).all hSg))
        clear hogg hbgg
        go_wp2
        refine hK.out _ _ ?_ (fun hh2 => ?_)
        · exact ⟨(Below.cell hSg (p := ⟨ga, i * 2, none⟩) hga1).trans HV1.out, (Below.cell hSg (p := ⟨ga, i * 2 + 1, none⟩) hga1).trans HV2.out⟩
        clear hK K
        try simp only [Act.put, List.setIfInBounds_toArray, List.set_cons_zero, List.set_cons_succ]
        refine wpAnyH_ready (rs := [8]) (by kernel_rfl) (by simp) ?_
        refine AllReadyH.cons rfl (fun K hK => ?_) AllReadyH.nil
        go_simp
        go_at_call 20
        (refine (cert_any vi Ai ni ci Ni _ (Lib.hid (HNI.out.all hSg)) (by omega)).mono ?_)
        rintro e wc ⟨Acc, ccc, rfl, hocc, hbcc⟩
        have hSc := bt hSg hbcc
        rw [HNim.out] at hocc ⊢
        have HCc : Hid (Nds wc (Acc, ni, ccc) Ni) := Lib.hid ⟨Rows.of_own Nd.cells_length hocc (by decide), fun b hb => (HNI.out.ok b hb).all hSc⟩
        clear hocc; have hbc3 := hbcc; clear hbcc
        go_wp2
        refine hK.out _ _ ?_ (fun hh8 => ?_)
        · exact ⟨(Below.cell hSc (p := ⟨ga, i * 2, none⟩) hga1).trans HV1.out, (Below.cell hSc (p := ⟨ga, i * 2 + 1, none⟩) hga1).trans HV2.out⟩
        clear hK K
        try simp only [Act.put, List.setIfInBounds_toArray, List.set_cons_zero, List.set_cons_succ]
        refine wpAnyH_ready (rs := [9]) (by kernel_rfl) (by simp) ?_
        refine AllReadyH.cons rfl (fun K hK => ?_) AllReadyH.nil
        go_simp
        go_at_call 18
        (refine (check_any (k : Int) Agg m cgg Aw nw cw vi Acc ni ccc La win Ni _ (Lib.hid (HGg.out.all hbc3)) (Lib.hid (NIn.all HWr.out hSc)) (Lib.hid HCc.out) (by omega)).mono ?_)
        rintro e wk ⟨rfl, hbk⟩
        have hSk := bt hSc hbk
        clear hbk
        obtain ⟨ckk, hckk⟩ : ∃ ck, checkE (k : Int) La win vi Ni = ck := ⟨_, rfl⟩
        rw [hckk]
        have HCKk := Lib.hid hckk
        clear hckk
        go_wp2
        refine hK.out _ _ ?_ (fun hh9 => ?_)
        · exact ⟨(Below.cell hSk (p := ⟨ga, i * 2, none⟩) hga1).trans HV1.out, (Below.cell hSk (p := ⟨ga, i * 2 + 1, none⟩) hga1).trans HV2.out⟩
        clear hK K
        try simp only [Act.put, List.setIfInBounds_toArray, List.set_cons_zero, List.set_cons_succ]
        refine wpAnyH_ready (rs := [17]) (by kernel_rfl) (by simp) ?_
        refine AllReadyH.cons rfl (fun K hK => ?_) AllReadyH.nil
        go_simp
        go_at_call 21
        (refine (rcheck_any (k : Int) Aa m ca Aw nw cw vi Ai ni ci La win Ni _ (Lib.hid (HBAr.out.all hSk)) (Lib.hid (NIn.all HWr.out hSk)) (Lib.hid (HNI.out.all hSk)) (by omega)).mono ?_)
        rintro e wr ⟨rfl, hbr⟩
        have hSr := bt hSk hbr
        clear hbr
        rw [HCKk.out]
        go_wp2
        refine hK.out _ _ ?_ (fun hh17 => ?_)
        · exact ⟨(Below.cell hSr (p := ⟨ga, i * 2, none⟩) hga1).trans HV1.out, (Below.cell hSr (p := ⟨ga, i * 2 + 1, none⟩) hga1).trans HV2.out⟩
        clear hK K
        try simp only [Act.put, List.setIfInBounds_toArray, List.set_cons_zero, List.set_cons_succ]
        refine takeH 18 (some 96) (v := .bool false) (by rfl) (by rfl) (by kernel_rfl) (by kernel_rfl) (by kernel_rfl) (fun _ _ _ h => h) ?_ (by assumption) ?_
        skip
        · (intro o ho w hSw; obtain ⟨z0, z1⟩ := hSw; cases ho; go_simp; try with_reducible rfl)
        try simp only [Act.put, List.setIfInBounds_toArray, List.set_cons_zero, List.set_cons_succ]
        refine wpAnyH_done (by kernel_rfl) ?_ _
    --@6
        go_wp2
        exact ⟨⟨i + 1, by omega, by go_num, Lib.hid (bt HBr.out hSr)⟩, by simp [intOf]; omega⟩
    · go_simp
      refine hK.out _ _ ?_ (fun hh7 => ?_)
      · exact ⟨(HK1.out.all (bt hS10 ((Below.refl _ _).alloc (Nat.le_refl _) (.cells #[.int .i64 0, .slice none 0 0] 30)))).cell 0, (HK1.out.all (bt hS10 ((Below.refl _ _).alloc (Nat.le_refl _) (.cells #[.int .i64 0, .slice none 0 0] 30)))).cell 1⟩
      clear hK K
      try simp only [Act.put, List.setIfInBounds_toArray, List.set_cons_zero, List.set_cons_succ]
      have hS9 := bt hS10 ((Below.refl _ _).alloc (Nat.le_refl _) (.cells #[.int .i64 0, .slice none 0 0] 30))
      refine wpAnyH_ready (rs := [6]) (by kernel_rfl) (by simp) ?_
      refine AllReadyH.cons rfl (fun K hK => ?_) AllReadyH.nil
      go_simp
      go_at_call 16
      try rw [hrw]
      (refine (spoilt29_any v Af mf cf Nf a4 a5 ((r : Int) - 2) _ (Lib.hid (HNF.out.all hS9)) (by omega) HNS p40 p41 p50 p51).mono ?_)
      rintro e w3 ⟨v3, A3, m3, c3, N3, rfl, hm3, hN3, hb3, hal3, -⟩
      have hS3 := bt hS9 hb3
      have HN3 := Lib.hid hN3
      have HAL3 := Lib.hid hal3
      have hT3 := hb3
      have hk3 := (Blk.new' w8.drew 30 #[.int .i64 0, .slice none 0 0] (g := w8.heap.size) rfl).all hb3; clear hb3 hN3 hal3
      go_wp2
      refine hK.out _ _ ?_ (fun hh6 => ?_)
      · exact ⟨(HK1.out.all hS3).cell 0, (HK1.out.all hS3).cell 1⟩
      clear hK K
      try simp only [Act.put, List.setIfInBounds_toArray, List.set_cons_zero, List.set_cons_succ]
      refine wpAnyH_ready (rs := [8]) (by kernel_rfl) (by simp) ?_
      refine AllReadyH.cons rfl (fun K hK => ?_) AllReadyH.nil
      have s0 := hk3.cell 0
      have s1 := hk3.cell 1
      have s2 := hk3.frozen 0
      have s3 := hk3.frozen 1
      simp at s0 s1
      clear hHeld
      go_simp
      have HB9 : Hid (Below w8.heap.size w8 ((w3.setCell ⟨w8.heap.size, 0, none⟩ (.int .i64 v3)).setCell ⟨w8.heap.size, 1, none⟩ (.slice A3 m3 c3))) := Lib.hid ((hS3.setCell (p := ⟨w8.heap.size, 0, none⟩) (Nat.le_refl _) _).setCell (p := ⟨w8.heap.size, 1, none⟩) (Nat.le_refl _) _)
      have HK39 : Hid (Blk ((w3.setCell ⟨w8.heap.size, 0, none⟩ (.int .i64 v3)).setCell ⟨w8.heap.size, 1, none⟩ (.slice A3 m3 c3)) w8.heap.size 30 #[.int .i64 v3, .slice A3 m3 c3]) := Lib.hid ((hk3.set_ 0 (.int .i64 v3)).set_ 1 (.slice A3 m3 c3))
      have HN9 : Hid (NdsT ((w3.setCell ⟨w8.heap.size, 0, none⟩ (.int .i64 v3)).setCell ⟨w8.heap.size, 1, none⟩ (.slice A3 m3 c3)) (A3, m3, c3) N3) := Lib.hid (HN3.out.mod (((Mod.refl (fun b => b = w8.heap.size) w3).set (p := ⟨w8.heap.size, 0, none⟩) (.inl rfl) (.int .i64 v3)).set (p := ⟨w8.heap.size, 1, none⟩) (.inl rfl) (.slice A3 m3 c3)) (fun b hb => by rw [hb]; exact ⟨hk3.ty.not (by decide), hk3.ty.not (by decide)⟩))
      refine hK.out _ _ ?_ (fun hh8 => ?_)
      · exact ⟨(HK1.out.all HB9.out).cell 0, (HK1.out.all HB9.out).cell 1⟩
      clear hK K
      refine wpAnyH_done (by kernel_rfl) ?_ _
      obtain ⟨w9, hw9⟩ : ∃ w9, (w3.setCell ⟨w8.heap.size, 0, none⟩ (.int .i64 v3)).setCell ⟨w8.heap.size, 1, none⟩ (.slice A3 m3 c3) = w9 := ⟨_, rfl⟩
      obtain ⟨g3, hg3⟩ : ∃ g, w8.heap.size = g := ⟨_, rfl⟩
      rw [hw9] at HB9 HK39 HN9 ⊢
      rw [hg3] at HK39 ⊢
      have HK3 := Lib.hid HK39.out
      have HBA9 := Lib.hid (HBA.out.all HB9.out)
      have HW9 := Lib.hid (NIn.all HW.out HB9.out)
      have HNF9 := Lib.hid (HNF.out.all HB9.out)
      have HNM9 := Lib.hid (HNM.out.all HB9.out)
      have HK19 := Lib.hid (HK1.out.all HB9.out)
      have HK29 := Lib.hid (HK2.out.all HB9.out)
      have HB89 := Lib.hid (bt HB8.out HB9.out)
      clear s0 s1 s2 s3 hk3 hw9 hg3 HK39 HBA HW HNF HNM HK1 HK2 HB8 HB9 HN3 hh4 hh6 hh7 hh8 hS10 hS9 hS3 hT3 hrw
      have HBA := HBA9
      have HW := HW9
      have HNF := HNF9
      have HNM := HNM9
      have HN3 := HN9
      have HK1 := HK19
      have HK2 := HK29
      have HB8 := HB89
      clear HBA9 HW9 HNF9 HNM9 HN9 HK19 HK29 HB89
      have hS13 : Below w9.heap.size w9 w9.drew := below_drewN (Below.refl _ _) 1
      go_wp2
    --@2
      have HNS3 : Hid (∀ x ∈ N3, x.s.2.1 ≤ 1000000) := Lib.hid (fun x hx => by have := alt_small HAL3.out HNS9.out x hx; omega)
      have HQ4 := td7_ok a4 p40 p41
      have HQ5 := td7_ok a5 p50 p51
      obtain ⟨q4, hq4⟩ : ∃ q, a4.tdiv 7 = q := ⟨_, rfl⟩
      obtain ⟨q5, hq5⟩ : ∃ q, a5.tdiv 7 = q := ⟨_, rfl⟩
      rw [hq4] at HQ4
      rw [hq5] at HQ5
      obtain ⟨hq40, hq41⟩ := HQ4
      obtain ⟨hq50, hq51⟩ := HQ5
      have hqw4 : IntKind.i64.wrap q4 = q4 := by rw [IntKind.wrap_i64]; omega
      have hqw5 : IntKind.i64.wrap q5 = q5 := by rw [IntKind.wrap_i64]; omega
    --@3
      refine wp_region_held_drew (S := (fun w' => w'.cell? ⟨g1, 0, none⟩ = some (.int .i64 v) ∧ w'.cell? ⟨g1, 1, none⟩ = some (.slice Af mf cf) ∧ w'.cell? ⟨g2, 0, none⟩ = some (.int .i64 v) ∧ w'.cell? ⟨g2, 1, none⟩ = some (.slice (some ⟨gm, 0, none⟩) 1 1) ∧ w'.cell? ⟨g3, 0, none⟩ = some (.int .i64 v3) ∧ w'.cell? ⟨g3, 1, none⟩ = some (.slice A3 m3 c3))) (by kernel_rfl) ⟨(HK1.out.all hS13).cell 0, (HK1.out.all hS13).cell 1, (HK2.out.all hS13).cell 0, (HK2.out.all hS13).cell 1, (HK3.out.all hS13).cell 0, (HK3.out.all hS13).cell 1⟩ (fun hHeld => ?_)
      refine takeH 0 (some 54) (v := ?_) (by rfl) (by rfl) (by kernel_rfl) (by kernel_rfl) (by kernel_rfl) (fun _ _ _ h => h) ?_ (by assumption) ?_
      rotate_left
      · (intro o ho w hSw; obtain ⟨z0, z1, z2, z3, z4, z5⟩ := hSw; cases ho; go_simp; try with_reducible rfl)
      try simp only [Act.put, List.setIfInBounds_toArray, List.set_cons_zero, List.set_cons_succ]
      refine takeH 1 (some 55) (v := ?_) (by rfl) (by rfl) (by kernel_rfl) (by kernel_rfl) (by kernel_rfl) (fun _ _ _ h => h) ?_ (by assumption) ?_
      rotate_left
      · (intro o ho w hSw; obtain ⟨z0, z1, z2, z3, z4, z5⟩ := hSw; cases ho; go_simp; try with_reducible rfl)
      try simp only [Act.put, List.setIfInBounds_toArray, List.set_cons_zero, List.set_cons_succ]
      refine takeH 2 (some 56) (v := ?_) (by rfl) (by rfl) (by kernel_rfl) (by kernel_rfl) (by kernel_rfl) (fun _ _ _ h => h) ?_ (by assumption) ?_
      rotate_left
      · (intro o ho w hSw; obtain ⟨z0, z1, z2, z3, z4, z5⟩ := hSw; cases ho; go_simp; try with_reducible rfl)
      try simp only [Act.put, List.setIfInBounds_toArray, List.set_cons_zero, List.set_cons_succ]
      refine takeH 3 (some 57) (v := ?_) (by rfl) (by rfl) (by kernel_rfl) (by kernel_rfl) (by kernel_rfl) (fun _ _ _ h => h) ?_ (by assumption) ?_
      rotate_left
      · (intro o ho w hSw; obtain ⟨z0, z1, z2, z3, z4, z5⟩ := hSw; cases ho; go_simp; try with_reducible rfl)
      try simp only [Act.put, List.setIfInBounds_toArray, List.set_cons_zero, List.set_cons_succ]
      refine takeH 4 (some 58) (v := ?_) (by rfl) (by rfl) (by kernel_rfl) (by kernel_rfl) (by kernel_rfl) (fun _ _ _ h => h) ?_ (by assumption) ?_
      rotate_left
      · (intro o ho w hSw; obtain ⟨z0, z1, z2, z3, z4, z5⟩ := hSw; cases ho; go_simp; try with_reducible rfl)
      try simp only [Act.put, List.setIfInBounds_toArray, List.set_cons_zero, List.set_cons_succ]
      refine takeH 5 (some 59) (v := ?_) (by rfl) (by rfl) (by kernel_rfl) (by kernel_rfl) (by kernel_rfl) (fun _ _ _ h => h) ?_ (by assumption) ?_
      rotate_left
      · (intro o ho w hSw; obtain ⟨z0, z1, z2, z3, z4, z5⟩ := hSw; cases ho; go_simp; try with_reducible rfl)
      try simp only [Act.put, List.setIfInBounds_toArray, List.set_cons_zero, List.set_cons_succ]
      refine takeH 6 (some 60) (v := ?_) (by rfl) (by rfl) (by kernel_rfl) (by kernel_rfl) (by kernel_rfl) (fun _ _ _ h => h) ?_ (by assumption) ?_
      rotate_left
      · (intro o ho w hSw; obtain ⟨z0, z1, z2, z3, z4, z5⟩ := hSw; cases ho; go_simp; try with_reducible rfl)
      try simp only [Act.put, List.setIfInBounds_toArray, List.set_cons_zero, List.set_cons_succ]
      refine takeH 7 (some 61) (v := ?_) (by rfl) (by rfl) (by kernel_rfl) (by kernel_rfl) (by kernel_rfl) (fun _ _ _ h => h) ?_ (by assumption) ?_
      rotate_left
      · (intro o ho w hSw; obtain ⟨z0, z1, z2, z3, z4, z5⟩ := hSw; cases ho; go_simp; try with_reducible rfl)
      try simp only [Act.put, List.setIfInBounds_toArray, List.set_cons_zero, List.set_cons_succ]
      refine takeH 8 (some 62) (v := ?_) (by rfl) (by rfl) (by kernel_rfl) (by kernel_rfl) (by kernel_rfl) (fun _ _ _ h => h) ?_ (by assumption) ?_
      rotate_left
      · (intro o ho w hSw; obtain ⟨z0, z1, z2, z3, z4, z5⟩ := hSw; cases ho; go_simp; try with_reducible rfl)
      try simp only [Act.put, List.setIfInBounds_toArray, List.set_cons_zero, List.set_cons_succ]
      refine takeH 10 (some 64) (v := ?_) (by rfl) (by rfl) (by kernel_rfl) (by kernel_rfl) (by kernel_rfl) (fun _ _ _ h => h) ?_ (by assumption) ?_
      rotate_left
      · (intro o ho w hSw; obtain ⟨z0, z1, z2, z3, z4, z5⟩ := hSw; cases ho; go_simp; try with_reducible rfl)
      try simp only [Act.put, List.setIfInBounds_toArray, List.set_cons_zero, List.set_cons_succ]
      refine takeH 11 (some 65) (v := ?_) (by rfl) (by rfl) (by kernel_rfl) (by kernel_rfl) (by kernel_rfl) (fun _ _ _ h => h) ?_ (by assumption) ?_
      rotate_left
      · (intro o ho w hSw; obtain ⟨z0, z1, z2, z3, z4, z5⟩ := hSw; cases ho; go_simp; try with_reducible rfl)
      try simp only [Act.put, List.setIfInBounds_toArray, List.set_cons_zero, List.set_cons_succ]
      refine takeH 12 (some 66) (v := ?_) (by rfl) (by rfl) (by kernel_rfl) (by kernel_rfl) (by kernel_rfl) (fun _ _ _ h => h) ?_ (by assumption) ?_
      rotate_left
      · (intro o ho w hSw; obtain ⟨z0, z1, z2, z3, z4, z5⟩ := hSw; cases ho; go_simp; try with_reducible rfl)
      try simp only [Act.put, List.setIfInBounds_toArray, List.set_cons_zero, List.set_cons_succ]
      refine takeH 13 (some 67) (v := ?_) (by rfl) (by rfl) (by kernel_rfl) (by kernel_rfl) (by kernel_rfl) (fun _ _ _ h => h) ?_ (by assumption) ?_
      rotate_left
      · (intro o ho w hSw; obtain ⟨z0, z1, z2, z3, z4, z5⟩ := hSw; cases ho; go_simp; try with_reducible rfl)
      try simp only [Act.put, List.setIfInBounds_toArray, List.set_cons_zero, List.set_cons_succ]
      refine takeH 15 (some 69) (v := ?_) (by rfl) (by rfl) (by kernel_rfl) (by kernel_rfl) (by kernel_rfl) (fun _ _ _ h => h) ?_ (by assumption) ?_
      rotate_left
      · (intro o ho w hSw; obtain ⟨z0, z1, z2, z3, z4, z5⟩ := hSw; cases ho; go_simp; try with_reducible rfl)
      try simp only [Act.put, List.setIfInBounds_toArray, List.set_cons_zero, List.set_cons_succ]
      refine takeH 16 (some 70) (v := ?_) (by rfl) (by rfl) (by kernel_rfl) (by kernel_rfl) (by kernel_rfl) (fun _ _ _ h => h) ?_ (by assumption) ?_
      rotate_left
      · (intro o ho w hSw; obtain ⟨z0, z1, z2, z3, z4, z5⟩ := hSw; cases ho; go_simp; try with_reducible rfl)
      try simp only [Act.put, List.setIfInBounds_toArray, List.set_cons_zero, List.set_cons_succ]
      refine wpAnyH_ready (rs := [9]) (by kernel_rfl) (by simp) ?_
      refine AllReadyH.cons rfl (fun K hK => ?_) AllReadyH.nil
      go_simp
      go_at_call 16
      try rw [hqw4, hqw5]
      (refine (spoilt29_any v3 A3 m3 c3 N3 q4 q5 a6 _ (Lib.hid (HN3.out.all hS13)) (by omega) HNS3 hq40 hq41 hq50 hq51).mono ?_)
      rintro e w14 ⟨v14, A14, m14, c14, N14, rfl, hm14, hN14, hb14, hal14, -⟩
      have hS14 := bt hS13 hb14
      have HN14 := Lib.hid hN14
      have HAL14 := Lib.hid hal14
      have hT14 := hb14
      clear hb14 hN14 hal14
      go_wp2
      refine hK.out _ _ ?_ (fun hh9 => ?_)
      · exact ⟨(HK1.out.all hS14).cell 0, (HK1.out.all hS14).cell 1, (HK2.out.all hS14).cell 0, (HK2.out.all hS14).cell 1, (HK3.out.all hS14).cell 0, (HK3.out.all hS14).cell 1⟩
      clear hK K
      try simp only [Act.put, List.setIfInBounds_toArray, List.set_cons_zero, List.set_cons_succ]
      refine wpAnyH_ready (rs := [14]) (by kernel_rfl) (by simp) ?_
      refine AllReadyH.cons rfl (fun K hK => ?_) AllReadyH.nil
      go_simp
      go_at_call 16
      (refine (spoilt29_any v (some ⟨gm, 0, none⟩) 1 1 [⟨-1, 0, 0, (Ap, k, cp), P⟩] a4 a5 a6 _ (Lib.hid (HNM.out.all hS14)) (by omega) HNSM p40 p41 p50 p51).mono ?_)
      rintro e w15 ⟨v15, A15, m15, c15, N15, rfl, hm15, hN15, hb15, hal15, -⟩
      have hS15 := bt hS14 hb15
      have HN15 := Lib.hid hN15
      have HAL15 := Lib.hid hal15
      have hT15 := hb15
      clear hb15 hN15 hal15
      go_wp2
      refine hK.out _ _ ?_ (fun hh14 => ?_)
      · exact ⟨(HK1.out.all hS15).cell 0, (HK1.out.all hS15).cell 1, (HK2.out.all hS15).cell 0, (HK2.out.all hS15).cell 1, (HK3.out.all hS15).cell 0, (HK3.out.all hS15).cell 1⟩
      clear hK K
      try simp only [Act.put, List.setIfInBounds_toArray, List.set_cons_zero, List.set_cons_succ]
      refine wpAnyH_ready (rs := [17]) (by kernel_rfl) (by simp) ?_
      refine AllReadyH.cons rfl (fun K hK => ?_) AllReadyH.nil
      go_simp
      refine hK.out _ _ ?_ (fun hh17 => ?_)
      · exact ⟨(HK1.out.all (bt hS15 ((Below.refl _ _).alloc (Nat.le_refl _) (.cells #[.int .i64 v, .slice Af mf cf, .int .i64 v, .slice (some ⟨gm, 0, none⟩) 1 1, .int .i64 v3, .slice A3 m3 c3, .int .i64 v14, .slice A14 m14 c14, .int .i64 v15, .slice A15 m15 c15, .int .i64 v, .slice none 0 0] 30)))).cell 0, (HK1.out.all (bt hS15 ((Below.refl _ _).alloc (Nat.le_refl _) (.cells #[.int .i64 v, .slice Af mf cf, .int .i64 v, .slice (some ⟨gm, 0, none⟩) 1 1, .int .i64 v3, .slice A3 m3 c3, .int .i64 v14, .slice A14 m14 c14, .int .i64 v15, .slice A15 m15 c15, .int .i64 v, .slice none 0 0] 30)))).cell 1, (HK2.out.all (bt hS15 ((Below.refl _ _).alloc (Nat.le_refl _) (.cells #[.int .i64 v, .slice Af mf cf, .int .i64 v, .slice (some ⟨gm, 0, none⟩) 1 1, .int .i64 v3, .slice A3 m3 c3, .int .i64 v14, .slice A14 m14 c14, .int .i64 v15, .slice A15 m15 c15, .int .i64 v, .slice none 0 0] 30)))).cell 0, (HK2.out.all (bt hS15 ((Below.refl _ _).alloc (Nat.le_refl _) (.cells #[.int .i64 v, .slice Af mf cf, .int .i64 v, .slice (some ⟨gm, 0, none⟩) 1 1, .int .i64 v3, .slice A3 m3 c3, .int .i64 v14, .slice A14 m14 c14, .int .i64 v15, .slice A15 m15 c15, .int .i64 v, .slice none 0 0] 30)))).cell 1, (HK3.out.all (bt hS15 ((Below.refl _ _).alloc (Nat.le_refl _) (.cells #[.int .i64 v, .slice Af mf cf, .int .i64 v, .slice (some ⟨gm, 0, none⟩) 1 1, .int .i64 v3, .slice A3 m3 c3, .int .i64 v14, .slice A14 m14 c14, .int .i64 v15, .slice A15 m15 c15, .int .i64 v, .slice none 0 0] 30)))).cell 0, (HK3.out.all (bt hS15 ((Below.refl _ _).alloc (Nat.le_refl _) (.cells #[.int .i64 v, .slice Af mf cf, .int .i64 v, .slice (some ⟨gm, 0, none⟩) 1 1, .int .i64 v3, .slice A3 m3 c3, .int .i64 v14, .slice A14 m14 c14, .int .i64 v15, .slice A15 m15 c15, .int .i64 v, .slice none 0 0] 30)))).cell 1⟩
      clear hK K
      try simp only [Act.put, List.setIfInBounds_toArray, List.set_cons_zero, List.set_cons_succ]
      refine takeH 18 (some 22) (v := ?_) (by rfl) (by rfl) (by kernel_rfl) (by kernel_rfl) (by kernel_rfl) (fun _ _ _ h => h) ?_ (by assumption) ?_
      rotate_left
      · (intro o ho w hSw; obtain ⟨z0, z1, z2, z3, z4, z5⟩ := hSw; cases ho; go_simp; try with_reducible rfl)
      try simp only [Act.put, List.setIfInBounds_toArray, List.set_cons_zero, List.set_cons_succ]
      refine wpAnyH_done (by kernel_rfl) ?_ _
    --@4
      have hbb : Below w15.heap.size w15 (w15.alloc (.cells #[.int .i64 v, .slice Af mf cf, .int .i64 v, .slice (some ⟨gm, 0, none⟩) 1 1, .int .i64 v3, .slice A3 m3 c3, .int .i64 v14, .slice A14 m14 c14, .int .i64 v15, .slice A15 m15 c15, .int .i64 v, .slice none 0 0] 30)) := (Below.refl _ _).alloc (Nat.le_refl _) _
      have hS16 := bt hS15 hbb
      obtain ⟨ga, hga⟩ : ∃ g, w15.heap.size = g := ⟨_, rfl⟩
      have HCF : Hid (Cfs (w15.alloc (.cells #[.int .i64 v, .slice Af mf cf, .int .i64 v, .slice (some ⟨gm, 0, none⟩) 1 1, .int .i64 v3, .slice A3 m3 c3, .int .i64 v14, .slice A14 m14 c14, .int .i64 v15, .slice A15 m15 c15, .int .i64 v, .slice none 0 0] 30)) ga [⟨v, (Af, mf, cf), Nf⟩, ⟨v, (some ⟨gm, 0, none⟩, 1, 1), [⟨-1, 0, 0, (Ap, k, cp), P⟩]⟩, ⟨v3, (A3, m3, c3), N3⟩, ⟨v14, (A14, m14, c14), N14⟩, ⟨v15, (A15, m15, c15), N15⟩, ⟨v, (none, 0, 0), []⟩]) := Lib.hid ⟨Rows.of_blk (by rw [← hga]; exact Blk.new _ 30 #[.int .i64 v, .slice Af mf cf, .int .i64 v, .slice (some ⟨gm, 0, none⟩) 1 1, .int .i64 v3, .slice A3 m3 c3, .int .i64 v14, .slice A14 m14 c14, .int .i64 v15, .slice A15 m15 c15, .int .i64 v, .slice none 0 0]) Cf.cells_length rfl rfl (by decide), fun x hx => by
        simp only [List.mem_cons, List.not_mem_nil, or_false] at hx
        rcases hx with rfl | rfl | rfl | rfl | rfl | rfl
        · exact ⟨HNF.out.nds.all hS16, by dsimp only; omega⟩
        · exact ⟨HNM.out.nds.all hS16, by dsimp only; omega⟩
        · exact ⟨HN3.out.nds.all hS16, by dsimp only; omega⟩
        · exact ⟨HN14.out.nds.all (bt hT15 hbb), by dsimp only; omega⟩
        · exact ⟨HN15.out.nds.all ((Below.refl _ _).alloc (Nat.le_refl _) _), by dsimp only; omega⟩
        · exact ⟨⟨Rows.nil, fun b hb => by simp at hb⟩, by dsimp only; omega⟩⟩
      have HBB := Lib.hid (bt HB8.out (bt hS15 hbb))
      have HBAb := Lib.hid (HBA.out.all (bt hS15 hbb))
      have HWb := Lib.hid (NIn.all HW.out (bt hS15 hbb))
      have hgb : ga < (w15.alloc (.cells #[.int .i64 v, .slice Af mf cf, .int .i64 v, .slice (some ⟨gm, 0, none⟩) 1 1, .int .i64 v3, .slice A3 m3 c3, .int .i64 v14, .slice A14 m14 c14, .int .i64 v15, .slice A15 m15 c15, .int .i64 v, .slice none 0 0] 30)).heap.size := by rw [World.size_alloc, hga]; exact Nat.lt_succ_self _
      obtain ⟨wb, hwb⟩ : ∃ wb, w15.alloc (.cells #[.int .i64 v, .slice Af mf cf, .int .i64 v, .slice (some ⟨gm, 0, none⟩) 1 1, .int .i64 v3, .slice A3 m3 c3, .int .i64 v14, .slice A14 m14 c14, .int .i64 v15, .slice A15 m15 c15, .int .i64 v, .slice none 0 0] 30) = wb := ⟨_, rfl⟩
      rw [hwb] at HCF HBB HBAb HWb hgb ⊢
      obtain ⟨CL, hCL⟩ : ∃ CL, [(⟨v, (Af, mf, cf), Nf⟩ : Cf), ⟨v, (some ⟨gm, 0, none⟩, 1, 1), [⟨-1, 0, 0, (Ap, k, cp), P⟩]⟩, ⟨v3, (A3, m3, c3), N3⟩, ⟨v14, (A14, m14, c14), N14⟩, ⟨v15, (A15, m15, c15), N15⟩, ⟨v, (none, 0, 0), []⟩] = CL := ⟨_, rfl⟩
      rw [hCL] at HCF
      clear hCL hwb hbb
      go_wp2
      try rw [hga]
      clear hga
      go_loopw [23] (fun iv wr => ∃ i : Nat, i ≤ 6 ∧ iv = .int .i64 (i : Int) ∧ Hid (Below wb.heap.size wb wr)) (fun iv _ => 6 - (intOf iv).toNat)
      case atStart => exact ⟨0, by omega, rfl, Lib.hid (Below.refl _ _)⟩
      case round =>
        obtain ⟨i, hi, rfl, HBr⟩ := hrel
        by_cases hi6 : i < 6
        rotate_left
        · obtain rfl : i = 6 := by omega
          go_wp2_with fail
          refine (lives_any _).mono ?_
          rintro e wz ⟨rfl, hbz⟩
          go_wp2
          go_ret
          exact ⟨rfl, bt (bt HBB.out HBr.out) hbz⟩
        have HCr := Lib.hid (HCF.out.all HBr.out)
        have HBAr := Lib.hid (HBAb.out.all HBr.out)
        have HWr := Lib.hid (NIn.all HWb.out HBr.out)
        have hga1 : ga < wr.heap.size := Nat.lt_of_lt_of_le hgb HBr.out.size
        obtain ⟨vi, Ai, ni, ci, Ni, hv1, hv2, hni, hni2⟩ := HCr.out.get hi6
        have HV1 := Lib.hid hv1
        have HV2 := Lib.hid hv2
        have HNI := Lib.hid hni
        have HNim := Lib.hid hni.rows.len
        dsimp only at HNim
        clear hv1 hv2 hni HCr
        have hii : (i : Int) < 6 := by omega
        go_wp2
        have hS20 : Below wr.heap.size wr wr.drew := below_drewN (Below.refl _ _) 1
    --@5
        refine wp_region_held_drew (S := (fun w' => w'.cell? ⟨ga, i * 2, none⟩ = some (.int .i64 vi) ∧ w'.cell? ⟨ga, i * 2 + 1, none⟩ = some (.slice Ai ni ci))) (by kernel_rfl) ⟨(Below.cell hS20 (p := ⟨ga, i * 2, none⟩) hga1).trans HV1.out, (Below.cell hS20 (p := ⟨ga, i * 2 + 1, none⟩) hga1).trans HV2.out⟩ (fun hHeld => ?_)
        refine takeH 0 (some 78) (v := ?_) (by rfl) (by rfl) (by kernel_rfl) (by kernel_rfl) (by kernel_rfl) (fun _ _ _ h => h) ?_ (by assumption) ?_
        rotate_left
        · (intro o ho w hSw; obtain ⟨z0, z1⟩ := hSw; cases ho; go_simp; try with_reducible rfl)
        try simp only [Act.put, List.setIfInBounds_toArray, List.set_cons_zero, List.set_cons_succ]
        refine takeH 1 (some 79) (v := ?_) (by rfl) (by rfl) (by kernel_rfl) (by kernel_rfl) (by kernel_rfl) (fun _ _ _ h => h) ?_ (by assumption) ?_
        rotate_left
        · (intro o ho w hSw; obtain ⟨z0, z1⟩ := hSw; cases ho; go_simp; try with_reducible rfl)
        try simp only [Act.put, List.setIfInBounds_toArray, List.set_cons_zero, List.set_cons_succ]
        refine takeH 3 (some 81) (v := ?_) (by rfl) (by rfl) (by kernel_rfl) (by kernel_rfl) (by kernel_rfl) (fun _ _ _ h => h) ?_ (by assumption) ?_
        rotate_left
        · (intro o ho w hSw; obtain ⟨z0, z1⟩ := hSw; cases ho; go_simp; try with_reducible rfl)
        try simp only [Act.put, List.setIfInBounds_toArray, List.set_cons_zero, List.set_cons_succ]
        refine takeH 4 (some 82) (v := ?_) (by rfl) (by rfl) (by kernel_rfl) (by kernel_rfl) (by kernel_rfl) (fun _ _ _ h => h) ?_ (by assumption) ?_
        rotate_left
        · (intro o ho w hSw; obtain ⟨z0, z1⟩ := hSw; cases ho; go_simp; try with_reducible rfl)
        try simp only [Act.put, List.setIfInBounds_toArray, List.set_cons_zero, List.set_cons_succ]
        refine takeH 5 (some 83) (v := ?_) (by rfl) (by rfl) (by kernel_rfl) (by kernel_rfl) (by kernel_rfl) (fun _ _ _ h => h) ?_ (by assumption) ?_
        rotate_left
        · (intro o ho w hSw; obtain ⟨z0, z1⟩ := hSw; cases ho; go_simp; try with_reducible rfl)
        try simp only [Act.put, List.setIfInBounds_toArray, List.set_cons_zero, List.set_cons_succ]
        refine takeH 6 (some 84) (v := ?_) (by rfl) (by rfl) (by kernel_rfl) (by kernel_rfl) (by kernel_rfl) (fun _ _ _ h => h) ?_ (by assumption) ?_
        rotate_left
        · (intro o ho w hSw; obtain ⟨z0, z1⟩ := hSw; cases ho; go_simp; try with_reducible rfl)
        try simp only [Act.put, List.setIfInBounds_toArray, List.set_cons_zero, List.set_cons_succ]
        refine takeH 7 (some 85) (v := ?_) (by rfl) (by rfl) (by kernel_rfl) (by kernel_rfl) (by kernel_rfl) (fun _ _ _ h => h) ?_ (by assumption) ?_
        rotate_left
        · (intro o ho w hSw; obtain ⟨z0, z1⟩ := hSw; cases ho; go_simp; try with_reducible rfl)
        try simp only [Act.put, List.setIfInBounds_toArray, List.set_cons_zero, List.set_cons_succ]
        refine takeH 10 (some 88) (v := ?_) (by rfl) (by rfl) (by kernel_rfl) (by kernel_rfl) (by kernel_rfl) (fun _ _ _ h => h) ?_ (by assumption) ?_
        rotate_left
        · (intro o ho w hSw; obtain ⟨z0, z1⟩ := hSw; cases ho; go_simp; try with_reducible rfl)
        try simp only [Act.put, List.setIfInBounds_toArray, List.set_cons_zero, List.set_cons_succ]
        refine takeH 11 (some 89) (v := ?_) (by rfl) (by rfl) (by kernel_rfl) (by kernel_rfl) (by kernel_rfl) (fun _ _ _ h => h) ?_ (by assumption) ?_
        rotate_left
        · (intro o ho w hSw; obtain ⟨z0, z1⟩ := hSw; cases ho; go_simp; try with_reducible rfl)
        try simp only [Act.put, List.setIfInBounds_toArray, List.set_cons_zero, List.set_cons_succ]
        refine takeH 12 (some 90) (v := ?_) (by rfl) (by rfl) (by kernel_rfl) (by kernel_rfl) (by kernel_rfl) (fun _ _ _ h => h) ?_ (by assumption) ?_
        rotate_left
        · (intro o ho w hSw; obtain ⟨z0, z1⟩ := hSw; cases ho; go_simp; try with_reducible rfl)
        try simp only [Act.put, List.setIfInBounds_toArray, List.set_cons_zero, List.set_cons_succ]
        refine takeH 13 (some 91) (v := ?_) (by rfl) (by rfl) (by kernel_rfl) (by kernel_rfl) (by kernel_rfl) (fun _ _ _ h => h) ?_ (by assumption) ?_
        rotate_left
        · (intro o ho w hSw; obtain ⟨z0, z1⟩ := hSw; cases ho; go_simp; try with_reducible rfl)
        try simp only [Act.put, List.setIfInBounds_toArray, List.set_cons_zero, List.set_cons_succ]
        refine takeH 14 (some 92) (v := ?_) (by rfl) (by rfl) (by kernel_rfl) (by kernel_rfl) (by kernel_rfl) (fun _ _ _ h => h) ?_ (by assumption) ?_
        rotate_left
        · (intro o ho w hSw; obtain ⟨z0, z1⟩ := hSw; cases ho; go_simp; try with_reducible rfl)
        try simp only [Act.put, List.setIfInBounds_toArray, List.set_cons_zero, List.set_cons_succ]
        refine takeH 15 (some 93) (v := ?_) (by rfl) (by rfl) (by kernel_rfl) (by kernel_rfl) (by kernel_rfl) (fun _ _ _ h => h) ?_ (by assumption) ?_
        rotate_left
        · (intro o ho w hSw; obtain ⟨z0, z1⟩ := hSw; cases ho; go_simp; try with_reducible rfl)
        try simp only [Act.put, List.setIfInBounds_toArray, List.set_cons_zero, List.set_cons_succ]
        refine takeH 16 (some 94) (v := ?_) (by rfl) (by rfl) (by kernel_rfl) (by kernel_rfl) (by kernel_rfl) (fun _ _ _ h => h) ?_ (by assumption) ?_
        rotate_left
        · (intro o ho w hSw; obtain ⟨z0, z1⟩ := hSw; cases ho; go_simp; try with_reducible rfl)
        try simp only [Act.put, List.setIfInBounds_toArray, List.set_cons_zero, List.set_cons_succ]
        refine wpAnyH_ready (rs := [2]) (by kernel_rfl) (by simp) ?_
        refine AllReadyH.cons rfl (fun K hK => ?_) AllReadyH.nil
        go_simp
        go_at_call 19
        (refine (given_any Aa m ca La _ (Lib.hid (HBAr.out.all hS20)) (by omega)).mono ?_)
        rintro e wg ⟨Agg, cgg, rfl, hogg, hbgg⟩
        have hSg := bt hS20 hbgg
        rw [HLam.out] at hogg ⊢
        have HGg : Hid (Bds wg (Agg, m, cgg) La) := Lib.hid (Bds.of_own hogg (fun b hb => (HBAr.out.ok b hb).all hSg))
        clear hogg hbgg
        go_wp2
        refine hK.out _ _ ?_ (fun hh2 => ?_)
        · exact ⟨(Below.cell hSg (p := ⟨ga, i * 2, none⟩) hga1).trans HV1.out, (Below.cell hSg (p := ⟨ga, i * 2 + 1, none⟩) hga1).trans HV2.out⟩
        clear hK K
        try simp only [Act.put, List.setIfInBounds_toArray, List.set_cons_zero, List.set_cons_succ]
        refine wpAnyH_ready (rs := [8]) (by kernel_rfl) (by simp) ?_
        refine AllReadyH.cons rfl (fun K hK => ?_) AllReadyH.nil
        go_simp
        go_at_call 20
        (refine (cert_any vi Ai ni ci Ni _ (Lib.hid (HNI.out.all hSg)) (by omega)).mono ?_)
        rintro e wc ⟨Acc, ccc, rfl, hocc, hbcc⟩
        have hSc := bt hSg hbcc
        rw [HNim.out] at hocc ⊢
        have HCc : Hid (Nds wc (Acc, ni, ccc) Ni) := Lib.hid ⟨Rows.of_own Nd.cells_length hocc (by decide), fun b hb => (HNI.out.ok b hb).all hSc⟩
        clear hocc; have hbc3 := hbcc; clear hbcc
        go_wp2
        refine hK.out _ _ ?_ (fun hh8 => ?_)
        · exact ⟨(Below.cell hSc (p := ⟨ga, i * 2, none⟩) hga1).trans HV1.out, (Below.cell hSc (p := ⟨ga, i * 2 + 1, none⟩) hga1).trans HV2.out⟩
        clear hK K
        try simp only [Act.put, List.setIfInBounds_toArray, List.set_cons_zero, List.set_cons_succ]
        refine wpAnyH_ready (rs := [9]) (by kernel_rfl) (by simp) ?_
        refine AllReadyH.cons rfl (fun K hK => ?_) AllReadyH.nil
        go_simp
        go_at_call 18
        (refine (check_any (k : Int) Agg m cgg Aw nw cw vi Acc ni ccc La win Ni _ (Lib.hid (HGg.out.all hbc3)) (Lib.hid (NIn.all HWr.out hSc)) (Lib.hid HCc.out) (by omega)).mono ?_)
        rintro e wk ⟨rfl, hbk⟩
        have hSk := bt hSc hbk
        clear hbk
        obtain ⟨ckk, hckk⟩ : ∃ ck, checkE (k : Int) La win vi Ni = ck := ⟨_, rfl⟩
        rw [hckk]
        have HCKk := Lib.hid hckk
        clear hckk
        go_wp2
        refine hK.out _ _ ?_ (fun hh9 => ?_)
        · exact ⟨(Below.cell hSk (p := ⟨ga, i * 2, none⟩) hga1).trans HV1.out, (Below.cell hSk (p := ⟨ga, i * 2 + 1, none⟩) hga1).trans HV2.out⟩
        clear hK K
        try simp only [Act.put, List.setIfInBounds_toArray, List.set_cons_zero, List.set_cons_succ]
        refine wpAnyH_ready (rs := [17]) (by kernel_rfl) (by simp) ?_
        refine AllReadyH.cons rfl (fun K hK => ?_) AllReadyH.nil
        go_simp
        go_at_call 21
        (refine (rcheck_any (k : Int) Aa m ca Aw nw cw vi Ai ni ci La win Ni _ (Lib.hid (HBAr.out.all hSk)) (Lib.hid (NIn.all HWr.out hSk)) (Lib.hid (HNI.out.all hSk)) (by omega)).mono ?_)
        rintro e wr ⟨rfl, hbr⟩
        have hSr := bt hSk hbr
        clear hbr
        rw [HCKk.out]
        go_wp2
        refine hK.out _ _ ?_ (fun hh17 => ?_)
        · exact ⟨(Below.cell hSr (p := ⟨ga, i * 2, none⟩) hga1).trans HV1.out, (Below.cell hSr (p := ⟨ga, i * 2 + 1, none⟩) hga1).trans HV2.out⟩
        clear hK K
        try simp only [Act.put, List.setIfInBounds_toArray, List.set_cons_zero, List.set_cons_succ]
        refine takeH 18 (some 96) (v := .bool false) (by rfl) (by rfl) (by kernel_rfl) (by kernel_rfl) (by kernel_rfl) (fun _ _ _ h => h) ?_ (by assumption) ?_
        skip
        · (intro o ho w hSw; obtain ⟨z0, z1⟩ := hSw; cases ho; go_simp; try with_reducible rfl)
        try simp only [Act.put, List.setIfInBounds_toArray, List.set_cons_zero, List.set_cons_succ]
        refine wpAnyH_done (by kernel_rfl) ?_ _
    --@6
        go_wp2
        exact ⟨⟨i + 1, by omega, by go_num, Lib.hid (bt HBr.out hSr)⟩, by simp [intOf]; omega⟩
  · go_simp
    refine hK.out _ _ ?_ (fun hh7 => ?_)
    · exact ⟨(HK1.out.all (bt hS10 ((Below.refl _ _).alloc (Nat.le_refl _) (.cells #[.int .i64 0, .slice none 0 0] 30)))).cell 0, (HK1.out.all (bt hS10 ((Below.refl _ _).alloc (Nat.le_refl _) (.cells #[.int .i64 0, .slice none 0 0] 30)))).cell 1⟩
    clear hK K
    try simp only [Act.put, List.setIfInBounds_toArray, List.set_cons_zero, List.set_cons_succ]
    have hS9 := bt hS10 ((Below.refl _ _).alloc (Nat.le_refl _) (.cells #[.int .i64 0, .slice none 0 0] 30))
    refine wpAnyH_ready (rs := [4]) (by kernel_rfl) (by simp) ?_
    refine AllReadyH.cons rfl (fun K hK => ?_) AllReadyH.nil
    go_simp
    go_at_call 17
    (refine (around_nat a6 12 12 _ (by rfl) p60 p61 (by omega) (by omega)).mono ?_)
    rintro e w11 ⟨r, rfl, hr, -, rfl⟩
    have hrw : IntKind.i64.wrap ((r : Int) - 2) = (r : Int) - 2 := by rw [IntKind.wrap_i64]; omega
    go_wp2
    refine hK.out _ _ ?_ (fun hh4 => ?_)
    · exact ⟨(HK1.out.all hS9).cell 0, (HK1.out.all hS9).cell 1⟩
    clear hK K
    try simp only [Act.put, List.setIfInBounds_toArray, List.set_cons_zero, List.set_cons_succ]
    refine takeH 5 (some 52) (v := ?_) (by rfl) (by rfl) (by kernel_rfl) (by kernel_rfl) (by kernel_rfl) (fun _ _ _ h => h) ?_ (by assumption) ?_
    rotate_left
    · (intro o ho w hSw; obtain ⟨z0, z1⟩ := hSw; cases ho; go_simp; try with_reducible rfl)
    try simp only [Act.put, List.setIfInBounds_toArray, List.set_cons_zero, List.set_cons_succ]
    refine wpAnyH_ready (rs := [6]) (by kernel_rfl) (by simp) ?_
    refine AllReadyH.cons rfl (fun K hK => ?_) AllReadyH.nil
    go_simp
    go_at_call 16
    try rw [hrw]
    (refine (spoilt29_any v Af mf cf Nf a4 a5 ((r : Int) - 2) _ (Lib.hid (HNF.out.all hS9)) (by omega) HNS p40 p41 p50 p51).mono ?_)
    rintro e w3 ⟨v3, A3, m3, c3, N3, rfl, hm3, hN3, hb3, hal3, -⟩
    have hS3 := bt hS9 hb3
    have HN3 := Lib.hid hN3
    have HAL3 := Lib.hid hal3
    have hT3 := hb3
    have hk3 := (Blk.new' w8.drew 30 #[.int .i64 0, .slice none 0 0] (g := w8.heap.size) rfl).all hb3; clear hb3 hN3 hal3
    go_wp2
    refine hK.out _ _ ?_ (fun hh6 => ?_)
    · exact ⟨(HK1.out.all hS3).cell 0, (HK1.out.all hS3).cell 1⟩
    clear hK K
    try simp only [Act.put, List.setIfInBounds_toArray, List.set_cons_zero, List.set_cons_succ]
    refine wpAnyH_ready (rs := [8]) (by kernel_rfl) (by simp) ?_
    refine AllReadyH.cons rfl (fun K hK => ?_) AllReadyH.nil
    have s0 := hk3.cell 0
    have s1 := hk3.cell 1
    have s2 := hk3.frozen 0
    have s3 := hk3.frozen 1
    simp at s0 s1
    clear hHeld
    go_simp
    have HB9 : Hid (Below w8.heap.size w8 ((w3.setCell ⟨w8.heap.size, 0, none⟩ (.int .i64 v3)).setCell ⟨w8.heap.size, 1, none⟩ (.slice A3 m3 c3))) := Lib.hid ((hS3.setCell (p := ⟨w8.heap.size, 0, none⟩) (Nat.le_refl _) _).setCell (p := ⟨w8.heap.size, 1, none⟩) (Nat.le_refl _) _)
    have HK39 : Hid (Blk ((w3.setCell ⟨w8.heap.size, 0, none⟩ (.int .i64 v3)).setCell ⟨w8.heap.size, 1, none⟩ (.slice A3 m3 c3)) w8.heap.size 30 #[.int .i64 v3, .slice A3 m3 c3]) := Lib.hid ((hk3.set_ 0 (.int .i64 v3)).set_ 1 (.slice A3 m3 c3))
    have HN9 : Hid (NdsT ((w3.setCell ⟨w8.heap.size, 0, none⟩ (.int .i64 v3)).setCell ⟨w8.heap.size, 1, none⟩ (.slice A3 m3 c3)) (A3, m3, c3) N3) := Lib.hid (HN3.out.mod (((Mod.refl (fun b => b = w8.heap.size) w3).set (p := ⟨w8.heap.size, 0, none⟩) (.inl rfl) (.int .i64 v3)).set (p := ⟨w8.heap.size, 1, none⟩) (.inl rfl) (.slice A3 m3 c3)) (fun b hb => by rw [hb]; exact ⟨hk3.ty.not (by decide), hk3.ty.not (by decide)⟩))
    refine hK.out _ _ ?_ (fun hh8 => ?_)
    · exact ⟨(HK1.out.all HB9.out).cell 0, (HK1.out.all HB9.out).cell 1⟩
    clear hK K
    refine wpAnyH_done (by kernel_rfl) ?_ _
    obtain ⟨w9, hw9⟩ : ∃ w9, (w3.setCell ⟨w8.heap.size, 0, none⟩ (.int .i64 v3)).setCell ⟨w8.heap.size, 1, none⟩ (.slice A3 m3 c3) = w9 := ⟨_, rfl⟩
    obtain ⟨g3, hg3⟩ : ∃ g, w8.heap.size = g := ⟨_, rfl⟩
    rw [hw9] at HB9 HK39 HN9 ⊢
    rw [hg3] at HK39 ⊢
    have HK3 := Lib.hid HK39.out
    have HBA9 := Lib.hid (HBA.out.all HB9.out)
    have HW9 := Lib.hid (NIn.all HW.out HB9.out)
    have HNF9 := Lib.hid (HNF.out.all HB9.out)
    have HNM9 := Lib.hid (HNM.out.all HB9.out)
    have HK19 := Lib.hid (HK1.out.all HB9.out)
    have HK29 := Lib.hid (HK2.out.all HB9.out)
    have HB89 := Lib.hid (bt HB8.out HB9.out)
    clear s0 s1 s2 s3 hk3 hw9 hg3 HK39 HBA HW HNF HNM HK1 HK2 HB8 HB9 HN3 hh4 hh6 hh7 hh8 hS10 hS9 hS3 hT3 hrw
    have HBA := HBA9
    have HW := HW9
    have HNF := HNF9
    have HNM := HNM9
    have HN3 := HN9
    have HK1 := HK19
    have HK2 := HK29
    have HB8 := HB89
    clear HBA9 HW9 HNF9 HNM9 HN9 HK19 HK29 HB89
    have hS13 : Below w9.heap.size w9 w9.drew := below_drewN (Below.refl _ _) 1
    go_wp2
  --@2
    have HNS3 : Hid (∀ x ∈ N3, x.s.2.1 ≤ 1000000) := Lib.hid (fun x hx => by have := alt_small HAL3.out HNS9.out x hx; omega)
    have HQ4 := td7_ok a4 p40 p41
    have HQ5 := td7_ok a5 p50 p51
    obtain ⟨q4, hq4⟩ : ∃ q, a4.tdiv 7 = q := ⟨_, rfl⟩
    obtain ⟨q5, hq5⟩ : ∃ q, a5.tdiv 7 = q := ⟨_, rfl⟩
    rw [hq4] at HQ4
    rw [hq5] at HQ5
    obtain ⟨hq40, hq41⟩ := HQ4
    obtain ⟨hq50, hq51⟩ := HQ5
    have hqw4 : IntKind.i64.wrap q4 = q4 := by rw [IntKind.wrap_i64]; omega
    have hqw5 : IntKind.i64.wrap q5 = q5 := by rw [IntKind.wrap_i64]; omega
  --@3
    refine wp_region_held_drew (S := (fun w' => w'.cell? ⟨g1, 0, none⟩ = some (.int .i64 v) ∧ w'.cell? ⟨g1, 1, none⟩ = some (.slice Af mf cf) ∧ w'.cell? ⟨g2, 0, none⟩ = some (.int .i64 v) ∧ w'.cell? ⟨g2, 1, none⟩ = some (.slice (some ⟨gm, 0, none⟩) 1 1) ∧ w'.cell? ⟨g3, 0, none⟩ = some (.int .i64 v3) ∧ w'.cell? ⟨g3, 1, none⟩ = some (.slice A3 m3 c3))) (by kernel_rfl) ⟨(HK1.out.all hS13).cell 0, (HK1.out.all hS13).cell 1, (HK2.out.all hS13).cell 0, (HK2.out.all hS13).cell 1, (HK3.out.all hS13).cell 0, (HK3.out.all hS13).cell 1⟩ (fun hHeld => ?_)
    refine takeH 0 (some 54) (v := ?_) (by rfl) (by rfl) (by kernel_rfl) (by kernel_rfl) (by kernel_rfl) (fun _ _ _ h => h) ?_ (by assumption) ?_
    rotate_left
    · (intro o ho w hSw; obtain ⟨z0, z1, z2, z3, z4, z5⟩ := hSw; cases ho; go_simp; try with_reducible rfl)
    try simp only [Act.put, List.setIfInBounds_toArray, List.set_cons_zero, List.set_cons_succ]
    refine takeH 1 (some 55) (v := ?_) (by rfl) (by rfl) (by kernel_rfl) (by kernel_rfl) (by kernel_rfl) (fun _ _ _ h => h) ?_ (by assumption) ?_
    rotate_left
    · (intro o ho w hSw; obtain ⟨z0, z1, z2, z3, z4, z5⟩ := hSw; cases ho; go_simp; try with_reducible rfl)
    try simp only [Act.put, List.setIfInBounds_toArray, List.set_cons_zero, List.set_cons_succ]
    refine takeH 2 (some 56) (v := ?_) (by rfl) (by rfl) (by kernel_rfl) (by kernel_rfl) (by kernel_rfl) (fun _ _ _ h => h) ?_ (by assumption) ?_
    rotate_left
    · (intro o ho w hSw; obtain ⟨z0, z1, z2, z3, z4, z5⟩ := hSw; cases ho; go_simp; try with_reducible rfl)
    try simp only [Act.put, List.setIfInBounds_toArray, List.set_cons_zero, List.set_cons_succ]
    refine takeH 3 (some 57) (v := ?_) (by rfl) (by rfl) (by kernel_rfl) (by kernel_rfl) (by kernel_rfl) (fun _ _ _ h => h) ?_ (by assumption) ?_
    rotate_left
    · (intro o ho w hSw; obtain ⟨z0, z1, z2, z3, z4, z5⟩ := hSw; cases ho; go_simp; try with_reducible rfl)
    try simp only [Act.put, List.setIfInBounds_toArray, List.set_cons_zero, List.set_cons_succ]
    refine takeH 4 (some 58) (v := ?_) (by rfl) (by rfl) (by kernel_rfl) (by kernel_rfl) (by kernel_rfl) (fun _ _ _ h => h) ?_ (by assumption) ?_
    rotate_left
    · (intro o ho w hSw; obtain ⟨z0, z1, z2, z3, z4, z5⟩ := hSw; cases ho; go_simp; try with_reducible rfl)
    try simp only [Act.put, List.setIfInBounds_toArray, List.set_cons_zero, List.set_cons_succ]
    refine takeH 5 (some 59) (v := ?_) (by rfl) (by rfl) (by kernel_rfl) (by kernel_rfl) (by kernel_rfl) (fun _ _ _ h => h) ?_ (by assumption) ?_
    rotate_left
    · (intro o ho w hSw; obtain ⟨z0, z1, z2, z3, z4, z5⟩ := hSw; cases ho; go_simp; try with_reducible rfl)
    try simp only [Act.put, List.setIfInBounds_toArray, List.set_cons_zero, List.set_cons_succ]
    refine takeH 6 (some 60) (v := ?_) (by rfl) (by rfl) (by kernel_rfl) (by kernel_rfl) (by kernel_rfl) (fun _ _ _ h => h) ?_ (by assumption) ?_
    rotate_left
    · (intro o ho w hSw; obtain ⟨z0, z1, z2, z3, z4, z5⟩ := hSw; cases ho; go_simp; try with_reducible rfl)
    try simp only [Act.put, List.setIfInBounds_toArray, List.set_cons_zero, List.set_cons_succ]
    refine takeH 7 (some 61) (v := ?_) (by rfl) (by rfl) (by kernel_rfl) (by kernel_rfl) (by kernel_rfl) (fun _ _ _ h => h) ?_ (by assumption) ?_
    rotate_left
    · (intro o ho w hSw; obtain ⟨z0, z1, z2, z3, z4, z5⟩ := hSw; cases ho; go_simp; try with_reducible rfl)
    try simp only [Act.put, List.setIfInBounds_toArray, List.set_cons_zero, List.set_cons_succ]
    refine takeH 8 (some 62) (v := ?_) (by rfl) (by rfl) (by kernel_rfl) (by kernel_rfl) (by kernel_rfl) (fun _ _ _ h => h) ?_ (by assumption) ?_
    rotate_left
    · (intro o ho w hSw; obtain ⟨z0, z1, z2, z3, z4, z5⟩ := hSw; cases ho; go_simp; try with_reducible rfl)
    try simp only [Act.put, List.setIfInBounds_toArray, List.set_cons_zero, List.set_cons_succ]
    refine takeH 10 (some 64) (v := ?_) (by rfl) (by rfl) (by kernel_rfl) (by kernel_rfl) (by kernel_rfl) (fun _ _ _ h => h) ?_ (by assumption) ?_
    rotate_left
    · (intro o ho w hSw; obtain ⟨z0, z1, z2, z3, z4, z5⟩ := hSw; cases ho; go_simp; try with_reducible rfl)
    try simp only [Act.put, List.setIfInBounds_toArray, List.set_cons_zero, List.set_cons_succ]
    refine takeH 11 (some 65) (v := ?_) (by rfl) (by rfl) (by kernel_rfl) (by kernel_rfl) (by kernel_rfl) (fun _ _ _ h => h) ?_ (by assumption) ?_
    rotate_left
    · (intro o ho w hSw; obtain ⟨z0, z1, z2, z3, z4, z5⟩ := hSw; cases ho; go_simp; try with_reducible rfl)
    try simp only [Act.put, List.setIfInBounds_toArray, List.set_cons_zero, List.set_cons_succ]
    refine takeH 12 (some 66) (v := ?_) (by rfl) (by rfl) (by kernel_rfl) (by kernel_rfl) (by kernel_rfl) (fun _ _ _ h => h) ?_ (by assumption) ?_
    rotate_left
    · (intro o ho w hSw; obtain ⟨z0, z1, z2, z3, z4, z5⟩ := hSw; cases ho; go_simp; try with_reducible rfl)
    try simp only [Act.put, List.setIfInBounds_toArray, List.set_cons_zero, List.set_cons_succ]
    refine takeH 13 (some 67) (v := ?_) (by rfl) (by rfl) (by kernel_rfl) (by kernel_rfl) (by kernel_rfl) (fun _ _ _ h => h) ?_ (by assumption) ?_
    rotate_left
    · (intro o ho w hSw; obtain ⟨z0, z1, z2, z3, z4, z5⟩ := hSw; cases ho; go_simp; try with_reducible rfl)
    try simp only [Act.put, List.setIfInBounds_toArray, List.set_cons_zero, List.set_cons_succ]
    refine takeH 15 (some 69) (v := ?_) (by rfl) (by rfl) (by kernel_rfl) (by kernel_rfl) (by kernel_rfl) (fun _ _ _ h => h) ?_ (by assumption) ?_
    rotate_left
    · (intro o ho w hSw; obtain ⟨z0, z1, z2, z3, z4, z5⟩ := hSw; cases ho; go_simp; try with_reducible rfl)
    try simp only [Act.put, List.setIfInBounds_toArray, List.set_cons_zero, List.set_cons_succ]
    refine takeH 16 (some 70) (v := ?_) (by rfl) (by rfl) (by kernel_rfl) (by kernel_rfl) (by kernel_rfl) (fun _ _ _ h => h) ?_ (by assumption) ?_
    rotate_left
    · (intro o ho w hSw; obtain ⟨z0, z1, z2, z3, z4, z5⟩ := hSw; cases ho; go_simp; try with_reducible rfl)
    try simp only [Act.put, List.setIfInBounds_toArray, List.set_cons_zero, List.set_cons_succ]
    refine wpAnyH_ready (rs := [9]) (by kernel_rfl) (by simp) ?_
    refine AllReadyH.cons rfl (fun K hK => ?_) AllReadyH.nil
    go_simp
    go_at_call 16
    try rw [hqw4, hqw5]
    (refine (spoilt29_any v3 A3 m3 c3 N3 q4 q5 a6 _ (Lib.hid (HN3.out.all hS13)) (by omega) HNS3 hq40 hq41 hq50 hq51).mono ?_)
    rintro e w14 ⟨v14, A14, m14, c14, N14, rfl, hm14, hN14, hb14, hal14, -⟩
    have hS14 := bt hS13 hb14
    have HN14 := Lib.hid hN14
    have HAL14 := Lib.hid hal14
    have hT14 := hb14
    clear hb14 hN14 hal14
    go_wp2
    refine hK.out _ _ ?_ (fun hh9 => ?_)
    · exact ⟨(HK1.out.all hS14).cell 0, (HK1.out.all hS14).cell 1, (HK2.out.all hS14).cell 0, (HK2.out.all hS14).cell 1, (HK3.out.all hS14).cell 0, (HK3.out.all hS14).cell 1⟩
    clear hK K
    try simp only [Act.put, List.setIfInBounds_toArray, List.set_cons_zero, List.set_cons_succ]
    refine wpAnyH_ready (rs := [14]) (by kernel_rfl) (by simp) ?_
    refine AllReadyH.cons rfl (fun K hK => ?_) AllReadyH.nil
    go_simp
    go_at_call 16
    (refine (spoilt29_any v (some ⟨gm, 0, none⟩) 1 1 [⟨-1, 0, 0, (Ap, k, cp), P⟩] a4 a5 a6 _ (Lib.hid (HNM.out.all hS14)) (by omega) HNSM p40 p41 p50 p51).mono ?_)
    rintro e w15 ⟨v15, A15, m15, c15, N15, rfl, hm15, hN15, hb15, hal15, -⟩
    have hS15 := bt hS14 hb15
    have HN15 := Lib.hid hN15
    have HAL15 := Lib.hid hal15
    have hT15 := hb15
    clear hb15 hN15 hal15
    go_wp2
    refine hK.out _ _ ?_ (fun hh14 => ?_)
    · exact ⟨(HK1.out.all hS15).cell 0, (HK1.out.all hS15).cell 1, (HK2.out.all hS15).cell 0, (HK2.out.all hS15).cell 1, (HK3.out.all hS15).cell 0, (HK3.out.all hS15).cell 1⟩
    clear hK K
    try simp only [Act.put, List.setIfInBounds_toArray, List.set_cons_zero, List.set_cons_succ]
    refine wpAnyH_ready (rs := [17]) (by kernel_rfl) (by simp) ?_
    refine AllReadyH.cons rfl (fun K hK => ?_) AllReadyH.nil
    go_simp
    refine hK.out _ _ ?_ (fun hh17 => ?_)
    · exact ⟨(HK1.out.all (bt hS15 ((Below.refl _ _).alloc (Nat.le_refl _) (.cells #[.int .i64 v, .slice Af mf cf, .int .i64 v, .slice (some ⟨gm, 0, none⟩) 1 1, .int .i64 v3, .slice A3 m3 c3, .int .i64 v14, .slice A14 m14 c14, .int .i64 v15, .slice A15 m15 c15, .int .i64 v, .slice none 0 0] 30)))).cell 0, (HK1.out.all (bt hS15 ((Below.refl _ _).alloc (Nat.le_refl _) (.cells #[.int .i64 v, .slice Af mf cf, .int .i64 v, .slice (some ⟨gm, 0, none⟩) 1 1, .int .i64 v3, .slice A3 m3 c3, .int .i64 v14, .slice A14 m14 c14, .int .i64 v15, .slice A15 m15 c15, .int .i64 v, .slice none 0 0] 30)))).cell 1, (HK2.out.all (bt hS15 ((Below.refl _ _).alloc (Nat.le_refl _) (.cells #[.int .i64 v, .slice Af mf cf, .int .i64 v, .slice (some ⟨gm, 0, none⟩) 1 1, .int .i64 v3, .slice A3 m3 c3, .int .i64 v14, .slice A14 m14 c14, .int .i64 v15, .slice A15 m15 c15, .int .i64 v, .slice none 0 0] 30)))).cell 0, (HK2.out.all (bt hS15 ((Below.refl _ _).alloc (Nat.le_refl _) (.cells #[.int .i64 v, .slice Af mf cf, .int .i64 v, .slice (some ⟨gm, 0, none⟩) 1 1, .int .i64 v3, .slice A3 m3 c3, .int .i64 v14, .slice A14 m14 c14, .int .i64 v15, .slice A15 m15 c15, .int .i64 v, .slice none 0 0] 30)))).cell 1, (HK3.out.all (bt hS15 ((Below.refl _ _).alloc (Nat.le_refl _) (.cells #[.int .i64 v, .slice Af mf cf, .int .i64 v, .slice (some ⟨gm, 0, none⟩) 1 1, .int .i64 v3, .slice A3 m3 c3, .int .i64 v14, .slice A14 m14 c14, .int .i64 v15, .slice A15 m15 c15, .int .i64 v, .slice none 0 0] 30)))).cell 0, (HK3.out.all (bt hS15 ((Below.refl _ _).alloc (Nat.le_refl _) (.cells #[.int .i64 v, .slice Af mf cf, .int .i64 v, .slice (some ⟨gm, 0, none⟩) 1 1, .int .i64 v3, .slice A3 m3 c3, .int .i64 v14, .slice A14 m14 c14, .int .i64 v15, .slice A15 m15 c15, .int .i64 v, .slice none 0 0] 30)))).cell 1⟩
    clear hK K
    try simp only [Act.put, List.setIfInBounds_toArray, List.set_cons_zero, List.set_cons_succ]
    refine takeH 18 (some 22) (v := ?_) (by rfl) (by rfl) (by kernel_rfl) (by kernel_rfl) (by kernel_rfl) (fun _ _ _ h => h) ?_ (by assumption) ?_
    rotate_left
    · (intro o ho w hSw; obtain ⟨z0, z1, z2, z3, z4, z5⟩ := hSw; cases ho; go_simp; try with_reducible rfl)
    try simp only [Act.put, List.setIfInBounds_toArray, List.set_cons_zero, List.set_cons_succ]
    refine wpAnyH_done (by kernel_rfl) ?_ _
  --@4
    have hbb : Below w15.heap.size w15 (w15.alloc (.cells #[.int .i64 v, .slice Af mf cf, .int .i64 v, .slice (some ⟨gm, 0, none⟩) 1 1, .int .i64 v3, .slice A3 m3 c3, .int .i64 v14, .slice A14 m14 c14, .int .i64 v15, .slice A15 m15 c15, .int .i64 v, .slice none 0 0] 30)) := (Below.refl _ _).alloc (Nat.le_refl _) _
    have hS16 := bt hS15 hbb
    obtain ⟨ga, hga⟩ : ∃ g, w15.heap.size = g := ⟨_, rfl⟩
    have HCF : Hid (Cfs (w15.alloc (.cells #[.int .i64 v, .slice Af mf cf, .int .i64 v, .slice (some ⟨gm, 0, none⟩) 1 1, .int .i64 v3, .slice A3 m3 c3, .int .i64 v14, .slice A14 m14 c14, .int .i64 v15, .slice A15 m15 c15, .int .i64 v, .slice none 0 0] 30)) ga [⟨v, (Af, mf, cf), Nf⟩, ⟨v, (some ⟨gm, 0, none⟩, 1, 1), [⟨-1, 0, 0, (Ap, k, cp), P⟩]⟩, ⟨v3, (A3, m3, c3), N3⟩, ⟨v14, (A14, m14, c14), N14⟩, ⟨v15, (A15, m15, c15), N15⟩, ⟨v, (none, 0, 0), []⟩]) := Lib.hid ⟨Rows.of_blk (by rw [← hga]; exact Blk.new _ 30 #[.int .i64 v, .slice Af mf cf, .int .i64 v, .slice (some ⟨gm, 0, none⟩) 1 1, .int .i64 v3, .slice A3 m3 c3, .int .i64 v14, .slice A14 m14 c14, .int .i64 v15, .slice A15 m15 c15, .int .i64 v, .slice none 0 0]) Cf.cells_length rfl rfl (by decide), fun x hx => by
      simp only [List.mem_cons, List.not_mem_nil, or_false] at hx
      rcases hx with rfl | rfl | rfl | rfl | rfl | rfl
      · exact ⟨HNF.out.nds.all hS16, by dsimp only; omega⟩
      · exact ⟨HNM.out.nds.all hS16, by dsimp only; omega⟩
      · exact ⟨HN3.out.nds.all hS16, by dsimp only; omega⟩
      · exact ⟨HN14.out.nds.all (bt hT15 hbb), by dsimp only; omega⟩
      · exact ⟨HN15.out.nds.all ((Below.refl _ _).alloc (Nat.le_refl _) _), by dsimp only; omega⟩
      · exact ⟨⟨Rows.nil, fun b hb => by simp at hb⟩, by dsimp only; omega⟩⟩
    have HBB := Lib.hid (bt HB8.out (bt hS15 hbb))
    have HBAb := Lib.hid (HBA.out.all (bt hS15 hbb))
    have HWb := Lib.hid (NIn.all HW.out (bt hS15 hbb))
    have hgb : ga < (w15.alloc (.cells #[.int .i64 v, .slice Af mf cf, .int .i64 v, .slice (some ⟨gm, 0, none⟩) 1 1, .int .i64 v3, .slice A3 m3 c3, .int .i64 v14, .slice A14 m14 c14, .int .i64 v15, .slice A15 m15 c15, .int .i64 v, .slice none 0 0] 30)).heap.size := by rw [World.size_alloc, hga]; exact Nat.lt_succ_self _
    obtain ⟨wb, hwb⟩ : ∃ wb, w15.alloc (.cells #[.int .i64 v, .slice Af mf cf, .int .i64 v, .slice (some ⟨gm, 0, none⟩) 1 1, .int .i64 v3, .slice A3 m3 c3, .int .i64 v14, .slice A14 m14 c14, .int .i64 v15, .slice A15 m15 c15, .int .i64 v, .slice none 0 0] 30) = wb := ⟨_, rfl⟩
    rw [hwb] at HCF HBB HBAb HWb hgb ⊢
    obtain ⟨CL, hCL⟩ : ∃ CL, [(⟨v, (Af, mf, cf), Nf⟩ : Cf), ⟨v, (some ⟨gm, 0, none⟩, 1, 1), [⟨-1, 0, 0, (Ap, k, cp), P⟩]⟩, ⟨v3, (A3, m3, c3), N3⟩, ⟨v14, (A14, m14, c14), N14⟩, ⟨v15, (A15, m15, c15), N15⟩, ⟨v, (none, 0, 0), []⟩] = CL := ⟨_, rfl⟩
    rw [hCL] at HCF
    clear hCL hwb hbb
    go_wp2
    try rw [hga]
    clear hga
    go_loopw [23] (fun iv wr => ∃ i : Nat, i ≤ 6 ∧ iv = .int .i64 (i : Int) ∧ Hid (Below wb.heap.size wb wr)) (fun iv _ => 6 - (intOf iv).toNat)
    case atStart => exact ⟨0, by omega, rfl, Lib.hid (Below.refl _ _)⟩
    case round =>
      obtain ⟨i, hi, rfl, HBr⟩ := hrel
      by_cases hi6 : i < 6
      rotate_left
      · obtain rfl : i = 6 := by omega
        go_wp2_with fail
        refine (lives_any _).mono ?_
        rintro e wz ⟨rfl, hbz⟩
        go_wp2
        go_ret
        exact ⟨rfl, bt (bt HBB.out HBr.out) hbz⟩
      have HCr := Lib.hid (HCF.out.all HBr.out)
      have HBAr := Lib.hid (HBAb.out.all HBr.out)
      have HWr := Lib.hid (NIn.all HWb.out HBr.out)
      have hga1 : ga < wr.heap.size := Nat.lt_of_lt_of_le hgb HBr.out.size
      obtain ⟨vi, Ai, ni, ci, Ni, hv1, hv2, hni, hni2⟩ := HCr.out.get hi6
      have HV1 := Lib.hid hv1
      have HV2 := Lib.hid hv2
      have HNI := Lib.hid hni
      have HNim := Lib.hid hni.rows.len
      dsimp only at HNim
      clear hv1 hv2 hni HCr
      have hii : (i : Int) < 6 := by omega
      go_wp2
      have hS20 : Below wr.heap.size wr wr.drew := below_drewN (Below.refl _ _) 1
  --@5
      refine wp_region_held_drew (S := (fun w' => w'.cell? ⟨ga, i * 2, none⟩ = some (.int .i64 vi) ∧ w'.cell? ⟨ga, i * 2 + 1, none⟩ = some (.slice Ai ni ci))) (by kernel_rfl) ⟨(Below.cell hS20 (p := ⟨ga, i * 2, none⟩) hga1).trans HV1.out, (Below.cell hS20 (p := ⟨ga, i * 2 + 1, none⟩) hga1).trans HV2.out⟩ (fun hHeld => ?_)
      refine takeH 0 (some 78) (v := ?_) (by rfl) (by rfl) (by kernel_rfl) (by kernel_rfl) (by kernel_rfl) (fun _ _ _ h => h) ?_ (by assumption) ?_
      rotate_left
      · (intro o ho w hSw; obtain ⟨z0, z1⟩ := hSw; cases ho; go_simp; try with_reducible rfl)
      try simp only [Act.put, List.setIfInBounds_toArray, List.set_cons_zero, List.set_cons_succ]
      refine takeH 1 (some 79) (v := ?_) (by rfl) (by rfl) (by kernel_rfl) (by kernel_rfl) (by kernel_rfl) (fun _ _ _ h => h) ?_ (by assumption) ?_
      rotate_left
      · (intro o ho w hSw; obtain ⟨z0, z1⟩ := hSw; cases ho; go_simp; try with_reducible rfl)
      try simp only [Act.put, List.setIfInBounds_toArray, List.set_cons_zero, List.set_cons_succ]
      refine takeH 3 (some 81) (v := ?_) (by rfl) (by rfl) (by kernel_rfl) (by kernel_rfl) (by kernel_rfl) (fun _ _ _ h => h) ?_ (by assumption) ?_
      rotate_left
      · (intro o ho w hSw; obtain ⟨z0, z1⟩ := hSw; cases ho; go_simp; try with_reducible rfl)
      try simp only [Act.put, List.setIfInBounds_toArray, List.set_cons_zero, List.set_cons_succ]
      refine takeH 4 (some 82) (v := ?_) (by rfl) (by rfl) (by kernel_rfl) (by kernel_rfl) (by kernel_rfl) (fun _ _ _ h => h) ?_ (by assumption) ?_
      rotate_left
      · (intro o ho w hSw; obtain ⟨z0, z1⟩ := hSw; cases ho; go_simp; try with_reducible rfl)
      try simp only [Act.put, List.setIfInBounds_toArray, List.set_cons_zero, List.set_cons_succ]
      refine takeH 5 (some 83) (v := ?_) (by rfl) (by rfl) (by kernel_rfl) (by kernel_rfl) (by kernel_rfl) (fun _ _ _ h => h) ?_ (by assumption) ?_
      rotate_left
      · (intro o ho w hSw; obtain ⟨z0, z1⟩ := hSw; cases ho; go_simp; try with_reducible rfl)
      try simp only [Act.put, List.setIfInBounds_toArray, List.set_cons_zero, List.set_cons_succ]
      refine takeH 6 (some 84) (v := ?_) (by rfl) (by rfl) (by kernel_rfl) (by kernel_rfl) (by kernel_rfl) (fun _ _ _ h => h) ?_ (by assumption) ?_
      rotate_left
      · (intro o ho w hSw; obtain ⟨z0, z1⟩ := hSw; cases ho; go_simp; try with_reducible rfl)
      try simp only [Act.put, List.setIfInBounds_toArray, List.set_cons_zero, List.set_cons_succ]
      refine takeH 7 (some 85) (v := ?_) (by rfl) (by rfl) (by kernel_rfl) (by kernel_rfl) (by kernel_rfl) (fun _ _ _ h => h) ?_ (by assumption) ?_
      rotate_left
      · (intro o ho w hSw; obtain ⟨z0, z1⟩ := hSw; cases ho; go_simp; try with_reducible rfl)
      try simp only [Act.put, List.setIfInBounds_toArray, List.set_cons_zero, List.set_cons_succ]
      refine takeH 10 (some 88) (v := ?_) (by rfl) (by rfl) (by kernel_rfl) (by kernel_rfl) (by kernel_rfl) (fun _ _ _ h => h) ?_ (by assumption) ?_
      rotate_left
      · (intro o ho w hSw; obtain ⟨z0, z1⟩ := hSw; cases ho; go_simp; try with_reducible rfl)
      try simp only [Act.put, List.setIfInBounds_toArray, List.set_cons_zero, List.set_cons_succ]
      refine takeH 11 (some 89) (v := ?_) (by rfl) (by rfl) (by kernel_rfl) (by kernel_rfl) (by kernel_rfl) (fun _ _ _ h => h) ?_ (by assumption) ?_
      rotate_left
      · (intro o ho w hSw; obtain ⟨z0, z1⟩ := hSw; cases ho; go_simp; try with_reducible rfl)
      try simp only [Act.put, List.setIfInBounds_toArray, List.set_cons_zero, List.set_cons_succ]
      refine takeH 12 (some 90) (v := ?_) (by rfl) (by rfl) (by kernel_rfl) (by kernel_rfl) (by kernel_rfl) (fun _ _ _ h => h) ?_ (by assumption) ?_
      rotate_left
      · (intro o ho w hSw; obtain ⟨z0, z1⟩ := hSw; cases ho; go_simp; try with_reducible rfl)
      try simp only [Act.put, List.setIfInBounds_toArray, List.set_cons_zero, List.set_cons_succ]
      refine takeH 13 (some 91) (v := ?_) (by rfl) (by rfl) (by kernel_rfl) (by kernel_rfl) (by kernel_rfl) (fun _ _ _ h => h) ?_ (by assumption) ?_
      rotate_left
      · (intro o ho w hSw; obtain ⟨z0, z1⟩ := hSw; cases ho; go_simp; try with_reducible rfl)
      try simp only [Act.put, List.setIfInBounds_toArray, List.set_cons_zero, List.set_cons_succ]
      refine takeH 14 (some 92) (v := ?_) (by rfl) (by rfl) (by kernel_rfl) (by kernel_rfl) (by kernel_rfl) (fun _ _ _ h => h) ?_ (by assumption) ?_
      rotate_left
      · (intro o ho w hSw; obtain ⟨z0, z1⟩ := hSw; cases ho; go_simp; try with_reducible rfl)
      try simp only [Act.put, List.setIfInBounds_toArray, List.set_cons_zero, List.set_cons_succ]
      refine takeH 15 (some 93) (v := ?_) (by rfl) (by rfl) (by kernel_rfl) (by kernel_rfl) (by kernel_rfl) (fun _ _ _ h => h) ?_ (by assumption) ?_
      rotate_left
      · (intro o ho w hSw; obtain ⟨z0, z1⟩ := hSw; cases ho; go_simp; try with_reducible rfl)
      try simp only [Act.put, List.setIfInBounds_toArray, List.set_cons_zero, List.set_cons_succ]
      refine takeH 16 (some 94) (v := ?_) (by rfl) (by rfl) (by kernel_rfl) (by kernel_rfl) (by kernel_rfl) (fun _ _ _ h => h) ?_ (by assumption) ?_
      rotate_left
      · (intro o ho w hSw; obtain ⟨z0, z1⟩ := hSw; cases ho; go_simp; try with_reducible rfl)
      try simp only [Act.put, List.setIfInBounds_toArray, List.set_cons_zero, List.set_cons_succ]
      refine wpAnyH_ready (rs := [2]) (by kernel_rfl) (by simp) ?_
      refine AllReadyH.cons rfl (fun K hK => ?_) AllReadyH.nil
      go_simp
      go_at_call 19
      (refine (given_any Aa m ca La _ (Lib.hid (HBAr.out.all hS20)) (by omega)).mono ?_)
      rintro e wg ⟨Agg, cgg, rfl, hogg, hbgg⟩
      have hSg := bt hS20 hbgg
      rw [HLam.out] at hogg ⊢
      have HGg : Hid (Bds wg (Agg, m, cgg) La) := Lib.hid (Bds.of_own hogg (fun b hb => (HBAr.out.ok b hb).all hSg))
      clear hogg hbgg
      go_wp2
      refine hK.out _ _ ?_ (fun hh2 => ?_)
      · exact ⟨(Below.cell hSg (p := ⟨ga, i * 2, none⟩) hga1).trans HV1.out, (Below.cell hSg (p := ⟨ga, i * 2 + 1, none⟩) hga1).trans HV2.out⟩
      clear hK K
      try simp only [Act.put, List.setIfInBounds_toArray, List.set_cons_zero, List.set_cons_succ]
      refine wpAnyH_ready (rs := [8]) (by kernel_rfl) (by simp) ?_
      refine AllReadyH.cons rfl (fun K hK => ?_) AllReadyH.nil
      go_simp
      go_at_call 20
      (refine (cert_any vi Ai ni ci Ni _ (Lib.hid (HNI.out.all hSg)) (by omega)).mono ?_)
      rintro e wc ⟨Acc, ccc, rfl, hocc, hbcc⟩
      have hSc := bt hSg hbcc
      rw [HNim.out] at hocc ⊢
      have HCc : Hid (Nds wc (Acc, ni, ccc) Ni) := Lib.hid ⟨Rows.of_own Nd.cells_length hocc (by decide), fun b hb => (HNI.out.ok b hb).all hSc⟩
      clear hocc; have hbc3 := hbcc; clear hbcc
      go_wp2
      refine hK.out _ _ ?_ (fun hh8 => ?_)
      · exact ⟨(Below.cell hSc (p := ⟨ga, i * 2, none⟩) hga1).trans HV1.out, (Below.cell hSc (p := ⟨ga, i * 2 + 1, none⟩) hga1).trans HV2.out⟩
      clear hK K
      try simp only [Act.put, List.setIfInBounds_toArray, List.set_cons_zero, List.set_cons_succ]
      refine wpAnyH_ready (rs := [9]) (by kernel_rfl) (by simp) ?_
      refine AllReadyH.cons rfl (fun K hK => ?_) AllReadyH.nil
      go_simp
      go_at_call 18
      (refine (check_any (k : Int) Agg m cgg Aw nw cw vi Acc ni ccc La win Ni _ (Lib.hid (HGg.out.all hbc3)) (Lib.hid (NIn.all HWr.out hSc)) (Lib.hid HCc.out) (by omega)).mono ?_)
      rintro e wk ⟨rfl, hbk⟩
      have hSk := bt hSc hbk
      clear hbk
      obtain ⟨ckk, hckk⟩ : ∃ ck, checkE (k : Int) La win vi Ni = ck := ⟨_, rfl⟩
      rw [hckk]
      have HCKk := Lib.hid hckk
      clear hckk
      go_wp2
      refine hK.out _ _ ?_ (fun hh9 => ?_)
      · exact ⟨(Below.cell hSk (p := ⟨ga, i * 2, none⟩) hga1).trans HV1.out, (Below.cell hSk (p := ⟨ga, i * 2 + 1, none⟩) hga1).trans HV2.out⟩
      clear hK K
      try simp only [Act.put, List.setIfInBounds_toArray, List.set_cons_zero, List.set_cons_succ]
      refine wpAnyH_ready (rs := [17]) (by kernel_rfl) (by simp) ?_
      refine AllReadyH.cons rfl (fun K hK => ?_) AllReadyH.nil
      go_simp
      go_at_call 21
      (refine (rcheck_any (k : Int) Aa m ca Aw nw cw vi Ai ni ci La win Ni _ (Lib.hid (HBAr.out.all hSk)) (Lib.hid (NIn.all HWr.out hSk)) (Lib.hid (HNI.out.all hSk)) (by omega)).mono ?_)
      rintro e wr ⟨rfl, hbr⟩
      have hSr := bt hSk hbr
      clear hbr
      rw [HCKk.out]
      go_wp2
      refine hK.out _ _ ?_ (fun hh17 => ?_)
      · exact ⟨(Below.cell hSr (p := ⟨ga, i * 2, none⟩) hga1).trans HV1.out, (Below.cell hSr (p := ⟨ga, i * 2 + 1, none⟩) hga1).trans HV2.out⟩
      clear hK K
      try simp only [Act.put, List.setIfInBounds_toArray, List.set_cons_zero, List.set_cons_succ]
      refine takeH 18 (some 96) (v := .bool false) (by rfl) (by rfl) (by kernel_rfl) (by kernel_rfl) (by kernel_rfl) (fun _ _ _ h => h) ?_ (by assumption) ?_
      skip
      · (intro o ho w hSw; obtain ⟨z0, z1⟩ := hSw; cases ho; go_simp; try with_reducible rfl)
      try simp only [Act.put, List.setIfInBounds_toArray, List.set_cons_zero, List.set_cons_succ]
      refine wpAnyH_done (by kernel_rfl) ?_ _
  --@6
      go_wp2
      exact ⟨⟨i + 1, by omega, by go_num, Lib.hid (bt HBr.out hSr)⟩, by simp [intOf]; omega⟩


set_option maxRecDepth 100000 in
theorem ProofChecks_lifted (os : Os) (started : os.Started) (H : Type) (enc : TypeId × Value → H) :
    ReturnsInHanded {} Try.checked os 3 .any (Rows.proofChecksSpec.pre6 enc Try.prog Try.f3 Rows.proofChecksRow.domain false) (Rows.proofChecksSpec.post enc Try.prog Try.f3 false true false false) := by
  refine returnsInHanded_of_change (C := Try.checked) Try.own started (by kernel_rfl) Try.func3
    (ChangeSpec.witness6 (enc := enc) (C := Try.checked) false ⟨#[], #[.int .i64 0, .slice none 0 0, .slice none 0 0, .int .i64 0, .int .i64 0, .int .i64 0, .int .i64 0], []⟩ 8 (by kernel_rfl) (by kernel_rfl) (by kernel_rfl) (by kernel_rfl)) ?_
  intro W base args ds gs before hval0 hW _ _
  have hval : ∀ (j : Nat) t v, Try.f3.params[j]? = some t → args[j]? = some v → Value.okWide Try.prog W .any base t v := hval0
  have hW' := hW
  obtain ⟨p, q, hT0, hV, rfl, hfz, hnd⟩ := hW
  have hT : DataW.TrodAll enc Try.prog W 0 (fun _ => true) true Try.f3.params.toList args.toList ds p := hT0
  rw [Try.params3] at hT hval
  obtain ⟨v0, vs0, d0, ds0, p0, q0, hargs0, rfl, rfl, h0, r0⟩ := trodAll_cons hT
  obtain ⟨v1, vs1, d1, ds1, p1, q1, hargs1, rfl, rfl, h1, r1⟩ := trodAll_cons r0
  obtain ⟨v2, vs2, d2, ds2, p2, q2, hargs2, rfl, rfl, h2, r2⟩ := trodAll_cons r1
  obtain ⟨v3, vs3, d3, ds3, p3, q3, hargs3, rfl, rfl, h3, r3⟩ := trodAll_cons r2
  obtain ⟨v4, vs4, d4, ds4, p4, q4, hargs4, rfl, rfl, h4, r4⟩ := trodAll_cons r3
  obtain ⟨v5, vs5, d5, ds5, p5, q5, hargs5, rfl, rfl, h5, r5⟩ := trodAll_cons r4
  obtain ⟨v6, vs6, d6, ds6, p6, q6, hargs6, rfl, rfl, h6, r6⟩ := trodAll_cons r5
  obtain ⟨rfl, rfl, rfl⟩ := trodAll_nil r6
  obtain rfl : args = #[v0, v1, v2, v3, v4, v5, v6] := by cases args; simp_all
  obtain ⟨a0, rfl, -, -, w0⟩ := open_int Try.underlying3 (hval 0 3 v0 rfl rfl) h0
  obtain ⟨A1, n1, c1, f1, rfl, hA1, hn1, hc1, hR1, hw1⟩ := open_sl Try.underlying22 Try.underlying3 (by kernel_rfl) (hval 1 22 v1 rfl rfl) h1
  obtain ⟨A2, n2, c2, f2, rfl, hA2, hn2, hc2, hR2, hw2⟩ := open_sl Try.underlying22 Try.underlying3 (by kernel_rfl) (hval 2 22 v2 rfl rfl) h2
  obtain ⟨a3, rfl, -, -, w3⟩ := open_int Try.underlying3 (hval 3 3 v3 rfl rfl) h3
  obtain ⟨a4, rfl, -, -, w4⟩ := open_int Try.underlying3 (hval 4 3 v4 rfl rfl) h4
  obtain ⟨a5, rfl, -, -, w5⟩ := open_int Try.underlying3 (hval 5 3 v5 rfl rfl) h5
  obtain ⟨a6, rfl, -, -, w6⟩ := open_int Try.underlying3 (hval 6 3 v6 rfl rfl) h6
  refine (ProofChecks_walk W a0 w0 A1 n1 c1 f1 hA1 hn1 hc1 hR1 hw1 A2 n2 c2 f2 hA2 hn2 hc2 hR2 hw2 a3 w3 a4 w4 a5 w5 a6 w6).mono fun e W' ⟨he, hb⟩ => ?_
  subst he
  exact ⟨_, rfl, law_post Try.laidOut (by kernel_rfl) (by kernel_rfl) Try.underlying4 rfl hW' rfl hb⟩

theorem ProofChecks_holds : Rows.ProofChecksSaid :=
  OpenClaim.holds_of_wide 3 Try.f3 rfl rfl rfl rfl rfl rfl rfl ⟨rfl, rfl, rfl, rfl, rfl⟩ rfl rfl rfl rfl rfl (by kernel_rfl) Try.func3 (by kernel_rfl)
    (of_decide_eq_true (by kernel_rfl)) (by unfold Func.isWrapper; first | (rw [if_pos (by decide +kernel)]; kernel_rfl) | (rw [if_neg (by decide +kernel)]; exact ⟨rfl, rfl⟩))
    (fun os started H enc _ => ProofChecks_lifted os started H enc)

end Go.Proofs.Ytikfcpkobgejmaa
