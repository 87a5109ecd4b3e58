/- For every list of numbers worldmintlaw29.ProofMakes returns true: Make returns a certificate that is accepted, or the error. No condition. -/
import Derived.Test.YtikfcpkobgejmaaGProofChecksxProofMakes1

/- proof: Make. -/
namespace Go.Proofs.Ytikfcpkobgejmaa
open Go.RowKit

theorem mk_any (w0 : World) (n : Nat) (A : Option Addr) (m c : Nat) (v : Int) (L : List Bd) (gp gn gl gv gb : Nat) (HL : Hid (Bds w0 (A, m, c) L)) (hm : m ≤ 10) (hn : n ≤ 8) (HBO : Hid (BidsOk n L)) (HBV : Hid ((bestS L).2 = v)) : ∀ d, MkSpec w0 n A m c v L gp gn gl gv gb d
  | 0 => mk_step w0 n A m c v L gp gn gl gv gb HL hm hn HBO HBV 0 (Lib.hid fun d' h => by omega)
  | d + 1 => mk_step w0 n A m c v L gp gn gl gv gb HL hm hn HBO HBV (d + 1) (Lib.hid fun d' h => by
      obtain rfl : d = d' := by omega
      exact mk_any w0 n A m c v L gp gn gl gv gb HL hm hn HBO HBV d)
def MakePost (n : Nat) (L : List Bd) (w : World) (e : Ending) (w' : World) : Prop :=
  ∃ A' k c' N, e = .returned (.tuple #[.agg #[.int .i64 (bestS L).2, .slice A' k c'], .int .i64 0]) ∧ NdsW w' w.heap.size A' k c' N ∧ Built n L (bestS L).2 N 11 0 (List.replicate L.length 0) k ∧ Below w.heap.size w w'
theorem Built.le {n : Nat} {L : List Bd} {v : Int} {N : List Nd} {f i j : Nat} {D : List Int} (h : Built n L v N f i D j) : ∀ g, f ≤ g → Built n L v N g i D j := fun g hg => by
  obtain ⟨k, rfl⟩ := Nat.exists_eq_add_of_le hg
  clear hg
  induction k with
  | zero => exact h
  | succ k ih => exact ih.more
theorem make_bad (n : Int) (A : Option Addr) (m c : Nat) (L : List Bd) (w : World) (HL : Hid (Bds w (A, m, c) L)) (HV : Hid (validE n L ≠ 0)) :
    Calls Try.prog 28 #[.int .i64 n, .slice A m c] w fun e w' => e = .returned (.tuple #[.agg #[.int .i64 0, .slice none 0 0], .int .i64 (validE n L)]) ∧ Below w.heap.size w w' := by
  obtain ⟨r, hr⟩ : ∃ r, validE n L = r := ⟨_, rfl⟩
  have hne : (r != 0) = true := by rw [← hr]; simpa using HV.out
  have HRR := Lib.hid hr
  rw [hr]
  clear hr
  go_enter Try.func28, Try.ntmps28
  go_wp2_with fail
  obtain ⟨w1, hw1⟩ : ∃ x, ((w.alloc (.cells #[.int .i64 n] 3)).alloc (.cells #[.slice A m c] 40)).alloc (.cells #[.int .i64 0, .slice none 0 0] 44) = x := ⟨_, rfl⟩
  have hb1 : Below w.heap.size w w1 := by rw [← hw1]; exact (((Below.refl w.heap.size w).alloc (Nat.le_refl _) _).alloc (by simp) _).alloc (by simp; omega) _
  have hk1 : Blk w1 (w.heap.size + 2) 44 #[.int .i64 0, .slice none 0 0] := by
    rw [← hw1]
    have := Blk.new ((w.alloc (.cells #[.int .i64 n] 3)).alloc (.cells #[.slice A m c] 40)) 44 #[.int .i64 0, .slice none 0 0]
    rw [World.size_alloc, World.size_alloc] at this
    exact this
  rw [hw1]
  obtain ⟨gr, hgr⟩ : ∃ g, w.heap.size + 2 = g := ⟨_, rfl⟩
  rw [hgr] at hk1
  try rw [show w.heap.size + 1 + 1 = gr from hgr]
  have hgw : w.heap.size ≤ gr := by omega
  have HB1 := Lib.hid hb1
  have HK1 := Lib.hid hk1
  clear hb1 hk1 hw1 hgr
  have hcb := cbest_bad n A m c L w1 (Lib.hid (HL.out.all HB1.out)) HV
  rw [HRR.out] at hcb
  refine hcb.mono ?_
  clear hcb
  rintro e w2 ⟨rfl, hb2⟩
  have HK2 := Lib.hid (HK1.out.all hb2)
  have HB2 := Lib.hid (bt HB1.out hb2)
  have hb3 : Below w2.heap.size w2 (w2.alloc (.cells #[.int .i64 0] 3)) := (Below.refl _ _).alloc (Nat.le_refl _) _
  have HK3 := Lib.hid (HK2.out.all hb3)
  have HB3 := Lib.hid (bt HB2.out hb3)
  have q0 := HK3.out.cell 0
  have q1 := HK3.out.cell 1
  have f0 := HK3.out.frozen 0
  have f1 := HK3.out.frozen 1
  simp at q0 q1
  clear hb2 hb3
--@1
  go_wp2
  have HKE := Lib.hid ((HK3.out.set_ 0 (.int .i64 0)).set_ 1 (.slice none 0 0))
  have u0 := HKE.out.cell 0
  have u1 := HKE.out.cell 1
  simp at u0 u1
  have hbe : Below w.heap.size w (((w2.alloc (.cells #[.int .i64 0] 3)).setCell ⟨gr, 0, none⟩ (.int .i64 0)).setCell ⟨gr, 1, none⟩ (.slice none 0 0)) := (HB3.out.setCell (p := ⟨gr, 0, none⟩) hgw _).setCell (p := ⟨gr, 1, none⟩) hgw _
  exact bodyPost_ret (v := .tuple #[.agg #[.int .i64 0, .slice none 0 0], .int .i64 r]) (by simp [results, Try.results28, go_sem, u0, u1]) rfl ⟨rfl, hbe⟩

set_option maxRecDepth 100000 in
set_option maxHeartbeats 4000000 in
theorem make_any (n : Nat) (A : Option Addr) (m c : Nat) (L : List Bd) (w : World) (HL : Hid (Bds w (A, m, c) L)) (HV : Hid (validE (n : Int) L = 0)) :
    Calls Try.prog 28 #[.int .i64 (n : Int), .slice A m c] w (MakePost n L w) := by
  obtain ⟨-, hn8, hm10, hbo⟩ := valid_ok HV.out HL.out
  have HLL := Lib.hid HL.out.rows.len
  dsimp only at HLL
  have hm : m ≤ 10 := by rw [← HLL.out]; exact hm10
  have hn : n ≤ 8 := by omega
  have HBO : Hid (BidsOk n L) := Lib.hid (by simpa using hbo)
  clear hn8 hm10 hbo
  go_enter Try.func28, Try.ntmps28
  go_wp2_with fail
  obtain ⟨w1, hw1⟩ : ∃ x, ((w.alloc (.cells #[.int .i64 (n : Int)] 3)).alloc (.cells #[.slice A m c] 40)).alloc (.cells #[.int .i64 0, .slice none 0 0] 44) = x := ⟨_, rfl⟩
  have hb1 : Below w.heap.size w w1 := by rw [← hw1]; exact (((Below.refl w.heap.size w).alloc (Nat.le_refl _) _).alloc (by simp) _).alloc (by simp; omega) _
  have hn1 : Blk w1 w.heap.size 3 #[.int .i64 (n : Int)] := by
    rw [← hw1]
    exact ((Blk.new w 3 #[.int .i64 (n : Int)]).alloc _).alloc _
  have hl1 : Blk w1 (w.heap.size + 1) 40 #[.slice A m c] := by
    rw [← hw1]
    have := (Blk.new (w.alloc (.cells #[.int .i64 (n : Int)] 3)) 40 #[.slice A m c]).alloc (.cells #[.int .i64 0, .slice none 0 0] 44)
    rw [World.size_alloc] at this
    exact this
  have hk1 : Blk w1 (w.heap.size + 2) 44 #[.int .i64 0, .slice none 0 0] := by
    rw [← hw1]
    have := Blk.new ((w.alloc (.cells #[.int .i64 (n : Int)] 3)).alloc (.cells #[.slice A m c] 40)) 44 #[.int .i64 0, .slice none 0 0]
    rw [World.size_alloc, World.size_alloc] at this
    exact this
  rw [hw1]
  obtain ⟨gn, hgn⟩ : ∃ g, w.heap.size = g := ⟨_, rfl⟩
  obtain ⟨gl, hgl⟩ : ∃ g, w.heap.size + 1 = g := ⟨_, rfl⟩
  obtain ⟨gr, hgr⟩ : ∃ g, w.heap.size + 2 = g := ⟨_, rfl⟩
  rw [hgn] at hn1
  rw [hgl] at hl1
  rw [hgr] at hk1
  try rw [show w.heap.size + 1 + 1 = gr from hgr]
  try rw [hgl]
  try rw [hgn]
  have HGW : Hid (w.heap.size ≤ gr ∧ w.heap.size ≤ gl ∧ w.heap.size ≤ gn) := Lib.hid (by omega)
  have HB1 := Lib.hid hb1
  have HK1 := Lib.hid hk1
  have HN1 := Lib.hid hn1
  have HL1 := Lib.hid hl1
  clear hb1 hk1 hn1 hl1 hw1 hgr hgl hgn
  refine (cbest_any n A m c L w1 (Lib.hid (HL.out.all HB1.out)) HV).mono ?_
  rintro e w2 ⟨A2, n2, c2, rfl, -, hb2⟩
  obtain ⟨v, hv⟩ : ∃ v, (bestS L).2 = v := ⟨_, rfl⟩
  have HBV := Lib.hid hv
  rw [hv]
  clear hv
  go_upto_region 6 with (fail)
  have hb5 : Below w2.heap.size w2 (((w2.alloc (.cells #[.int .i64 v] 3)).alloc (.cells #[.int .i64 v, .slice none 0 0] 44)).alloc (.cells #[.nilFunc] 97)) := (((Below.refl w2.heap.size w2).alloc (Nat.le_refl _) _).alloc (by simp) _).alloc (by simp; omega) _
  have hv5 : Blk (((w2.alloc (.cells #[.int .i64 v] 3)).alloc (.cells #[.int .i64 v, .slice none 0 0] 44)).alloc (.cells #[.nilFunc] 97)) w2.heap.size 3 #[.int .i64 v] := ((Blk.new w2 3 #[.int .i64 v]).alloc _).alloc _
  have hp5 : Blk (((w2.alloc (.cells #[.int .i64 v] 3)).alloc (.cells #[.int .i64 v, .slice none 0 0] 44)).alloc (.cells #[.nilFunc] 97)) (w2.heap.size + 1) 44 #[.int .i64 v, .slice none 0 0] := by
    have := (Blk.new (w2.alloc (.cells #[.int .i64 v] 3)) 44 #[.int .i64 v, .slice none 0 0]).alloc (.cells #[.nilFunc] 97)
    rw [World.size_alloc] at this
    exact this
  have hf5 : Blk (((w2.alloc (.cells #[.int .i64 v] 3)).alloc (.cells #[.int .i64 v, .slice none 0 0] 44)).alloc (.cells #[.nilFunc] 97)) (w2.heap.size + 2) 97 #[.nilFunc] := by
    have := Blk.new ((w2.alloc (.cells #[.int .i64 v] 3)).alloc (.cells #[.int .i64 v, .slice none 0 0] 44)) 97 #[.nilFunc]
    rw [World.size_alloc, World.size_alloc] at this
    exact this
  obtain ⟨w5, hw5⟩ : ∃ x, ((w2.alloc (.cells #[.int .i64 v] 3)).alloc (.cells #[.int .i64 v, .slice none 0 0] 44)).alloc (.cells #[.nilFunc] 97) = x := ⟨_, rfl⟩
  rw [hw5] at hb5 hv5 hp5 hf5 ⊢
  obtain ⟨gv, hgv⟩ : ∃ g, w2.heap.size = g := ⟨_, rfl⟩
  obtain ⟨gp, hgp⟩ : ∃ g, w2.heap.size + 1 = g := ⟨_, rfl⟩
  obtain ⟨gb, hgb⟩ : ∃ g, w2.heap.size + 2 = g := ⟨_, rfl⟩
  rw [hgv] at hv5
  rw [hgp] at hp5
  rw [hgb] at hf5
  try rw [show w2.heap.size + 1 + 1 = gb from hgb]
  try rw [hgp]
  try rw [hgv]
  have HGO : Hid (gv < gb ∧ gp < gb ∧ gn < gb ∧ gl < gb ∧ gr < gb ∧ gr < gp ∧ w.heap.size ≤ gp) := Lib.hid (by
    have h1 := (HN1.out.all hb2).lt
    have h2 := (HL1.out.all hb2).lt
    have h3 := (HK1.out.all hb2).lt
    have := HGW.out
    omega)
  have HN5 := Lib.hid ((HN1.out.all hb2).all hb5)
  have HL5 := Lib.hid ((HL1.out.all hb2).all hb5)
  have HK5 := Lib.hid ((HK1.out.all hb2).all hb5)
  have HB5 := Lib.hid (bt (bt HB1.out hb2) hb5)
  have HV5 := Lib.hid hv5
  have HP5 := Lib.hid hp5
  have HF5 := Lib.hid hf5
  have q1 := hf5.cell 0
  have q2 := hf5.frozen 0
  simp at q1
  clear hb2 hb5 hv5 hp5 hf5 hw5 hgv hgp hgb HN1 HL1 HK1 HB1
  go_upto_region 7 with (fail)
  have HMK : Hid (MK w n A m c v gp gn gl gv gb (none, 0, 0) [] (w5.setCell ⟨gb, 0, none⟩ (.func (.func 52) #[] #[.pointer (some ⟨gp, 0, none⟩), .pointer (some ⟨gn, 0, none⟩), .pointer (some ⟨gl, 0, none⟩), .pointer (some ⟨gv, 0, none⟩), .pointer (some ⟨gb, 0, none⟩)]))) := Lib.hid (by
    obtain ⟨h1, h2, h3, h4, h5, h6, h7⟩ := HGO.out
    have k : Mod (fun b => b = gb) w5 (w5.setCell ⟨gb, 0, none⟩ (.func (.func 52) #[] #[.pointer (some ⟨gp, 0, none⟩), .pointer (some ⟨gn, 0, none⟩), .pointer (some ⟨gl, 0, none⟩), .pointer (some ⟨gv, 0, none⟩), .pointer (some ⟨gb, 0, none⟩)])) := (Mod.refl (fun b => b = gb) w5).set (p := ⟨gb, 0, none⟩) (.inl rfl) _
    refine ⟨⟨k.blk HN5.out (by omega), k.blk HL5.out (by omega), k.blk HV5.out (by omega), ?_⟩, k.blk HP5.out (by omega), ⟨rfl, World.ownsRow_nil _ _ _ _, fun x hx => by simp at hx⟩, h7, Mod.below HB5.out k HB5.out.size (fun b hb => by rw [hb]; omega)⟩
    have := Blk.set_ HF5.out 0 (.func (.func 52) #[] #[.pointer (some ⟨gp, 0, none⟩), .pointer (some ⟨gn, 0, none⟩), .pointer (some ⟨gl, 0, none⟩), .pointer (some ⟨gv, 0, none⟩), .pointer (some ⟨gb, 0, none⟩)])
    exact this)
  have HK6 : Hid (Blk (w5.setCell ⟨gb, 0, none⟩ (.func (.func 52) #[] #[.pointer (some ⟨gp, 0, none⟩), .pointer (some ⟨gn, 0, none⟩), .pointer (some ⟨gl, 0, none⟩), .pointer (some ⟨gv, 0, none⟩), .pointer (some ⟨gb, 0, none⟩)])) gr 44 #[.int .i64 0, .slice none 0 0]) := Lib.hid (HK5.out.far (by have := HGO.out; simp; omega) _)
  obtain ⟨w6, hw6⟩ : ∃ x, w5.setCell ⟨gb, 0, none⟩ (.func (.func 52) #[] #[.pointer (some ⟨gp, 0, none⟩), .pointer (some ⟨gn, 0, none⟩), .pointer (some ⟨gl, 0, none⟩), .pointer (some ⟨gv, 0, none⟩), .pointer (some ⟨gb, 0, none⟩)]) = x := ⟨_, rfl⟩
  rw [hw6] at HMK HK6 ⊢
  clear hw6 q1 q2 HN5 HL5 HK5 HB5 HV5 HP5 HF5
  have hS5 : Below w6.heap.size w6 w6.drew := below_drewN (Below.refl _ _) 1
  obtain ⟨i0, hi0, hz0, hz1, hz2⟩ := info_parts int_info
  obtain ⟨w7, hmk, hown7, hb7, -⟩ := make_all (P := Try.prog) w6.drew 22 3 i0 _ 8 Try.underlying22 hi0 hz0 hz1 hz2 rfl .i64 .i64 m (by omega) (by unfold maxLen; omega)
  have hd7 : w6.drew.heap.size = w6.heap.size := rfl
  rw [hd7] at hmk hown7
  have HB6 : Hid (Below w6.heap.size w6 w7) := Lib.hid (bt hS5 hb7)
  have HMKE := Lib.hid hmk
  have hz : TI w7 (some ⟨w6.heap.size, 0, none⟩, m, m) (List.replicate m 0) := TI.own (B := w6.heap.size) (by unfold OwnI; rw [List.map_replicate]; exact hown7)
  have h2m : 2 ^ (m + 1) ≤ 2 ^ 11 := Nat.pow_le_pow_right (by decide) (by omega)
  have hcall := mk_any w n A m c v L gp gn gl gv gb HL hm hn HBO HBV m (none, 0, 0) [] (some ⟨w6.heap.size, 0, none⟩, m, m) (List.replicate m 0) w7 (Lib.hid (HMK.out.all HB6.out)) (Lib.hid hz) rfl (Lib.hid (by rw [← HLL.out]; exact Dec.start L)) (by rw [List.count_replicate]; simp) (by dsimp only; omega)
  unfold slV at hcall
  dsimp only at hcall
  have HCALL := Lib.hid hcall
  clear hi0 hz0 hz1 hz2 hmk hown7 hb7 hd7 hz h2m hcall
--@3
  refine wp_region_held_drew (S := (fun w' => w'.cell? ⟨gb, 0, none⟩ = some (.func (.func 52) #[] #[.pointer (some ⟨gp, 0, none⟩), .pointer (some ⟨gn, 0, none⟩), .pointer (some ⟨gl, 0, none⟩), .pointer (some ⟨gv, 0, none⟩), .pointer (some ⟨gb, 0, none⟩)]) ∧ w'.cell? ⟨gl, 0, none⟩ = some (.slice A m c))) (by kernel_rfl) ⟨(HMK.out.all hS5).b.kb.cell 0, (HMK.out.all hS5).b.kl.cell 0⟩ (fun hHeld => ?_)
  refine takeH 0 (some 25) (v := ?_) (by rfl) (by rfl) (by kernel_rfl) (by kernel_rfl) (by kernel_rfl) (fun _ _ _ h => h) ?_ (by assumption) ?_
  rotate_left
  · (intro o ho w hSw; obtain ⟨z0, z1⟩ := hSw; cases ho; go_simp; try with_reducible rfl)
  try simp only [Act.put, List.setIfInBounds_toArray, List.set_cons_zero, List.set_cons_succ]
  refine takeH 1 (some 26) (v := ?_) (by rfl) (by rfl) (by kernel_rfl) (by kernel_rfl) (by kernel_rfl) (fun _ _ _ h => h) ?_ (by assumption) ?_
  rotate_left
  · (intro o ho w hSw; obtain ⟨z0, z1⟩ := hSw; cases ho; go_simp; try with_reducible rfl)
  try simp only [Act.put, List.setIfInBounds_toArray, List.set_cons_zero, List.set_cons_succ]
  refine takeH 2 (some 27) (v := ?_) (by rfl) (by rfl) (by kernel_rfl) (by kernel_rfl) (by kernel_rfl) (fun _ _ _ h => h) ?_ (by assumption) ?_
  rotate_left
  · (intro o ho w hSw; obtain ⟨z0, z1⟩ := hSw; cases ho; go_simp; try with_reducible rfl)
  try simp only [Act.put, List.setIfInBounds_toArray, List.set_cons_zero, List.set_cons_succ]
  refine wpAnyH_ready (rs := [3]) (by kernel_rfl) (by simp) ?_
  refine AllReadyH.cons rfl (fun K hK => ?_) AllReadyH.nil
  have hmk := HMKE.out
  go_simp
  refine hK.out _ _ ?_ (fun hh7a => ?_)
  · exact ⟨(HMK.out.all HB6.out).b.kb.cell 0, (HMK.out.all HB6.out).b.kl.cell 0⟩
  clear hK K
  try simp only [Act.put, List.setIfInBounds_toArray]
  refine wpAnyH_ready (rs := [4]) (by kernel_rfl) (by simp) ?_
  refine AllReadyH.cons rfl (fun K hK => ?_) AllReadyH.nil
  go_simp
  go_at_call 52
  refine HCALL.out.mono ?_
  rintro e w9 ⟨⟨A9, m9, c9⟩, N9, rfl, hMK9, hT9, hB9, hM9, hO9⟩
  go_wp2
  refine hK.out _ _ ?_ (fun hh7b => ?_)
  · exact ⟨(hMK9).b.kb.cell 0, (hMK9).b.kl.cell 0⟩
  clear hK K
  try simp only [Act.put, List.setIfInBounds_toArray, List.set_cons_zero, List.set_cons_succ]
  refine wpAnyH_done (by kernel_rfl) ?_ _
  clear hh7a hh7b hHeld
  obtain ⟨h1, h2, h3, h4, h5, h6, h7⟩ := HGO.out
  have hk9 : Blk w9 gr 44 #[.int .i64 0, .slice none 0 0] := hM9.blk (HK6.out.all HB6.out) (fun hf => hf.elim (fun e => by omega) (fun e => by simp [slV, Value.ownBlock] at e))
  have q0 := hMK9.p.cell 0
  have q1 := hMK9.p.cell 1
  have r0 := hk9.cell 0
  have r1 := hk9.cell 1
  have f0 := hk9.frozen 0
  have f1 := hk9.frozen 1
  unfold slV at q1
  simp at q0 q1 r0 r1
  have HK9 := Lib.hid hk9
  have HMK9 := Lib.hid hMK9
  have HB9 := Lib.hid hB9
  clear hk9 hMK9 hT9 hB9 hM9 hO9 h1 h2 h3 h4 h5 h6 h7
  go_wp2
  have HKE := Lib.hid ((HK9.out.set_ 0 (.int .i64 v)).set_ 1 (.slice A9 m9 c9))
  have u0 := HKE.out.cell 0
  have u1 := HKE.out.cell 1
  simp at u0 u1
  have hgw := HGW.out.1
  have hme : Mod (fun b => b = gr) w9 ((w9.setCell ⟨gr, 0, none⟩ (.int .i64 v)).setCell ⟨gr, 1, none⟩ (.slice A9 m9 c9)) := ((Mod.refl (fun b => b = gr) w9).set (p := ⟨gr, 0, none⟩) (.inl rfl) _).set (p := ⟨gr, 1, none⟩) (.inl rfl) _
  have hbe : Below w.heap.size w ((w9.setCell ⟨gr, 0, none⟩ (.int .i64 v)).setCell ⟨gr, 1, none⟩ (.slice A9 m9 c9)) := Mod.below HMK9.out.below hme HMK9.out.below.size (fun b hb => by rw [hb]; exact hgw)
  have HF : Hid (MakePost n L w (.returned (.tuple #[.agg #[.int .i64 v, .slice A9 m9 c9], .int .i64 0])) ((w9.setCell ⟨gr, 0, none⟩ (.int .i64 v)).setCell ⟨gr, 1, none⟩ (.slice A9 m9 c9))) := Lib.hid (by
    refine ⟨A9, m9, c9, N9, by rw [HBV.out], HMK9.out.nd.mod hme (fun b hb => by rw [hb]; exact ⟨HK9.out.ty.not (by decide), HK9.out.ty.not (by decide)⟩), ?_, hbe⟩
    have := HB9.out.le 11 (by omega)
    rw [HBV.out, HLL.out]
    exact this)
  exact bodyPost_ret (v := .tuple #[.agg #[.int .i64 v, .slice A9 m9 c9], .int .i64 0]) (by simp [results, Try.results28, go_sem, u0, u1]) rfl HF.out
end Go.Proofs.Ytikfcpkobgejmaa

/- law 29: what Make builds is accepted; lowering a price that does not win. -/
namespace Go.Proofs.Ytikfcpkobgejmaa
open Go.RowKit

theorem feas_len {L : List Bd} {C : List Int} (h : FeasP L C) : C.length ≤ L.length := by
  have h1 := sum_mem h.nodup h.1 (fun _ => 1)
  have h2 : (C.map fun _ => (1 : Int)).sum = C.length := by
    clear h h1
    induction C with
    | nil => rfl
    | cons a t ih => rw [List.map_cons, List.sum_cons, ih, List.length_cons]; omega
  have h3 : ((List.range L.length).map fun (k : Nat) => if (k : Int) ∈ C then (1 : Int) else 0).sum ≤ ((List.range L.length).map fun _ => (1 : Int)).sum := sum_le (fun a _ => by split <;> omega)
  have h4 : ∀ n : Nat, ((List.range n).map fun _ => (1 : Int)).sum = n := fun n => by
    induction n with
    | zero => rfl
    | succ n ih => rw [List.range_succ, List.map_append, List.sum_append, ih]; simp
  rw [h4, ← h1, h2] at h3
  omega
theorem make_check {k np : Nat} {L : List Bd} {N : List Nd} (hv : validE (k : Int) L = 0) (hb : Built k L (bestS L).2 N 11 0 (List.replicate L.length 0) np) (hl : N.length = np) : checkE (k : Int) L (bestS L).1 (bestS L).2 N = 0 ∧ np ≤ 2047 ∧ 0 < np := by
  obtain ⟨h1, h2⟩ := best_feas L
  rw [← h2, ← hl] at hb
  obtain ⟨h3, h4, h5⟩ := hb.proof (win := (bestS L).1) (Nat.le_refl _)
  rw [h2] at h5
  refine ⟨?_, by omega, by omega⟩
  unfold checkE
  rw [if_pos hv, if_pos h1, if_neg (by omega), Int.toNat_natCast, if_pos h5]
theorem Built.small {n : Nat} {L : List Bd} {v : Int} {N : List Nd} : ∀ {f i j : Nat} {D : List Int}, Built n L v N f i D j → ∀ t, i ≤ t → t < j → (ndAt N t).prices.length ≤ n
  | 0, _, _, _, h => h.elim
  | f + 1, i, j, D, h => by
    intro t ht1 ht2
    rcases h with ⟨s, h1, h2, rfl⟩ | ⟨b, i2, s, h1, h2, h3, h4⟩
    · obtain rfl : t = i := by omega
      rw [h1]
      simp
    · by_cases e : t = i
      · subst e
        rw [h1]
        simp
      · by_cases e2 : t < i2
        · exact h3.small t (by omega) e2
        · exact h4.small t (by omega) ht2
/-- A certificate in a row: its value, its slice of nodes, and these. -/
structure Cg where
  v : Int
  s : Sl
  N : List Nd
def Cg.cells (x : Cg) : List Value := [.int .i64 x.v, slV x.s]
theorem Cg.cells_length (x : Cg) : x.cells.length = 2 := rfl
structure Cgs (w : World) (g k : Nat) (L : List Cg) : Prop where
  rows : Rows Cg.cells 2 w (some ⟨g, 0, none⟩, k, k) L
  ok : ∀ x ∈ L, Nds w x.s x.N
theorem Cgs.all {w w' : World} {g k : Nat} {L : List Cg} (h : Cgs w g k L) (hb : Below w.heap.size w w') : Cgs w' g k L := ⟨h.rows.all hb, fun x hx => (h.ok x hx).all hb⟩
theorem Cgs.get {w : World} {g k : Nat} {L : List Cg} (h : Cgs w g k L) {i : Nat} (hi : i < k) : ∃ v A n c N, w.cell? ⟨g, i * 2, none⟩ = some (.int .i64 v) ∧ w.cell? ⟨g, i * 2 + 1, none⟩ = some (.slice A n c) ∧ Nds w (A, n, c) N := by
  have hl : i < L.length := by rw [h.rows.len]; exact hi
  obtain ⟨b, off, e, -, hc⟩ := h.rows.cells Cg.cells_length hl (by decide)
  injection e with e
  injection e with e1 e2 _
  subst e1 e2
  have h0 := hc 0 (.int .i64 L[i].v) rfl
  have h1 := hc 1 (slV L[i].s) rfl
  rw [Nat.zero_add] at h0 h1
  have hk := h.ok _ (List.getElem_mem hl)
  obtain ⟨x, hx⟩ : ∃ x, L[i] = x := ⟨_, rfl⟩
  rw [hx] at h0 h1 hk
  obtain ⟨v, ⟨A, n, c⟩, N⟩ := x
  exact ⟨v, A, n, c, N, h0, h1, hk⟩
end Go.Proofs.Ytikfcpkobgejmaa

/- law 29: taken. -/
namespace Go.Proofs.Ytikfcpkobgejmaa
open Go.RowKit

theorem slT_taken : SlT Try.prog 28 34 4 48 := SlT.of Try.underlying28 (by kernel_rfl) (by decide)
def TakenPost (v : Int) (N : List Nd) (w : World) (e : Ending) (w' : World) : Prop := ∃ A' c', e = .returned (.agg #[.int .i64 v, .slice A' N.length c']) ∧ w'.ownsRow w.heap.size 34 4 (.slice A' N.length c') N.length (N.flatMap Nd.cells) ∧ Below w.heap.size w w'
set_option maxRecDepth 100000 in
set_option maxHeartbeats 4000000 in
theorem taken_any (v : Int) (An : Option Addr) (nn cn : Nat) (N : List Nd) (w : World) (HN : Hid (Nds w (An, nn, cn) N)) (hm : nn ≤ 10000) :
    Calls Try.prog 29 #[.agg #[.int .i64 v, .slice An nn cn]] w (TakenPost v N w) := by
  have HNL := Lib.hid HN.out.rows.len
  dsimp only at HNL
  go_enter Try.func29, Try.ntmps29
  go_wp2
  have hb0 := (((Below.refl w.heap.size w).alloc (Nat.le_refl _) (.cells #[.int .i64 v, .slice An nn cn] 44)).alloc (by simp) (.cells #[.int .i64 0, .slice none 0 0] 30)).alloc (by simp; omega) (.cells #[.int .i64 v, .slice none 0 0] 30)
  have hk0 := Blk.alloc (Blk.alloc (Blk.new w 44 #[.int .i64 v, .slice An nn cn]) (.cells #[.int .i64 0, .slice none 0 0] 30)) (.cells #[.int .i64 v, .slice none 0 0] 30)
  have hk1 := Blk.alloc (Blk.new (w.alloc (.cells #[.int .i64 v, .slice An nn cn] 44)) 30 #[.int .i64 0, .slice none 0 0]) (.cells #[.int .i64 v, .slice none 0 0] 30)
  have hk2 := Blk.new ((w.alloc (.cells #[.int .i64 v, .slice An nn cn] 44)).alloc (.cells #[.int .i64 0, .slice none 0 0] 30)) 30 #[.int .i64 v, .slice none 0 0]
  simp only [World.size_alloc] at hk1 hk2
  obtain ⟨w0, hw0⟩ : ∃ w0, ((w.alloc (.cells #[.int .i64 v, .slice An nn cn] 44)).alloc (.cells #[.int .i64 0, .slice none 0 0] 30)).alloc (.cells #[.int .i64 v, .slice none 0 0] 30) = w0 := ⟨_, rfl⟩
  have hz0 : w0.heap.size = w.heap.size + 1 + 1 + 1 := by rw [← hw0]; simp
  rw [hw0] at hb0 hk0 hk1 hk2 ⊢
  obtain ⟨gp, hgp⟩ : ∃ gp, w.heap.size = gp := ⟨_, rfl⟩
  rw [hgp] at hk0 hk1 hk2 hz0 ⊢
  have HZ := Lib.hid hz0
  have HGP := Lib.hid hgp
  have HB0 := Lib.hid hb0
  have HK0 := Lib.hid hk0
  have HK1 := Lib.hid hk1
  have HK2 := Lib.hid hk2
  clear hw0 hz0 hgp hb0 hk0 hk1 hk2
  go_loopw [4] (fun iv wr => ∃ (k : Nat) (A' : Option Addr) (c' : Nat), k ≤ nn ∧ iv = .int .i64 (k : Int) ∧ Hid (Blk wr gp 44 #[.int .i64 v, .slice An nn cn]) ∧ Hid (Blk wr (gp + 1) 30 #[.int .i64 0, .slice none 0 0]) ∧ Hid (Blk wr (gp + 1 + 1) 30 #[.int .i64 v, .slice A' k c']) ∧ Hid (wr.ownsRow (gp + 1 + 1 + 1) 34 4 (.slice A' k c') k ((N.take k).flatMap Nd.cells)) ∧ Hid (Below w.heap.size w wr)) (fun iv _ => nn - (intOf iv).toNat)
  case atStart => exact ⟨0, none, 0, by omega, rfl, HK0, HK1, HK2, Lib.hid (by rw [List.take_zero]; exact World.ownsRow_nil _ _ _ _), HB0⟩
  case round =>
    clear HK0 HK1 HK2
    obtain ⟨k, A', c', hk, rfl, HK0, HK1, HK2, HO, HB⟩ := hrel
    have p1 := HK0.out.cell 1
    have r0 := HK2.out.cell 0
    have r1 := HK2.out.cell 1
    simp at p1 r0 r1
    by_cases hkm : k < nn
    · obtain ⟨b, off, bi, iq, oq, sA, sn, sc, ps, hA, hbw, c0, c1, c2, c3, hin, he⟩ := (HN.out.all HB.out).get (k := k) (by rw [HNL.out]; exact hkm)
      subst hA
      have HTK : Hid ((N.take (k + 1)).flatMap Nd.cells = (N.take k).flatMap Nd.cells ++ #[.int .i64 bi, .int .i64 iq, .int .i64 oq, .slice sA sn sc].toList) := Lib.hid (by
        have hkl : k < N.length := by rw [HNL.out]; exact hkm
        rw [← List.take_append_getElem hkl, List.flatMap_append]
        rw [← ndAt_eq hkl, he]
        rfl)
      have hlt2 : gp + 1 + 1 < wr.heap.size := HK2.out.lt
      obtain ⟨A5, c5, w5, hr5, ho5, hb5, -⟩ := app_elem (w := wr.alloc (.cells #[.int .i64 bi, .int .i64 iq, .int .i64 oq, .slice sA sn sc] 55)) 28 slT_taken (HO.out.alloc _) #[.int .i64 bi, .int .i64 iq, .int .i64 oq, .slice sA sn sc] rfl (by intro u hu; simp at hu; rcases hu with rfl | rfl | rfl | rfl <;> rfl) (by omega) (by decide) (by simp; omega)
      have hba : Below (gp + 1 + 1 + 1) wr w5 := ((Below.refl (gp + 1 + 1 + 1) wr).alloc (by omega) _).trans hb5
      rw [World.size_alloc] at hr5
      have HR5 := Lib.hid hr5
      have HO5 := Lib.hid ho5
      have HK05 : Hid (Blk w5 gp 44 #[.int .i64 v, .slice (some ⟨b, off, none⟩) nn cn]) := Lib.hid (HK0.out.below hba (by omega))
      have HK15 : Hid (Blk w5 (gp + 1) 30 #[.int .i64 0, .slice none 0 0]) := Lib.hid (HK1.out.below hba (by omega))
      have hk25 : Blk w5 (gp + 1 + 1) 30 #[.int .i64 v, .slice A' k c'] := HK2.out.below hba (by omega)
      have HK25 := Lib.hid hk25
      have HB5 : Hid (Below w.heap.size w w5) := Lib.hid (HB.out.trans (hba.mono (by rw [HGP.out]; omega)))
      have d0 := hk25.cell 1
      have d1 := hk25.frozen 1
      simp at d0
      clear hr5 ho5 hb5 hin he hbw hba hk25
      have hki : (k : Int) < (nn : Int) := by omega
      go_wp2_with (at_builtin; refine wpList_append_run HR5.out (by rfl) (by rfl) (by rfl) (by rfl) ?_)
      refine ⟨⟨k + 1, A5, c5, by omega, by go_num, Lib.hid ?_, Lib.hid ?_, Lib.hid ?_, Lib.hid ?_, Lib.hid ?_⟩, by simp [intOf]; omega⟩
      · exact HK05.out.far (by simp; omega) _
      · exact HK15.out.far (by simp) _
      · exact HK25.out.set_ 1 _
      · rw [HTK.out]
        exact ownsRow_setCell_below HO5.out (by simp) _
      · exact HB5.out.setCell (by rw [HGP.out]; simp; omega) _
    · obtain rfl : k = nn := by omega
      have q0 := HK1.out.cell 0
      have q1 := HK1.out.cell 1
      have q2 := HK1.out.frozen 0
      have q3 := HK1.out.frozen 1
      simp at q0 q1
      have HF : Hid (∀ wz, Below w.heap.size w wz → wz.ownsRow (gp + 1 + 1 + 1) 34 4 (.slice A' k c') k ((N.take k).flatMap Nd.cells) → TakenPost v N w (.returned (.agg #[.int .i64 v, .slice A' k c'])) wz) := Lib.hid (fun wz hbz h => by
        rw [List.take_of_length_le (by rw [HNL.out]; exact Nat.le_refl _)] at h
        refine ⟨A', c', by rw [HNL.out], ?_, hbz⟩
        rw [HNL.out]
        exact own_lower h (by rw [HGP.out]; omega))
      have hkz := (HK1.out.set_ 0 (.int .i64 v)).set_ 1 (.slice A' k c')
      have y0 := hkz.cell 0
      have y1 := hkz.cell 1
      simp at y0 y1
      clear hkz
      go_wp2
      refine bodyPost_ret (v := .agg #[.int .i64 v, .slice A' k c']) (by simp [results, Try.results29, go_sem, y0, y1]) rfl (HF.out _ ?_ ?_)
      · exact (HB.out.setCell (by rw [HGP.out]; simp) _).setCell (by rw [HGP.out]; simp) _
      · exact ownsRow_setCell_below (ownsRow_setCell_below HO.out (by simp) _) (by simp) _
end Go.Proofs.Ytikfcpkobgejmaa

/- For every list of numbers worldmintlaw29.ProofMakes returns true: Make returns a certificate that is accepted, or the error. No condition. -/
namespace Go.Proofs.Ytikfcpkobgejmaa
open Go.ChangeShapes Go.WideShapes Go.ChangeAt Go.RowKit Go.ChangeMaps


set_option maxRecDepth 100000 in
set_option maxHeartbeats 8000000 in
theorem ProofMakes_walk (W : World) (a0 : Int) (ha0 : Hid ((Lit.int .i64 a0).wf = true)) (A1 : Option Addr) (n1 c1 : Nat) (f1 : Nat → Int) (_hA1 : A1 = none → n1 = 0) (_hn1 : n1 ≤ c1) (_hc1 : c1 ≤ 9223372036854775807) (hR1 : Rd W W.heap.size A1 n1 (fun j => .int .i64 (f1 j))) (hw1 : Hid (∀ j, j < n1 → (Lit.int .i64 (f1 j)).wf = true)) (a2 : Int) (ha2 : Hid ((Lit.int .i64 a2).wf = true)) (a3 : Int) (ha3 : Hid ((Lit.int .i64 a3).wf = true)) (a4 : Int) (_ha4 : Hid ((Lit.int .i64 a4).wf = true)) :
    Calls Try.prog 6 #[.int .i64 a0, .slice A1 n1 c1, .int .i64 a2, .int .i64 a3, .int .i64 a4] W fun e w' => e = .returned (.bool true) ∧ Below W.heap.size W w' := by
  obtain ⟨p00, p01⟩ := wf_i64 ha0.out
  obtain ⟨p20, p21⟩ := wf_i64 ha2.out
  obtain ⟨p30, p31⟩ := wf_i64 ha3.out
  have HR1 := Lib.hid hR1
  have HW1 : Hid (∀ j, j < n1 → -9223372036854775808 ≤ f1 j ∧ f1 j ≤ 9223372036854775807) := Lib.hid (fun j hj => wf_i64 (hw1.out j hj))
  clear hR1 hw1 ha0 ha2 ha3
  go_enter Try.func6, Try.ntmps6
  go_wp2_with fail
  refine (lots27_any a0 W p00 p01).mono ?_
  rintro e w1 ⟨k, rfl, hk1, hk8, rfl⟩
  go_wp2_with fail
  refine (bids_any k A1 n1 c1 f1 9 9 (by rfl) W hk1 hk8 (by omega) HR1.out HW1).mono ?_
  rintro e w2 ⟨Aa, ca, La, rfl, hla, hoa, hOa, hva, hb2⟩
  have HA2 : Hid (Bds w2 (Aa, La.length, ca) La) := Lib.hid (Bds.of_own hoa (fun b hb => (hOa b hb).ok))
  have HVA : Hid (validE (k : Int) La = 0) := Lib.hid (by
    unfold validE
    rw [if_neg (by omega), if_neg (by omega)]
    exact hva)
  have HLS : Hid (∀ b ∈ La, b.s.2.1 ≤ 1000000) := Lib.hid (fun b hb => by have := (BidsOk.of_valid HVA.out HA2.out b hb).2.2.1; omega)
  obtain ⟨m, hm⟩ : ∃ m, La.length = m := ⟨_, rfl⟩
  have HLam := Lib.hid hm
  rw [hm] at HA2 hla ⊢
  have HB2 := Lib.hid hb2
  clear hoa hOa hva hb2 hm
  go_wp2_with fail
  refine (given_any Aa m ca La w2 HA2 (by omega)).mono ?_
  rintro e w3 ⟨Ag, cg, rfl, hog, hb3⟩
  rw [HLam.out] at hog ⊢
  have HG3 : Hid (Bds w3 (Ag, m, cg) La) := Lib.hid (Bds.of_own hog (fun b hb => (HA2.out.ok b hb).all hb3))
  have HA3 := Lib.hid (HA2.out.all hb3)
  have HB3 := Lib.hid (bt HB2.out hb3)
  clear hog hb3 HA2 HB2
  go_wp2_with fail
  refine (cbest_any k Ag m cg La w3 HG3 HVA).mono ?_
  rintro e w4 ⟨Aw, nw, cw, rfl, hnw, hb4⟩
  have HG4 := Lib.hid (HG3.out.all hb4)
  have HA4 := Lib.hid (HA3.out.all hb4)
  have HB4 := Lib.hid (bt HB3.out hb4)
  have HW4 := Lib.hid hnw
  have hnw2 : nw ≤ 10 := by
    have h1 := hnw.len
    have h2 := feas_len (best_good La).1
    have h3 := HLam.out
    dsimp only at h1
    omega
  clear hnw hb4 HG3 HA3 HB3
  go_wp2_with fail
  refine (make_any k Ag m cg La w4 HG4 HVA).mono ?_
  rintro e w5 ⟨Ap, np, cp, Np, rfl, hnp, hbt, hb5⟩
  obtain ⟨hck, hnp1, hnp0⟩ := make_check HVA.out hbt hnp.len
  obtain ⟨v, hv⟩ : ∃ v, (bestS La).2 = v := ⟨_, rfl⟩
  obtain ⟨xw, hxw⟩ : ∃ x, (bestS La).1 = x := ⟨_, rfl⟩
  rw [hv, hxw] at hck
  rw [hv]
  rw [hxw] at HW4
  have HCK := Lib.hid hck
  have HNP := Lib.hid hnp.len
  have hb6 : Below w5.heap.size w5 (w5.alloc (.cells #[.int .i64 v, .slice Ap np cp] 44)) := (Below.refl _ _).alloc (Nat.le_refl _) _
  have hkp := Blk.new w5 44 #[.int .i64 v, .slice Ap np cp]
  have HP := Lib.hid (hnp.all hb6)
  have HG := Lib.hid ((HG4.out.all hb5).all hb6)
  have HA := Lib.hid ((HA4.out.all hb5).all hb6)
  have HW := Lib.hid (NIn.all (NIn.all HW4.out hb5) hb6)
  have HB6 := Lib.hid (bt HB4.out (bt hb5 hb6))
  clear hnp hbt hb5 hb6 hck hv hxw HG4 HA4 HW4 HB4
  go_wp2
  obtain ⟨w6, hw6⟩ : ∃ x, w5.alloc (.cells #[.int .i64 v, .slice Ap np cp] 44) = x := ⟨_, rfl⟩
  obtain ⟨gp, hgp⟩ : ∃ g, w5.heap.size = g := ⟨_, rfl⟩
  rw [hw6] at HP HG HA HW HB6 hkp ⊢
  rw [hgp] at hkp
  try rw [hgp]
  have HKP := Lib.hid hkp
  have hnpb : ((np : Int) == 0) = false := by simp; omega
  clear hw6 hgp hkp
  have hS10 : Below w6.heap.size w6 w6.drew := below_drewN (Below.refl _ _) 1
--@1
  refine wp_region_held_drew (S := (fun w' => w'.cell? ⟨gp, 0, none⟩ = some (.int .i64 v) ∧ w'.cell? ⟨gp, 1, none⟩ = some (.slice Ap np cp))) (by kernel_rfl) ⟨(HKP.out.all hS10).cell 0, (HKP.out.all hS10).cell 1⟩ (fun hHeld => ?_)
  refine takeH 0 (some 43) (v := ?_) (by rfl) (by rfl) (by kernel_rfl) (by kernel_rfl) (by kernel_rfl) (fun _ _ _ h => h) ?_ (by assumption) ?_
  rotate_left
  · (intro o ho w hSw; obtain ⟨z0, z1⟩ := hSw; cases ho; go_simp; try with_reducible rfl)
  try simp only [Act.put, List.setIfInBounds_toArray, List.set_cons_zero, List.set_cons_succ]
  refine takeH 1 (some 44) (v := .bool false) (by rfl) (by rfl) (by kernel_rfl) (by kernel_rfl) (by kernel_rfl) (fun _ _ _ h => h) ?_ (by assumption) ?_
  skip
  · (intro o ho w hSw; obtain ⟨z0, z1⟩ := hSw; cases ho; go_simp; try with_reducible rfl)
  try simp only [Act.put, List.setIfInBounds_toArray, List.set_cons_zero, List.set_cons_succ]
  refine takeH 2 (some 45) (v := ?_) (by rfl) (by rfl) (by kernel_rfl) (by kernel_rfl) (by kernel_rfl) (fun _ _ _ h => h) ?_ (by assumption) ?_
  rotate_left
  · (intro o ho w hSw; obtain ⟨z0, z1⟩ := hSw; cases ho; go_simp; try with_reducible rfl)
  try simp only [Act.put, List.setIfInBounds_toArray, List.set_cons_zero, List.set_cons_succ]
  first
  | refine skipH 3 (some 46) (by rfl) (by rfl) (by kernel_rfl) (by kernel_rfl) (by kernel_rfl) (fun _ _ _ h => h) (by assumption) ?_
  | refine takeH 3 (some 46) (v := ?_) (by rfl) (by rfl) (by kernel_rfl) (by kernel_rfl) (by kernel_rfl) (fun _ _ _ h => h) ?_ (by assumption) ?_
    rotate_left
    · (intro o ho w hSw; obtain ⟨z0, z1⟩ := hSw; cases ho; go_simp; try with_reducible rfl)
  try simp only [Act.put, List.setIfInBounds_toArray, List.set_cons_zero, List.set_cons_succ]
  first
  | refine skipH 4 (some 47) (by rfl) (by rfl) (by kernel_rfl) (by kernel_rfl) (by kernel_rfl) (fun _ _ _ h => h) (by assumption) ?_
  | refine takeH 4 (some 47) (v := .bool false) (by rfl) (by rfl) (by kernel_rfl) (by kernel_rfl) (by kernel_rfl) (fun _ _ _ h => h) ?_ (by assumption) ?_
    skip
    · (intro o ho w hSw; obtain ⟨z0, z1⟩ := hSw; cases ho; go_simp; try with_reducible rfl)
  try simp only [Act.put, List.setIfInBounds_toArray, List.set_cons_zero, List.set_cons_succ]
  refine takeH 5 (some 48) (v := .bool false) (by rfl) (by rfl) (by kernel_rfl) (by kernel_rfl) (by kernel_rfl) (fun _ _ _ h => h) ?_ (by assumption) ?_
  skip
  · (intro o ho w hSw; obtain ⟨z0, z1⟩ := hSw; cases ho; go_simp; try with_reducible rfl)
  try simp only [Act.put, List.setIfInBounds_toArray, List.set_cons_zero, List.set_cons_succ]
  refine takeH 6 (some 49) (v := ?_) (by rfl) (by rfl) (by kernel_rfl) (by kernel_rfl) (by kernel_rfl) (fun _ _ _ h => h) ?_ (by assumption) ?_
  rotate_left
  · (intro o ho w hSw; obtain ⟨z0, z1⟩ := hSw; cases ho; go_simp; try with_reducible rfl)
  try simp only [Act.put, List.setIfInBounds_toArray, List.set_cons_zero, List.set_cons_succ]
  first
  | refine skipH 7 (some 50) (by rfl) (by rfl) (by kernel_rfl) (by kernel_rfl) (by kernel_rfl) (fun _ _ _ h => h) (by assumption) ?_
  | refine takeH 7 (some 50) (v := ?_) (by rfl) (by rfl) (by kernel_rfl) (by kernel_rfl) (by kernel_rfl) (fun _ _ _ h => h) ?_ (by assumption) ?_
    rotate_left
    · (intro o ho w hSw; obtain ⟨z0, z1⟩ := hSw; cases ho; go_simp; try with_reducible rfl)
  try simp only [Act.put, List.setIfInBounds_toArray, List.set_cons_zero, List.set_cons_succ]
  first
  | refine skipH 8 (some 51) (by rfl) (by rfl) (by kernel_rfl) (by kernel_rfl) (by kernel_rfl) (fun _ _ _ h => h) (by assumption) ?_
  | refine takeH 8 (some 51) (v := ?_) (by rfl) (by rfl) (by kernel_rfl) (by kernel_rfl) (by kernel_rfl) (fun _ _ _ h => h) ?_ (by assumption) ?_
    rotate_left
    · (intro o ho w hSw; obtain ⟨z0, z1⟩ := hSw; cases ho; go_simp; try with_reducible rfl)
  try simp only [Act.put, List.setIfInBounds_toArray, List.set_cons_zero, List.set_cons_succ]
  first
  | refine skipH 9 (some 52) (by rfl) (by rfl) (by kernel_rfl) (by kernel_rfl) (by kernel_rfl) (fun _ _ _ h => h) (by assumption) ?_
  | refine takeH 9 (some 52) (v := ?_) (by rfl) (by rfl) (by kernel_rfl) (by kernel_rfl) (by kernel_rfl) (fun _ _ _ h => h) ?_ (by assumption) ?_
    rotate_left
    · (intro o ho w hSw; obtain ⟨z0, z1⟩ := hSw; cases ho; go_simp; try with_reducible rfl)
  try simp only [Act.put, List.setIfInBounds_toArray, List.set_cons_zero, List.set_cons_succ]
  first
  | refine skipH 10 (some 53) (by rfl) (by rfl) (by kernel_rfl) (by kernel_rfl) (by kernel_rfl) (fun _ _ _ h => h) (by assumption) ?_
  | refine takeH 10 (some 53) (v := .bool false) (by rfl) (by rfl) (by kernel_rfl) (by kernel_rfl) (by kernel_rfl) (fun _ _ _ h => h) ?_ (by assumption) ?_
    skip
    · (intro o ho w hSw; obtain ⟨z0, z1⟩ := hSw; cases ho; go_simp; try with_reducible rfl)
  try simp only [Act.put, List.setIfInBounds_toArray, List.set_cons_zero, List.set_cons_succ]
  refine takeH 11 (some 54) (v := .bool false) (by rfl) (by rfl) (by kernel_rfl) (by kernel_rfl) (by kernel_rfl) (fun _ _ _ h => h) ?_ (by assumption) ?_
  skip
  · (intro o ho w hSw; obtain ⟨z0, z1⟩ := hSw; cases ho; go_simp; try with_reducible rfl)
  try simp only [Act.put, List.setIfInBounds_toArray, List.set_cons_zero, List.set_cons_succ]
  refine takeH 12 (some 55) (v := ?_) (by rfl) (by rfl) (by kernel_rfl) (by kernel_rfl) (by kernel_rfl) (fun _ _ _ h => h) ?_ (by assumption) ?_
  rotate_left
  · (intro o ho w hSw; obtain ⟨z0, z1⟩ := hSw; cases ho; go_simp; try with_reducible rfl)
  try simp only [Act.put, List.setIfInBounds_toArray, List.set_cons_zero, List.set_cons_succ]
  first
  | refine skipH 13 (some 56) (by rfl) (by rfl) (by kernel_rfl) (by kernel_rfl) (by kernel_rfl) (fun _ _ _ h => h) (by assumption) ?_
  | refine takeH 13 (some 56) (v := ?_) (by rfl) (by rfl) (by kernel_rfl) (by kernel_rfl) (by kernel_rfl) (fun _ _ _ h => h) ?_ (by assumption) ?_
    rotate_left
    · (intro o ho w hSw; obtain ⟨z0, z1⟩ := hSw; cases ho; go_simp; try with_reducible rfl)
  try simp only [Act.put, List.setIfInBounds_toArray, List.set_cons_zero, List.set_cons_succ]
  first
  | refine skipH 14 (some 57) (by rfl) (by rfl) (by kernel_rfl) (by kernel_rfl) (by kernel_rfl) (fun _ _ _ h => h) (by assumption) ?_
  | refine takeH 14 (some 57) (v := ?_) (by rfl) (by rfl) (by kernel_rfl) (by kernel_rfl) (by kernel_rfl) (fun _ _ _ h => h) ?_ (by assumption) ?_
    rotate_left
    · (intro o ho w hSw; obtain ⟨z0, z1⟩ := hSw; cases ho; go_simp; try with_reducible rfl)
  try simp only [Act.put, List.setIfInBounds_toArray, List.set_cons_zero, List.set_cons_succ]
  first
  | refine skipH 15 (some 58) (by rfl) (by rfl) (by kernel_rfl) (by kernel_rfl) (by kernel_rfl) (fun _ _ _ h => h) (by assumption) ?_
  | refine takeH 15 (some 58) (v := ?_) (by rfl) (by rfl) (by kernel_rfl) (by kernel_rfl) (by kernel_rfl) (fun _ _ _ h => h) ?_ (by assumption) ?_
    rotate_left
    · (intro o ho w hSw; obtain ⟨z0, z1⟩ := hSw; cases ho; go_simp; try with_reducible rfl)
  try simp only [Act.put, List.setIfInBounds_toArray, List.set_cons_zero, List.set_cons_succ]
  first
  | refine skipH 16 (some 59) (by rfl) (by rfl) (by kernel_rfl) (by kernel_rfl) (by kernel_rfl) (fun _ _ _ h => h) (by assumption) ?_
  | refine takeH 16 (some 59) (v := ?_) (by rfl) (by rfl) (by kernel_rfl) (by kernel_rfl) (by kernel_rfl) (fun _ _ _ h => h) ?_ (by assumption) ?_
    rotate_left
    · (intro o ho w hSw; obtain ⟨z0, z1⟩ := hSw; cases ho; go_simp; try with_reducible rfl)
  try simp only [Act.put, List.setIfInBounds_toArray, List.set_cons_zero, List.set_cons_succ]
  refine wpAnyH_ready (rs := [17]) (by kernel_rfl) (by simp) ?_
  refine AllReadyH.cons rfl (fun K hK => ?_) AllReadyH.nil
  go_simp
  go_at_call 18
  (refine (check_any (k : Int) Ag m cg Aw nw cw v Ap np cp La xw Np _ (Lib.hid (HG.out.all hS10)) (Lib.hid (NIn.all HW.out hS10)) (Lib.hid (HP.out.nds.all hS10)) (by omega)).mono ?_)
  rw [HCK.out]
  rintro e w11 ⟨rfl, hb11⟩
  have hS11 := bt hS10 hb11
  clear hb11
  go_wp2
  refine hK.out _ _ ?_ (fun hh17 => ?_)
  · exact ⟨(HKP.out.all hS11).cell 0, (HKP.out.all hS11).cell 1⟩
  clear hK K
  try simp only [Act.put, List.setIfInBounds_toArray, List.set_cons_zero, List.set_cons_succ]
  first
  | refine skipH 18 (some 61) (by rfl) (by rfl) (by kernel_rfl) (by kernel_rfl) (by kernel_rfl) (fun _ _ _ h => h) (by assumption) ?_
  | refine takeH 18 (some 61) (v := .bool false) (by rfl) (by rfl) (by kernel_rfl) (by kernel_rfl) (by kernel_rfl) (fun _ _ _ h => h) ?_ (by assumption) ?_
    skip
    · (intro o ho w hSw; obtain ⟨z0, z1⟩ := hSw; cases ho; go_simp; try with_reducible rfl)
  try simp only [Act.put, List.setIfInBounds_toArray, List.set_cons_zero, List.set_cons_succ]
  refine takeH 19 (some 62) (v := .bool false) (by rfl) (by rfl) (by kernel_rfl) (by kernel_rfl) (by kernel_rfl) (fun _ _ _ h => h) ?_ (by assumption) ?_
  skip
  · (intro o ho w hSw; obtain ⟨z0, z1⟩ := hSw; cases ho; go_simp; try with_reducible rfl)
  try simp only [Act.put, List.setIfInBounds_toArray, List.set_cons_zero, List.set_cons_succ]
  refine takeH 20 (some 63) (v := ?_) (by rfl) (by rfl) (by kernel_rfl) (by kernel_rfl) (by kernel_rfl) (fun _ _ _ h => h) ?_ (by assumption) ?_
  rotate_left
  · (intro o ho w hSw; obtain ⟨z0, z1⟩ := hSw; cases ho; go_simp; try with_reducible rfl)
  try simp only [Act.put, List.setIfInBounds_toArray, List.set_cons_zero, List.set_cons_succ]
  first
  | refine skipH 21 (some 64) (by rfl) (by rfl) (by kernel_rfl) (by kernel_rfl) (by kernel_rfl) (fun _ _ _ h => h) (by assumption) ?_
  | refine takeH 21 (some 64) (v := ?_) (by rfl) (by rfl) (by kernel_rfl) (by kernel_rfl) (by kernel_rfl) (fun _ _ _ h => h) ?_ (by assumption) ?_
    rotate_left
    · (intro o ho w hSw; obtain ⟨z0, z1⟩ := hSw; cases ho; go_simp; try with_reducible rfl)
  try simp only [Act.put, List.setIfInBounds_toArray, List.set_cons_zero, List.set_cons_succ]
  first
  | refine skipH 22 (some 65) (by rfl) (by rfl) (by kernel_rfl) (by kernel_rfl) (by kernel_rfl) (fun _ _ _ h => h) (by assumption) ?_
  | refine takeH 22 (some 65) (v := ?_) (by rfl) (by rfl) (by kernel_rfl) (by kernel_rfl) (by kernel_rfl) (fun _ _ _ h => h) ?_ (by assumption) ?_
    rotate_left
    · (intro o ho w hSw; obtain ⟨z0, z1⟩ := hSw; cases ho; go_simp; try with_reducible rfl)
  try simp only [Act.put, List.setIfInBounds_toArray, List.set_cons_zero, List.set_cons_succ]
  first
  | refine skipH 23 (some 66) (by rfl) (by rfl) (by kernel_rfl) (by kernel_rfl) (by kernel_rfl) (fun _ _ _ h => h) (by assumption) ?_
  | refine takeH 23 (some 66) (v := ?_) (by rfl) (by rfl) (by kernel_rfl) (by kernel_rfl) (by kernel_rfl) (fun _ _ _ h => h) ?_ (by assumption) ?_
    rotate_left
    · (intro o ho w hSw; obtain ⟨z0, z1⟩ := hSw; cases ho; go_simp; try with_reducible rfl)
  try simp only [Act.put, List.setIfInBounds_toArray, List.set_cons_zero, List.set_cons_succ]
  first
  | refine skipH 24 (some 67) (by rfl) (by rfl) (by kernel_rfl) (by kernel_rfl) (by kernel_rfl) (fun _ _ _ h => h) (by assumption) ?_
  | refine takeH 24 (some 67) (v := ?_) (by rfl) (by rfl) (by kernel_rfl) (by kernel_rfl) (by kernel_rfl) (fun _ _ _ h => h) ?_ (by assumption) ?_
    rotate_left
    · (intro o ho w hSw; obtain ⟨z0, z1⟩ := hSw; cases ho; go_simp; try with_reducible rfl)
  try simp only [Act.put, List.setIfInBounds_toArray, List.set_cons_zero, List.set_cons_succ]
  refine wpAnyH_ready (rs := [25]) (by kernel_rfl) (by simp) ?_
  refine AllReadyH.cons rfl (fun K hK => ?_) AllReadyH.nil
  go_simp
  go_at_call 29
  (refine (taken_any v Ap np cp Np _ (Lib.hid (HP.out.nds.all hS11)) (by omega)).mono ?_)
  rintro e w12 ⟨At, ct, rfl, hot, hb12⟩
  have hS12 := bt hS11 hb12
  rw [HNP.out] at hot ⊢
  have HNT : Hid (Nds w12 (At, np, ct) Np) := Lib.hid ⟨Rows.of_own Nd.cells_length hot (by decide), fun b hb => (HP.out.nds.ok b hb).all hS12⟩
  clear hot hb12
  go_wp2
  refine hK.out _ _ ?_ (fun hh25 => ?_)
  · exact ⟨(HKP.out.all hS12).cell 0, (HKP.out.all hS12).cell 1⟩
  clear hK K
  try simp only [Act.put, List.setIfInBounds_toArray, List.set_cons_zero, List.set_cons_succ]
  refine wpAnyH_ready (rs := [26]) (by kernel_rfl) (by simp) ?_
  refine AllReadyH.cons rfl (fun K hK => ?_) AllReadyH.nil
  go_simp
  go_at_call 21
  (refine (rcheck_any (k : Int) Aa m ca Aw nw cw v At np ct La xw Np _ (Lib.hid (HA.out.all hS12)) (Lib.hid (NIn.all HW.out hS12)) HNT (by omega)).mono ?_)
  rw [HCK.out]
  rintro e w13 ⟨rfl, hb13⟩
  have hS13 := bt hS12 hb13
  clear hb13
  go_wp2
  refine hK.out _ _ ?_ (fun hh26 => ?_)
  · exact ⟨(HKP.out.all hS13).cell 0, (HKP.out.all hS13).cell 1⟩
  clear hK K
  try simp only [Act.put, List.setIfInBounds_toArray, List.set_cons_zero, List.set_cons_succ]
  first
  | refine skipH 27 (some 70) (by rfl) (by rfl) (by kernel_rfl) (by kernel_rfl) (by kernel_rfl) (fun _ _ _ h => h) (by assumption) ?_
  | refine takeH 27 (some 70) (v := .bool false) (by rfl) (by rfl) (by kernel_rfl) (by kernel_rfl) (by kernel_rfl) (fun _ _ _ h => h) ?_ (by assumption) ?_
    skip
    · (intro o ho w hSw; obtain ⟨z0, z1⟩ := hSw; cases ho; go_simp; try with_reducible rfl)
  try simp only [Act.put, List.setIfInBounds_toArray, List.set_cons_zero, List.set_cons_succ]
  refine takeH 28 (some 71) (v := .bool false) (by rfl) (by rfl) (by kernel_rfl) (by kernel_rfl) (by kernel_rfl) (fun _ _ _ h => h) ?_ (by assumption) ?_
  skip
  · (intro o ho w hSw; obtain ⟨z0, z1⟩ := hSw; cases ho; go_simp; try with_reducible rfl)
  try simp only [Act.put, List.setIfInBounds_toArray, List.set_cons_zero, List.set_cons_succ]
  refine takeH 29 (some 72) (v := ?_) (by rfl) (by rfl) (by kernel_rfl) (by kernel_rfl) (by kernel_rfl) (fun _ _ _ h => h) ?_ (by assumption) ?_
  rotate_left
  · (intro o ho w hSw; obtain ⟨z0, z1⟩ := hSw; cases ho; go_simp; try with_reducible rfl)
  try simp only [Act.put, List.setIfInBounds_toArray, List.set_cons_zero, List.set_cons_succ]
  first
  | refine skipH 30 (some 73) (by rfl) (by rfl) (by kernel_rfl) (by kernel_rfl) (by kernel_rfl) (fun _ _ _ h => h) (by assumption) ?_
  | refine takeH 30 (some 73) (v := ?_) (by rfl) (by rfl) (by kernel_rfl) (by kernel_rfl) (by kernel_rfl) (fun _ _ _ h => h) ?_ (by assumption) ?_
    rotate_left
    · (intro o ho w hSw; obtain ⟨z0, z1⟩ := hSw; cases ho; go_simp; try with_reducible rfl)
  try simp only [Act.put, List.setIfInBounds_toArray, List.set_cons_zero, List.set_cons_succ]
  first
  | refine skipH 32 (some 75) (by rfl) (by rfl) (by kernel_rfl) (by kernel_rfl) (by kernel_rfl) (fun _ _ _ h => h) (by assumption) ?_
  | refine takeH 32 (some 75) (v := ?_) (by rfl) (by rfl) (by kernel_rfl) (by kernel_rfl) (by kernel_rfl) (fun _ _ _ h => h) ?_ (by assumption) ?_
    rotate_left
    · (intro o ho w hSw; obtain ⟨z0, z1⟩ := hSw; cases ho; go_simp; try with_reducible rfl)
  try simp only [Act.put, List.setIfInBounds_toArray, List.set_cons_zero, List.set_cons_succ]
  first
  | refine skipH 33 (some 76) (by rfl) (by rfl) (by kernel_rfl) (by kernel_rfl) (by kernel_rfl) (fun _ _ _ h => h) (by assumption) ?_
  | refine takeH 33 (some 76) (v := ?_) (by rfl) (by rfl) (by kernel_rfl) (by kernel_rfl) (by kernel_rfl) (fun _ _ _ h => h) ?_ (by assumption) ?_
    rotate_left
    · (intro o ho w hSw; obtain ⟨z0, z1⟩ := hSw; cases ho; go_simp; try with_reducible rfl)
  try simp only [Act.put, List.setIfInBounds_toArray, List.set_cons_zero, List.set_cons_succ]
  first
  | refine skipH 34 (some 77) (by rfl) (by rfl) (by kernel_rfl) (by kernel_rfl) (by kernel_rfl) (fun _ _ _ h => h) (by assumption) ?_
  | refine takeH 34 (some 77) (v := ?_) (by rfl) (by rfl) (by kernel_rfl) (by kernel_rfl) (by kernel_rfl) (fun _ _ _ h => h) ?_ (by assumption) ?_
    rotate_left
    · (intro o ho w hSw; obtain ⟨z0, z1⟩ := hSw; cases ho; go_simp; try with_reducible rfl)
  try simp only [Act.put, List.setIfInBounds_toArray, List.set_cons_zero, List.set_cons_succ]
  refine wpAnyH_ready (rs := [31]) (by kernel_rfl) (by simp) ?_
  refine AllReadyH.cons rfl (fun K hK => ?_) AllReadyH.nil
  go_simp
  go_at_call 30
  (refine (size_any v Ap np cp _).mono ?_)
  rintro e w14 ⟨rfl, hb14⟩
  have hS14 := bt hS13 hb14
  clear hb14
  go_wp2
  refine hK.out _ _ ?_ (fun hh31 => ?_)
  · exact ⟨(HKP.out.all hS14).cell 0, (HKP.out.all hS14).cell 1⟩
  clear hK K
  try simp only [Act.put, List.setIfInBounds_toArray, List.set_cons_zero, List.set_cons_succ]
  first
  | refine skipH 35 (some 78) (by rfl) (by rfl) (by kernel_rfl) (by kernel_rfl) (by kernel_rfl) (fun _ _ _ h => h) (by assumption) ?_
  | refine takeH 35 (some 78) (v := .bool false) (by rfl) (by rfl) (by kernel_rfl) (by kernel_rfl) (by kernel_rfl) (fun _ _ _ h => h) ?_ (by assumption) ?_
    skip
    · (intro o ho w hSw; obtain ⟨z0, z1⟩ := hSw; cases ho; go_simp; try with_reducible rfl)
  try simp only [Act.put, List.setIfInBounds_toArray, List.set_cons_zero, List.set_cons_succ]
  refine takeH 36 (some 79) (v := .bool false) (by rfl) (by rfl) (by kernel_rfl) (by kernel_rfl) (by kernel_rfl) (fun _ _ _ h => h) ?_ (by assumption) ?_
  skip
  · (intro o ho w hSw; obtain ⟨z0, z1⟩ := hSw; cases ho; go_simp; try with_reducible rfl)
  try simp only [Act.put, List.setIfInBounds_toArray, List.set_cons_zero, List.set_cons_succ]
  refine takeH 37 (some 80) (v := ?_) (by rfl) (by rfl) (by kernel_rfl) (by kernel_rfl) (by kernel_rfl) (fun _ _ _ h => h) ?_ (by assumption) ?_
  rotate_left
  · (intro o ho w hSw; obtain ⟨z0, z1⟩ := hSw; cases ho; go_simp; try with_reducible rfl)
  try simp only [Act.put, List.setIfInBounds_toArray, List.set_cons_zero, List.set_cons_succ]
  first
  | refine skipH 38 (some 81) (by rfl) (by rfl) (by kernel_rfl) (by kernel_rfl) (by kernel_rfl) (fun _ _ _ h => h) (by assumption) ?_
  | refine takeH 38 (some 81) (v := ?_) (by rfl) (by rfl) (by kernel_rfl) (by kernel_rfl) (by kernel_rfl) (fun _ _ _ h => h) ?_ (by assumption) ?_
    rotate_left
    · (intro o ho w hSw; obtain ⟨z0, z1⟩ := hSw; cases ho; go_simp; try with_reducible rfl)
  try simp only [Act.put, List.setIfInBounds_toArray, List.set_cons_zero, List.set_cons_succ]
  first
  | refine skipH 39 (some 82) (by rfl) (by rfl) (by kernel_rfl) (by kernel_rfl) (by kernel_rfl) (fun _ _ _ h => h) (by assumption) ?_
  | refine takeH 39 (some 82) (v := ?_) (by rfl) (by rfl) (by kernel_rfl) (by kernel_rfl) (by kernel_rfl) (fun _ _ _ h => h) ?_ (by assumption) ?_
    rotate_left
    · (intro o ho w hSw; obtain ⟨z0, z1⟩ := hSw; cases ho; go_simp; try with_reducible rfl)
  try simp only [Act.put, List.setIfInBounds_toArray, List.set_cons_zero, List.set_cons_succ]
  first
  | refine skipH 40 (some 83) (by rfl) (by rfl) (by kernel_rfl) (by kernel_rfl) (by kernel_rfl) (fun _ _ _ h => h) (by assumption) ?_
  | refine takeH 40 (some 83) (v := ?_) (by rfl) (by rfl) (by kernel_rfl) (by kernel_rfl) (by kernel_rfl) (fun _ _ _ h => h) ?_ (by assumption) ?_
    rotate_left
    · (intro o ho w hSw; obtain ⟨z0, z1⟩ := hSw; cases ho; go_simp; try with_reducible rfl)
  try simp only [Act.put, List.setIfInBounds_toArray, List.set_cons_zero, List.set_cons_succ]
  first
  | refine skipH 41 (some 84) (by rfl) (by rfl) (by kernel_rfl) (by kernel_rfl) (by kernel_rfl) (fun _ _ _ h => h) (by assumption) ?_
  | refine takeH 41 (some 84) (v := .bool false) (by rfl) (by rfl) (by kernel_rfl) (by kernel_rfl) (by kernel_rfl) (fun _ _ _ h => h) ?_ (by assumption) ?_
    skip
    · (intro o ho w hSw; obtain ⟨z0, z1⟩ := hSw; cases ho; go_simp; try with_reducible rfl)
  try simp only [Act.put, List.setIfInBounds_toArray, List.set_cons_zero, List.set_cons_succ]
  refine takeH 42 (some 85) (v := .bool false) (by rfl) (by rfl) (by kernel_rfl) (by kernel_rfl) (by kernel_rfl) (fun _ _ _ h => h) ?_ (by assumption) ?_
  skip
  · (intro o ho w hSw; obtain ⟨z0, z1⟩ := hSw; cases ho; go_simp; try with_reducible rfl)
  try simp only [Act.put, List.setIfInBounds_toArray, List.set_cons_zero, List.set_cons_succ]
  refine wpAnyH_done (by kernel_rfl) ?_ _
--@2
  have HA14 := Lib.hid (HA.out.all hS14)
  have HB14 := Lib.hid (bt HB6.out hS14)
  clear hS10 hS11 hS12 hS13 hS14 hh17 hh25 hh26 hh31 hHeld HKP HW HG HP HA HB6 HNT HCK HNP hnpb
  go_wp2_with fail
  refine (spoilt27_any Aa m ca La a2 a3 a4 w14 HA14 (by omega) HLS p20 p21 p30 p31).mono ?_
  rintro e w20 ⟨Ab, cb, Lb, rfl, hlb, hBb, hb20⟩
  rw [HLam.out] at hlb hBb ⊢
  have HBB20 := Lib.hid hBb
  have HLbm := Lib.hid hlb
  have HB20 := Lib.hid (bt HB14.out hb20)
  clear hBb hlb hb20 HA14 HB14
  go_wp2_with fail
  refine (given_any Ab m cb Lb w20 HBB20 (by omega)).mono ?_
  rintro e w21 ⟨Ah, ch, rfl, hoh, hb21⟩
  rw [HLbm.out] at hoh ⊢
  have HH21 : Hid (Bds w21 (Ah, m, ch) Lb) := Lib.hid (Bds.of_own hoh (fun b hb => (HBB20.out.ok b hb).all hb21))
  have HBB21 := Lib.hid (HBB20.out.all hb21)
  have HB21 := Lib.hid (bt HB20.out hb21)
  clear hoh hb21 HBB20 HB20
  go_wp2_with fail
  obtain ⟨r, hr⟩ : ∃ r, validE (k : Int) Lb = r := ⟨_, rfl⟩
  have HR := Lib.hid hr
  by_cases hr0 : r = 0
  · subst hr0
    refine (make_any k Ah m ch Lb w21 HH21 HR).mono ?_
    clear hr
    rintro e w22 ⟨Aq, nq, cq, Nq, rfl, -, -, hb22⟩
    have HB22 := Lib.hid (bt HB21.out hb22)
    have HBB22 := Lib.hid (HBB21.out.all hb22)
    obtain ⟨vq, hvq⟩ : ∃ v, (bestS Lb).2 = v := ⟨_, rfl⟩
    rw [hvq]
    clear hb22 HBB21 HB21 HH21 hvq
    go_upto_region 10 with (fail)
    have hb30 : Below w22.heap.size w22 (w22.alloc (.cells #[.int .i64 vq, .slice Aq nq cq] 44)) := (Below.refl _ _).alloc (Nat.le_refl _) _
    have hk30 := Blk.new w22 44 #[.int .i64 vq, .slice Aq nq cq]
    obtain ⟨w23, hw23⟩ : ∃ x, w22.alloc (.cells #[.int .i64 vq, .slice Aq nq cq] 44) = x := ⟨_, rfl⟩
    obtain ⟨gq, hgq⟩ : ∃ g, w22.heap.size = g := ⟨_, rfl⟩
    rw [hw23] at hb30 hk30 ⊢
    rw [hgq] at hk30
    try rw [hgq]
    have HKQ0 := Lib.hid hk30
    have HB23 := Lib.hid (bt HB22.out hb30)
    have HBB23 := Lib.hid (HBB22.out.all hb30)
    clear hw23 hgq hb30 hk30
    go_wp2_with fail
    refine (rvalid_any (k : Int) (Ab, m, cb) Lb w23 HBB23).mono ?_
    rw [HR.out]
    rintro e w24 ⟨rfl, hb24⟩
    have HKQ := Lib.hid (HKQ0.out.all hb24)
    have HB24 := Lib.hid (bt HB23.out hb24)
    clear hb24 HKQ0 HBB23 HB23
    have q0 := HKQ.out.cell 0
    have q1 := HKQ.out.cell 1
    simp at q0 q1
    go_wp2_with (go_at_call 22; refine (lives_any _).mono ?_; rintro e w31 ⟨rfl, hb31⟩)
    go_ret
    exact ⟨rfl, bt HB24.out hb31⟩
  · have hmb := make_bad (k : Int) Ah m ch Lb w21 HH21 (Lib.hid (by rw [HR.out]; exact hr0))
    rw [HR.out] at hmb
    refine hmb.mono ?_
    clear hmb hr
    rintro e w22 ⟨rfl, hb22⟩
    have HB22 := Lib.hid (bt HB21.out hb22)
    have HBB22 := Lib.hid (HBB21.out.all hb22)
    have hrb : (r == 0) = false := by simpa using hr0
    clear hb22 HBB21 HB21 HH21
    go_upto_region 10 with (fail)
    have hb30 : Below w22.heap.size w22 (w22.alloc (.cells #[.int .i64 0, .slice none 0 0] 44)) := (Below.refl _ _).alloc (Nat.le_refl _) _
    have hk30 := Blk.new w22 44 #[.int .i64 0, .slice none 0 0]
    obtain ⟨w23, hw23⟩ : ∃ x, w22.alloc (.cells #[.int .i64 0, .slice none 0 0] 44) = x := ⟨_, rfl⟩
    obtain ⟨gq, hgq⟩ : ∃ g, w22.heap.size = g := ⟨_, rfl⟩
    rw [hw23] at hb30 hk30 ⊢
    rw [hgq] at hk30
    try rw [hgq]
    have HKQ0 := Lib.hid hk30
    have HB23 := Lib.hid (bt HB22.out hb30)
    have HBB23 := Lib.hid (HBB22.out.all hb30)
    clear hw23 hgq hb30 hk30
    go_wp2_with fail
    refine (rvalid_any (k : Int) (Ab, m, cb) Lb w23 HBB23).mono ?_
    rw [HR.out]
    rintro e w24 ⟨rfl, hb24⟩
    have HKQ := Lib.hid (HKQ0.out.all hb24)
    have HB24 := Lib.hid (bt HB23.out hb24)
    clear hb24 HKQ0 HBB23 HB23
    have q0 := HKQ.out.cell 0
    have q1 := HKQ.out.cell 1
    simp at q0 q1
    go_wp2_with (go_at_call 22; refine (lives_any _).mono ?_; rintro e w31 ⟨rfl, hb31⟩)
    go_ret
    exact ⟨rfl, bt HB24.out hb31⟩


set_option maxRecDepth 100000 in
theorem ProofMakes_lifted (os : Os) (started : os.Started) (H : Type) (enc : TypeId × Value → H) :
    ReturnsInHanded {} Try.checked os 6 .any (Rows.proofMakesSpec.pre6 enc Try.prog Try.f6 Rows.proofMakesRow.domain false) (Rows.proofMakesSpec.post enc Try.prog Try.f6 false true false false) := by
  refine returnsInHanded_of_change (C := Try.checked) Try.own started (by kernel_rfl) Try.func6
    (ChangeSpec.witness6 (enc := enc) (C := Try.checked) false ⟨#[], #[.int .i64 0, .slice none 0 0, .int .i64 0, .int .i64 0, .int .i64 0], []⟩ 8 (by kernel_rfl) (by kernel_rfl) (by kernel_rfl) (by kernel_rfl)) ?_
  intro W base args ds gs before hval0 hW _ _
  have hval : ∀ (j : Nat) t v, Try.f6.params[j]? = some t → args[j]? = some v → Value.okWide Try.prog W .any base t v := hval0
  have hW' := hW
  obtain ⟨p, q, hT0, hV, rfl, hfz, hnd⟩ := hW
  have hT : DataW.TrodAll enc Try.prog W 0 (fun _ => true) true Try.f6.params.toList args.toList ds p := hT0
  rw [Try.params6] at hT hval
  obtain ⟨v0, vs0, d0, ds0, p0, q0, hargs0, rfl, rfl, h0, r0⟩ := trodAll_cons hT
  obtain ⟨v1, vs1, d1, ds1, p1, q1, hargs1, rfl, rfl, h1, r1⟩ := trodAll_cons r0
  obtain ⟨v2, vs2, d2, ds2, p2, q2, hargs2, rfl, rfl, h2, r2⟩ := trodAll_cons r1
  obtain ⟨v3, vs3, d3, ds3, p3, q3, hargs3, rfl, rfl, h3, r3⟩ := trodAll_cons r2
  obtain ⟨v4, vs4, d4, ds4, p4, q4, hargs4, rfl, rfl, h4, r4⟩ := trodAll_cons r3
  obtain ⟨rfl, rfl, rfl⟩ := trodAll_nil r4
  obtain rfl : args = #[v0, v1, v2, v3, v4] := by cases args; simp_all
  obtain ⟨a0, rfl, -, -, w0⟩ := open_int Try.underlying3 (hval 0 3 v0 rfl rfl) h0
  obtain ⟨A1, n1, c1, f1, rfl, hA1, hn1, hc1, hR1, hw1⟩ := open_sl Try.underlying22 Try.underlying3 (by kernel_rfl) (hval 1 22 v1 rfl rfl) h1
  obtain ⟨a2, rfl, -, -, w2⟩ := open_int Try.underlying3 (hval 2 3 v2 rfl rfl) h2
  obtain ⟨a3, rfl, -, -, w3⟩ := open_int Try.underlying3 (hval 3 3 v3 rfl rfl) h3
  obtain ⟨a4, rfl, -, -, w4⟩ := open_int Try.underlying3 (hval 4 3 v4 rfl rfl) h4
  refine (ProofMakes_walk W a0 w0 A1 n1 c1 f1 hA1 hn1 hc1 hR1 hw1 a2 w2 a3 w3 a4 w4).mono fun e W' ⟨he, hb⟩ => ?_
  subst he
  exact ⟨_, rfl, law_post Try.laidOut (by kernel_rfl) (by kernel_rfl) Try.underlying4 rfl hW' rfl hb⟩

theorem ProofMakes_holds : Rows.ProofMakesSaid :=
  OpenClaim.holds_of_wide 6 Try.f6 rfl rfl rfl rfl rfl rfl rfl ⟨rfl, rfl, rfl, rfl, rfl⟩ rfl rfl rfl rfl rfl (by kernel_rfl) Try.func6 (by kernel_rfl)
    (of_decide_eq_true (by kernel_rfl)) (by unfold Func.isWrapper; first | (rw [if_pos (by decide +kernel)]; kernel_rfl) | (rw [if_neg (by decide +kernel)]; exact ⟨rfl, rfl⟩))
    (fun os started H enc _ => ProofMakes_lifted os started H enc)

end Go.Proofs.Ytikfcpkobgejmaa
