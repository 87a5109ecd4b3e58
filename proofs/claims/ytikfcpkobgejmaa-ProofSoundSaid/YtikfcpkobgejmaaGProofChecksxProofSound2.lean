/- For every list of numbers worldmintlaw29.ProofSound returns true: where a certificate is accepted no feasible choice is worth more. No condition. -/
import Derived.Test.YtikfcpkobgejmaaGProofChecksxProofSound1

/- proof: Make. -/
namespace Go.Proofs.Ytikfcpkobgejmaa
open Go.RowKit

theorem mk_any (w0 : World) (n : Nat) (A : Option Addr) (m c : Nat) (v : Int) (L : List Bd) (gp gn gl gv gb : Nat) (HL : Hid (Bds w0 (A, m, c) L)) (hm : m ≤ 10) (hn : n ≤ 8) (HBO : Hid (BidsOk n L)) (HBV : Hid ((bestS L).2 = v)) : ∀ d, MkSpec w0 n A m c v L gp gn gl gv gb d
  | 0 => mk_step w0 n A m c v L gp gn gl gv gb HL hm hn HBO HBV 0 (Lib.hid fun d' h => by omega)
  | d + 1 => mk_step w0 n A m c v L gp gn gl gv gb HL hm hn HBO HBV (d + 1) (Lib.hid fun d' h => by
      obtain rfl : d = d' := by omega
      exact mk_any w0 n A m c v L gp gn gl gv gb HL hm hn HBO HBV d)
def MakePost (n : Nat) (L : List Bd) (w : World) (e : Ending) (w' : World) : Prop :=
  ∃ A' k c' N, e = .returned (.tuple #[.agg #[.int .i64 (bestS L).2, .slice A' k c'], .int .i64 0]) ∧ NdsW w' w.heap.size A' k c' N ∧ Built n L (bestS L).2 N 11 0 (List.replicate L.length 0) k ∧ Below w.heap.size w w'
theorem Built.le {n : Nat} {L : List Bd} {v : Int} {N : List Nd} {f i j : Nat} {D : List Int} (h : Built n L v N f i D j) : ∀ g, f ≤ g → Built n L v N g i D j := fun g hg => by
  obtain ⟨k, rfl⟩ := Nat.exists_eq_add_of_le hg
  clear hg
  induction k with
  | zero => exact h
  | succ k ih => exact ih.more
theorem make_bad (n : Int) (A : Option Addr) (m c : Nat) (L : List Bd) (w : World) (HL : Hid (Bds w (A, m, c) L)) (HV : Hid (validE n L ≠ 0)) :
    Calls Try.prog 28 #[.int .i64 n, .slice A m c] w fun e w' => e = .returned (.tuple #[.agg #[.int .i64 0, .slice none 0 0], .int .i64 (validE n L)]) ∧ Below w.heap.size w w' := by
  obtain ⟨r, hr⟩ : ∃ r, validE n L = r := ⟨_, rfl⟩
  have hne : (r != 0) = true := by rw [← hr]; simpa using HV.out
  have HRR := Lib.hid hr
  rw [hr]
  clear hr
  go_enter Try.func28, Try.ntmps28
  go_wp2_with fail
  obtain ⟨w1, hw1⟩ : ∃ x, ((w.alloc (.cells #[.int .i64 n] 3)).alloc (.cells #[.slice A m c] 40)).alloc (.cells #[.int .i64 0, .slice none 0 0] 44) = x := ⟨_, rfl⟩
  have hb1 : Below w.heap.size w w1 := by rw [← hw1]; exact (((Below.refl w.heap.size w).alloc (Nat.le_refl _) _).alloc (by simp) _).alloc (by simp; omega) _
  have hk1 : Blk w1 (w.heap.size + 2) 44 #[.int .i64 0, .slice none 0 0] := by
    rw [← hw1]
    have := Blk.new ((w.alloc (.cells #[.int .i64 n] 3)).alloc (.cells #[.slice A m c] 40)) 44 #[.int .i64 0, .slice none 0 0]
    rw [World.size_alloc, World.size_alloc] at this
    exact this
  rw [hw1]
  obtain ⟨gr, hgr⟩ : ∃ g, w.heap.size + 2 = g := ⟨_, rfl⟩
  rw [hgr] at hk1
  try rw [show w.heap.size + 1 + 1 = gr from hgr]
  have hgw : w.heap.size ≤ gr := by omega
  have HB1 := Lib.hid hb1
  have HK1 := Lib.hid hk1
  clear hb1 hk1 hw1 hgr
  have hcb := cbest_bad n A m c L w1 (Lib.hid (HL.out.all HB1.out)) HV
  rw [HRR.out] at hcb
  refine hcb.mono ?_
  clear hcb
  rintro e w2 ⟨rfl, hb2⟩
  have HK2 := Lib.hid (HK1.out.all hb2)
  have HB2 := Lib.hid (bt HB1.out hb2)
  have hb3 : Below w2.heap.size w2 (w2.alloc (.cells #[.int .i64 0] 3)) := (Below.refl _ _).alloc (Nat.le_refl _) _
  have HK3 := Lib.hid (HK2.out.all hb3)
  have HB3 := Lib.hid (bt HB2.out hb3)
  have q0 := HK3.out.cell 0
  have q1 := HK3.out.cell 1
  have f0 := HK3.out.frozen 0
  have f1 := HK3.out.frozen 1
  simp at q0 q1
  clear hb2 hb3
--@1
  go_wp2
  have HKE := Lib.hid ((HK3.out.set_ 0 (.int .i64 0)).set_ 1 (.slice none 0 0))
  have u0 := HKE.out.cell 0
  have u1 := HKE.out.cell 1
  simp at u0 u1
  have hbe : Below w.heap.size w (((w2.alloc (.cells #[.int .i64 0] 3)).setCell ⟨gr, 0, none⟩ (.int .i64 0)).setCell ⟨gr, 1, none⟩ (.slice none 0 0)) := (HB3.out.setCell (p := ⟨gr, 0, none⟩) hgw _).setCell (p := ⟨gr, 1, none⟩) hgw _
  exact bodyPost_ret (v := .tuple #[.agg #[.int .i64 0, .slice none 0 0], .int .i64 r]) (by simp [results, Try.results28, go_sem, u0, u1]) rfl ⟨rfl, hbe⟩

set_option maxRecDepth 100000 in
set_option maxHeartbeats 4000000 in
theorem make_any (n : Nat) (A : Option Addr) (m c : Nat) (L : List Bd) (w : World) (HL : Hid (Bds w (A, m, c) L)) (HV : Hid (validE (n : Int) L = 0)) :
    Calls Try.prog 28 #[.int .i64 (n : Int), .slice A m c] w (MakePost n L w) := by
  obtain ⟨-, hn8, hm10, hbo⟩ := valid_ok HV.out HL.out
  have HLL := Lib.hid HL.out.rows.len
  dsimp only at HLL
  have hm : m ≤ 10 := by rw [← HLL.out]; exact hm10
  have hn : n ≤ 8 := by omega
  have HBO : Hid (BidsOk n L) := Lib.hid (by simpa using hbo)
  clear hn8 hm10 hbo
  go_enter Try.func28, Try.ntmps28
  go_wp2_with fail
  obtain ⟨w1, hw1⟩ : ∃ x, ((w.alloc (.cells #[.int .i64 (n : Int)] 3)).alloc (.cells #[.slice A m c] 40)).alloc (.cells #[.int .i64 0, .slice none 0 0] 44) = x := ⟨_, rfl⟩
  have hb1 : Below w.heap.size w w1 := by rw [← hw1]; exact (((Below.refl w.heap.size w).alloc (Nat.le_refl _) _).alloc (by simp) _).alloc (by simp; omega) _
  have hn1 : Blk w1 w.heap.size 3 #[.int .i64 (n : Int)] := by
    rw [← hw1]
    exact ((Blk.new w 3 #[.int .i64 (n : Int)]).alloc _).alloc _
  have hl1 : Blk w1 (w.heap.size + 1) 40 #[.slice A m c] := by
    rw [← hw1]
    have := (Blk.new (w.alloc (.cells #[.int .i64 (n : Int)] 3)) 40 #[.slice A m c]).alloc (.cells #[.int .i64 0, .slice none 0 0] 44)
    rw [World.size_alloc] at this
    exact this
  have hk1 : Blk w1 (w.heap.size + 2) 44 #[.int .i64 0, .slice none 0 0] := by
    rw [← hw1]
    have := Blk.new ((w.alloc (.cells #[.int .i64 (n : Int)] 3)).alloc (.cells #[.slice A m c] 40)) 44 #[.int .i64 0, .slice none 0 0]
    rw [World.size_alloc, World.size_alloc] at this
    exact this
  rw [hw1]
  obtain ⟨gn, hgn⟩ : ∃ g, w.heap.size = g := ⟨_, rfl⟩
  obtain ⟨gl, hgl⟩ : ∃ g, w.heap.size + 1 = g := ⟨_, rfl⟩
  obtain ⟨gr, hgr⟩ : ∃ g, w.heap.size + 2 = g := ⟨_, rfl⟩
  rw [hgn] at hn1
  rw [hgl] at hl1
  rw [hgr] at hk1
  try rw [show w.heap.size + 1 + 1 = gr from hgr]
  try rw [hgl]
  try rw [hgn]
  have HGW : Hid (w.heap.size ≤ gr ∧ w.heap.size ≤ gl ∧ w.heap.size ≤ gn) := Lib.hid (by omega)
  have HB1 := Lib.hid hb1
  have HK1 := Lib.hid hk1
  have HN1 := Lib.hid hn1
  have HL1 := Lib.hid hl1
  clear hb1 hk1 hn1 hl1 hw1 hgr hgl hgn
  refine (cbest_any n A m c L w1 (Lib.hid (HL.out.all HB1.out)) HV).mono ?_
  rintro e w2 ⟨A2, n2, c2, rfl, -, hb2⟩
  obtain ⟨v, hv⟩ : ∃ v, (bestS L).2 = v := ⟨_, rfl⟩
  have HBV := Lib.hid hv
  rw [hv]
  clear hv
  go_upto_region 6 with (fail)
  have hb5 : Below w2.heap.size w2 (((w2.alloc (.cells #[.int .i64 v] 3)).alloc (.cells #[.int .i64 v, .slice none 0 0] 44)).alloc (.cells #[.nilFunc] 97)) := (((Below.refl w2.heap.size w2).alloc (Nat.le_refl _) _).alloc (by simp) _).alloc (by simp; omega) _
  have hv5 : Blk (((w2.alloc (.cells #[.int .i64 v] 3)).alloc (.cells #[.int .i64 v, .slice none 0 0] 44)).alloc (.cells #[.nilFunc] 97)) w2.heap.size 3 #[.int .i64 v] := ((Blk.new w2 3 #[.int .i64 v]).alloc _).alloc _
  have hp5 : Blk (((w2.alloc (.cells #[.int .i64 v] 3)).alloc (.cells #[.int .i64 v, .slice none 0 0] 44)).alloc (.cells #[.nilFunc] 97)) (w2.heap.size + 1) 44 #[.int .i64 v, .slice none 0 0] := by
    have := (Blk.new (w2.alloc (.cells #[.int .i64 v] 3)) 44 #[.int .i64 v, .slice none 0 0]).alloc (.cells #[.nilFunc] 97)
    rw [World.size_alloc] at this
    exact this
  have hf5 : Blk (((w2.alloc (.cells #[.int .i64 v] 3)).alloc (.cells #[.int .i64 v, .slice none 0 0] 44)).alloc (.cells #[.nilFunc] 97)) (w2.heap.size + 2) 97 #[.nilFunc] := by
    have := Blk.new ((w2.alloc (.cells #[.int .i64 v] 3)).alloc (.cells #[.int .i64 v, .slice none 0 0] 44)) 97 #[.nilFunc]
    rw [World.size_alloc, World.size_alloc] at this
    exact this
  obtain ⟨w5, hw5⟩ : ∃ x, ((w2.alloc (.cells #[.int .i64 v] 3)).alloc (.cells #[.int .i64 v, .slice none 0 0] 44)).alloc (.cells #[.nilFunc] 97) = x := ⟨_, rfl⟩
  rw [hw5] at hb5 hv5 hp5 hf5 ⊢
  obtain ⟨gv, hgv⟩ : ∃ g, w2.heap.size = g := ⟨_, rfl⟩
  obtain ⟨gp, hgp⟩ : ∃ g, w2.heap.size + 1 = g := ⟨_, rfl⟩
  obtain ⟨gb, hgb⟩ : ∃ g, w2.heap.size + 2 = g := ⟨_, rfl⟩
  rw [hgv] at hv5
  rw [hgp] at hp5
  rw [hgb] at hf5
  try rw [show w2.heap.size + 1 + 1 = gb from hgb]
  try rw [hgp]
  try rw [hgv]
  have HGO : Hid (gv < gb ∧ gp < gb ∧ gn < gb ∧ gl < gb ∧ gr < gb ∧ gr < gp ∧ w.heap.size ≤ gp) := Lib.hid (by
    have h1 := (HN1.out.all hb2).lt
    have h2 := (HL1.out.all hb2).lt
    have h3 := (HK1.out.all hb2).lt
    have := HGW.out
    omega)
  have HN5 := Lib.hid ((HN1.out.all hb2).all hb5)
  have HL5 := Lib.hid ((HL1.out.all hb2).all hb5)
  have HK5 := Lib.hid ((HK1.out.all hb2).all hb5)
  have HB5 := Lib.hid (bt (bt HB1.out hb2) hb5)
  have HV5 := Lib.hid hv5
  have HP5 := Lib.hid hp5
  have HF5 := Lib.hid hf5
  have q1 := hf5.cell 0
  have q2 := hf5.frozen 0
  simp at q1
  clear hb2 hb5 hv5 hp5 hf5 hw5 hgv hgp hgb HN1 HL1 HK1 HB1
  go_upto_region 7 with (fail)
  have HMK : Hid (MK w n A m c v gp gn gl gv gb (none, 0, 0) [] (w5.setCell ⟨gb, 0, none⟩ (.func (.func 52) #[] #[.pointer (some ⟨gp, 0, none⟩), .pointer (some ⟨gn, 0, none⟩), .pointer (some ⟨gl, 0, none⟩), .pointer (some ⟨gv, 0, none⟩), .pointer (some ⟨gb, 0, none⟩)]))) := Lib.hid (by
    obtain ⟨h1, h2, h3, h4, h5, h6, h7⟩ := HGO.out
    have k : Mod (fun b => b = gb) w5 (w5.setCell ⟨gb, 0, none⟩ (.func (.func 52) #[] #[.pointer (some ⟨gp, 0, none⟩), .pointer (some ⟨gn, 0, none⟩), .pointer (some ⟨gl, 0, none⟩), .pointer (some ⟨gv, 0, none⟩), .pointer (some ⟨gb, 0, none⟩)])) := (Mod.refl (fun b => b = gb) w5).set (p := ⟨gb, 0, none⟩) (.inl rfl) _
    refine ⟨⟨k.blk HN5.out (by omega), k.blk HL5.out (by omega), k.blk HV5.out (by omega), ?_⟩, k.blk HP5.out (by omega), ⟨rfl, World.ownsRow_nil _ _ _ _, fun x hx => by simp at hx⟩, h7, Mod.below HB5.out k HB5.out.size (fun b hb => by rw [hb]; omega)⟩
    have := Blk.set_ HF5.out 0 (.func (.func 52) #[] #[.pointer (some ⟨gp, 0, none⟩), .pointer (some ⟨gn, 0, none⟩), .pointer (some ⟨gl, 0, none⟩), .pointer (some ⟨gv, 0, none⟩), .pointer (some ⟨gb, 0, none⟩)])
    exact this)
  have HK6 : Hid (Blk (w5.setCell ⟨gb, 0, none⟩ (.func (.func 52) #[] #[.pointer (some ⟨gp, 0, none⟩), .pointer (some ⟨gn, 0, none⟩), .pointer (some ⟨gl, 0, none⟩), .pointer (some ⟨gv, 0, none⟩), .pointer (some ⟨gb, 0, none⟩)])) gr 44 #[.int .i64 0, .slice none 0 0]) := Lib.hid (HK5.out.far (by have := HGO.out; simp; omega) _)
  obtain ⟨w6, hw6⟩ : ∃ x, w5.setCell ⟨gb, 0, none⟩ (.func (.func 52) #[] #[.pointer (some ⟨gp, 0, none⟩), .pointer (some ⟨gn, 0, none⟩), .pointer (some ⟨gl, 0, none⟩), .pointer (some ⟨gv, 0, none⟩), .pointer (some ⟨gb, 0, none⟩)]) = x := ⟨_, rfl⟩
  rw [hw6] at HMK HK6 ⊢
  clear hw6 q1 q2 HN5 HL5 HK5 HB5 HV5 HP5 HF5
  have hS5 : Below w6.heap.size w6 w6.drew := below_drewN (Below.refl _ _) 1
  obtain ⟨i0, hi0, hz0, hz1, hz2⟩ := info_parts int_info
  obtain ⟨w7, hmk, hown7, hb7, -⟩ := make_all (P := Try.prog) w6.drew 22 3 i0 _ 8 Try.underlying22 hi0 hz0 hz1 hz2 rfl .i64 .i64 m (by omega) (by unfold maxLen; omega)
  have hd7 : w6.drew.heap.size = w6.heap.size := rfl
  rw [hd7] at hmk hown7
  have HB6 : Hid (Below w6.heap.size w6 w7) := Lib.hid (bt hS5 hb7)
  have HMKE := Lib.hid hmk
  have hz : TI w7 (some ⟨w6.heap.size, 0, none⟩, m, m) (List.replicate m 0) := TI.own (B := w6.heap.size) (by unfold OwnI; rw [List.map_replicate]; exact hown7)
  have h2m : 2 ^ (m + 1) ≤ 2 ^ 11 := Nat.pow_le_pow_right (by decide) (by omega)
  have hcall := mk_any w n A m c v L gp gn gl gv gb HL hm hn HBO HBV m (none, 0, 0) [] (some ⟨w6.heap.size, 0, none⟩, m, m) (List.replicate m 0) w7 (Lib.hid (HMK.out.all HB6.out)) (Lib.hid hz) rfl (Lib.hid (by rw [← HLL.out]; exact Dec.start L)) (by rw [List.count_replicate]; simp) (by dsimp only; omega)
  unfold slV at hcall
  dsimp only at hcall
  have HCALL := Lib.hid hcall
  clear hi0 hz0 hz1 hz2 hmk hown7 hb7 hd7 hz h2m hcall
--@3
  refine wp_region_held_drew (S := (fun w' => w'.cell? ⟨gb, 0, none⟩ = some (.func (.func 52) #[] #[.pointer (some ⟨gp, 0, none⟩), .pointer (some ⟨gn, 0, none⟩), .pointer (some ⟨gl, 0, none⟩), .pointer (some ⟨gv, 0, none⟩), .pointer (some ⟨gb, 0, none⟩)]) ∧ w'.cell? ⟨gl, 0, none⟩ = some (.slice A m c))) (by kernel_rfl) ⟨(HMK.out.all hS5).b.kb.cell 0, (HMK.out.all hS5).b.kl.cell 0⟩ (fun hHeld => ?_)
  refine takeH 0 (some 25) (v := ?_) (by rfl) (by rfl) (by kernel_rfl) (by kernel_rfl) (by kernel_rfl) (fun _ _ _ h => h) ?_ (by assumption) ?_
  rotate_left
  · (intro o ho w hSw; obtain ⟨z0, z1⟩ := hSw; cases ho; go_simp; try with_reducible rfl)
  try simp only [Act.put, List.setIfInBounds_toArray, List.set_cons_zero, List.set_cons_succ]
  refine takeH 1 (some 26) (v := ?_) (by rfl) (by rfl) (by kernel_rfl) (by kernel_rfl) (by kernel_rfl) (fun _ _ _ h => h) ?_ (by assumption) ?_
  rotate_left
  · (intro o ho w hSw; obtain ⟨z0, z1⟩ := hSw; cases ho; go_simp; try with_reducible rfl)
  try simp only [Act.put, List.setIfInBounds_toArray, List.set_cons_zero, List.set_cons_succ]
  refine takeH 2 (some 27) (v := ?_) (by rfl) (by rfl) (by kernel_rfl) (by kernel_rfl) (by kernel_rfl) (fun _ _ _ h => h) ?_ (by assumption) ?_
  rotate_left
  · (intro o ho w hSw; obtain ⟨z0, z1⟩ := hSw; cases ho; go_simp; try with_reducible rfl)
  try simp only [Act.put, List.setIfInBounds_toArray, List.set_cons_zero, List.set_cons_succ]
  refine wpAnyH_ready (rs := [3]) (by kernel_rfl) (by simp) ?_
  refine AllReadyH.cons rfl (fun K hK => ?_) AllReadyH.nil
  have hmk := HMKE.out
  go_simp
  refine hK.out _ _ ?_ (fun hh7a => ?_)
  · exact ⟨(HMK.out.all HB6.out).b.kb.cell 0, (HMK.out.all HB6.out).b.kl.cell 0⟩
  clear hK K
  try simp only [Act.put, List.setIfInBounds_toArray]
  refine wpAnyH_ready (rs := [4]) (by kernel_rfl) (by simp) ?_
  refine AllReadyH.cons rfl (fun K hK => ?_) AllReadyH.nil
  go_simp
  go_at_call 52
  refine HCALL.out.mono ?_
  rintro e w9 ⟨⟨A9, m9, c9⟩, N9, rfl, hMK9, hT9, hB9, hM9, hO9⟩
  go_wp2
  refine hK.out _ _ ?_ (fun hh7b => ?_)
  · exact ⟨(hMK9).b.kb.cell 0, (hMK9).b.kl.cell 0⟩
  clear hK K
  try simp only [Act.put, List.setIfInBounds_toArray, List.set_cons_zero, List.set_cons_succ]
  refine wpAnyH_done (by kernel_rfl) ?_ _
  clear hh7a hh7b hHeld
  obtain ⟨h1, h2, h3, h4, h5, h6, h7⟩ := HGO.out
  have hk9 : Blk w9 gr 44 #[.int .i64 0, .slice none 0 0] := hM9.blk (HK6.out.all HB6.out) (fun hf => hf.elim (fun e => by omega) (fun e => by simp [slV, Value.ownBlock] at e))
  have q0 := hMK9.p.cell 0
  have q1 := hMK9.p.cell 1
  have r0 := hk9.cell 0
  have r1 := hk9.cell 1
  have f0 := hk9.frozen 0
  have f1 := hk9.frozen 1
  unfold slV at q1
  simp at q0 q1 r0 r1
  have HK9 := Lib.hid hk9
  have HMK9 := Lib.hid hMK9
  have HB9 := Lib.hid hB9
  clear hk9 hMK9 hT9 hB9 hM9 hO9 h1 h2 h3 h4 h5 h6 h7
  go_wp2
  have HKE := Lib.hid ((HK9.out.set_ 0 (.int .i64 v)).set_ 1 (.slice A9 m9 c9))
  have u0 := HKE.out.cell 0
  have u1 := HKE.out.cell 1
  simp at u0 u1
  have hgw := HGW.out.1
  have hme : Mod (fun b => b = gr) w9 ((w9.setCell ⟨gr, 0, none⟩ (.int .i64 v)).setCell ⟨gr, 1, none⟩ (.slice A9 m9 c9)) := ((Mod.refl (fun b => b = gr) w9).set (p := ⟨gr, 0, none⟩) (.inl rfl) _).set (p := ⟨gr, 1, none⟩) (.inl rfl) _
  have hbe : Below w.heap.size w ((w9.setCell ⟨gr, 0, none⟩ (.int .i64 v)).setCell ⟨gr, 1, none⟩ (.slice A9 m9 c9)) := Mod.below HMK9.out.below hme HMK9.out.below.size (fun b hb => by rw [hb]; exact hgw)
  have HF : Hid (MakePost n L w (.returned (.tuple #[.agg #[.int .i64 v, .slice A9 m9 c9], .int .i64 0])) ((w9.setCell ⟨gr, 0, none⟩ (.int .i64 v)).setCell ⟨gr, 1, none⟩ (.slice A9 m9 c9))) := Lib.hid (by
    refine ⟨A9, m9, c9, N9, by rw [HBV.out], HMK9.out.nd.mod hme (fun b hb => by rw [hb]; exact ⟨HK9.out.ty.not (by decide), HK9.out.ty.not (by decide)⟩), ?_, hbe⟩
    have := HB9.out.le 11 (by omega)
    rw [HBV.out, HLL.out]
    exact this)
  exact bodyPost_ret (v := .tuple #[.agg #[.int .i64 v, .slice A9 m9 c9], .int .i64 0]) (by simp [results, Try.results28, go_sem, u0, u1]) rfl HF.out
end Go.Proofs.Ytikfcpkobgejmaa

/- law 29: what Make builds is accepted; lowering a price that does not win. -/
namespace Go.Proofs.Ytikfcpkobgejmaa
open Go.RowKit

theorem feas_len {L : List Bd} {C : List Int} (h : FeasP L C) : C.length ≤ L.length := by
  have h1 := sum_mem h.nodup h.1 (fun _ => 1)
  have h2 : (C.map fun _ => (1 : Int)).sum = C.length := by
    clear h h1
    induction C with
    | nil => rfl
    | cons a t ih => rw [List.map_cons, List.sum_cons, ih, List.length_cons]; omega
  have h3 : ((List.range L.length).map fun (k : Nat) => if (k : Int) ∈ C then (1 : Int) else 0).sum ≤ ((List.range L.length).map fun _ => (1 : Int)).sum := sum_le (fun a _ => by split <;> omega)
  have h4 : ∀ n : Nat, ((List.range n).map fun _ => (1 : Int)).sum = n := fun n => by
    induction n with
    | zero => rfl
    | succ n ih => rw [List.range_succ, List.map_append, List.sum_append, ih]; simp
  rw [h4, ← h1, h2] at h3
  omega
theorem make_check {k np : Nat} {L : List Bd} {N : List Nd} (hv : validE (k : Int) L = 0) (hb : Built k L (bestS L).2 N 11 0 (List.replicate L.length 0) np) (hl : N.length = np) : checkE (k : Int) L (bestS L).1 (bestS L).2 N = 0 ∧ np ≤ 2047 ∧ 0 < np := by
  obtain ⟨h1, h2⟩ := best_feas L
  rw [← h2, ← hl] at hb
  obtain ⟨h3, h4, h5⟩ := hb.proof (win := (bestS L).1) (Nat.le_refl _)
  rw [h2] at h5
  refine ⟨?_, by omega, by omega⟩
  unfold checkE
  rw [if_pos hv, if_pos h1, if_neg (by omega), Int.toNat_natCast, if_pos h5]
theorem Built.small {n : Nat} {L : List Bd} {v : Int} {N : List Nd} : ∀ {f i j : Nat} {D : List Int}, Built n L v N f i D j → ∀ t, i ≤ t → t < j → (ndAt N t).prices.length ≤ n
  | 0, _, _, _, h => h.elim
  | f + 1, i, j, D, h => by
    intro t ht1 ht2
    rcases h with ⟨s, h1, h2, rfl⟩ | ⟨b, i2, s, h1, h2, h3, h4⟩
    · obtain rfl : t = i := by omega
      rw [h1]
      simp
    · by_cases e : t = i
      · subst e
        rw [h1]
        simp
      · by_cases e2 : t < i2
        · exact h3.small t (by omega) e2
        · exact h4.small t (by omega) ht2
/-- A certificate in a row: its value, its slice of nodes, and these. -/
structure Cg where
  v : Int
  s : Sl
  N : List Nd
def Cg.cells (x : Cg) : List Value := [.int .i64 x.v, slV x.s]
theorem Cg.cells_length (x : Cg) : x.cells.length = 2 := rfl
structure Cgs (w : World) (g k : Nat) (L : List Cg) : Prop where
  rows : Rows Cg.cells 2 w (some ⟨g, 0, none⟩, k, k) L
  ok : ∀ x ∈ L, Nds w x.s x.N
theorem Cgs.all {w w' : World} {g k : Nat} {L : List Cg} (h : Cgs w g k L) (hb : Below w.heap.size w w') : Cgs w' g k L := ⟨h.rows.all hb, fun x hx => (h.ok x hx).all hb⟩
theorem Cgs.get {w : World} {g k : Nat} {L : List Cg} (h : Cgs w g k L) {i : Nat} (hi : i < k) : ∃ v A n c N, w.cell? ⟨g, i * 2, none⟩ = some (.int .i64 v) ∧ w.cell? ⟨g, i * 2 + 1, none⟩ = some (.slice A n c) ∧ Nds w (A, n, c) N := by
  have hl : i < L.length := by rw [h.rows.len]; exact hi
  obtain ⟨b, off, e, -, hc⟩ := h.rows.cells Cg.cells_length hl (by decide)
  injection e with e
  injection e with e1 e2 _
  subst e1 e2
  have h0 := hc 0 (.int .i64 L[i].v) rfl
  have h1 := hc 1 (slV L[i].s) rfl
  rw [Nat.zero_add] at h0 h1
  have hk := h.ok _ (List.getElem_mem hl)
  obtain ⟨x, hx⟩ : ∃ x, L[i] = x := ⟨_, rfl⟩
  rw [hx] at h0 h1 hk
  obtain ⟨v, ⟨A, n, c⟩, N⟩ := x
  exact ⟨v, A, n, c, N, h0, h1, hk⟩
end Go.Proofs.Ytikfcpkobgejmaa

/- law 29: taken. -/
namespace Go.Proofs.Ytikfcpkobgejmaa
open Go.RowKit

theorem slT_taken : SlT Try.prog 28 34 4 48 := SlT.of Try.underlying28 (by kernel_rfl) (by decide)
def TakenPost (v : Int) (N : List Nd) (w : World) (e : Ending) (w' : World) : Prop := ∃ A' c', e = .returned (.agg #[.int .i64 v, .slice A' N.length c']) ∧ w'.ownsRow w.heap.size 34 4 (.slice A' N.length c') N.length (N.flatMap Nd.cells) ∧ Below w.heap.size w w'
set_option maxRecDepth 100000 in
set_option maxHeartbeats 4000000 in
theorem taken_any (v : Int) (An : Option Addr) (nn cn : Nat) (N : List Nd) (w : World) (HN : Hid (Nds w (An, nn, cn) N)) (hm : nn ≤ 10000) :
    Calls Try.prog 29 #[.agg #[.int .i64 v, .slice An nn cn]] w (TakenPost v N w) := by
  have HNL := Lib.hid HN.out.rows.len
  dsimp only at HNL
  go_enter Try.func29, Try.ntmps29
  go_wp2
  have hb0 := (((Below.refl w.heap.size w).alloc (Nat.le_refl _) (.cells #[.int .i64 v, .slice An nn cn] 44)).alloc (by simp) (.cells #[.int .i64 0, .slice none 0 0] 30)).alloc (by simp; omega) (.cells #[.int .i64 v, .slice none 0 0] 30)
  have hk0 := Blk.alloc (Blk.alloc (Blk.new w 44 #[.int .i64 v, .slice An nn cn]) (.cells #[.int .i64 0, .slice none 0 0] 30)) (.cells #[.int .i64 v, .slice none 0 0] 30)
  have hk1 := Blk.alloc (Blk.new (w.alloc (.cells #[.int .i64 v, .slice An nn cn] 44)) 30 #[.int .i64 0, .slice none 0 0]) (.cells #[.int .i64 v, .slice none 0 0] 30)
  have hk2 := Blk.new ((w.alloc (.cells #[.int .i64 v, .slice An nn cn] 44)).alloc (.cells #[.int .i64 0, .slice none 0 0] 30)) 30 #[.int .i64 v, .slice none 0 0]
  simp only [World.size_alloc] at hk1 hk2
  obtain ⟨w0, hw0⟩ : ∃ w0, ((w.alloc (.cells #[.int .i64 v, .slice An nn cn] 44)).alloc (.cells #[.int .i64 0, .slice none 0 0] 30)).alloc (.cells #[.int .i64 v, .slice none 0 0] 30) = w0 := ⟨_, rfl⟩
  have hz0 : w0.heap.size = w.heap.size + 1 + 1 + 1 := by rw [← hw0]; simp
  rw [hw0] at hb0 hk0 hk1 hk2 ⊢
  obtain ⟨gp, hgp⟩ : ∃ gp, w.heap.size = gp := ⟨_, rfl⟩
  rw [hgp] at hk0 hk1 hk2 hz0 ⊢
  have HZ := Lib.hid hz0
  have HGP := Lib.hid hgp
  have HB0 := Lib.hid hb0
  have HK0 := Lib.hid hk0
  have HK1 := Lib.hid hk1
  have HK2 := Lib.hid hk2
  clear hw0 hz0 hgp hb0 hk0 hk1 hk2
  go_loopw [4] (fun iv wr => ∃ (k : Nat) (A' : Option Addr) (c' : Nat), k ≤ nn ∧ iv = .int .i64 (k : Int) ∧ Hid (Blk wr gp 44 #[.int .i64 v, .slice An nn cn]) ∧ Hid (Blk wr (gp + 1) 30 #[.int .i64 0, .slice none 0 0]) ∧ Hid (Blk wr (gp + 1 + 1) 30 #[.int .i64 v, .slice A' k c']) ∧ Hid (wr.ownsRow (gp + 1 + 1 + 1) 34 4 (.slice A' k c') k ((N.take k).flatMap Nd.cells)) ∧ Hid (Below w.heap.size w wr)) (fun iv _ => nn - (intOf iv).toNat)
  case atStart => exact ⟨0, none, 0, by omega, rfl, HK0, HK1, HK2, Lib.hid (by rw [List.take_zero]; exact World.ownsRow_nil _ _ _ _), HB0⟩
  case round =>
    clear HK0 HK1 HK2
    obtain ⟨k, A', c', hk, rfl, HK0, HK1, HK2, HO, HB⟩ := hrel
    have p1 := HK0.out.cell 1
    have r0 := HK2.out.cell 0
    have r1 := HK2.out.cell 1
    simp at p1 r0 r1
    by_cases hkm : k < nn
    · obtain ⟨b, off, bi, iq, oq, sA, sn, sc, ps, hA, hbw, c0, c1, c2, c3, hin, he⟩ := (HN.out.all HB.out).get (k := k) (by rw [HNL.out]; exact hkm)
      subst hA
      have HTK : Hid ((N.take (k + 1)).flatMap Nd.cells = (N.take k).flatMap Nd.cells ++ #[.int .i64 bi, .int .i64 iq, .int .i64 oq, .slice sA sn sc].toList) := Lib.hid (by
        have hkl : k < N.length := by rw [HNL.out]; exact hkm
        rw [← List.take_append_getElem hkl, List.flatMap_append]
        rw [← ndAt_eq hkl, he]
        rfl)
      have hlt2 : gp + 1 + 1 < wr.heap.size := HK2.out.lt
      obtain ⟨A5, c5, w5, hr5, ho5, hb5, -⟩ := app_elem (w := wr.alloc (.cells #[.int .i64 bi, .int .i64 iq, .int .i64 oq, .slice sA sn sc] 55)) 28 slT_taken (HO.out.alloc _) #[.int .i64 bi, .int .i64 iq, .int .i64 oq, .slice sA sn sc] rfl (by intro u hu; simp at hu; rcases hu with rfl | rfl | rfl | rfl <;> rfl) (by omega) (by decide) (by simp; omega)
      have hba : Below (gp + 1 + 1 + 1) wr w5 := ((Below.refl (gp + 1 + 1 + 1) wr).alloc (by omega) _).trans hb5
      rw [World.size_alloc] at hr5
      have HR5 := Lib.hid hr5
      have HO5 := Lib.hid ho5
      have HK05 : Hid (Blk w5 gp 44 #[.int .i64 v, .slice (some ⟨b, off, none⟩) nn cn]) := Lib.hid (HK0.out.below hba (by omega))
      have HK15 : Hid (Blk w5 (gp + 1) 30 #[.int .i64 0, .slice none 0 0]) := Lib.hid (HK1.out.below hba (by omega))
      have hk25 : Blk w5 (gp + 1 + 1) 30 #[.int .i64 v, .slice A' k c'] := HK2.out.below hba (by omega)
      have HK25 := Lib.hid hk25
      have HB5 : Hid (Below w.heap.size w w5) := Lib.hid (HB.out.trans (hba.mono (by rw [HGP.out]; omega)))
      have d0 := hk25.cell 1
      have d1 := hk25.frozen 1
      simp at d0
      clear hr5 ho5 hb5 hin he hbw hba hk25
      have hki : (k : Int) < (nn : Int) := by omega
      go_wp2_with (at_builtin; refine wpList_append_run HR5.out (by rfl) (by rfl) (by rfl) (by rfl) ?_)
      refine ⟨⟨k + 1, A5, c5, by omega, by go_num, Lib.hid ?_, Lib.hid ?_, Lib.hid ?_, Lib.hid ?_, Lib.hid ?_⟩, by simp [intOf]; omega⟩
      · exact HK05.out.far (by simp; omega) _
      · exact HK15.out.far (by simp) _
      · exact HK25.out.set_ 1 _
      · rw [HTK.out]
        exact ownsRow_setCell_below HO5.out (by simp) _
      · exact HB5.out.setCell (by rw [HGP.out]; simp; omega) _
    · obtain rfl : k = nn := by omega
      have q0 := HK1.out.cell 0
      have q1 := HK1.out.cell 1
      have q2 := HK1.out.frozen 0
      have q3 := HK1.out.frozen 1
      simp at q0 q1
      have HF : Hid (∀ wz, Below w.heap.size w wz → wz.ownsRow (gp + 1 + 1 + 1) 34 4 (.slice A' k c') k ((N.take k).flatMap Nd.cells) → TakenPost v N w (.returned (.agg #[.int .i64 v, .slice A' k c'])) wz) := Lib.hid (fun wz hbz h => by
        rw [List.take_of_length_le (by rw [HNL.out]; exact Nat.le_refl _)] at h
        refine ⟨A', c', by rw [HNL.out], ?_, hbz⟩
        rw [HNL.out]
        exact own_lower h (by rw [HGP.out]; omega))
      have hkz := (HK1.out.set_ 0 (.int .i64 v)).set_ 1 (.slice A' k c')
      have y0 := hkz.cell 0
      have y1 := hkz.cell 1
      simp at y0 y1
      clear hkz
      go_wp2
      refine bodyPost_ret (v := .agg #[.int .i64 v, .slice A' k c']) (by simp [results, Try.results29, go_sem, y0, y1]) rfl (HF.out _ ?_ ?_)
      · exact (HB.out.setCell (by rw [HGP.out]; simp) _).setCell (by rw [HGP.out]; simp) _
      · exact ownsRow_setCell_below (ownsRow_setCell_below HO.out (by simp) _) (by simp) _
end Go.Proofs.Ytikfcpkobgejmaa

/- For every list of numbers worldmintlaw29.ProofSound returns true: where a certificate is accepted no feasible choice is worth more. No condition. -/
namespace Go.Proofs.Ytikfcpkobgejmaa
open Go.ChangeShapes Go.WideShapes Go.ChangeAt Go.RowKit Go.ChangeMaps


set_option maxRecDepth 100000 in
set_option maxHeartbeats 8000000 in
theorem ProofSound_walk (W : World) (a0 : Int) (ha0 : Hid ((Lit.int .i64 a0).wf = true)) (A1 : Option Addr) (n1 c1 : Nat) (f1 : Nat → Int) (_hA1 : A1 = none → n1 = 0) (_hn1 : n1 ≤ c1) (_hc1 : c1 ≤ 9223372036854775807) (hR1 : Rd W W.heap.size A1 n1 (fun j => .int .i64 (f1 j))) (hw1 : Hid (∀ j, j < n1 → (Lit.int .i64 (f1 j)).wf = true)) (A2 : Option Addr) (n2 c2 : Nat) (f2 : Nat → Int) (_hA2 : A2 = none → n2 = 0) (_hn2 : n2 ≤ c2) (_hc2 : c2 ≤ 9223372036854775807) (hR2 : Rd W W.heap.size A2 n2 (fun j => .int .i64 (f2 j))) (hw2 : Hid (∀ j, j < n2 → (Lit.int .i64 (f2 j)).wf = true)) (a3 : Int) (ha3 : Hid ((Lit.int .i64 a3).wf = true)) (a4 : Int) (ha4 : Hid ((Lit.int .i64 a4).wf = true)) (a5 : Int) (ha5 : Hid ((Lit.int .i64 a5).wf = true)) (a6 : Int) (_ha6 : Hid ((Lit.int .i64 a6).wf = true)) :
    Calls Try.prog 7 #[.int .i64 a0, .slice A1 n1 c1, .slice A2 n2 c2, .int .i64 a3, .int .i64 a4, .int .i64 a5, .int .i64 a6] W fun e w' => e = .returned (.bool true) ∧ Below W.heap.size W w' := by
  obtain ⟨p00, p01⟩ := wf_i64 ha0.out
  obtain ⟨p30, p31⟩ := wf_i64 ha3.out
  obtain ⟨p40, p41⟩ := wf_i64 ha4.out
  obtain ⟨p50, p51⟩ := wf_i64 ha5.out
  have HR1 := Lib.hid hR1
  have HR2 := Lib.hid hR2
  have HW1 : Hid (∀ j, j < n1 → -9223372036854775808 ≤ f1 j ∧ f1 j ≤ 9223372036854775807) := Lib.hid (fun j hj => wf_i64 (hw1.out j hj))
  have HW2 : Hid (∀ j, j < n2 → -9223372036854775808 ≤ f2 j ∧ f2 j ≤ 9223372036854775807) := Lib.hid (fun j hj => wf_i64 (hw2.out j hj))
  clear hR1 hR2 hw1 hw2 ha0 ha3 ha4 ha5
  go_enter Try.func7, Try.ntmps7
  go_wp2_with fail
  refine (lots27_any a0 W p00 p01).mono ?_
  rintro e w1 ⟨k, rfl, hk1, hk8, rfl⟩
  go_wp2_with fail
  refine (bids_any k A1 n1 c1 f1 6 6 (by rfl) W hk1 hk8 (by omega) HR1.out HW1).mono ?_
  rintro e w2 ⟨Aa, ca, La, rfl, hla, hoa, hOa, hva, hb2⟩
  have HA2 : Hid (Bds w2 (Aa, La.length, ca) La) := Lib.hid (Bds.of_own hoa (fun b hb => (hOa b hb).ok))
  have HVA : Hid (validE (k : Int) La = 0) := Lib.hid (by
    unfold validE
    rw [if_neg (by omega), if_neg (by omega)]
    exact hva)
  have HOK := Lib.hid (BidsOk.of_valid HVA.out HA2.out)
  have HLS : Hid (∀ b ∈ La, b.s.2.1 ≤ 1000000) := Lib.hid (fun b hb => by have := (HOK.out b hb).2.2.1; omega)
  obtain ⟨m, hm⟩ : ∃ m, La.length = m := ⟨_, rfl⟩
  have HLam := Lib.hid hm
  rw [hm] at HA2 hla ⊢
  have HB2 := Lib.hid hb2
  clear hoa hOa hva hb2 hm
  go_wp2_with fail
  refine (given_any Aa m ca La w2 HA2 (by omega)).mono ?_
  rintro e w3 ⟨Ag, cg, rfl, hog, hb3⟩
  rw [HLam.out] at hog ⊢
  have HG3 : Hid (Bds w3 (Ag, m, cg) La) := Lib.hid (Bds.of_own hog (fun b hb => (HA2.out.ok b hb).all hb3))
  have HA3 := Lib.hid (HA2.out.all hb3)
  have HB3 := Lib.hid (bt HB2.out hb3)
  clear hog hb3 HA2 HB2
  go_wp2_with fail
  refine (rwin_any k Aa m ca La a3 w3 HA3 HVA p30 p31).mono ?_
  rintro e w4 ⟨Aw, nw, cw, win, rfl, hW4, hwf, hnw, hb4⟩
  have HW4 := Lib.hid hW4
  have HWF := Lib.hid hwf
  have HG4 := Lib.hid (HG3.out.all hb4)
  have HA4 := Lib.hid (HA3.out.all hb4)
  have HB4 := Lib.hid (bt HB3.out hb4)
  clear hW4 hwf hb4 HG3 HA3 HB3
  have HVL := Lib.hid (value_any (Ag, m, cg) (Aw, nw, cw) La win w4 HG4 HW4 (Lib.hid HOK.out.prices) (by dsimp only; omega))
  unfold slV at HVL
  dsimp only at HVL
  obtain ⟨v, hv⟩ : ∃ v, valueB La win = v := ⟨_, rfl⟩
  rw [hv] at HVL
  have HV := Lib.hid hv
  clear hv
  go_wp2_with (go_at_call 26; (with_reducible refine HVL.out.mono ?_); rintro e w4b ⟨rfl, rfl⟩)
  clear HVL
  refine (make_any k Ag m cg La w4 HG4 HVA).mono ?_
  rintro e w5 ⟨Ap, np, cp, Np, rfl, hnp, hbt, hb5⟩
  obtain ⟨-, hnp1, hnp0⟩ := make_check HVA.out hbt hnp.len
  have HNPS : Hid (∀ x ∈ Np, x.s.2.1 ≤ 1000000) := Lib.hid (fun x hx => by
    obtain ⟨t, ht, rfl⟩ := List.getElem_of_mem hx
    have h1 := (hnp.ok _ hx).nin.len
    have h2 := hbt.small t (Nat.zero_le _) (by rw [← hnp.len]; exact ht)
    rw [ndAt_eq ht] at h2
    omega)
  have HNP := Lib.hid hnp.len
  obtain ⟨vb, hvb⟩ : ∃ v, (bestS La).2 = v := ⟨_, rfl⟩
  rw [hvb]
  clear hbt hvb
  go_upto_region 7 with (fail)
  have hk0 := Blk.new w5 44 #[.int .i64 vb, .slice Ap np cp]
  have hb6 : Below w5.heap.size w5 (w5.alloc (.cells #[.int .i64 vb, .slice Ap np cp] 44)) := (Below.refl _ _).alloc (Nat.le_refl _) _
  obtain ⟨w6, hw6⟩ : ∃ x, w5.alloc (.cells #[.int .i64 vb, .slice Ap np cp] 44) = x := ⟨_, rfl⟩
  obtain ⟨g0, hg0⟩ : ∃ g, w5.heap.size = g := ⟨_, rfl⟩
  rw [hw6] at hb6 hk0 ⊢
  have hb7 : Below w5.heap.size w5 (w6.setCell ⟨g0, 0, none⟩ (.int .i64 v)) := hb6.setCell (p := ⟨g0, 0, none⟩) (by rw [hg0]; exact Nat.le_refl _) _
  rw [hg0] at hk0
  try rw [hg0]
  have q0 := hk0.cell 0
  have q1 := hk0.frozen 0
  simp at q0
  have HK06 : Hid (Blk (w6.setCell ⟨g0, 0, none⟩ (.int .i64 v)) g0 44 #[.int .i64 v, .slice Ap np cp]) := Lib.hid (hk0.set_ 0 (.int .i64 v))
  have HP7 := Lib.hid (hnp.all hb7)
  have HG7 := Lib.hid ((HG4.out.all hb5).all hb7)
  have HA7 := Lib.hid ((HA4.out.all hb5).all hb7)
  have HW7 := Lib.hid (NIn.all (NIn.all HW4.out hb5) hb7)
  have HB7 := Lib.hid (bt HB4.out (bt hb5 hb7))
  clear hnp hb5 hb6 hb7 hk0 hw6 hg0 HG4 HA4 HW4 HB4
  go_upto_region 8 with (fail)
  obtain ⟨w7, hw7⟩ : ∃ x, w6.setCell ⟨g0, 0, none⟩ (.int .i64 v) = x := ⟨_, rfl⟩
  rw [hw7] at HK06 HP7 HG7 HA7 HW7 HB7 ⊢
  clear hw7 q0 q1
  go_wp2_with fail
  refine (lots28_any k A2 n2 c2 f2 w7 hk8 (HR2.out.all HB7.out) HW2).mono ?_
  rintro e w8 ⟨Aq, cq, P, rfl, hoP, hlP, -, hb8⟩
  have HTP := Lib.hid (TI.own hoP)
  have HP8 := Lib.hid (HP7.out.all hb8)
  have HG8 := Lib.hid (HG7.out.all hb8)
  have HA8 := Lib.hid (HA7.out.all hb8)
  have HW8 := Lib.hid (NIn.all HW7.out hb8)
  have HK08 := Lib.hid (HK06.out.all hb8)
  have HB8 := Lib.hid (bt HB7.out hb8)
  clear hoP hlP hb8 HK06 HP7 HG7 HA7 HW7 HB7
  go_upto_region 9 with (fail)
  obtain ⟨gm, hgm⟩ : ∃ gm, w8.heap.size = gm := ⟨_, rfl⟩
  obtain ⟨w9, hw9⟩ : ∃ x, (w8.alloc (.cells #[.int .i64 (-1), .int .i64 0, .int .i64 0, .slice Aq k cq] 34)).alloc (.cells #[.int .i64 v, .slice (some ⟨gm, 0, none⟩) 1 1] 30) = x := ⟨_, rfl⟩
  have hkm : Blk w9 gm 34 #[.int .i64 (-1), .int .i64 0, .int .i64 0, .slice Aq k cq] := by
    rw [← hw9, ← hgm]
    exact Blk.alloc (Blk.new _ _ _) _
  have HK19 : Hid (Blk w9 (gm + 1) 30 #[.int .i64 v, .slice (some ⟨gm, 0, none⟩) 1 1]) := Lib.hid (by
    rw [← hw9]
    exact Blk.new' _ _ _ (by rw [World.size_alloc, hgm]))
  have hb9 : Below w8.heap.size w8 w9 := by
    rw [← hw9]
    exact ((Below.refl _ _).alloc (Nat.le_refl _) _).alloc (by simp) _
  obtain ⟨NL, hNL⟩ : ∃ N, [(⟨-1, 0, 0, (Aq, k, cq), P⟩ : Nd)] = N := ⟨_, rfl⟩
  have HNLm : Hid (NL.length = 1) := Lib.hid (by rw [← hNL]; rfl)
  have HML9 : Hid (Nds w9 (some ⟨gm, 0, none⟩, 1, 1) NL) := Lib.hid (by
    rw [← hNL]
    exact ⟨Rows.of_blk hkm Nd.cells_length rfl rfl (by decide), fun b hb => by
      rw [List.mem_singleton] at hb
      subst hb
      exact (HTP.out.all hb9).nin⟩)
  have HP9 := Lib.hid (HP8.out.all hb9)
  have HG9 := Lib.hid (HG8.out.all hb9)
  have HA9 := Lib.hid (HA8.out.all hb9)
  have HW9 := Lib.hid (NIn.all HW8.out hb9)
  have HK09 := Lib.hid (HK08.out.all hb9)
  have HB9 := Lib.hid (bt HB8.out hb9)
  try rw [hgm]
  rw [hw9]
  obtain ⟨g1, hg1⟩ : ∃ g, gm + 1 = g := ⟨_, rfl⟩
  rw [hg1] at HK19
  try rw [hg1]
  clear hgm hw9 hkm hb9 hNL hg1 HTP HP8 HG8 HA8 HW8 HK08 HB8
  go_wp2_with fail
  refine (full_any k Aa m ca v La w9 HA9 (by omega) hk8 HLS).mono ?_
  rintro e w10 ⟨Af, mf, cf, Nf, rfl, hmf0, hmf, hNf, hb10⟩
  have HA6 : Hid (Below w10.heap.size w10 (w10.alloc (.cells #[.int .i64 v, .slice Af mf cf] 30))) := Lib.hid ((Below.refl _ _).alloc (Nat.le_refl _) _)
  have HNF := Lib.hid (hNf.ndsT.all HA6.out)
  have HMF := Lib.hid HNF.out.nds
  have HNfm := Lib.hid hNf.len
  have HNS : Hid (∀ x ∈ Nf, x.s.2.1 ≤ 1000000) := Lib.hid (fun x hx => by have := (hNf.fine x hx).1; omega)
  have hbb := bt hb10 HA6.out
  have HP := Lib.hid (HP9.out.all hbb)
  have HMP := Lib.hid HP.out.nds
  have HML := Lib.hid (HML9.out.all hbb)
  have HG := Lib.hid (HG9.out.all hbb)
  have HW := Lib.hid (NIn.all HW9.out hbb)
  have HK0 := Lib.hid (HK09.out.all hbb)
  have HK1 := Lib.hid (HK19.out.all hbb)
  have HB := Lib.hid (bt HB9.out hbb)
  obtain ⟨g2, hg2⟩ : ∃ g, w10.heap.size = g := ⟨_, rfl⟩
  have HK2 : Hid (Blk (w10.alloc (.cells #[.int .i64 v, .slice Af mf cf] 30)) g2 30 #[.int .i64 v, .slice Af mf cf]) := Lib.hid (by rw [← hg2]; exact Blk.new _ _ _)
  clear hNf hb10 hbb HP9 HML9 HG9 HA9 HW9 HK09 HK19 HB9
  go_upto_region 10 with (fail)
  obtain ⟨w20, hw20⟩ : ∃ x, w10.alloc (.cells #[.int .i64 v, .slice Af mf cf] 30) = x := ⟨_, rfl⟩
  try rw [hg2]
  rw [hw20] at HNF HMF HP HMP HML HG HW HK0 HK1 HB HK2 ⊢
  clear hw20 hg2 HA6
  have hS20 : Below w20.heap.size w20 w20.drew := below_drewN (Below.refl _ _) 1
--@1
  refine wp_region_held_drew (S := (fun w' => w'.cell? ⟨g0, 0, none⟩ = some (.int .i64 v) ∧ w'.cell? ⟨g0, 1, none⟩ = some (.slice Ap np cp) ∧ w'.cell? ⟨g1, 0, none⟩ = some (.int .i64 v) ∧ w'.cell? ⟨g1, 1, none⟩ = some (.slice (some ⟨gm, 0, none⟩) 1 1) ∧ w'.cell? ⟨g2, 0, none⟩ = some (.int .i64 v) ∧ w'.cell? ⟨g2, 1, none⟩ = some (.slice Af mf cf))) (by kernel_rfl) ⟨(HK0.out.all hS20).cell 0, (HK0.out.all hS20).cell 1, (HK1.out.all hS20).cell 0, (HK1.out.all hS20).cell 1, (HK2.out.all hS20).cell 0, (HK2.out.all hS20).cell 1⟩ (fun hHeld => ?_)
  refine takeH 0 (some 64) (v := ?_) (by rfl) (by rfl) (by kernel_rfl) (by kernel_rfl) (by kernel_rfl) (fun _ _ _ h => h) ?_ (by assumption) ?_
  rotate_left
  · (intro o ho w hSw; obtain ⟨z0, z1, z2, z3, z4, z5⟩ := hSw; cases ho; go_simp; try with_reducible rfl)
  try simp only [Act.put, List.setIfInBounds_toArray, List.set_cons_zero, List.set_cons_succ]
  refine takeH 1 (some 65) (v := ?_) (by rfl) (by rfl) (by kernel_rfl) (by kernel_rfl) (by kernel_rfl) (fun _ _ _ h => h) ?_ (by assumption) ?_
  rotate_left
  · (intro o ho w hSw; obtain ⟨z0, z1, z2, z3, z4, z5⟩ := hSw; cases ho; go_simp; try with_reducible rfl)
  try simp only [Act.put, List.setIfInBounds_toArray, List.set_cons_zero, List.set_cons_succ]
  refine takeH 3 (some 67) (v := ?_) (by rfl) (by rfl) (by kernel_rfl) (by kernel_rfl) (by kernel_rfl) (fun _ _ _ h => h) ?_ (by assumption) ?_
  rotate_left
  · (intro o ho w hSw; obtain ⟨z0, z1, z2, z3, z4, z5⟩ := hSw; cases ho; go_simp; try with_reducible rfl)
  try simp only [Act.put, List.setIfInBounds_toArray, List.set_cons_zero, List.set_cons_succ]
  refine takeH 5 (some 69) (v := ?_) (by rfl) (by rfl) (by kernel_rfl) (by kernel_rfl) (by kernel_rfl) (fun _ _ _ h => h) ?_ (by assumption) ?_
  rotate_left
  · (intro o ho w hSw; obtain ⟨z0, z1, z2, z3, z4, z5⟩ := hSw; cases ho; go_simp; try with_reducible rfl)
  try simp only [Act.put, List.setIfInBounds_toArray, List.set_cons_zero, List.set_cons_succ]
  refine takeH 6 (some 70) (v := ?_) (by rfl) (by rfl) (by kernel_rfl) (by kernel_rfl) (by kernel_rfl) (fun _ _ _ h => h) ?_ (by assumption) ?_
  rotate_left
  · (intro o ho w hSw; obtain ⟨z0, z1, z2, z3, z4, z5⟩ := hSw; cases ho; go_simp; try with_reducible rfl)
  try simp only [Act.put, List.setIfInBounds_toArray, List.set_cons_zero, List.set_cons_succ]
  refine takeH 7 (some 71) (v := ?_) (by rfl) (by rfl) (by kernel_rfl) (by kernel_rfl) (by kernel_rfl) (fun _ _ _ h => h) ?_ (by assumption) ?_
  rotate_left
  · (intro o ho w hSw; obtain ⟨z0, z1, z2, z3, z4, z5⟩ := hSw; cases ho; go_simp; try with_reducible rfl)
  try simp only [Act.put, List.setIfInBounds_toArray, List.set_cons_zero, List.set_cons_succ]
  refine takeH 8 (some 72) (v := ?_) (by rfl) (by rfl) (by kernel_rfl) (by kernel_rfl) (by kernel_rfl) (fun _ _ _ h => h) ?_ (by assumption) ?_
  rotate_left
  · (intro o ho w hSw; obtain ⟨z0, z1, z2, z3, z4, z5⟩ := hSw; cases ho; go_simp; try with_reducible rfl)
  try simp only [Act.put, List.setIfInBounds_toArray, List.set_cons_zero, List.set_cons_succ]
  refine takeH 11 (some 75) (v := ?_) (by rfl) (by rfl) (by kernel_rfl) (by kernel_rfl) (by kernel_rfl) (fun _ _ _ h => h) ?_ (by assumption) ?_
  rotate_left
  · (intro o ho w hSw; obtain ⟨z0, z1, z2, z3, z4, z5⟩ := hSw; cases ho; go_simp; try with_reducible rfl)
  try simp only [Act.put, List.setIfInBounds_toArray, List.set_cons_zero, List.set_cons_succ]
  refine takeH 13 (some 77) (v := ?_) (by rfl) (by rfl) (by kernel_rfl) (by kernel_rfl) (by kernel_rfl) (fun _ _ _ h => h) ?_ (by assumption) ?_
  rotate_left
  · (intro o ho w hSw; obtain ⟨z0, z1, z2, z3, z4, z5⟩ := hSw; cases ho; go_simp; try with_reducible rfl)
  try simp only [Act.put, List.setIfInBounds_toArray, List.set_cons_zero, List.set_cons_succ]
  refine takeH 14 (some 78) (v := ?_) (by rfl) (by rfl) (by kernel_rfl) (by kernel_rfl) (by kernel_rfl) (fun _ _ _ h => h) ?_ (by assumption) ?_
  rotate_left
  · (intro o ho w hSw; obtain ⟨z0, z1, z2, z3, z4, z5⟩ := hSw; cases ho; go_simp; try with_reducible rfl)
  try simp only [Act.put, List.setIfInBounds_toArray, List.set_cons_zero, List.set_cons_succ]
  refine takeH 15 (some 79) (v := ?_) (by rfl) (by rfl) (by kernel_rfl) (by kernel_rfl) (by kernel_rfl) (fun _ _ _ h => h) ?_ (by assumption) ?_
  rotate_left
  · (intro o ho w hSw; obtain ⟨z0, z1, z2, z3, z4, z5⟩ := hSw; cases ho; go_simp; try with_reducible rfl)
  try simp only [Act.put, List.setIfInBounds_toArray, List.set_cons_zero, List.set_cons_succ]
  refine wpAnyH_ready (rs := [2]) (by kernel_rfl) (by simp) ?_
  refine AllReadyH.cons rfl (fun K hK => ?_) AllReadyH.nil
  go_simp
  go_at_call 20
  (refine (cert_any v (some ⟨gm, 0, none⟩) 1 1 NL _ (Lib.hid (HML.out.all hS20)) (by omega)).mono ?_)
  rintro e w21 ⟨Ac21, cc21, rfl, hoc21, hbc21⟩
  rw [HNLm.out] at hoc21 ⊢
  have HC21 : Hid (Nds w21 (Ac21, 1, cc21) NL) := Lib.hid ⟨Rows.of_own Nd.cells_length hoc21 (by decide), fun b hb => (HML.out.ok b hb).all (bt hS20 hbc21)⟩
  clear hoc21
  have hS21 := bt hS20 hbc21
  clear hbc21
  go_wp2
  refine hK.out _ _ ?_ (fun hh2 => ?_)
  · exact ⟨(HK0.out.all hS21).cell 0, (HK0.out.all hS21).cell 1, (HK1.out.all hS21).cell 0, (HK1.out.all hS21).cell 1, (HK2.out.all hS21).cell 0, (HK2.out.all hS21).cell 1⟩
  clear hK K
  try simp only [Act.put, List.setIfInBounds_toArray, List.set_cons_zero, List.set_cons_succ]
  refine wpAnyH_ready (rs := [4]) (by kernel_rfl) (by simp) ?_
  refine AllReadyH.cons rfl (fun K hK => ?_) AllReadyH.nil
  go_simp
  go_at_call 20
  (refine (cert_any v Af mf cf Nf _ (Lib.hid (HMF.out.all hS21)) (by omega)).mono ?_)
  rintro e w22 ⟨Ac22, cc22, rfl, hoc22, hbc22⟩
  rw [HNfm.out] at hoc22 ⊢
  have HC22 : Hid (Nds w22 (Ac22, mf, cc22) Nf) := Lib.hid ⟨Rows.of_own Nd.cells_length hoc22 (by decide), fun b hb => (HMF.out.ok b hb).all (bt hS21 hbc22)⟩
  clear hoc22
  have HC21 := Lib.hid (HC21.out.all hbc22)
  have hS22 := bt hS21 hbc22
  clear hbc22
  go_wp2
  refine hK.out _ _ ?_ (fun hh4 => ?_)
  · exact ⟨(HK0.out.all hS22).cell 0, (HK0.out.all hS22).cell 1, (HK1.out.all hS22).cell 0, (HK1.out.all hS22).cell 1, (HK2.out.all hS22).cell 0, (HK2.out.all hS22).cell 1⟩
  clear hK K
  try simp only [Act.put, List.setIfInBounds_toArray, List.set_cons_zero, List.set_cons_succ]
  refine wpAnyH_ready (rs := [9]) (by kernel_rfl) (by simp) ?_
  refine AllReadyH.cons rfl (fun K hK => ?_) AllReadyH.nil
  go_simp
  go_at_call 16
  (refine (spoilt29_any v Af mf cf Nf a4 a5 a6 _ (Lib.hid (HNF.out.all hS22)) (by omega) HNS p40 p41 p50 p51).mono ?_)
  rintro e w23 ⟨v23, A23, m23, c23, N23, rfl, hm23, hN23, hb23, hal23, -⟩
  have hS23 := bt hS22 hb23
  have HN23 := Lib.hid hN23
  have HAL23 := Lib.hid hal23
  have hT23 := hb23
  clear hb23 hN23 hal23
  have HN23m := Lib.hid HN23.out.nds.rows.len
  dsimp only at HN23m
  have HN23n := Lib.hid HN23.out.nds
  have HC21 := Lib.hid (HC21.out.all hT23)
  have HC22 := Lib.hid (HC22.out.all hT23)
  clear hT23
  go_wp2
  refine hK.out _ _ ?_ (fun hh9 => ?_)
  · exact ⟨(HK0.out.all hS23).cell 0, (HK0.out.all hS23).cell 1, (HK1.out.all hS23).cell 0, (HK1.out.all hS23).cell 1, (HK2.out.all hS23).cell 0, (HK2.out.all hS23).cell 1⟩
  clear hK K
  try simp only [Act.put, List.setIfInBounds_toArray, List.set_cons_zero, List.set_cons_succ]
  refine wpAnyH_ready (rs := [10]) (by kernel_rfl) (by simp) ?_
  refine AllReadyH.cons rfl (fun K hK => ?_) AllReadyH.nil
  go_simp
  go_at_call 20
  (refine (cert_any v23 A23 m23 c23 N23 _ (Lib.hid (HN23n.out.all (Below.refl _ _))) (by omega)).mono ?_)
  rintro e w24 ⟨Ac24, cc24, rfl, hoc24, hbc24⟩
  rw [HN23m.out] at hoc24 ⊢
  have HC24 : Hid (Nds w24 (Ac24, m23, cc24) N23) := Lib.hid ⟨Rows.of_own Nd.cells_length hoc24 (by decide), fun b hb => (HN23n.out.ok b hb).all (bt (Below.refl _ _) hbc24)⟩
  clear hoc24
  have HC21 := Lib.hid (HC21.out.all hbc24)
  have HC22 := Lib.hid (HC22.out.all hbc24)
  have hS24 := bt hS23 hbc24
  clear hbc24
  go_wp2
  refine hK.out _ _ ?_ (fun hh10 => ?_)
  · exact ⟨(HK0.out.all hS24).cell 0, (HK0.out.all hS24).cell 1, (HK1.out.all hS24).cell 0, (HK1.out.all hS24).cell 1, (HK2.out.all hS24).cell 0, (HK2.out.all hS24).cell 1⟩
  clear hK K
  try simp only [Act.put, List.setIfInBounds_toArray, List.set_cons_zero, List.set_cons_succ]
  refine wpAnyH_ready (rs := [12]) (by kernel_rfl) (by simp) ?_
  refine AllReadyH.cons rfl (fun K hK => ?_) AllReadyH.nil
  go_simp
  go_at_call 29
  (refine (taken_any v Ap np cp Np _ (Lib.hid (HMP.out.all hS24)) (by omega)).mono ?_)
  rintro e w25 ⟨At, ct, rfl, hot, hb25⟩
  have hS25 := bt hS24 hb25
  rw [HNP.out] at hot ⊢
  have HNT : Hid (NdsT w25 (At, np, ct) Np) := Lib.hid ⟨Rows.of_own Nd.cells_length hot (by decide), fun h0 => own_tyE hot h0, fun b hb => (HP.out.ok b hb).all hS25⟩
  have HC21 := Lib.hid (HC21.out.all hb25)
  have HC22 := Lib.hid (HC22.out.all hb25)
  have HC24 := Lib.hid (HC24.out.all hb25)
  clear hot hb25
  go_wp2
  refine hK.out _ _ ?_ (fun hh12 => ?_)
  · exact ⟨(HK0.out.all hS25).cell 0, (HK0.out.all hS25).cell 1, (HK1.out.all hS25).cell 0, (HK1.out.all hS25).cell 1, (HK2.out.all hS25).cell 0, (HK2.out.all hS25).cell 1⟩
  clear hK K
  try simp only [Act.put, List.setIfInBounds_toArray, List.set_cons_zero, List.set_cons_succ]
  refine wpAnyH_ready (rs := [16]) (by kernel_rfl) (by simp) ?_
  refine AllReadyH.cons rfl (fun K hK => ?_) AllReadyH.nil
  go_simp
  go_at_call 16
  (refine (spoilt29_any v At np ct Np a4 a5 a6 _ (Lib.hid (HNT.out.all (Below.refl _ _))) (by omega) HNPS p40 p41 p50 p51).mono ?_)
  rintro e w26 ⟨v26, A26, m26, c26, N26, rfl, hm26, hN26, hb26, hal26, -⟩
  have hS26 := bt hS25 hb26
  have HN26 := Lib.hid hN26
  have HAL26 := Lib.hid hal26
  have hT26 := hb26
  clear hb26 hN26 hal26
  have HN26m := Lib.hid HN26.out.nds.rows.len
  dsimp only at HN26m
  have HN26n := Lib.hid HN26.out.nds
  have HC21 := Lib.hid (HC21.out.all hT26)
  have HC22 := Lib.hid (HC22.out.all hT26)
  have HC24 := Lib.hid (HC24.out.all hT26)
  clear hT26
  go_wp2
  refine hK.out _ _ ?_ (fun hh16 => ?_)
  · exact ⟨(HK0.out.all hS26).cell 0, (HK0.out.all hS26).cell 1, (HK1.out.all hS26).cell 0, (HK1.out.all hS26).cell 1, (HK2.out.all hS26).cell 0, (HK2.out.all hS26).cell 1⟩
  clear hK K
  try simp only [Act.put, List.setIfInBounds_toArray, List.set_cons_zero, List.set_cons_succ]
  refine wpAnyH_ready (rs := [17]) (by kernel_rfl) (by simp) ?_
  refine AllReadyH.cons rfl (fun K hK => ?_) AllReadyH.nil
  go_simp
  go_at_call 20
  (refine (cert_any v26 A26 m26 c26 N26 _ (Lib.hid (HN26n.out.all (Below.refl _ _))) (by omega)).mono ?_)
  rintro e w27 ⟨Ac27, cc27, rfl, hoc27, hbc27⟩
  rw [HN26m.out] at hoc27 ⊢
  have HC27 : Hid (Nds w27 (Ac27, m26, cc27) N26) := Lib.hid ⟨Rows.of_own Nd.cells_length hoc27 (by decide), fun b hb => (HN26n.out.ok b hb).all (bt (Below.refl _ _) hbc27)⟩
  clear hoc27
  have HC21 := Lib.hid (HC21.out.all hbc27)
  have HC22 := Lib.hid (HC22.out.all hbc27)
  have HC24 := Lib.hid (HC24.out.all hbc27)
  have hS27 := bt hS26 hbc27
  clear hbc27
  go_wp2
  refine hK.out _ _ ?_ (fun hh17 => ?_)
  · exact ⟨(HK0.out.all hS27).cell 0, (HK0.out.all hS27).cell 1, (HK1.out.all hS27).cell 0, (HK1.out.all hS27).cell 1, (HK2.out.all hS27).cell 0, (HK2.out.all hS27).cell 1⟩
  clear hK K
  try simp only [Act.put, List.setIfInBounds_toArray, List.set_cons_zero, List.set_cons_succ]
  refine wpAnyH_ready (rs := [18]) (by kernel_rfl) (by simp) ?_
  refine AllReadyH.cons rfl (fun K hK => ?_) AllReadyH.nil
  go_wp2
  refine hK.out _ _ ?_ (fun hh18 => ?_)
  · exact ⟨(HK0.out.all (bt hS27 ((Below.refl _ _).alloc (Nat.le_refl _) (.cells #[.int .i64 v, .slice Ap np cp, .int .i64 v, .slice Ac21 1 cc21, .int .i64 v, .slice Ac22 mf cc22, .int .i64 v23, .slice Ac24 m23 cc24, .int .i64 v26, .slice Ac27 m26 cc27] 44)))).cell 0, (HK0.out.all (bt hS27 ((Below.refl _ _).alloc (Nat.le_refl _) (.cells #[.int .i64 v, .slice Ap np cp, .int .i64 v, .slice Ac21 1 cc21, .int .i64 v, .slice Ac22 mf cc22, .int .i64 v23, .slice Ac24 m23 cc24, .int .i64 v26, .slice Ac27 m26 cc27] 44)))).cell 1, (HK1.out.all (bt hS27 ((Below.refl _ _).alloc (Nat.le_refl _) (.cells #[.int .i64 v, .slice Ap np cp, .int .i64 v, .slice Ac21 1 cc21, .int .i64 v, .slice Ac22 mf cc22, .int .i64 v23, .slice Ac24 m23 cc24, .int .i64 v26, .slice Ac27 m26 cc27] 44)))).cell 0, (HK1.out.all (bt hS27 ((Below.refl _ _).alloc (Nat.le_refl _) (.cells #[.int .i64 v, .slice Ap np cp, .int .i64 v, .slice Ac21 1 cc21, .int .i64 v, .slice Ac22 mf cc22, .int .i64 v23, .slice Ac24 m23 cc24, .int .i64 v26, .slice Ac27 m26 cc27] 44)))).cell 1, (HK2.out.all (bt hS27 ((Below.refl _ _).alloc (Nat.le_refl _) (.cells #[.int .i64 v, .slice Ap np cp, .int .i64 v, .slice Ac21 1 cc21, .int .i64 v, .slice Ac22 mf cc22, .int .i64 v23, .slice Ac24 m23 cc24, .int .i64 v26, .slice Ac27 m26 cc27] 44)))).cell 0, (HK2.out.all (bt hS27 ((Below.refl _ _).alloc (Nat.le_refl _) (.cells #[.int .i64 v, .slice Ap np cp, .int .i64 v, .slice Ac21 1 cc21, .int .i64 v, .slice Ac22 mf cc22, .int .i64 v23, .slice Ac24 m23 cc24, .int .i64 v26, .slice Ac27 m26 cc27] 44)))).cell 1⟩
  clear hK K
  try simp only [Act.put, List.setIfInBounds_toArray]
  refine takeH 19 (some 24) (v := ?_) (by rfl) (by rfl) (by kernel_rfl) (by kernel_rfl) (by kernel_rfl) (fun _ _ _ h => h) ?_ (by assumption) ?_
  rotate_left
  · (intro o ho w hSw; obtain ⟨z0, z1, z2, z3, z4, z5⟩ := hSw; cases ho; go_simp; try with_reducible rfl)
  (try simp only [Act.put]); (try simp only [List.setIfInBounds_toArray]); (try simp only [List.set_cons_succ]); (try simp only [List.set_cons_zero])
  refine wpAnyH_done (by kernel_rfl) ?_ _
--@2
  have hbb : Below w27.heap.size w27 (w27.alloc (.cells #[.int .i64 v, .slice Ap np cp, .int .i64 v, .slice Ac21 1 cc21, .int .i64 v, .slice Ac22 mf cc22, .int .i64 v23, .slice Ac24 m23 cc24, .int .i64 v26, .slice Ac27 m26 cc27] 44)) := (Below.refl _ _).alloc (Nat.le_refl _) _
  obtain ⟨ga, hga⟩ : ∃ g, w27.heap.size = g := ⟨_, rfl⟩
  have HCG : Hid (Cgs (w27.alloc (.cells #[.int .i64 v, .slice Ap np cp, .int .i64 v, .slice Ac21 1 cc21, .int .i64 v, .slice Ac22 mf cc22, .int .i64 v23, .slice Ac24 m23 cc24, .int .i64 v26, .slice Ac27 m26 cc27] 44)) ga 5 [⟨v, (Ap, np, cp), Np⟩, ⟨v, (Ac21, 1, cc21), NL⟩, ⟨v, (Ac22, mf, cc22), Nf⟩, ⟨v23, (Ac24, m23, cc24), N23⟩, ⟨v26, (Ac27, m26, cc27), N26⟩]) := Lib.hid ⟨Rows.of_blk (by rw [← hga]; exact Blk.new _ 44 #[.int .i64 v, .slice Ap np cp, .int .i64 v, .slice Ac21 1 cc21, .int .i64 v, .slice Ac22 mf cc22, .int .i64 v23, .slice Ac24 m23 cc24, .int .i64 v26, .slice Ac27 m26 cc27]) Cg.cells_length rfl rfl (by decide), fun x hx => by
    simp only [List.mem_cons, List.not_mem_nil, or_false] at hx
    rcases hx with rfl | rfl | rfl | rfl | rfl
    · exact HMP.out.all (bt hS27 hbb)
    · exact HC21.out.all hbb
    · exact HC22.out.all hbb
    · exact HC24.out.all hbb
    · exact HC27.out.all hbb⟩
  have HBb := Lib.hid (bt HB.out (bt hS27 hbb))
  have HGb := Lib.hid (HG.out.all (bt hS27 hbb))
  have HWb := Lib.hid (NIn.all HW.out (bt hS27 hbb))
  have hgb : ga < (w27.alloc (.cells #[.int .i64 v, .slice Ap np cp, .int .i64 v, .slice Ac21 1 cc21, .int .i64 v, .slice Ac22 mf cc22, .int .i64 v23, .slice Ac24 m23 cc24, .int .i64 v26, .slice Ac27 m26 cc27] 44)).heap.size := by rw [World.size_alloc, hga]; exact Nat.lt_succ_self _
  obtain ⟨wb, hwb⟩ : ∃ wb, w27.alloc (.cells #[.int .i64 v, .slice Ap np cp, .int .i64 v, .slice Ac21 1 cc21, .int .i64 v, .slice Ac22 mf cc22, .int .i64 v23, .slice Ac24 m23 cc24, .int .i64 v26, .slice Ac27 m26 cc27] 44) = wb := ⟨_, rfl⟩
  rw [hwb] at HCG HBb HGb HWb hgb ⊢
  try rw [hga]
  obtain ⟨CL, hCL⟩ : ∃ CL, [(⟨v, (Ap, np, cp), Np⟩ : Cg), ⟨v, (Ac21, 1, cc21), NL⟩, ⟨v, (Ac22, mf, cc22), Nf⟩, ⟨v23, (Ac24, m23, cc24), N23⟩, ⟨v26, (Ac27, m26, cc27), N26⟩] = CL := ⟨_, rfl⟩
  rw [hCL] at HCG
  clear hCL hwb hbb hga hS20 hS21 hS22 hS23 hS24 hS25 hS26 hS27 hh2 hh4 hh9 hh10 hh12 hh16 hh17 hh18 hHeld HNF HMF HP HMP HML HG HW HK0 HK1 HK2 HB HC21 HC22 HC24 HC27 HNT HN23 HN26
  go_wp2_with fail
  refine (cbest_any k Ag m cg La wb HGb HVA).mono ?_
  rintro e wc ⟨Ax, nx, cx, rfl, -, hbc⟩
  obtain ⟨vb2, hvb2⟩ : ∃ x, (bestS La).2 = x := ⟨_, rfl⟩
  have HVB := Lib.hid hvb2
  rw [hvb2]
  have HCc := Lib.hid (HCG.out.all hbc)
  have HGc := Lib.hid (HGb.out.all hbc)
  have HWc := Lib.hid (NIn.all HWb.out hbc)
  have HBc := Lib.hid (bt HBb.out hbc)
  have hgc := Nat.lt_of_lt_of_le hgb hbc.size
  clear hvb2 hbc HCG HGb HWb HBb hgb
  go_wp2
--@3
  go_loopw [28] (fun iv wr => ∃ i : Nat, i ≤ 5 ∧ iv = .int .i64 (i : Int) ∧ Hid (Below wc.heap.size wc wr)) (fun iv _ => 5 - (intOf iv).toNat)
  case atStart => exact ⟨0, by omega, rfl, Lib.hid (Below.refl _ _)⟩
  case round =>
    obtain ⟨i, hi, rfl, HBr⟩ := hrel
    by_cases hi5 : i < 5
    rotate_left
    · obtain rfl : i = 5 := by omega
      go_wp2_with fail
      refine (lives_any _).mono ?_
      rintro e wz ⟨rfl, hbz⟩
      go_wp2
      go_ret
      exact ⟨rfl, bt (bt HBc.out HBr.out) hbz⟩
    have HCr := Lib.hid (HCc.out.all HBr.out)
    have HGr := Lib.hid (HGc.out.all HBr.out)
    have HWr := Lib.hid (NIn.all HWc.out HBr.out)
    obtain ⟨vi, Ai, ni, ci, Ni, hv1, hv2, hni⟩ := HCr.out.get hi5
    have hii : (i : Int) < 5 := by omega
    have hchk := check_any (k : Int) Ag m cg Aw nw cw vi Ai ni ci La win Ni wr HGr HWr (Lib.hid hni) (by omega)
    obtain ⟨ck, hck⟩ : ∃ c, checkE (k : Int) La win vi Ni = c := ⟨_, rfl⟩
    rw [hck] at hchk
    have HCHK := Lib.hid hchk
    have HCKE := Lib.hid hck
    clear hchk hni HCr hck
    by_cases hc0 : ck = 0
    rotate_left
    · have hcb : (ck != 0) = true := by simpa using hc0
      go_wp2_with (go_at_call 18; refine HCHK.out.mono ?_; clear HCHK; rintro e w30 ⟨rfl, hb30⟩)
      exact ⟨⟨i + 1, by omega, by go_num, Lib.hid (bt HBr.out hb30)⟩, by simp [intOf]; omega⟩
    subst hc0
    have hbp : ∀ b ∈ La, 0 ≤ b.price ∧ b.price ≤ 1099511627776 := fun b hb => ⟨(HOK.out b hb).1, (HOK.out b hb).2.1⟩
    have HSND : Hid (∀ C, feasB La C = true → valueB La C ≤ v) := Lib.hid (fun C hC => by
      obtain ⟨h1, h2, -⟩ := check_sound HGr.out HCKE.out hC
      rw [h2, HV.out] at h1
      exact h1)
    have hveq : v = vb2 := by
      have h1 := best_max hbp HWF.out
      have h2 := HSND.out _ (best_feas La).1
      rw [(best_feas La).2] at h2
      rw [HV.out] at h1
      rw [← HVB.out]
      omega
    have hvv : (v != vb2) = false := by rw [hveq]; simp
    clear hveq hbp HCKE
--@4
    go_wp2_with (go_at_call 18; refine HCHK.out.mono ?_; clear HCHK; rintro e w30 ⟨rfl, hb30⟩)
    have HB30 := Lib.hid (bt HBr.out hb30)
    have HG30 := Lib.hid (HGr.out.all hb30)
    clear hb30 HGr HWr HBr hv1 hv2
    go_loopw [29] (fun jv w2 => ∃ j : Nat, j ≤ 64 ∧ jv = .int .i64 (j : Int) ∧ Hid (Below w30.heap.size w30 w2)) (fun jv _ => 64 - (intOf jv).toNat)
    case atStart => exact ⟨0, by omega, rfl, Lib.hid (Below.refl _ _)⟩
    case round =>
      obtain ⟨j, hj, rfl, HB2r⟩ := hrel
      by_cases hj64 : j < 64
      rotate_left
      · obtain rfl : j = 64 := by omega
        go_wp2
        exact ⟨⟨i + 1, by omega, by go_num, Lib.hid (bt HB30.out HB2r.out)⟩, by simp [intOf]; omega⟩
      have hjj : (j : Int) < 64 := by omega
      have HG31 := Lib.hid (HG30.out.all HB2r.out)
      go_wp2_with fail
      refine (choice_any (j : Int) m _ (by omega) (by omega) (by omega)).mono ?_
      rintro e w32 ⟨Ac, kc, cc, C, rfl, hoC, hlC, hkC, -, hb32⟩
      have HG32 := Lib.hid (HG31.out.all hb32)
      have HC32 : Hid (NIn w32 w32.heap.size (Ac, kc, cc) C) := Lib.hid hoC.nin
      have HB32 := Lib.hid (bt HB2r.out hb32)
      have hfe := feasible_any (Ag, m, cg) (Ac, kc, cc) La C w32 HG32 HC32 (by dsimp only; omega) HLS
      unfold slV at hfe
      dsimp only at hfe
      clear hoC hlC hb32 HG31 HB2r
      cases hf : feasB La C with
      | false =>
        rw [hf] at hfe
        have HFE := Lib.hid hfe
        clear hfe hf
        go_wp2_with (go_at_call 33; refine HFE.out.mono ?_; clear HFE; rintro e w33 ⟨rfl, hb33⟩)
        exact ⟨⟨j + 1, by omega, by go_num, Lib.hid (bt HB32.out hb33)⟩, by simp [intOf]; omega⟩
      | true =>
        rw [hf] at hfe
        have HFE := Lib.hid hfe
        have hle := HSND.out C hf
        clear hfe hf
        go_wp2_with (go_at_call 33; refine HFE.out.mono ?_; clear HFE; rintro e w33 ⟨rfl, hb33⟩)
        have hva := value_any (Ag, m, cg) (Ac, kc, cc) La C w33 (Lib.hid (HG32.out.all hb33)) (Lib.hid (NIn.all HC32.out hb33)) (Lib.hid HOK.out.prices) (by dsimp only; omega)
        unfold slV at hva
        dsimp only at hva
        obtain ⟨vc, hvc⟩ : ∃ x, valueB La C = x := ⟨_, rfl⟩
        rw [hvc] at hva hle
        have HVA2 := Lib.hid hva
        clear hva hvc
        refine HVA2.out.mono ?_
        clear HVA2
        rintro e w34 ⟨rfl, rfl⟩
        go_wp2
        exact ⟨⟨j + 1, by omega, by go_num, Lib.hid (bt HB32.out hb33)⟩, by simp [intOf]; omega⟩


set_option maxRecDepth 100000 in
theorem ProofSound_lifted (os : Os) (started : os.Started) (H : Type) (enc : TypeId × Value → H) :
    ReturnsInHanded {} Try.checked os 7 .any (Rows.proofSoundSpec.pre6 enc Try.prog Try.f7 Rows.proofSoundRow.domain false) (Rows.proofSoundSpec.post enc Try.prog Try.f7 false true false false) := by
  refine returnsInHanded_of_change (C := Try.checked) Try.own started (by kernel_rfl) Try.func7
    (ChangeSpec.witness6 (enc := enc) (C := Try.checked) false ⟨#[], #[.int .i64 0, .slice none 0 0, .slice none 0 0, .int .i64 0, .int .i64 0, .int .i64 0, .int .i64 0], []⟩ 8 (by kernel_rfl) (by kernel_rfl) (by kernel_rfl) (by kernel_rfl)) ?_
  intro W base args ds gs before hval0 hW _ _
  have hval : ∀ (j : Nat) t v, Try.f7.params[j]? = some t → args[j]? = some v → Value.okWide Try.prog W .any base t v := hval0
  have hW' := hW
  obtain ⟨p, q, hT0, hV, rfl, hfz, hnd⟩ := hW
  have hT : DataW.TrodAll enc Try.prog W 0 (fun _ => true) true Try.f7.params.toList args.toList ds p := hT0
  rw [Try.params7] at hT hval
  obtain ⟨v0, vs0, d0, ds0, p0, q0, hargs0, rfl, rfl, h0, r0⟩ := trodAll_cons hT
  obtain ⟨v1, vs1, d1, ds1, p1, q1, hargs1, rfl, rfl, h1, r1⟩ := trodAll_cons r0
  obtain ⟨v2, vs2, d2, ds2, p2, q2, hargs2, rfl, rfl, h2, r2⟩ := trodAll_cons r1
  obtain ⟨v3, vs3, d3, ds3, p3, q3, hargs3, rfl, rfl, h3, r3⟩ := trodAll_cons r2
  obtain ⟨v4, vs4, d4, ds4, p4, q4, hargs4, rfl, rfl, h4, r4⟩ := trodAll_cons r3
  obtain ⟨v5, vs5, d5, ds5, p5, q5, hargs5, rfl, rfl, h5, r5⟩ := trodAll_cons r4
  obtain ⟨v6, vs6, d6, ds6, p6, q6, hargs6, rfl, rfl, h6, r6⟩ := trodAll_cons r5
  obtain ⟨rfl, rfl, rfl⟩ := trodAll_nil r6
  obtain rfl : args = #[v0, v1, v2, v3, v4, v5, v6] := by cases args; simp_all
  obtain ⟨a0, rfl, -, -, w0⟩ := open_int Try.underlying3 (hval 0 3 v0 rfl rfl) h0
  obtain ⟨A1, n1, c1, f1, rfl, hA1, hn1, hc1, hR1, hw1⟩ := open_sl Try.underlying22 Try.underlying3 (by kernel_rfl) (hval 1 22 v1 rfl rfl) h1
  obtain ⟨A2, n2, c2, f2, rfl, hA2, hn2, hc2, hR2, hw2⟩ := open_sl Try.underlying22 Try.underlying3 (by kernel_rfl) (hval 2 22 v2 rfl rfl) h2
  obtain ⟨a3, rfl, -, -, w3⟩ := open_int Try.underlying3 (hval 3 3 v3 rfl rfl) h3
  obtain ⟨a4, rfl, -, -, w4⟩ := open_int Try.underlying3 (hval 4 3 v4 rfl rfl) h4
  obtain ⟨a5, rfl, -, -, w5⟩ := open_int Try.underlying3 (hval 5 3 v5 rfl rfl) h5
  obtain ⟨a6, rfl, -, -, w6⟩ := open_int Try.underlying3 (hval 6 3 v6 rfl rfl) h6
  refine (ProofSound_walk W a0 w0 A1 n1 c1 f1 hA1 hn1 hc1 hR1 hw1 A2 n2 c2 f2 hA2 hn2 hc2 hR2 hw2 a3 w3 a4 w4 a5 w5 a6 w6).mono fun e W' ⟨he, hb⟩ => ?_
  subst he
  exact ⟨_, rfl, law_post Try.laidOut (by kernel_rfl) (by kernel_rfl) Try.underlying4 rfl hW' rfl hb⟩

theorem ProofSound_holds : Rows.ProofSoundSaid :=
  OpenClaim.holds_of_wide 7 Try.f7 rfl rfl rfl rfl rfl rfl rfl ⟨rfl, rfl, rfl, rfl, rfl⟩ rfl rfl rfl rfl rfl (by kernel_rfl) Try.func7 (by kernel_rfl)
    (of_decide_eq_true (by kernel_rfl)) (by unfold Func.isWrapper; first | (rw [if_pos (by decide +kernel)]; kernel_rfl) | (rw [if_neg (by decide +kernel)]; exact ⟨rfl, rfl⟩))
    (fun os started H enc _ => ProofSound_lifted os started H enc)

end Go.Proofs.Ytikfcpkobgejmaa
