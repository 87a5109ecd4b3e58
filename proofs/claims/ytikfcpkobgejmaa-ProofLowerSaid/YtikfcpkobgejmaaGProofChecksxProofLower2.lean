/- For every list of numbers worldmintlaw29.ProofLower returns true: the certificate stays with a lower price of a bid that does not win, and not with a great one. No condition. -/
import Derived.Test.YtikfcpkobgejmaaGProofChecksxProofLower1

/- proof: Make. -/
namespace Go.Proofs.Ytikfcpkobgejmaa
open Go.RowKit

theorem mk_any (w0 : World) (n : Nat) (A : Option Addr) (m c : Nat) (v : Int) (L : List Bd) (gp gn gl gv gb : Nat) (HL : Hid (Bds w0 (A, m, c) L)) (hm : m ≤ 10) (hn : n ≤ 8) (HBO : Hid (BidsOk n L)) (HBV : Hid ((bestS L).2 = v)) : ∀ d, MkSpec w0 n A m c v L gp gn gl gv gb d
  | 0 => mk_step w0 n A m c v L gp gn gl gv gb HL hm hn HBO HBV 0 (Lib.hid fun d' h => by omega)
  | d + 1 => mk_step w0 n A m c v L gp gn gl gv gb HL hm hn HBO HBV (d + 1) (Lib.hid fun d' h => by
      obtain rfl : d = d' := by omega
      exact mk_any w0 n A m c v L gp gn gl gv gb HL hm hn HBO HBV d)
def MakePost (n : Nat) (L : List Bd) (w : World) (e : Ending) (w' : World) : Prop :=
  ∃ A' k c' N, e = .returned (.tuple #[.agg #[.int .i64 (bestS L).2, .slice A' k c'], .int .i64 0]) ∧ NdsW w' w.heap.size A' k c' N ∧ Built n L (bestS L).2 N 11 0 (List.replicate L.length 0) k ∧ Below w.heap.size w w'
theorem Built.le {n : Nat} {L : List Bd} {v : Int} {N : List Nd} {f i j : Nat} {D : List Int} (h : Built n L v N f i D j) : ∀ g, f ≤ g → Built n L v N g i D j := fun g hg => by
  obtain ⟨k, rfl⟩ := Nat.exists_eq_add_of_le hg
  clear hg
  induction k with
  | zero => exact h
  | succ k ih => exact ih.more
theorem make_bad (n : Int) (A : Option Addr) (m c : Nat) (L : List Bd) (w : World) (HL : Hid (Bds w (A, m, c) L)) (HV : Hid (validE n L ≠ 0)) :
    Calls Try.prog 28 #[.int .i64 n, .slice A m c] w fun e w' => e = .returned (.tuple #[.agg #[.int .i64 0, .slice none 0 0], .int .i64 (validE n L)]) ∧ Below w.heap.size w w' := by
  obtain ⟨r, hr⟩ : ∃ r, validE n L = r := ⟨_, rfl⟩
  have hne : (r != 0) = true := by rw [← hr]; simpa using HV.out
  have HRR := Lib.hid hr
  rw [hr]
  clear hr
  go_enter Try.func28, Try.ntmps28
  go_wp2_with fail
  obtain ⟨w1, hw1⟩ : ∃ x, ((w.alloc (.cells #[.int .i64 n] 3)).alloc (.cells #[.slice A m c] 40)).alloc (.cells #[.int .i64 0, .slice none 0 0] 44) = x := ⟨_, rfl⟩
  have hb1 : Below w.heap.size w w1 := by rw [← hw1]; exact (((Below.refl w.heap.size w).alloc (Nat.le_refl _) _).alloc (by simp) _).alloc (by simp; omega) _
  have hk1 : Blk w1 (w.heap.size + 2) 44 #[.int .i64 0, .slice none 0 0] := by
    rw [← hw1]
    have := Blk.new ((w.alloc (.cells #[.int .i64 n] 3)).alloc (.cells #[.slice A m c] 40)) 44 #[.int .i64 0, .slice none 0 0]
    rw [World.size_alloc, World.size_alloc] at this
    exact this
  rw [hw1]
  obtain ⟨gr, hgr⟩ : ∃ g, w.heap.size + 2 = g := ⟨_, rfl⟩
  rw [hgr] at hk1
  try rw [show w.heap.size + 1 + 1 = gr from hgr]
  have hgw : w.heap.size ≤ gr := by omega
  have HB1 := Lib.hid hb1
  have HK1 := Lib.hid hk1
  clear hb1 hk1 hw1 hgr
  have hcb := cbest_bad n A m c L w1 (Lib.hid (HL.out.all HB1.out)) HV
  rw [HRR.out] at hcb
  refine hcb.mono ?_
  clear hcb
  rintro e w2 ⟨rfl, hb2⟩
  have HK2 := Lib.hid (HK1.out.all hb2)
  have HB2 := Lib.hid (bt HB1.out hb2)
  have hb3 : Below w2.heap.size w2 (w2.alloc (.cells #[.int .i64 0] 3)) := (Below.refl _ _).alloc (Nat.le_refl _) _
  have HK3 := Lib.hid (HK2.out.all hb3)
  have HB3 := Lib.hid (bt HB2.out hb3)
  have q0 := HK3.out.cell 0
  have q1 := HK3.out.cell 1
  have f0 := HK3.out.frozen 0
  have f1 := HK3.out.frozen 1
  simp at q0 q1
  clear hb2 hb3
--@1
  go_wp2
  have HKE := Lib.hid ((HK3.out.set_ 0 (.int .i64 0)).set_ 1 (.slice none 0 0))
  have u0 := HKE.out.cell 0
  have u1 := HKE.out.cell 1
  simp at u0 u1
  have hbe : Below w.heap.size w (((w2.alloc (.cells #[.int .i64 0] 3)).setCell ⟨gr, 0, none⟩ (.int .i64 0)).setCell ⟨gr, 1, none⟩ (.slice none 0 0)) := (HB3.out.setCell (p := ⟨gr, 0, none⟩) hgw _).setCell (p := ⟨gr, 1, none⟩) hgw _
  exact bodyPost_ret (v := .tuple #[.agg #[.int .i64 0, .slice none 0 0], .int .i64 r]) (by simp [results, Try.results28, go_sem, u0, u1]) rfl ⟨rfl, hbe⟩

set_option maxRecDepth 100000 in
set_option maxHeartbeats 4000000 in
theorem make_any (n : Nat) (A : Option Addr) (m c : Nat) (L : List Bd) (w : World) (HL : Hid (Bds w (A, m, c) L)) (HV : Hid (validE (n : Int) L = 0)) :
    Calls Try.prog 28 #[.int .i64 (n : Int), .slice A m c] w (MakePost n L w) := by
  obtain ⟨-, hn8, hm10, hbo⟩ := valid_ok HV.out HL.out
  have HLL := Lib.hid HL.out.rows.len
  dsimp only at HLL
  have hm : m ≤ 10 := by rw [← HLL.out]; exact hm10
  have hn : n ≤ 8 := by omega
  have HBO : Hid (BidsOk n L) := Lib.hid (by simpa using hbo)
  clear hn8 hm10 hbo
  go_enter Try.func28, Try.ntmps28
  go_wp2_with fail
  obtain ⟨w1, hw1⟩ : ∃ x, ((w.alloc (.cells #[.int .i64 (n : Int)] 3)).alloc (.cells #[.slice A m c] 40)).alloc (.cells #[.int .i64 0, .slice none 0 0] 44) = x := ⟨_, rfl⟩
  have hb1 : Below w.heap.size w w1 := by rw [← hw1]; exact (((Below.refl w.heap.size w).alloc (Nat.le_refl _) _).alloc (by simp) _).alloc (by simp; omega) _
  have hn1 : Blk w1 w.heap.size 3 #[.int .i64 (n : Int)] := by
    rw [← hw1]
    exact ((Blk.new w 3 #[.int .i64 (n : Int)]).alloc _).alloc _
  have hl1 : Blk w1 (w.heap.size + 1) 40 #[.slice A m c] := by
    rw [← hw1]
    have := (Blk.new (w.alloc (.cells #[.int .i64 (n : Int)] 3)) 40 #[.slice A m c]).alloc (.cells #[.int .i64 0, .slice none 0 0] 44)
    rw [World.size_alloc] at this
    exact this
  have hk1 : Blk w1 (w.heap.size + 2) 44 #[.int .i64 0, .slice none 0 0] := by
    rw [← hw1]
    have := Blk.new ((w.alloc (.cells #[.int .i64 (n : Int)] 3)).alloc (.cells #[.slice A m c] 40)) 44 #[.int .i64 0, .slice none 0 0]
    rw [World.size_alloc, World.size_alloc] at this
    exact this
  rw [hw1]
  obtain ⟨gn, hgn⟩ : ∃ g, w.heap.size = g := ⟨_, rfl⟩
  obtain ⟨gl, hgl⟩ : ∃ g, w.heap.size + 1 = g := ⟨_, rfl⟩
  obtain ⟨gr, hgr⟩ : ∃ g, w.heap.size + 2 = g := ⟨_, rfl⟩
  rw [hgn] at hn1
  rw [hgl] at hl1
  rw [hgr] at hk1
  try rw [show w.heap.size + 1 + 1 = gr from hgr]
  try rw [hgl]
  try rw [hgn]
  have HGW : Hid (w.heap.size ≤ gr ∧ w.heap.size ≤ gl ∧ w.heap.size ≤ gn) := Lib.hid (by omega)
  have HB1 := Lib.hid hb1
  have HK1 := Lib.hid hk1
  have HN1 := Lib.hid hn1
  have HL1 := Lib.hid hl1
  clear hb1 hk1 hn1 hl1 hw1 hgr hgl hgn
  refine (cbest_any n A m c L w1 (Lib.hid (HL.out.all HB1.out)) HV).mono ?_
  rintro e w2 ⟨A2, n2, c2, rfl, -, hb2⟩
  obtain ⟨v, hv⟩ : ∃ v, (bestS L).2 = v := ⟨_, rfl⟩
  have HBV := Lib.hid hv
  rw [hv]
  clear hv
  go_upto_region 6 with (fail)
  have hb5 : Below w2.heap.size w2 (((w2.alloc (.cells #[.int .i64 v] 3)).alloc (.cells #[.int .i64 v, .slice none 0 0] 44)).alloc (.cells #[.nilFunc] 97)) := (((Below.refl w2.heap.size w2).alloc (Nat.le_refl _) _).alloc (by simp) _).alloc (by simp; omega) _
  have hv5 : Blk (((w2.alloc (.cells #[.int .i64 v] 3)).alloc (.cells #[.int .i64 v, .slice none 0 0] 44)).alloc (.cells #[.nilFunc] 97)) w2.heap.size 3 #[.int .i64 v] := ((Blk.new w2 3 #[.int .i64 v]).alloc _).alloc _
  have hp5 : Blk (((w2.alloc (.cells #[.int .i64 v] 3)).alloc (.cells #[.int .i64 v, .slice none 0 0] 44)).alloc (.cells #[.nilFunc] 97)) (w2.heap.size + 1) 44 #[.int .i64 v, .slice none 0 0] := by
    have := (Blk.new (w2.alloc (.cells #[.int .i64 v] 3)) 44 #[.int .i64 v, .slice none 0 0]).alloc (.cells #[.nilFunc] 97)
    rw [World.size_alloc] at this
    exact this
  have hf5 : Blk (((w2.alloc (.cells #[.int .i64 v] 3)).alloc (.cells #[.int .i64 v, .slice none 0 0] 44)).alloc (.cells #[.nilFunc] 97)) (w2.heap.size + 2) 97 #[.nilFunc] := by
    have := Blk.new ((w2.alloc (.cells #[.int .i64 v] 3)).alloc (.cells #[.int .i64 v, .slice none 0 0] 44)) 97 #[.nilFunc]
    rw [World.size_alloc, World.size_alloc] at this
    exact this
  obtain ⟨w5, hw5⟩ : ∃ x, ((w2.alloc (.cells #[.int .i64 v] 3)).alloc (.cells #[.int .i64 v, .slice none 0 0] 44)).alloc (.cells #[.nilFunc] 97) = x := ⟨_, rfl⟩
  rw [hw5] at hb5 hv5 hp5 hf5 ⊢
  obtain ⟨gv, hgv⟩ : ∃ g, w2.heap.size = g := ⟨_, rfl⟩
  obtain ⟨gp, hgp⟩ : ∃ g, w2.heap.size + 1 = g := ⟨_, rfl⟩
  obtain ⟨gb, hgb⟩ : ∃ g, w2.heap.size + 2 = g := ⟨_, rfl⟩
  rw [hgv] at hv5
  rw [hgp] at hp5
  rw [hgb] at hf5
  try rw [show w2.heap.size + 1 + 1 = gb from hgb]
  try rw [hgp]
  try rw [hgv]
  have HGO : Hid (gv < gb ∧ gp < gb ∧ gn < gb ∧ gl < gb ∧ gr < gb ∧ gr < gp ∧ w.heap.size ≤ gp) := Lib.hid (by
    have h1 := (HN1.out.all hb2).lt
    have h2 := (HL1.out.all hb2).lt
    have h3 := (HK1.out.all hb2).lt
    have := HGW.out
    omega)
  have HN5 := Lib.hid ((HN1.out.all hb2).all hb5)
  have HL5 := Lib.hid ((HL1.out.all hb2).all hb5)
  have HK5 := Lib.hid ((HK1.out.all hb2).all hb5)
  have HB5 := Lib.hid (bt (bt HB1.out hb2) hb5)
  have HV5 := Lib.hid hv5
  have HP5 := Lib.hid hp5
  have HF5 := Lib.hid hf5
  have q1 := hf5.cell 0
  have q2 := hf5.frozen 0
  simp at q1
  clear hb2 hb5 hv5 hp5 hf5 hw5 hgv hgp hgb HN1 HL1 HK1 HB1
  go_upto_region 7 with (fail)
  have HMK : Hid (MK w n A m c v gp gn gl gv gb (none, 0, 0) [] (w5.setCell ⟨gb, 0, none⟩ (.func (.func 52) #[] #[.pointer (some ⟨gp, 0, none⟩), .pointer (some ⟨gn, 0, none⟩), .pointer (some ⟨gl, 0, none⟩), .pointer (some ⟨gv, 0, none⟩), .pointer (some ⟨gb, 0, none⟩)]))) := Lib.hid (by
    obtain ⟨h1, h2, h3, h4, h5, h6, h7⟩ := HGO.out
    have k : Mod (fun b => b = gb) w5 (w5.setCell ⟨gb, 0, none⟩ (.func (.func 52) #[] #[.pointer (some ⟨gp, 0, none⟩), .pointer (some ⟨gn, 0, none⟩), .pointer (some ⟨gl, 0, none⟩), .pointer (some ⟨gv, 0, none⟩), .pointer (some ⟨gb, 0, none⟩)])) := (Mod.refl (fun b => b = gb) w5).set (p := ⟨gb, 0, none⟩) (.inl rfl) _
    refine ⟨⟨k.blk HN5.out (by omega), k.blk HL5.out (by omega), k.blk HV5.out (by omega), ?_⟩, k.blk HP5.out (by omega), ⟨rfl, World.ownsRow_nil _ _ _ _, fun x hx => by simp at hx⟩, h7, Mod.below HB5.out k HB5.out.size (fun b hb => by rw [hb]; omega)⟩
    have := Blk.set_ HF5.out 0 (.func (.func 52) #[] #[.pointer (some ⟨gp, 0, none⟩), .pointer (some ⟨gn, 0, none⟩), .pointer (some ⟨gl, 0, none⟩), .pointer (some ⟨gv, 0, none⟩), .pointer (some ⟨gb, 0, none⟩)])
    exact this)
  have HK6 : Hid (Blk (w5.setCell ⟨gb, 0, none⟩ (.func (.func 52) #[] #[.pointer (some ⟨gp, 0, none⟩), .pointer (some ⟨gn, 0, none⟩), .pointer (some ⟨gl, 0, none⟩), .pointer (some ⟨gv, 0, none⟩), .pointer (some ⟨gb, 0, none⟩)])) gr 44 #[.int .i64 0, .slice none 0 0]) := Lib.hid (HK5.out.far (by have := HGO.out; simp; omega) _)
  obtain ⟨w6, hw6⟩ : ∃ x, w5.setCell ⟨gb, 0, none⟩ (.func (.func 52) #[] #[.pointer (some ⟨gp, 0, none⟩), .pointer (some ⟨gn, 0, none⟩), .pointer (some ⟨gl, 0, none⟩), .pointer (some ⟨gv, 0, none⟩), .pointer (some ⟨gb, 0, none⟩)]) = x := ⟨_, rfl⟩
  rw [hw6] at HMK HK6 ⊢
  clear hw6 q1 q2 HN5 HL5 HK5 HB5 HV5 HP5 HF5
  have hS5 : Below w6.heap.size w6 w6.drew := below_drewN (Below.refl _ _) 1
  obtain ⟨i0, hi0, hz0, hz1, hz2⟩ := info_parts int_info
  obtain ⟨w7, hmk, hown7, hb7, -⟩ := make_all (P := Try.prog) w6.drew 22 3 i0 _ 8 Try.underlying22 hi0 hz0 hz1 hz2 rfl .i64 .i64 m (by omega) (by unfold maxLen; omega)
  have hd7 : w6.drew.heap.size = w6.heap.size := rfl
  rw [hd7] at hmk hown7
  have HB6 : Hid (Below w6.heap.size w6 w7) := Lib.hid (bt hS5 hb7)
  have HMKE := Lib.hid hmk
  have hz : TI w7 (some ⟨w6.heap.size, 0, none⟩, m, m) (List.replicate m 0) := TI.own (B := w6.heap.size) (by unfold OwnI; rw [List.map_replicate]; exact hown7)
  have h2m : 2 ^ (m + 1) ≤ 2 ^ 11 := Nat.pow_le_pow_right (by decide) (by omega)
  have hcall := mk_any w n A m c v L gp gn gl gv gb HL hm hn HBO HBV m (none, 0, 0) [] (some ⟨w6.heap.size, 0, none⟩, m, m) (List.replicate m 0) w7 (Lib.hid (HMK.out.all HB6.out)) (Lib.hid hz) rfl (Lib.hid (by rw [← HLL.out]; exact Dec.start L)) (by rw [List.count_replicate]; simp) (by dsimp only; omega)
  unfold slV at hcall
  dsimp only at hcall
  have HCALL := Lib.hid hcall
  clear hi0 hz0 hz1 hz2 hmk hown7 hb7 hd7 hz h2m hcall
--@3
  refine wp_region_held_drew (S := (fun w' => w'.cell? ⟨gb, 0, none⟩ = some (.func (.func 52) #[] #[.pointer (some ⟨gp, 0, none⟩), .pointer (some ⟨gn, 0, none⟩), .pointer (some ⟨gl, 0, none⟩), .pointer (some ⟨gv, 0, none⟩), .pointer (some ⟨gb, 0, none⟩)]) ∧ w'.cell? ⟨gl, 0, none⟩ = some (.slice A m c))) (by kernel_rfl) ⟨(HMK.out.all hS5).b.kb.cell 0, (HMK.out.all hS5).b.kl.cell 0⟩ (fun hHeld => ?_)
  refine takeH 0 (some 25) (v := ?_) (by rfl) (by rfl) (by kernel_rfl) (by kernel_rfl) (by kernel_rfl) (fun _ _ _ h => h) ?_ (by assumption) ?_
  rotate_left
  · (intro o ho w hSw; obtain ⟨z0, z1⟩ := hSw; cases ho; go_simp; try with_reducible rfl)
  try simp only [Act.put, List.setIfInBounds_toArray, List.set_cons_zero, List.set_cons_succ]
  refine takeH 1 (some 26) (v := ?_) (by rfl) (by rfl) (by kernel_rfl) (by kernel_rfl) (by kernel_rfl) (fun _ _ _ h => h) ?_ (by assumption) ?_
  rotate_left
  · (intro o ho w hSw; obtain ⟨z0, z1⟩ := hSw; cases ho; go_simp; try with_reducible rfl)
  try simp only [Act.put, List.setIfInBounds_toArray, List.set_cons_zero, List.set_cons_succ]
  refine takeH 2 (some 27) (v := ?_) (by rfl) (by rfl) (by kernel_rfl) (by kernel_rfl) (by kernel_rfl) (fun _ _ _ h => h) ?_ (by assumption) ?_
  rotate_left
  · (intro o ho w hSw; obtain ⟨z0, z1⟩ := hSw; cases ho; go_simp; try with_reducible rfl)
  try simp only [Act.put, List.setIfInBounds_toArray, List.set_cons_zero, List.set_cons_succ]
  refine wpAnyH_ready (rs := [3]) (by kernel_rfl) (by simp) ?_
  refine AllReadyH.cons rfl (fun K hK => ?_) AllReadyH.nil
  have hmk := HMKE.out
  go_simp
  refine hK.out _ _ ?_ (fun hh7a => ?_)
  · exact ⟨(HMK.out.all HB6.out).b.kb.cell 0, (HMK.out.all HB6.out).b.kl.cell 0⟩
  clear hK K
  try simp only [Act.put, List.setIfInBounds_toArray]
  refine wpAnyH_ready (rs := [4]) (by kernel_rfl) (by simp) ?_
  refine AllReadyH.cons rfl (fun K hK => ?_) AllReadyH.nil
  go_simp
  go_at_call 52
  refine HCALL.out.mono ?_
  rintro e w9 ⟨⟨A9, m9, c9⟩, N9, rfl, hMK9, hT9, hB9, hM9, hO9⟩
  go_wp2
  refine hK.out _ _ ?_ (fun hh7b => ?_)
  · exact ⟨(hMK9).b.kb.cell 0, (hMK9).b.kl.cell 0⟩
  clear hK K
  try simp only [Act.put, List.setIfInBounds_toArray, List.set_cons_zero, List.set_cons_succ]
  refine wpAnyH_done (by kernel_rfl) ?_ _
  clear hh7a hh7b hHeld
  obtain ⟨h1, h2, h3, h4, h5, h6, h7⟩ := HGO.out
  have hk9 : Blk w9 gr 44 #[.int .i64 0, .slice none 0 0] := hM9.blk (HK6.out.all HB6.out) (fun hf => hf.elim (fun e => by omega) (fun e => by simp [slV, Value.ownBlock] at e))
  have q0 := hMK9.p.cell 0
  have q1 := hMK9.p.cell 1
  have r0 := hk9.cell 0
  have r1 := hk9.cell 1
  have f0 := hk9.frozen 0
  have f1 := hk9.frozen 1
  unfold slV at q1
  simp at q0 q1 r0 r1
  have HK9 := Lib.hid hk9
  have HMK9 := Lib.hid hMK9
  have HB9 := Lib.hid hB9
  clear hk9 hMK9 hT9 hB9 hM9 hO9 h1 h2 h3 h4 h5 h6 h7
  go_wp2
  have HKE := Lib.hid ((HK9.out.set_ 0 (.int .i64 v)).set_ 1 (.slice A9 m9 c9))
  have u0 := HKE.out.cell 0
  have u1 := HKE.out.cell 1
  simp at u0 u1
  have hgw := HGW.out.1
  have hme : Mod (fun b => b = gr) w9 ((w9.setCell ⟨gr, 0, none⟩ (.int .i64 v)).setCell ⟨gr, 1, none⟩ (.slice A9 m9 c9)) := ((Mod.refl (fun b => b = gr) w9).set (p := ⟨gr, 0, none⟩) (.inl rfl) _).set (p := ⟨gr, 1, none⟩) (.inl rfl) _
  have hbe : Below w.heap.size w ((w9.setCell ⟨gr, 0, none⟩ (.int .i64 v)).setCell ⟨gr, 1, none⟩ (.slice A9 m9 c9)) := Mod.below HMK9.out.below hme HMK9.out.below.size (fun b hb => by rw [hb]; exact hgw)
  have HF : Hid (MakePost n L w (.returned (.tuple #[.agg #[.int .i64 v, .slice A9 m9 c9], .int .i64 0])) ((w9.setCell ⟨gr, 0, none⟩ (.int .i64 v)).setCell ⟨gr, 1, none⟩ (.slice A9 m9 c9))) := Lib.hid (by
    refine ⟨A9, m9, c9, N9, by rw [HBV.out], HMK9.out.nd.mod hme (fun b hb => by rw [hb]; exact ⟨HK9.out.ty.not (by decide), HK9.out.ty.not (by decide)⟩), ?_, hbe⟩
    have := HB9.out.le 11 (by omega)
    rw [HBV.out, HLL.out]
    exact this)
  exact bodyPost_ret (v := .tuple #[.agg #[.int .i64 v, .slice A9 m9 c9], .int .i64 0]) (by simp [results, Try.results28, go_sem, u0, u1]) rfl HF.out
end Go.Proofs.Ytikfcpkobgejmaa

/- law 29: what Make builds is accepted; lowering a price that does not win. -/
namespace Go.Proofs.Ytikfcpkobgejmaa
open Go.RowKit

theorem feas_len {L : List Bd} {C : List Int} (h : FeasP L C) : C.length ≤ L.length := by
  have h1 := sum_mem h.nodup h.1 (fun _ => 1)
  have h2 : (C.map fun _ => (1 : Int)).sum = C.length := by
    clear h h1
    induction C with
    | nil => rfl
    | cons a t ih => rw [List.map_cons, List.sum_cons, ih, List.length_cons]; omega
  have h3 : ((List.range L.length).map fun (k : Nat) => if (k : Int) ∈ C then (1 : Int) else 0).sum ≤ ((List.range L.length).map fun _ => (1 : Int)).sum := sum_le (fun a _ => by split <;> omega)
  have h4 : ∀ n : Nat, ((List.range n).map fun _ => (1 : Int)).sum = n := fun n => by
    induction n with
    | zero => rfl
    | succ n ih => rw [List.range_succ, List.map_append, List.sum_append, ih]; simp
  rw [h4, ← h1, h2] at h3
  omega
theorem make_check {k np : Nat} {L : List Bd} {N : List Nd} (hv : validE (k : Int) L = 0) (hb : Built k L (bestS L).2 N 11 0 (List.replicate L.length 0) np) (hl : N.length = np) : checkE (k : Int) L (bestS L).1 (bestS L).2 N = 0 ∧ np ≤ 2047 ∧ 0 < np := by
  obtain ⟨h1, h2⟩ := best_feas L
  rw [← h2, ← hl] at hb
  obtain ⟨h3, h4, h5⟩ := hb.proof (win := (bestS L).1) (Nat.le_refl _)
  rw [h2] at h5
  refine ⟨?_, by omega, by omega⟩
  unfold checkE
  rw [if_pos hv, if_pos h1, if_neg (by omega), Int.toNat_natCast, if_pos h5]
theorem Built.small {n : Nat} {L : List Bd} {v : Int} {N : List Nd} : ∀ {f i j : Nat} {D : List Int}, Built n L v N f i D j → ∀ t, i ≤ t → t < j → (ndAt N t).prices.length ≤ n
  | 0, _, _, _, h => h.elim
  | f + 1, i, j, D, h => by
    intro t ht1 ht2
    rcases h with ⟨s, h1, h2, rfl⟩ | ⟨b, i2, s, h1, h2, h3, h4⟩
    · obtain rfl : t = i := by omega
      rw [h1]
      simp
    · by_cases e : t = i
      · subst e
        rw [h1]
        simp
      · by_cases e2 : t < i2
        · exact h3.small t (by omega) e2
        · exact h4.small t (by omega) ht2
/-- A certificate in a row: its value, its slice of nodes, and these. -/
structure Cg where
  v : Int
  s : Sl
  N : List Nd
def Cg.cells (x : Cg) : List Value := [.int .i64 x.v, slV x.s]
theorem Cg.cells_length (x : Cg) : x.cells.length = 2 := rfl
structure Cgs (w : World) (g k : Nat) (L : List Cg) : Prop where
  rows : Rows Cg.cells 2 w (some ⟨g, 0, none⟩, k, k) L
  ok : ∀ x ∈ L, Nds w x.s x.N
theorem Cgs.all {w w' : World} {g k : Nat} {L : List Cg} (h : Cgs w g k L) (hb : Below w.heap.size w w') : Cgs w' g k L := ⟨h.rows.all hb, fun x hx => (h.ok x hx).all hb⟩
theorem Cgs.get {w : World} {g k : Nat} {L : List Cg} (h : Cgs w g k L) {i : Nat} (hi : i < k) : ∃ v A n c N, w.cell? ⟨g, i * 2, none⟩ = some (.int .i64 v) ∧ w.cell? ⟨g, i * 2 + 1, none⟩ = some (.slice A n c) ∧ Nds w (A, n, c) N := by
  have hl : i < L.length := by rw [h.rows.len]; exact hi
  obtain ⟨b, off, e, -, hc⟩ := h.rows.cells Cg.cells_length hl (by decide)
  injection e with e
  injection e with e1 e2 _
  subst e1 e2
  have h0 := hc 0 (.int .i64 L[i].v) rfl
  have h1 := hc 1 (slV L[i].s) rfl
  rw [Nat.zero_add] at h0 h1
  have hk := h.ok _ (List.getElem_mem hl)
  obtain ⟨x, hx⟩ : ∃ x, L[i] = x := ⟨_, rfl⟩
  rw [hx] at h0 h1 hk
  obtain ⟨v, ⟨A, n, c⟩, N⟩ := x
  exact ⟨v, A, n, c, N, h0, h1, hk⟩
end Go.Proofs.Ytikfcpkobgejmaa

/- law 29: a price that does not win is lowered, or raised. -/
namespace Go.Proofs.Ytikfcpkobgejmaa
open Go.RowKit

def setPr (b : Bd) (q : Int) : Bd := ⟨b.bidder, q, b.s, b.lots⟩
def lowL (L : List Bd) (i : Nat) (q : Int) : List Bd := L.set i (setPr (bdAt L i) q)
theorem low_len (L : List Bd) (i : Nat) (q : Int) : (lowL L i q).length = L.length := List.length_set
theorem low_at {L : List Bd} {i : Nat} (hi : i < L.length) (q : Int) (k : Nat) : bdAt (lowL L i q) k = if k = i then setPr (bdAt L i) q else bdAt L k := by
  unfold lowL
  by_cases e : k = i
  · subst e
    rw [if_pos rfl]
    show ((L.set k (setPr (bdAt L k) q))[k]?).getD bd0 = _
    rw [List.getElem?_set_self hi]
    rfl
  · rw [if_neg e]
    show ((L.set i (setPr (bdAt L i) q))[k]?).getD bd0 = _
    rw [List.getElem?_set_ne (Ne.symm e)]
    rfl
section
variable {L : List Bd} {i : Nat} (hi : i < L.length) (q : Int)
include hi
theorem low_bidder (k : Nat) : (bdAt (lowL L i q) k).bidder = (bdAt L k).bidder := by
  rw [low_at hi]
  split
  · rename_i e
    rw [e]
    rfl
  · rfl
theorem low_lots (k : Nat) : (bdAt (lowL L i q) k).lots = (bdAt L k).lots := by
  rw [low_at hi]
  split
  · rename_i e
    rw [e]
    rfl
  · rfl
theorem low_other {k : Nat} (hk : k ≠ i) : bdAt (lowL L i q) k = bdAt L k := by rw [low_at hi, if_neg hk]
theorem low_conf (a b : Nat) : confB (bdAt (lowL L i q) a) (bdAt (lowL L i q) b) = confB (bdAt L a) (bdAt L b) := by
  unfold confB
  rw [low_bidder hi, low_bidder hi, low_lots hi, low_lots hi]
theorem low_poss (D : List Int) (x : Int) : possB (lowL L i q) D x = possB L D x := by
  unfold possB takenB
  rw [low_len]
  have e : ∀ y : Nat, ((List.range L.length).any fun t => decide (D[t]?.getD 0 = 1) && confB (bdAt (lowL L i q) t) (bdAt (lowL L i q) y)) = ((List.range L.length).any fun t => decide (D[t]?.getD 0 = 1) && confB (bdAt L t) (bdAt L y)) := fun y => by
    congr 1
    funext t
    rw [low_conf hi]
  rw [e]
theorem low_price (hq : q ≤ (bdAt L i).price) (k : Nat) : (bdAt (lowL L i q) k).price ≤ (bdAt L k).price := by
  rw [low_at hi]
  split
  · rename_i e
    rw [e]
    exact hq
  · exact Int.le_refl _
theorem low_own (hq : q ≤ (bdAt L i).price) (P : List Int) (k : Nat) : ownB (bdAt (lowL L i q) k) P ≤ ownB (bdAt L k) P := by
  unfold ownB
  rw [low_lots hi]
  have := low_price hi q hq k
  omega
theorem low_most (hq : q ≤ (bdAt L i).price) (D P : List Int) (b : Int) : ∀ k, mostTo (lowL L i q) (fun t => possB (lowL L i q) D (t : Int)) P b k ≤ mostTo L (fun t => possB L D (t : Int)) P b k
  | 0 => Int.le_refl _
  | k + 1 => by
    have ih := low_most hq D P b k
    have ho := low_own hi q hq P k
    unfold mostTo
    rw [low_poss hi, low_bidder hi]
    split
    · rename_i h1
      split
      · exact ho
      · rename_i h2
        have := fun h => h2 ⟨h1.1, h1.2.1, h⟩
        have := Int.not_lt.1 this
        omega
    · rename_i h1
      split
      · rename_i h2
        have := h2.2.2
        omega
      · exact ih
theorem low_first (t k : Nat) : firstTo (lowL L i q) t k = firstTo L t k := by
  unfold firstTo
  congr 1
  funext s
  rw [low_bidder hi, low_bidder hi]
theorem low_bound (hq : q ≤ (bdAt L i).price) (D P : List Int) : boundP (lowL L i q) D P ≤ boundP L D P := by
  unfold boundP
  rw [low_len]
  have e1 : winSum (lowL L i q) D L.length ≤ winSum L D L.length := by
    unfold winSum
    refine sum_le (fun k _ => ?_)
    split
    · exact low_price hi q hq k
    · exact Int.le_refl _
  have e2 : winLots (lowL L i q) D L.length = winLots L D L.length := by
    unfold winLots
    congr 1
    funext k
    rw [low_lots hi]
  have e3 : (surF (lowL L i q) D P L.length).2 ≤ (surF L D P L.length).2 := by
    obtain ⟨a1, a2⟩ := surF_eq (lowL L i q) D P L.length
    obtain ⟨b1, b2⟩ := surF_eq L D P L.length
    rw [a2, b2]
    unfold sumFirst
    refine sum_le (fun k _ => ?_)
    rw [low_first hi, low_bidder hi]
    split
    · rw [a1, b1]
      exact low_most hi q hq D P _ _
    · exact Int.le_refl _
  rw [e2]
  omega
theorem low_holds {n : Nat} {v : Int} {N : List Nd} (hq : q ≤ (bdAt L i).price) : ∀ (f t : Nat) (D : List Int), holdsF n L v N f t D = true → holdsF n (lowL L i q) v N f t D = true
  | 0, _, _, h => by cases h
  | f + 1, t, D, h => by
    rw [holdsF] at h ⊢
    split at h
    · rename_i h1
      rw [if_pos h1]
      unfold leafB at h ⊢
      simp only [Bool.and_eq_true, decide_eq_true_eq] at h ⊢
      exact ⟨h.1, Int.le_trans (low_bound hi q hq D _) h.2⟩
    · rename_i h1
      rw [if_neg h1, low_poss hi]
      split at h
      · cases h
      · rename_i h2
        rw [if_neg h2]
        rw [Bool.and_eq_true] at h ⊢
        exact ⟨low_holds hq f _ _ h.1, low_holds hq f _ _ h.2⟩
theorem low_feas (C : List Int) : FeasP (lowL L i q) C ↔ FeasP L C := by
  unfold FeasP
  rw [low_len]
  have e : ∀ x y : Int, (x < y ∧ confB (bdAt (lowL L i q) y.toNat) (bdAt (lowL L i q) x.toNat) = false) ↔ (x < y ∧ confB (bdAt L y.toNat) (bdAt L x.toNat) = false) := fun x y => by rw [low_conf hi]
  constructor
  · rintro ⟨h1, h2⟩
    exact ⟨h1, h2.imp fun {x y} h => (e x y).1 h⟩
  · rintro ⟨h1, h2⟩
    exact ⟨h1, h2.imp fun {x y} h => (e x y).2 h⟩
theorem low_value {C : List Int} (hr : ∀ x ∈ C, 0 ≤ x ∧ x < (L.length : Int)) (hn : (i : Int) ∉ C) : valueB (lowL L i q) C = valueB L C := by
  rw [valueB_sum (by rw [low_len]; exact hr), valueB_sum hr]
  congr 1
  apply List.map_congr_left
  intro x hx
  obtain ⟨h1, h2⟩ := hr x hx
  rw [low_other hi q (fun e => hn (by rw [← e, Int.toNat_of_nonneg h1]; exact hx))]
end
theorem firstE_set {n : Int} : ∀ {L : List Bd} {i : Nat} {b : Bd}, firstE n L = 0 → bidE n b = 0 → firstE n (L.set i b) = 0
  | [], _, _, h, _ => by simpa using h
  | x :: t, 0, b, h, hb => by
    simp only [firstE, List.set_cons_zero] at h ⊢
    split at h
    · rw [if_pos hb]
      exact h
    · rename_i h1
      exact absurd h h1
  | x :: t, i + 1, b, h, hb => by
    simp only [firstE, List.set_cons_succ] at h ⊢
    split at h
    · rename_i h1
      rw [if_pos h1]
      exact firstE_set h hb
    · rename_i h1
      exact absurd h h1
theorem low_valid {n : Int} {L : List Bd} {i : Nat} (hi : i < L.length) (h : validE n L = 0) {q : Int} (h1 : 1 ≤ q) (h2 : q ≤ 1099511627776) : validE n (lowL L i q) = 0 := by
  unfold validE at h ⊢
  rw [low_len]
  split at h
  · cases h
  · rename_i c1
    rw [if_neg c1]
    split at h
    · cases h
    · rename_i c2
      rw [if_neg c2]
      refine firstE_set h ?_
      have h3 := firstE_ok h _ (List.getElem_mem hi)
      rw [← bdAt_eq hi] at h3
      unfold bidE at h3 ⊢
      unfold setPr
      dsimp only
      split at h3
      · cases h3
      · rename_i d1
        rw [if_neg d1]
        split at h3
        · cases h3
        · rw [if_neg (by omega)]
          exact h3
theorem check_parts {n : Int} {L : List Bd} {win : List Int} {v : Int} {N : List Nd} (h : checkE n L win v N = 0) : validE n L = 0 ∧ feasB L win = true ∧ N.length ≤ 2047 ∧ proofB n.toNat L win v N = true := by
  unfold checkE at h
  split at h
  · rename_i h1
    split at h
    · rename_i h2
      split at h
      · cases h
      · rename_i h3
        split at h
        · rename_i h4
          exact ⟨h1, h2, by omega, h4⟩
        · cases h
    · cases h
  · rename_i h1
    exact absurd h h1
theorem lower_check {k : Nat} {L : List Bd} {win : List Int} {v q : Int} {N : List Nd} {i : Nat} (h : checkE (k : Int) L win v N = 0) (hi : i < L.length) (hn : (i : Int) ∉ win) (h1 : 1 ≤ q) (h2 : q ≤ (bdAt L i).price) (h3 : q ≤ 1099511627776) : checkE (k : Int) (lowL L i q) win v N = 0 := by
  obtain ⟨p1, p2, p3, p4⟩ := check_parts h
  have hf := feasB_iff.1 p2
  unfold proofB at p4
  simp only [Bool.and_eq_true, decide_eq_true_eq] at p4
  obtain ⟨e1, e2, e3⟩ := p4
  unfold checkE
  rw [if_pos (low_valid hi p1 h1 h3), if_pos (feasB_iff.2 ((low_feas hi q win).2 hf)), if_neg (by omega), if_pos]
  unfold proofB
  simp only [Bool.and_eq_true, decide_eq_true_eq]
  refine ⟨by rw [low_value hi q hf.1 hn]; exact e1, e2, ?_⟩
  rw [low_len]
  exact low_holds hi q h2 _ _ _ e3
theorem raise_check {k : Nat} {L : List Bd} {win : List Int} {v q : Int} {N : List Nd} {i : Nat} (h : checkE (k : Int) L win v N = 0) (hi : i < L.length) (hB : BidsOk k (lowL L i q)) (h1 : 1 ≤ q) (h2 : v < q) (h3 : q ≤ 1099511627776) : checkE (k : Int) (lowL L i q) win v N = 20 := by
  obtain ⟨p1, p2, p3, -⟩ := check_parts h
  have hf := feasB_iff.1 p2
  have hv := low_valid hi p1 h1 h3
  unfold checkE
  rw [if_pos hv, if_pos (feasB_iff.2 ((low_feas hi q win).2 hf)), if_neg (by omega), if_neg]
  intro hp
  unfold proofB at hp
  simp only [Bool.and_eq_true, decide_eq_true_eq] at hp
  obtain ⟨-, -, e3⟩ := hp
  have hl : i < (lowL L i q).length := by rw [low_len]; exact hi
  have hF1 : FeasP (lowL L i q) [(i : Int)] := ⟨fun x hx => by rw [List.mem_singleton] at hx; omega, List.pairwise_singleton _ _⟩
  have hs := holds_sound (by simpa using hB) (valid_lots hv) hF1 _ _ _ e3 (Agree.start _ _)
  rw [valueB_one hl, low_at hi, if_pos rfl] at hs
  unfold setPr at hs
  dsimp only at hs
  omega
theorem rest_le {L : List Bd} (hp : ∀ b ∈ L, b.price ≤ 450) : ∀ k i, i + k = L.length → restS L i ≤ 450 * k
  | 0, i, hi => by rw [show i = L.length by omega, restS_end]; omega
  | k + 1, i, hi => by
    have h1 := rest_le hp k (i + 1) (by omega)
    have hil : i < L.length := by omega
    have h2 := hp _ (List.getElem_mem hil)
    rw [restS_at hil, bdAt_eq hil]
    omega
theorem v_small {L : List Bd} (h0 : ∀ b ∈ L, 0 ≤ b.price ∧ b.price ≤ 1099511627776) (hp : ∀ b ∈ L, b.price ≤ 450) : 0 ≤ (bestS L).2 ∧ (bestS L).2 ≤ 450 * L.length := by
  obtain ⟨h1, h2⟩ := best_good L
  have h3 := rest_ge h0 L.length 0 (bestS L).1 (by omega) (h1.2.imp fun h => h.1) (fun x hx => by have := h1.1 x hx; omega)
  have h4 := rest_le hp L.length 0 (by omega)
  have h5 := valueTo_ok h0 (bestS L).1 (bestS L).1.length
  unfold valueTo at h5
  rw [List.take_length] at h5
  have h6 : valueB L (bestS L).1 = ((bestS L).1.map (priceAt L)).sum := rfl
  omega
theorem own_price {w : World} {B t n c g k : Nat} {L : List Bd} (h : w.ownsRow B t 3 (.slice (some ⟨g, 0, none⟩) n c) n (L.flatMap Bd.cells)) (hk : k < L.length) (q : Int) : (w.setCell ⟨g, k * 3 + 1, none⟩ (.int .i64 q)).ownsRow B t 3 (.slice (some ⟨g, 0, none⟩) n c) n ((lowL L k q).flatMap Bd.cells) := by
  have hs := (h.stored (k * 3 + 1) (.int .i64 q)).1
  unfold lowL
  rw [← flatT_set Bd.cells 3 Bd.cells_length (setPr (bdAt L k) q) 1 (by decide) (.int .i64 q) L k hk (by rw [bdAt_eq hk]; rfl)]
  exact hs
theorem low_mem {L : List Bd} {i : Nat} {q : Int} (hi : i < L.length) {b : Bd} (hb : b ∈ lowL L i q) : ∃ y ∈ L, b.s = y.s ∧ b.lots = y.lots := by
  rcases List.mem_or_eq_of_mem_set hb with h | h
  · exact ⟨b, h, rfl, rfl⟩
  · rw [h]
    exact ⟨L[i], List.getElem_mem hi, by rw [← bdAt_eq hi]; rfl, by rw [← bdAt_eq hi]; rfl⟩
end Go.Proofs.Ytikfcpkobgejmaa

/- reference: Bids; its prices are small. -/
namespace Go.Proofs.Ytikfcpkobgejmaa
open Go.RowKit

def BidsPost2 (n most : Nat) (w : World) (e : Ending) (w' : World) : Prop := ∃ A' c' L, e = .returned (.slice A' L.length c') ∧ L.length ≤ most ∧ w'.ownsRow w.heap.size 85 3 (.slice A' L.length c') L.length (L.flatMap Bd.cells) ∧ (∀ b ∈ L, OwnI w' w.heap.size b.s.1 b.s.2.1 b.s.2.2 b.lots) ∧ (firstE (n : Int) L = 0 ∧ ∀ b ∈ L, b.price ≤ 450) ∧ Below w.heap.size w w'
set_option maxRecDepth 100000 in
set_option maxHeartbeats 8000000 in
theorem bids2_any (n : Nat) (A : Option Addr) (m c : Nat) (f : Nat → Int) (most : Nat) (mi : Int) (hmi : mi = (most : Int)) (w : World) (hn1 : 1 ≤ n) (hn8 : n ≤ 8) (hmo : most ≤ 1000) (hR : Rd w w.heap.size A m (fun j => .int .i64 (f j))) (hw : Hid (∀ j, j < m → -9223372036854775808 ≤ f j ∧ f j ≤ 9223372036854775807)) :
    Calls Try.prog 11 #[.int .i64 (n : Int), .slice A m c, .int .i64 mi] w (BidsPost2 n most w) := by
  subst hmi
  have HPI : Hid (∀ (q : Nat) (qi : Int) (M : Nat) (Mi : Int), qi = (q : Int) → Mi = (M : Int) → 0 < M → M ≤ 1000000 → ∀ w', Below w.heap.size w w' → Calls Try.prog 43 #[.slice A m c, .int .i64 qi, .int .i64 Mi] w' fun e w'' => ∃ k : Nat, e = .returned (.int .i64 (k : Int)) ∧ k < M ∧ w' = w'') := Lib.hid (fun q qi M Mi h1 h2 h3 h4 w' hb => (pick_nat A m c f q qi M Mi w' _ h1 h2 (hR.all hb) hw h3 (by omega)).mono fun e w'' ⟨k, h5, h6, _, h7⟩ => ⟨k, h5, h6, h7⟩)
  obtain ⟨K, hK, HP0⟩ : ∃ K : Nat, K ≤ most ∧ Hid (∀ w', Below w.heap.size w w' → Calls Try.prog 43 #[.slice A m c, .int .i64 0, .int .i64 ((most : Int) + 1)] w' fun e w'' => e = .returned (.int .i64 (K : Int)) ∧ w' = w'') := by
    have hp : 0 ≤ pickI m f 0 (most + 1) ∧ pickI m f 0 (most + 1) < ((most + 1 : Nat) : Int) := by
      unfold pickI
      split
      · exact aroundI_range _ _ (by omega)
      · omega
    refine ⟨(pickI m f 0 (most + 1)).toNat, by omega, Lib.hid fun w' hb => (pick_nat A m c f 0 0 (most + 1) _ w' _ rfl (by omega) (hR.all hb) hw (by omega) (by omega)).mono ?_⟩
    rintro e w'' ⟨k, rfl, -, h, rfl⟩
    have := h.out
    exact ⟨by rw [← this]; simp, rfl⟩
  clear hR hw
  go_enter Try.func11, Try.ntmps11
  go_wp2_with fail
  go_loopw [7, 8] (fun v iv wr => ∃ (i : Nat) (A' : Option Addr) (c' : Nat) (L : List Bd), i ≤ K ∧ iv = .int .i64 (i : Int) ∧ v = .slice A' i c' ∧ Hid (L.length = i) ∧ Hid (wr.ownsRow w.heap.size 85 3 (.slice A' i c') i (L.flatMap Bd.cells)) ∧ Hid (∀ b ∈ L, OwnI wr w.heap.size b.s.1 b.s.2.1 b.s.2.2 b.lots) ∧ Hid (firstE (n : Int) L = 0 ∧ ∀ b ∈ L, b.price ≤ 450) ∧ Hid (Below w.heap.size w wr)) (fun _ iv _ => K - (intOf iv).toNat)
  case atStart => exact ⟨0, none, 0, [], by omega, rfl, rfl, Lib.hid rfl, Lib.hid (World.ownsRow_nil _ _ _ _), Lib.hid (fun b hb => by simp at hb), Lib.hid ⟨rfl, fun b hb => by simp at hb⟩, Lib.hid (Below.refl _ _)⟩
  case round =>
    obtain ⟨i, A', c', L, hi, rfl, rfl, HLN, HO, HLO, HFE, HB⟩ := hrel
    by_cases hik : i < K
    rotate_left
    · obtain rfl : i = K := by omega
      have HF : Hid (BidsPost2 n most w (.returned (.slice A' i c')) wr) := Lib.hid ⟨A', c', L, by rw [HLN.out], by rw [HLN.out]; exact hK, by rw [HLN.out]; exact HO.out, HLO.out, HFE.out, HB.out⟩
      go_wp2_with (go_at_call 43; ((with_reducible refine (HP0.out _ HB.out).mono ?_); rintro e w2 ⟨rfl, rfl⟩))
      go_ret
      exact HF.out
    have hiki : (i : Int) < (K : Int) := by omega
    have hib : i ≤ 1000 := by omega
    go_wp2_with (go_at_call 43; ((with_reducible refine (HP0.out _ HB.out).mono ?_); rintro e w2 ⟨rfl, rfl⟩))
    refine (HPI.out (1 + 3 * i) _ 1000000 _ (by omega) (by rfl) (by omega) (by omega) _ HB.out).mono ?_
    rintro e w2 ⟨k1, rfl, hk1, rfl⟩
    have h6 := tm_ok (k1 : Int) 6 (by omega) (by omega)
    have d6 := td_ok (k1 : Int) 6 (by omega) (by omega)
    have d54 := td_ok (k1 : Int) 54 (by omega) (by omega)
    have d216 := td_ok (k1 : Int) 216 (by omega) (by omega)
    obtain ⟨a1, ha1⟩ : ∃ a, (k1 : Int).tmod 6 = a := ⟨_, rfl⟩
    obtain ⟨a2, ha2⟩ : ∃ a, (k1 : Int).tdiv 6 = a := ⟨_, rfl⟩
    obtain ⟨a4, ha4⟩ : ∃ a, (k1 : Int).tdiv 54 = a := ⟨_, rfl⟩
    obtain ⟨a6, ha6⟩ : ∃ a, (k1 : Int).tdiv 216 = a := ⟨_, rfl⟩
    rw [ha1] at h6
    rw [ha2] at d6
    rw [ha4] at d54
    rw [ha6] at d216
    have h9 := tm_ok a2 9 d6.1 (by omega)
    have h4 := tm_ok a4 4 d54.1 (by omega)
    have h50 := tm_ok a6 50 d216.1 (by omega)
    obtain ⟨a3, ha3⟩ : ∃ a, a2.tmod 9 = a := ⟨_, rfl⟩
    obtain ⟨a5, ha5⟩ : ∃ a, a4.tmod 4 = a := ⟨_, rfl⟩
    obtain ⟨a7, ha7⟩ : ∃ a, a6.tmod 50 = a := ⟨_, rfl⟩
    rw [ha3] at h9
    rw [ha5] at h4
    rw [ha7] at h50
    obtain ⟨z0, z1⟩ := h6
    obtain ⟨z2, z3⟩ := d6
    obtain ⟨z4, z5⟩ := d54
    obtain ⟨z6, z7⟩ := d216
    obtain ⟨z8, z9⟩ := h9
    obtain ⟨y0, y1⟩ := h4
    obtain ⟨y2, y3⟩ := h50
    obtain ⟨p0, hp0⟩ : ∃ p, 1 + a3 = p := ⟨_, rfl⟩
    obtain ⟨p1, hp1⟩ : ∃ p, 1 + a7 = p := ⟨_, rfl⟩
    obtain ⟨bi, hbi⟩ : ∃ p, 1 + a1 = p := ⟨_, rfl⟩
    have q0 : 1 ≤ p0 ∧ p0 ≤ 9 := by omega
    have q1 : 1 ≤ p1 ∧ p1 ≤ 50 := by omega
    have q2 : 1 ≤ bi ∧ bi ≤ 6 := by omega
    have q3 : 1 ≤ p0 * p1 ∧ p0 * p1 ≤ 450 := ⟨Int.le_trans (by decide) (Int.mul_le_mul q0.1 q1.1 (by omega) (by omega)), Int.le_trans (Int.mul_le_mul q0.2 q1.2 (by omega) (by omega)) (by decide)⟩
    obtain ⟨gx, hgx⟩ : ∃ gx, wr.heap.size = gx := ⟨_, rfl⟩
    have HKX : Hid (∀ pr, Blk (wr.alloc (.cells #[.int .i64 bi, .int .i64 pr, .slice none 0 0] 85)) gx 85 #[.int .i64 bi, .int .i64 pr, .slice none 0 0]) := Lib.hid (fun pr => by rw [← hgx]; exact Blk.new _ _ _)
    have HBX : Hid (∀ pr, Below wr.heap.size wr (wr.alloc (.cells #[.int .i64 bi, .int .i64 pr, .slice none 0 0] 85))) := Lib.hid (fun pr => (Below.refl _ _).alloc (Nat.le_refl _) _)
    by_cases hz : a5 = 0
    · subst hz
      have HKX1 : Hid (Blk (wr.alloc (.cells #[.int .i64 bi, .int .i64 (p0 * p1), .slice none 0 0] 85)) gx 85 #[.int .i64 bi, .int .i64 (p0 * p1), .slice none 0 0]) := Lib.hid (HKX.out (p0 * p1))
      have HBX1 : Hid (Below wr.heap.size wr (wr.alloc (.cells #[.int .i64 bi, .int .i64 (p0 * p1), .slice none 0 0] 85))) := Lib.hid (HBX.out (p0 * p1))
      have c0 := (HKX.out p0).cell 1
      have c1 := (HKX.out p0).frozen 1
      simp at c0
      clear HKX HBX
      have HKX := HKX1
      have HBX := HBX1
      clear HKX1 HBX1
      go_wp2_with fail
      refine (HPI.out (2 + 3 * i) _ 255 _ (by omega) (by rfl) (by omega) (by omega) _ (bt HB.out HBX.out)).mono ?_
      rintro e w2 ⟨k2, rfl, hk2, rfl⟩
      go_wp2_with fail
      refine (HPI.out (3 + 3 * i) _ 255 _ (by omega) (by rfl) (by omega) (by omega) _ (bt HB.out HBX.out)).mono ?_
      rintro e w2 ⟨k3, rfl, hk3, rfl⟩
      go_wp2_with fail
      obtain ⟨wx, hwx⟩ : ∃ wx, wr.alloc (.cells #[.int .i64 bi, .int .i64 (p0 * p1), .slice none 0 0] 85) = wx := ⟨_, rfl⟩
      obtain ⟨pr, hpr⟩ : ∃ pr, p0 * p1 = pr := ⟨_, rfl⟩
      have hprb : 1 ≤ pr ∧ pr ≤ 450 := by omega
      rw [hwx, hpr] at HKX
      rw [hwx] at HBX ⊢
      clear hwx
      have HGX := Lib.hid hgx
      clear ha1 ha2 ha4 ha6 ha3 ha5 ha7 hp0 hp1 hbi hpr hgx q0 q1 q3 z0 z1 z2 z3 z4 z5 z6 z7 z8 z9 y0 y1 y2 y3
      obtain ⟨x0, hx0⟩ : ∃ x, bits BinOp.and IntKind.i64 (k2 : Int) (bits BinOp.or IntKind.i64 (k3 : Int) 17) = x := ⟨_, rfl⟩
      have hxw : -9223372036854775808 ≤ x0 ∧ x0 ≤ 9223372036854775807 := by
        rw [← hx0]
        exact bounds_i64 (wf_bits _ _ _ _)
      rw [hx0]
      clear hx0 hk1 hk2 hk3
      obtain ⟨wo, rfl⟩ : ∃ wo : World, wo = wr := ⟨_, rfl⟩
      go_loopw [11, 12] (fun xv jv wr => ∃ (x : Int) (j : Nat) (Al : Option Addr) (nl cl : Nat) (lots : List Int), j ≤ n ∧ xv = .int .i64 x ∧ jv = .int .i64 (j : Int) ∧ -9223372036854775808 ≤ x ∧ x ≤ 9223372036854775807 ∧ nl ≤ j ∧ Hid (lots.length = nl) ∧ Hid (Blk wr gx 85 #[.int .i64 bi, .int .i64 pr, .slice Al nl cl]) ∧ Hid (OwnI wr (gx + 1) Al nl cl lots) ∧ Hid (lotsBad (n : Int) (-1) lots = false) ∧ Hid (∀ y ∈ lots, y < (j : Int)) ∧ (j = n → 0 < nl) ∧ Hid (Below wo.heap.size wo wr)) (fun _ jv _ => n - (intOf jv).toNat)
      case atStart => exact ⟨x0, 0, none, 0, 0, [], by omega, rfl, rfl, hxw.1, hxw.2, by omega, Lib.hid rfl, HKX, Lib.hid (OwnI.nil _ _), Lib.hid rfl, Lib.hid (fun y hy => by simp at hy), by omega, HBX⟩
      case round =>
        clear HKX HBX hxw
        obtain ⟨x, j, Al, nl, cl, lots, hj, rfl, rfl, hx1, hx2, hnl, HLL, HK, HOL, HLB, HLT, hjn, HBW⟩ := hrel
        have k0 := HK.out.cell 0
        have k1 := HK.out.cell 1
        have k2 := HK.out.cell 2
        have k3 := HK.out.frozen 2
        simp at k0 k1 k2
        by_cases hlt : j < n
        · have hti := td2_ok x hx1 hx2
          have hxl : gx < wr.heap.size := HK.out.lt
          obtain ⟨A5, c5, w5, hr5, ho5, hb5⟩ := app_int (w := wr) 22 (j : Int) HOL.out (by omega) (by omega)
          have HR5 := Lib.hid hr5
          have HAFT : Hid (Blk (w5.setCell ⟨gx, 2, none⟩ (.slice A5 (nl + 1) c5)) gx 85 #[.int .i64 bi, .int .i64 pr, .slice A5 (nl + 1) c5] ∧ OwnI (w5.setCell ⟨gx, 2, none⟩ (.slice A5 (nl + 1) c5)) (gx + 1) A5 (nl + 1) c5 (lots ++ [(j : Int)]) ∧ Below wo.heap.size wo (w5.setCell ⟨gx, 2, none⟩ (.slice A5 (nl + 1) c5))) := Lib.hid ⟨(HK.out.below hb5 (by omega)).set_ 2 _, ownsRow_setCell_below ho5 (by simp) _, (HBW.out.trans (hb5.mono (by rw [HGX.out]; omega))).setCell (by rw [HGX.out]; exact Nat.le_refl _) _⟩
          have HLB2 : Hid (lotsBad (n : Int) (-1) (lots ++ [(j : Int)]) = false) := Lib.hid (lotsBad_snoc HLB.out (by omega) HLT.out (by omega))
          have HLT2 : Hid (∀ y ∈ lots ++ [(j : Int)], y < ((j + 1 : Nat) : Int)) := Lib.hid (fun y hy => by
            rcases List.mem_append.1 hy with h | h
            · have := HLT.out y h
              omega
            · simp at h
              omega)
          have HLT3 : Hid (∀ y ∈ lots, y < ((j + 1 : Nat) : Int)) := Lib.hid (fun y hy => by have := HLT.out y hy; omega)
          have HLL2 : Hid ((lots ++ [(j : Int)]).length = nl + 1) := Lib.hid (by rw [List.length_append, HLL.out]; rfl)
          have d1 := (HK.out.below hb5 (by omega)).frozen 2
          have d2 := (HK.out.below hb5 (by omega)).cell 2
          simp at d2
          clear hr5 ho5 hb5
          have hji : (j : Int) < (n : Int) := by omega
          obtain ⟨xh, hxh⟩ : ∃ y, x.tdiv 2 = y := ⟨_, rfl⟩
          rw [hxh] at hti
          obtain ⟨xm, hxm⟩ : ∃ y, x.tmod 2 = y := ⟨_, rfl⟩
          by_cases hm1 : xm = 1
          · subst hm1
            go_wp2_with (at_builtin; refine wpList_append_run HR5.out (by rfl) (by rfl) (by rfl) (by rfl) ?_)
            exact ⟨⟨xh, j + 1, A5, nl + 1, c5, _, by omega, rfl, by go_num, hti.1, hti.2, by omega, HLL2, Lib.hid HAFT.out.1, Lib.hid HAFT.out.2.1, HLB2, HLT2, by omega, Lib.hid HAFT.out.2.2⟩, by simp [intOf]; omega⟩
          have hm2 : (xm == 1) = false := by simpa using hm1
          clear hm1
          by_cases hl1 : (j : Int) = (n : Int) - 1
          · have hl2 : ((j : Int) == (n : Int) - 1) = true := by simpa using hl1
            clear hl1
            by_cases h0 : nl = 0
            · subst h0
              go_wp2_with (at_builtin; refine wpList_append_run HR5.out (by rfl) (by rfl) (by rfl) (by rfl) ?_)
              exact ⟨⟨xh, j + 1, A5, 0 + 1, c5, _, by omega, rfl, by go_num, hti.1, hti.2, by omega, HLL2, Lib.hid HAFT.out.1, Lib.hid HAFT.out.2.1, HLB2, HLT2, by omega, Lib.hid HAFT.out.2.2⟩, by simp [intOf]; omega⟩
            · have h1 : ((nl : Int) == 0) = false := by simp; omega
              clear HAFT HR5
              go_wp2
              exact ⟨⟨xh, j + 1, Al, nl, cl, lots, by omega, rfl, by go_num, hti.1, hti.2, by omega, HLL, HK, HOL, HLB, HLT3, by omega, HBW⟩, by simp [intOf]; omega⟩
          · have hl2 : ((j : Int) == (n : Int) - 1) = false := by simpa using hl1
            have hl3 : j + 1 ≠ n := by omega
            clear hl1 HAFT HR5
            go_wp2
            exact ⟨⟨xh, j + 1, Al, nl, cl, lots, by omega, rfl, by go_num, hti.1, hti.2, by omega, HLL, HK, HOL, HLB, HLT3, by omega, HBW⟩, by simp [intOf]; omega⟩
        · obtain rfl : j = n := by omega
          have hnl0 := hjn rfl
          obtain ⟨A5, c5, w5, hr5, ho5, hb5, hg5⟩ := app_elem (w := wr) 24 slT_rbid (own_keep HO.out HBW.out) #[.int .i64 bi, .int .i64 pr, .slice Al nl cl] rfl (by intro u hu; simp at hu; rcases hu with rfl | rfl | rfl <;> rfl) (by omega) (by decide) (Nat.le_trans HB.out.size HBW.out.size)
          have HR5 := Lib.hid hr5
          have HO5 : Hid (w5.ownsRow w.heap.size 85 3 (.slice A5 (i + 1) c5) (i + 1) ((L ++ [(⟨bi, pr, (Al, nl, cl), lots⟩ : Bd)]).flatMap Bd.cells)) := Lib.hid (by
            rw [List.flatMap_append]
            exact ho5)
          have HLO5 : Hid (∀ b ∈ L ++ [(⟨bi, pr, (Al, nl, cl), lots⟩ : Bd)], OwnI w5 w.heap.size b.s.1 b.s.2.1 b.s.2.2 b.lots) := Lib.hid (fun b hb => by
            have hne : 3 ≠ 85 := by decide
            rcases List.mem_append.1 hb with h | h
            · exact own_other ((HLO.out b h).all HBW.out) (own_keep HO.out HBW.out) hne hg5
            · rw [List.mem_singleton] at h
              subst h
              exact own_lower (own_other HOL.out (own_keep HO.out HBW.out) hne hg5) (by have := HB.out.size; have := HGX.out; omega))
          have HFE5 : Hid (firstE (j : Int) (L ++ [⟨bi, pr, (Al, nl, cl), lots⟩]) = 0 ∧ ∀ b ∈ L ++ [(⟨bi, pr, (Al, nl, cl), lots⟩ : Bd)], b.price ≤ 450) := Lib.hid (And.intro (firstE_snoc HFE.out.1 (by
            unfold bidE
            dsimp only
            rw [if_neg (by omega), if_neg (by omega), if_neg (by intro h; rw [h] at HLL; have := HLL.out; simp at this; omega), HLB.out]
            rfl)) (fun b hb => (List.mem_append.1 hb).elim (HFE.out.2 b) (fun h => by rw [List.mem_singleton] at h; subst h; exact hprb.2)))
          have HB5 : Hid (Below w.heap.size w w5) := Lib.hid ((bt HB.out HBW.out).trans hb5)
          have HLN5 : Hid ((L ++ [(⟨bi, pr, (Al, nl, cl), lots⟩ : Bd)]).length = i + 1) := Lib.hid (by rw [List.length_append, HLN.out]; rfl)
          clear hr5 ho5 hb5 hg5
          go_wp2_with (at_builtin; refine wpList_append_run HR5.out (by rfl) (by rfl) (by rfl) (by rfl) ?_)
          exact ⟨⟨i + 1, A5, c5, _, by omega, by go_num, rfl, HLN5, HO5, HLO5, HFE5, HB5⟩, by simp [intOf]; omega⟩
    · have hz2 : (a5 == 0) = false := by simpa using hz
      clear hz
      have HKX1 := Lib.hid (HKX.out p0)
      have HBX1 := Lib.hid (HBX.out p0)
      clear HKX HBX
      have HKX := HKX1
      have HBX := HBX1
      clear HKX1 HBX1
      go_wp2_with fail
      refine (HPI.out (2 + 3 * i) _ 255 _ (by omega) (by rfl) (by omega) (by omega) _ (bt HB.out HBX.out)).mono ?_
      rintro e w2 ⟨k2, rfl, hk2, rfl⟩
      go_wp2_with fail
      refine (HPI.out (3 + 3 * i) _ 255 _ (by omega) (by rfl) (by omega) (by omega) _ (bt HB.out HBX.out)).mono ?_
      rintro e w2 ⟨k3, rfl, hk3, rfl⟩
      go_wp2_with fail
      obtain ⟨wx, hwx⟩ : ∃ wx, wr.alloc (.cells #[.int .i64 bi, .int .i64 p0, .slice none 0 0] 85) = wx := ⟨_, rfl⟩
      obtain ⟨pr, hpr⟩ : ∃ pr, p0 = pr := ⟨_, rfl⟩
      have hprb : 1 ≤ pr ∧ pr ≤ 450 := by omega
      rw [hwx, hpr] at HKX
      rw [hwx] at HBX ⊢
      clear hwx
      have HGX := Lib.hid hgx
      clear ha1 ha2 ha4 ha6 ha3 ha5 ha7 hp0 hp1 hbi hpr hgx q0 q1 q3 z0 z1 z2 z3 z4 z5 z6 z7 z8 z9 y0 y1 y2 y3
      obtain ⟨x0, hx0⟩ : ∃ x, bits BinOp.and IntKind.i64 (k2 : Int) (bits BinOp.or IntKind.i64 (k3 : Int) 17) = x := ⟨_, rfl⟩
      have hxw : -9223372036854775808 ≤ x0 ∧ x0 ≤ 9223372036854775807 := by
        rw [← hx0]
        exact bounds_i64 (wf_bits _ _ _ _)
      rw [hx0]
      clear hx0 hk1 hk2 hk3
      obtain ⟨wo, rfl⟩ : ∃ wo : World, wo = wr := ⟨_, rfl⟩
      go_loopw [11, 12] (fun xv jv wr => ∃ (x : Int) (j : Nat) (Al : Option Addr) (nl cl : Nat) (lots : List Int), j ≤ n ∧ xv = .int .i64 x ∧ jv = .int .i64 (j : Int) ∧ -9223372036854775808 ≤ x ∧ x ≤ 9223372036854775807 ∧ nl ≤ j ∧ Hid (lots.length = nl) ∧ Hid (Blk wr gx 85 #[.int .i64 bi, .int .i64 pr, .slice Al nl cl]) ∧ Hid (OwnI wr (gx + 1) Al nl cl lots) ∧ Hid (lotsBad (n : Int) (-1) lots = false) ∧ Hid (∀ y ∈ lots, y < (j : Int)) ∧ (j = n → 0 < nl) ∧ Hid (Below wo.heap.size wo wr)) (fun _ jv _ => n - (intOf jv).toNat)
      case atStart => exact ⟨x0, 0, none, 0, 0, [], by omega, rfl, rfl, hxw.1, hxw.2, by omega, Lib.hid rfl, HKX, Lib.hid (OwnI.nil _ _), Lib.hid rfl, Lib.hid (fun y hy => by simp at hy), by omega, HBX⟩
      case round =>
        clear HKX HBX hxw
        obtain ⟨x, j, Al, nl, cl, lots, hj, rfl, rfl, hx1, hx2, hnl, HLL, HK, HOL, HLB, HLT, hjn, HBW⟩ := hrel
        have k0 := HK.out.cell 0
        have k1 := HK.out.cell 1
        have k2 := HK.out.cell 2
        have k3 := HK.out.frozen 2
        simp at k0 k1 k2
        by_cases hlt : j < n
        · have hti := td2_ok x hx1 hx2
          have hxl : gx < wr.heap.size := HK.out.lt
          obtain ⟨A5, c5, w5, hr5, ho5, hb5⟩ := app_int (w := wr) 22 (j : Int) HOL.out (by omega) (by omega)
          have HR5 := Lib.hid hr5
          have HAFT : Hid (Blk (w5.setCell ⟨gx, 2, none⟩ (.slice A5 (nl + 1) c5)) gx 85 #[.int .i64 bi, .int .i64 pr, .slice A5 (nl + 1) c5] ∧ OwnI (w5.setCell ⟨gx, 2, none⟩ (.slice A5 (nl + 1) c5)) (gx + 1) A5 (nl + 1) c5 (lots ++ [(j : Int)]) ∧ Below wo.heap.size wo (w5.setCell ⟨gx, 2, none⟩ (.slice A5 (nl + 1) c5))) := Lib.hid ⟨(HK.out.below hb5 (by omega)).set_ 2 _, ownsRow_setCell_below ho5 (by simp) _, (HBW.out.trans (hb5.mono (by rw [HGX.out]; omega))).setCell (by rw [HGX.out]; exact Nat.le_refl _) _⟩
          have HLB2 : Hid (lotsBad (n : Int) (-1) (lots ++ [(j : Int)]) = false) := Lib.hid (lotsBad_snoc HLB.out (by omega) HLT.out (by omega))
          have HLT2 : Hid (∀ y ∈ lots ++ [(j : Int)], y < ((j + 1 : Nat) : Int)) := Lib.hid (fun y hy => by
            rcases List.mem_append.1 hy with h | h
            · have := HLT.out y h
              omega
            · simp at h
              omega)
          have HLT3 : Hid (∀ y ∈ lots, y < ((j + 1 : Nat) : Int)) := Lib.hid (fun y hy => by have := HLT.out y hy; omega)
          have HLL2 : Hid ((lots ++ [(j : Int)]).length = nl + 1) := Lib.hid (by rw [List.length_append, HLL.out]; rfl)
          have d1 := (HK.out.below hb5 (by omega)).frozen 2
          have d2 := (HK.out.below hb5 (by omega)).cell 2
          simp at d2
          clear hr5 ho5 hb5
          have hji : (j : Int) < (n : Int) := by omega
          obtain ⟨xh, hxh⟩ : ∃ y, x.tdiv 2 = y := ⟨_, rfl⟩
          rw [hxh] at hti
          obtain ⟨xm, hxm⟩ : ∃ y, x.tmod 2 = y := ⟨_, rfl⟩
          by_cases hm1 : xm = 1
          · subst hm1
            go_wp2_with (at_builtin; refine wpList_append_run HR5.out (by rfl) (by rfl) (by rfl) (by rfl) ?_)
            exact ⟨⟨xh, j + 1, A5, nl + 1, c5, _, by omega, rfl, by go_num, hti.1, hti.2, by omega, HLL2, Lib.hid HAFT.out.1, Lib.hid HAFT.out.2.1, HLB2, HLT2, by omega, Lib.hid HAFT.out.2.2⟩, by simp [intOf]; omega⟩
          have hm2 : (xm == 1) = false := by simpa using hm1
          clear hm1
          by_cases hl1 : (j : Int) = (n : Int) - 1
          · have hl2 : ((j : Int) == (n : Int) - 1) = true := by simpa using hl1
            clear hl1
            by_cases h0 : nl = 0
            · subst h0
              go_wp2_with (at_builtin; refine wpList_append_run HR5.out (by rfl) (by rfl) (by rfl) (by rfl) ?_)
              exact ⟨⟨xh, j + 1, A5, 0 + 1, c5, _, by omega, rfl, by go_num, hti.1, hti.2, by omega, HLL2, Lib.hid HAFT.out.1, Lib.hid HAFT.out.2.1, HLB2, HLT2, by omega, Lib.hid HAFT.out.2.2⟩, by simp [intOf]; omega⟩
            · have h1 : ((nl : Int) == 0) = false := by simp; omega
              clear HAFT HR5
              go_wp2
              exact ⟨⟨xh, j + 1, Al, nl, cl, lots, by omega, rfl, by go_num, hti.1, hti.2, by omega, HLL, HK, HOL, HLB, HLT3, by omega, HBW⟩, by simp [intOf]; omega⟩
          · have hl2 : ((j : Int) == (n : Int) - 1) = false := by simpa using hl1
            have hl3 : j + 1 ≠ n := by omega
            clear hl1 HAFT HR5
            go_wp2
            exact ⟨⟨xh, j + 1, Al, nl, cl, lots, by omega, rfl, by go_num, hti.1, hti.2, by omega, HLL, HK, HOL, HLB, HLT3, by omega, HBW⟩, by simp [intOf]; omega⟩
        · obtain rfl : j = n := by omega
          have hnl0 := hjn rfl
          obtain ⟨A5, c5, w5, hr5, ho5, hb5, hg5⟩ := app_elem (w := wr) 24 slT_rbid (own_keep HO.out HBW.out) #[.int .i64 bi, .int .i64 pr, .slice Al nl cl] rfl (by intro u hu; simp at hu; rcases hu with rfl | rfl | rfl <;> rfl) (by omega) (by decide) (Nat.le_trans HB.out.size HBW.out.size)
          have HR5 := Lib.hid hr5
          have HO5 : Hid (w5.ownsRow w.heap.size 85 3 (.slice A5 (i + 1) c5) (i + 1) ((L ++ [(⟨bi, pr, (Al, nl, cl), lots⟩ : Bd)]).flatMap Bd.cells)) := Lib.hid (by
            rw [List.flatMap_append]
            exact ho5)
          have HLO5 : Hid (∀ b ∈ L ++ [(⟨bi, pr, (Al, nl, cl), lots⟩ : Bd)], OwnI w5 w.heap.size b.s.1 b.s.2.1 b.s.2.2 b.lots) := Lib.hid (fun b hb => by
            have hne : 3 ≠ 85 := by decide
            rcases List.mem_append.1 hb with h | h
            · exact own_other ((HLO.out b h).all HBW.out) (own_keep HO.out HBW.out) hne hg5
            · rw [List.mem_singleton] at h
              subst h
              exact own_lower (own_other HOL.out (own_keep HO.out HBW.out) hne hg5) (by have := HB.out.size; have := HGX.out; omega))
          have HFE5 : Hid (firstE (j : Int) (L ++ [⟨bi, pr, (Al, nl, cl), lots⟩]) = 0 ∧ ∀ b ∈ L ++ [(⟨bi, pr, (Al, nl, cl), lots⟩ : Bd)], b.price ≤ 450) := Lib.hid (And.intro (firstE_snoc HFE.out.1 (by
            unfold bidE
            dsimp only
            rw [if_neg (by omega), if_neg (by omega), if_neg (by intro h; rw [h] at HLL; have := HLL.out; simp at this; omega), HLB.out]
            rfl)) (fun b hb => (List.mem_append.1 hb).elim (HFE.out.2 b) (fun h => by rw [List.mem_singleton] at h; subst h; exact hprb.2)))
          have HB5 : Hid (Below w.heap.size w w5) := Lib.hid ((bt HB.out HBW.out).trans hb5)
          have HLN5 : Hid ((L ++ [(⟨bi, pr, (Al, nl, cl), lots⟩ : Bd)]).length = i + 1) := Lib.hid (by rw [List.length_append, HLN.out]; rfl)
          clear hr5 ho5 hb5 hg5
          go_wp2_with (at_builtin; refine wpList_append_run HR5.out (by rfl) (by rfl) (by rfl) (by rfl) ?_)
          exact ⟨⟨i + 1, A5, c5, _, by omega, by go_num, rfl, HLN5, HO5, HLO5, HFE5, HB5⟩, by simp [intOf]; omega⟩
end Go.Proofs.Ytikfcpkobgejmaa

/- For every list of numbers worldmintlaw29.ProofLower returns true: the certificate stays with a lower price of a bid that does not win, and not with a great one. No condition. -/
namespace Go.Proofs.Ytikfcpkobgejmaa
open Go.ChangeShapes Go.WideShapes Go.ChangeAt Go.RowKit Go.ChangeMaps


set_option maxRecDepth 100000 in
set_option maxHeartbeats 8000000 in
theorem ProofLower_walk (W : World) (a0 : Int) (ha0 : Hid ((Lit.int .i64 a0).wf = true)) (A1 : Option Addr) (n1 c1 : Nat) (f1 : Nat → Int) (_hA1 : A1 = none → n1 = 0) (_hn1 : n1 ≤ c1) (_hc1 : c1 ≤ 9223372036854775807) (hR1 : Rd W W.heap.size A1 n1 (fun j => .int .i64 (f1 j))) (hw1 : Hid (∀ j, j < n1 → (Lit.int .i64 (f1 j)).wf = true)) (a2 : Int) (ha2 : Hid ((Lit.int .i64 a2).wf = true)) (a3 : Int) (ha3 : Hid ((Lit.int .i64 a3).wf = true)) :
    Calls Try.prog 8 #[.int .i64 a0, .slice A1 n1 c1, .int .i64 a2, .int .i64 a3] W fun e w' => e = .returned (.bool true) ∧ Below W.heap.size W w' := by
  obtain ⟨p00, p01⟩ := wf_i64 ha0.out
  obtain ⟨p20, p21⟩ := wf_i64 ha2.out
  obtain ⟨p30, p31⟩ := wf_i64 ha3.out
  have HR1 := Lib.hid hR1
  have HW1 : Hid (∀ j, j < n1 → -9223372036854775808 ≤ f1 j ∧ f1 j ≤ 9223372036854775807) := Lib.hid (fun j hj => wf_i64 (hw1.out j hj))
  clear hR1 hw1 ha0 ha2 ha3
  go_enter Try.func8, Try.ntmps8
  go_wp2_with fail
  refine (lots27_any a0 W p00 p01).mono ?_
  rintro e w1 ⟨k, rfl, hk1, hk8, rfl⟩
  go_wp2_with fail
  refine (bids2_any k A1 n1 c1 f1 8 8 (by rfl) W hk1 hk8 (by omega) HR1.out HW1).mono ?_
  rintro e w2 ⟨Aa, ca, La, rfl, hla, hoa, hOa, ⟨hva, hpr⟩, hb2⟩
  have HA2 : Hid (Bds w2 (Aa, La.length, ca) La) := Lib.hid (Bds.of_own hoa (fun b hb => (hOa b hb).ok))
  have HVA : Hid (validE (k : Int) La = 0) := Lib.hid (by
    unfold validE
    rw [if_neg (by omega), if_neg (by omega)]
    exact hva)
  have HOK := Lib.hid (BidsOk.of_valid HVA.out HA2.out)
  have HPR := Lib.hid hpr
  obtain ⟨m, hm⟩ : ∃ m, La.length = m := ⟨_, rfl⟩
  have HLam := Lib.hid hm
  rw [hm] at HA2 hla ⊢
  have HB2 := Lib.hid hb2
  have HLO : Hid (∀ b ∈ La, NIn w2 w2.heap.size b.s b.lots) := Lib.hid (fun b hb => HA2.out.ok b hb)
  clear hoa hOa hva hb2 hm hpr
  go_wp2_with fail
  refine (given_any Aa m ca La w2 HA2 (by omega)).mono ?_
  rintro e w3 ⟨Ag, cg, rfl, hog, hb3⟩
  rw [HLam.out] at hog ⊢
  have HOG3 := Lib.hid hog
  have HX3 : Hid (Below w2.heap.size w2 w3) := Lib.hid hb3
  have HG3 : Hid (Bds w3 (Ag, m, cg) La) := Lib.hid (Bds.of_own hog (fun b hb => (HA2.out.ok b hb).all hb3))
  clear hog hb3 HA2
  go_wp2_with fail
  refine (cbest_own k Ag m cg La w3 HG3 HVA).mono ?_
  rintro e w4 ⟨Aw, nw, cw, rfl, hnw, hb4⟩
  have hnw2 : nw ≤ 10 := by
    have h1 := hnw.nin.len
    have h2 := feas_len (best_good La).1
    have h3 := HLam.out
    dsimp only at h1
    omega
  have HW4 := Lib.hid (TI.own hnw)
  have HG4 := Lib.hid (HG3.out.all hb4)
  have HOG4 := Lib.hid (own_keep HOG3.out hb4)
  have HX4 : Hid (Below w2.heap.size w2 w4) := Lib.hid (HX3.out.trans (hb4.mono HX3.out.size))
  clear hnw hb4 HG3 HOG3 HX3
  go_wp2_with fail
  refine (make_any k Ag m cg La w4 HG4 HVA).mono ?_
  rintro e w5 ⟨Ap, np, cp, Np, rfl, hnp, hbt, hb5⟩
  obtain ⟨hck, hnp1, hnp0⟩ := make_check HVA.out hbt hnp.len
  obtain ⟨hv0, hv1⟩ := v_small (fun b hb => ⟨(HOK.out b hb).1, (HOK.out b hb).2.1⟩) HPR.out
  obtain ⟨v, hv⟩ : ∃ v, (bestS La).2 = v := ⟨_, rfl⟩
  obtain ⟨xw, hxw⟩ : ∃ x, (bestS La).1 = x := ⟨_, rfl⟩
  rw [hv, hxw] at hck
  rw [hv] at hv0 hv1 ⊢
  rw [hxw] at HW4
  rw [HLam.out] at hv1
  have hv2 : v ≤ 3600 := by omega
  have HCK := Lib.hid hck
  have hb6 : Below w5.heap.size w5 (w5.alloc (.cells #[.int .i64 v, .slice Ap np cp] 44)) := (Below.refl _ _).alloc (Nat.le_refl _) _
  have hkp := Blk.new w5 44 #[.int .i64 v, .slice Ap np cp]
  have HP := Lib.hid (hnp.all hb6)
  have HOG := Lib.hid (own_keep (own_keep HOG4.out hb5) hb6)
  have HW := Lib.hid ((HW4.out.all hb5).all hb6)
  have HX : Hid (Below w2.heap.size w2 (w5.alloc (.cells #[.int .i64 v, .slice Ap np cp] 44))) := Lib.hid (HX4.out.trans ((bt hb5 hb6).mono HX4.out.size))
  clear hnp hbt hb5 hb6 hck hv hxw hv1 HG4 HOG4 HW4 HX4
  go_upto_region 5 with (fail)
  obtain ⟨w6, hw6⟩ : ∃ x, w5.alloc (.cells #[.int .i64 v, .slice Ap np cp] 44) = x := ⟨_, rfl⟩
  obtain ⟨gp, hgp⟩ : ∃ g, w5.heap.size = g := ⟨_, rfl⟩
  rw [hw6] at HP HOG HW HX hkp ⊢
  rw [hgp] at hkp
  try rw [hgp]
  have HKP := Lib.hid hkp
  clear hw6 hgp hkp
--@1
  rcases Nat.eq_zero_or_pos m with hm0 | hm0
  · have hmb : ((m : Int) == 0) = true := by rw [hm0]; rfl
    clear hm0 HP HOG HW HKP HCK
    go_wp2_with (go_at_call 22; refine (lives_any _).mono ?_; rintro e w31 ⟨rfl, hb31⟩)
    go_ret
    exact ⟨rfl, HB2.out.trans ((HX.out.trans (hb31.mono HX.out.size)).mono HB2.out.size)⟩
  have hmb : ((m : Int) == 0) = false := by simp; omega
  go_wp2_with fail
  refine (around_nat a2 m m w6 (by rfl) p20 p21 hm0 (by omega)).mono ?_
  rintro e w7 ⟨i, rfl, hi, -, rfl⟩
  have hil : i < La.length := by rw [HLam.out]; exact hi
  have hhas := rhas_nin Aw nw cw xw (i : Int) w6 (Lib.hid HW.out.nin) (by omega)
  rcases hin : decide ((i : Int) ∈ xw) with _ | _
  rotate_left
  · rw [hin] at hhas
    have HHAS := Lib.hid hhas
    clear hhas hin HP HOG HW HKP HCK
    go_wp2_with (first | (go_at_call 34; refine HHAS.out.mono ?_; clear HHAS; rintro e w8 ⟨rfl, rfl⟩) | (go_at_call 22; refine (lives_any _).mono ?_; rintro e w31 ⟨rfl, hb31⟩))
    go_ret
    exact ⟨rfl, HB2.out.trans ((HX.out.trans (hb31.mono HX.out.size)).mono HB2.out.size)⟩
  rw [hin] at hhas
  have HHAS := Lib.hid hhas
  have HIN : Hid ((i : Int) ∉ xw) := Lib.hid (by simpa using hin)
  clear hhas hin
  obtain ⟨gb, hgb, hgb1, -⟩ := own_some HOG.out hm0
  subst hgb
  have hprc := HPR.out _ (List.getElem_mem hil)
  have hpr1 : 1 ≤ La[i].price := by
    have h1 := HVA.out
    unfold validE at h1
    split at h1
    · cases h1
    · split at h1
      · cases h1
      · have h2 := firstE_ok h1 _ (List.getElem_mem hil)
        unfold bidE at h2
        split at h2
        · cases h2
        · split at h2
          · cases h2
          · omega
  have hcells := (Bds.of_own HOG.out (fun b hb => (HLO.out b hb).keep (fun b hlt => HX.out.block b hlt) |>.more HX.out.size)).cell hil
  obtain ⟨b9, o9, hA9, -, -, d1, -, -⟩ := hcells
  dsimp only at hA9
  injection hA9 with hA9
  injection hA9 with hA9 hA10 _
  subst hA9 hA10
  rw [Nat.zero_add] at d1
  obtain ⟨pn, hpn⟩ : ∃ pn : Nat, La[i].price = (pn : Int) := ⟨La[i].price.toNat, by omega⟩
  rw [hpn] at d1 hprc hpr1
  have HPN : Hid ((bdAt La i).price = (pn : Int)) := Lib.hid (by rw [bdAt_eq hil]; exact hpn)
  have f1 := HOG.out.frozenAt (i * 3 + 1)
  have hii : (i : Int) < (m : Int) := by omega
  clear hpn
  go_wp2_with (go_at_call 34; refine HHAS.out.mono ?_; clear HHAS; rintro e w8 ⟨rfl, rfl⟩)
  refine (around_nat a3 pn pn _ (by rfl) p30 p31 (by omega) (by omega)).mono ?_
  rintro e w7 ⟨r, rfl, hr, -, rfl⟩
  obtain ⟨q, hq⟩ : ∃ q, 1 + (r : Int) = q := ⟨_, rfl⟩
  have hq1 : 1 ≤ q ∧ q ≤ pn := by omega
  have hqw : IntKind.i64.wrap q = q := by rw [IntKind.wrap_i64]; omega
  have hO7 := own_price HOG.out hil q
  have hX7 : Below w2.heap.size w2 (w6.setCell ⟨gb, i * 3 + 1, none⟩ (.int .i64 q)) := HX.out.setCell (p := ⟨gb, i * 3 + 1, none⟩) hgb1 _
  have hm7 : Mod (fun b => b = gb) w6 (w6.setCell ⟨gb, i * 3 + 1, none⟩ (.int .i64 q)) := (Mod.refl (fun b => b = gb) w6).set (p := ⟨gb, i * 3 + 1, none⟩) (.inl rfl) _
  have hty : Ty w6 gb 70 := own_ty HOG.out rfl
  have hnt : ∀ t, t ≠ 70 → ∀ b, b = gb → ¬ Ty w6 b t := fun t ht b hb => by rw [hb]; exact hty.not (Ne.symm ht)
  have HP7 := Lib.hid (HP.out.mod hm7 (fun b hb => ⟨hnt _ (by decide) b hb, hnt _ (by decide) b hb⟩))
  have HW7 := Lib.hid (HW.out.mod hm7 (hnt _ (by decide)))
  have HK7 := Lib.hid (hm7.blk HKP.out (fun e => hnt _ (by decide) _ e HKP.out.ty))
  have HO7 := Lib.hid hO7
  have HX7 := Lib.hid hX7
  obtain ⟨L7, hL7⟩ : ∃ x, lowL La i q = x := ⟨_, rfl⟩
  have HCK7 : Hid (checkE (k : Int) L7 xw v Np = 0) := Lib.hid (by rw [← hL7]; exact lower_check HCK.out hil HIN.out hq1.1 (by rw [HPN.out]; omega) (by omega))
  have HL7 : Hid (∀ b ∈ L7, ∃ y ∈ La, b.s = y.s ∧ b.lots = y.lots) := Lib.hid (fun b hb => low_mem hil (by rw [hL7]; exact hb))
  have hL7n : i < L7.length := by rw [← hL7, low_len]; exact hil
  rw [hL7] at HO7
  clear hO7 hX7 hm7 hL7 HP HW HKP HCK
--@2
  go_upto_region 13 with (fail)
  try rw [hq]
  try rw [hqw]
  clear hq
  obtain ⟨w7, hw7⟩ : ∃ x, w6.setCell ⟨gb, i * 3 + 1, none⟩ (.int .i64 q) = x := ⟨_, rfl⟩
  rw [hw7] at HP7 HW7 HK7 HO7 HX7 ⊢
  clear hw7 hty hnt d1 f1 HOG HX
  have hok7 : ∀ w', Below w7.heap.size w7 w' → Bds w' (some ⟨gb, 0, none⟩, m, cg) L7 := fun w' hb => Bds.of_own (own_keep HO7.out hb) (fun b hb2 => by
    obtain ⟨y, hy, h1, h2⟩ := HL7.out b hb2
    have h3 := HLO.out y hy
    rw [← h1, ← h2] at h3
    have h4 := HX7.out.trans (hb.mono HX7.out.size)
    exact (h3.keep (fun b hlt => h4.block b hlt)).more h4.size)
  have q0 := HK7.out.cell 0
  have q1 := HK7.out.cell 1
  simp at q0 q1
  have hc13 := check_any (k : Int) (some ⟨gb, 0, none⟩) m cg Aw nw cw v Ap np cp L7 xw Np w7 (Lib.hid (hok7 w7 (Below.refl _ _))) (Lib.hid HW7.out.nin) (Lib.hid HP7.out.nds) (by omega)
  rw [HCK7.out] at hc13
  have HC13 := Lib.hid hc13
  clear hc13 hok7
  go_wp2_with (go_at_call 18; refine HC13.out.mono ?_; clear HC13; rintro e w8 ⟨rfl, hb8⟩)
  refine (around_nat a3 50 50 w8 (by rfl) p30 p31 (by omega) (by omega)).mono ?_
  rintro e w9 ⟨r2, rfl, hr2, -, rfl⟩
  have HO8 := Lib.hid (own_keep HO7.out hb8)
  have HP8 := Lib.hid (HP7.out.all hb8)
  have HW8 := Lib.hid (HW7.out.all hb8)
  have HK8 := Lib.hid (HK7.out.all hb8)
  have HX8 : Hid (Below w2.heap.size w2 w8) := Lib.hid (HX7.out.trans (hb8.mono HX7.out.size))
  obtain ⟨b9, o9, hA9, -, -, d1, -, -⟩ := (Bds.of_own HO8.out (fun b hb2 => by
    obtain ⟨y, hy, h1, h2⟩ := HL7.out b hb2
    have h3 := HLO.out y hy
    rw [← h1, ← h2] at h3
    exact (h3.keep (fun b hlt => HX8.out.block b hlt)).more HX8.out.size)).cell hL7n
  dsimp only at hA9
  injection hA9 with hA9
  injection hA9 with hA9 hA10 _
  subst hA9 hA10
  rw [Nat.zero_add] at d1
  have f1 := HO8.out.frozenAt (i * 3 + 1)
  obtain ⟨q2, hq2⟩ : ∃ q, v + 1 + (r2 : Int) = q := ⟨_, rfl⟩
  have hvw : IntKind.i64.wrap (v + 1) = v + 1 := by rw [IntKind.wrap_i64]; omega
  have hq2w : IntKind.i64.wrap q2 = q2 := by rw [IntKind.wrap_i64]; omega
  have hO9 := own_price HO8.out hL7n q2
  have hX9 : Below w2.heap.size w2 (w8.setCell ⟨gb, i * 3 + 1, none⟩ (.int .i64 q2)) := HX8.out.setCell (p := ⟨gb, i * 3 + 1, none⟩) hgb1 _
  have hm9 : Mod (fun b => b = gb) w8 (w8.setCell ⟨gb, i * 3 + 1, none⟩ (.int .i64 q2)) := (Mod.refl (fun b => b = gb) w8).set (p := ⟨gb, i * 3 + 1, none⟩) (.inl rfl) _
  have hty : Ty w8 gb 70 := own_ty HO8.out rfl
  have hnt : ∀ t, t ≠ 70 → ∀ b, b = gb → ¬ Ty w8 b t := fun t ht b hb => by rw [hb]; exact hty.not (Ne.symm ht)
  have HP9 := Lib.hid (HP8.out.mod hm9 (fun b hb => ⟨hnt _ (by decide) b hb, hnt _ (by decide) b hb⟩))
  have HW9 := Lib.hid (HW8.out.mod hm9 (hnt _ (by decide)))
  have HK9 := Lib.hid (hm9.blk HK8.out (fun e => hnt _ (by decide) _ e HK8.out.ty))
  have HX9 := Lib.hid hX9
  have hBD9 : Bds (w8.setCell ⟨gb, i * 3 + 1, none⟩ (.int .i64 q2)) (some ⟨gb, 0, none⟩, m, cg) (lowL L7 i q2) := Bds.of_own hO9 (fun b hb2 => by
    obtain ⟨y7, hy7, h1, h2⟩ := low_mem hL7n hb2
    obtain ⟨y, hy, h3, h4⟩ := HL7.out y7 hy7
    have h5 := HLO.out y hy
    rw [← h3, ← h4, ← h1, ← h2] at h5
    exact (h5.keep (fun b hlt => hX9.block b hlt)).more hX9.size)
  have HBD9 := Lib.hid hBD9
  have HCK9 : Hid (checkE (k : Int) (lowL L7 i q2) xw v Np = 20) := Lib.hid (raise_check HCK7.out hL7n (BidsOk.of_valid (low_valid hL7n (check_parts HCK7.out).1 (by omega) (by omega)) hBD9) (by omega) (by omega) (by omega))
  clear hO9 hX9 hm9 hty hnt hBD9 hb8 HP7 HW7 HK7 HO7 HX7 HP8 HW8 HK8 q0 q1
--@3
  go_upto_region 16 with (fail)
  try rw [hq2]
  try rw [hq2w]
  clear hq2
  obtain ⟨w9, hw9⟩ : ∃ x, w8.setCell ⟨gb, i * 3 + 1, none⟩ (.int .i64 q2) = x := ⟨_, rfl⟩
  rw [hw9] at HP9 HW9 HK9 HX9 HBD9 ⊢
  clear hw9 d1 f1 HO8 HX8
  have q0 := HK9.out.cell 0
  have q1 := HK9.out.cell 1
  simp at q0 q1
  have hc16 := check_any (k : Int) (some ⟨gb, 0, none⟩) m cg Aw nw cw v Ap np cp (lowL L7 i q2) xw Np w9 HBD9 (Lib.hid HW9.out.nin) (Lib.hid HP9.out.nds) (by omega)
  rw [HCK9.out] at hc16
  have HC16 := Lib.hid hc16
  clear hc16
  go_wp2_with (first | (go_at_call 18; refine HC16.out.mono ?_; clear HC16; rintro e w10 ⟨rfl, hb10⟩) | (go_at_call 22; refine (lives_any _).mono ?_; rintro e w31 ⟨rfl, hb31⟩))
  go_ret
  exact ⟨rfl, HB2.out.trans ((HX9.out.trans ((bt hb10 hb31).mono HX9.out.size)).mono HB2.out.size)⟩


set_option maxRecDepth 100000 in
theorem ProofLower_lifted (os : Os) (started : os.Started) (H : Type) (enc : TypeId × Value → H) :
    ReturnsInHanded {} Try.checked os 8 .any (Rows.proofLowerSpec.pre6 enc Try.prog Try.f8 Rows.proofLowerRow.domain false) (Rows.proofLowerSpec.post enc Try.prog Try.f8 false true false false) := by
  refine returnsInHanded_of_change (C := Try.checked) Try.own started (by kernel_rfl) Try.func8
    (ChangeSpec.witness6 (enc := enc) (C := Try.checked) false ⟨#[], #[.int .i64 0, .slice none 0 0, .int .i64 0, .int .i64 0], []⟩ 8 (by kernel_rfl) (by kernel_rfl) (by kernel_rfl) (by kernel_rfl)) ?_
  intro W base args ds gs before hval0 hW _ _
  have hval : ∀ (j : Nat) t v, Try.f8.params[j]? = some t → args[j]? = some v → Value.okWide Try.prog W .any base t v := hval0
  have hW' := hW
  obtain ⟨p, q, hT0, hV, rfl, hfz, hnd⟩ := hW
  have hT : DataW.TrodAll enc Try.prog W 0 (fun _ => true) true Try.f8.params.toList args.toList ds p := hT0
  rw [Try.params8] at hT hval
  obtain ⟨v0, vs0, d0, ds0, p0, q0, hargs0, rfl, rfl, h0, r0⟩ := trodAll_cons hT
  obtain ⟨v1, vs1, d1, ds1, p1, q1, hargs1, rfl, rfl, h1, r1⟩ := trodAll_cons r0
  obtain ⟨v2, vs2, d2, ds2, p2, q2, hargs2, rfl, rfl, h2, r2⟩ := trodAll_cons r1
  obtain ⟨v3, vs3, d3, ds3, p3, q3, hargs3, rfl, rfl, h3, r3⟩ := trodAll_cons r2
  obtain ⟨rfl, rfl, rfl⟩ := trodAll_nil r3
  obtain rfl : args = #[v0, v1, v2, v3] := by cases args; simp_all
  obtain ⟨a0, rfl, -, -, w0⟩ := open_int Try.underlying3 (hval 0 3 v0 rfl rfl) h0
  obtain ⟨A1, n1, c1, f1, rfl, hA1, hn1, hc1, hR1, hw1⟩ := open_sl Try.underlying22 Try.underlying3 (by kernel_rfl) (hval 1 22 v1 rfl rfl) h1
  obtain ⟨a2, rfl, -, -, w2⟩ := open_int Try.underlying3 (hval 2 3 v2 rfl rfl) h2
  obtain ⟨a3, rfl, -, -, w3⟩ := open_int Try.underlying3 (hval 3 3 v3 rfl rfl) h3
  refine (ProofLower_walk W a0 w0 A1 n1 c1 f1 hA1 hn1 hc1 hR1 hw1 a2 w2 a3 w3).mono fun e W' ⟨he, hb⟩ => ?_
  subst he
  exact ⟨_, rfl, law_post Try.laidOut (by kernel_rfl) (by kernel_rfl) Try.underlying4 rfl hW' rfl hb⟩

theorem ProofLower_holds : Rows.ProofLowerSaid :=
  OpenClaim.holds_of_wide 8 Try.f8 rfl rfl rfl rfl rfl rfl rfl ⟨rfl, rfl, rfl, rfl, rfl⟩ rfl rfl rfl rfl rfl (by kernel_rfl) Try.func8 (by kernel_rfl)
    (of_decide_eq_true (by kernel_rfl)) (by unfold Func.isWrapper; first | (rw [if_pos (by decide +kernel)]; kernel_rfl) | (rw [if_neg (by decide +kernel)]; exact ⟨rfl, rfl⟩))
    (fun os started H enc _ => ProofLower_lifted os started H enc)

end Go.Proofs.Ytikfcpkobgejmaa
