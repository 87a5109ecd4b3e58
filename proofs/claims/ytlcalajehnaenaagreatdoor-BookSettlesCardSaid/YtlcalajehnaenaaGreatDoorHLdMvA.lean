/- ledger: move (one of four cases). -/
import Derived.Test.YtlcalajehnaenaaGreatDoorHG16
namespace Go.Proofs.YtlcalajehnaenaaGreatDoor
open Go.RowKit
set_option maxRecDepth 100000 in
set_option maxHeartbeats 16000000 in
theorem moveA {mx : Int → Bool} {K : Int} {L : Led} {S0 S : LSt} {C : Chg} (m : Mv) (w0 w : World) (HC : Hid (ChAt w0.heap.size w L S0 S C)) (HL : Hid (LedAt mx w0 L S0)) (HB : Hid (Below w0.heap.size w0 w)) (HO : Hid (LOk mx K S)) (HM : Hid (MvOk L.it.2.1 m)) (hK : K ≤ 1073741824) (hgl : L.it.2.1 ≤ 64) (hkd : C.kind = 0 ∨ C.kind = 2) (hnf : S.nf < 1000000)
 (hz : m.frm = 0) (HLK : Hid (∃ v, C.ts.lookup m.item = some v)) :
 Calls Tryz.prog 77 #[.pointer (some ⟨C.gc, 0, none⟩), mvA m] w (MovePost mx w0 w L S0 S C m) := by
 obtain ⟨i0, i1, hn1, hn2, f0, f1, d0, d1, hne⟩ := HM.out
 have hi : 0 ≤ m.item ∧ m.item < 2147483648 := by omega
 have hd : 0 ≤ m.dst ∧ m.dst < 2147483648 := by omega
 have ed : (m.dst == 0) = false := by simp; omega
 have ek4 : (C.kind == 4) = false := by rcases hkd with h | h <;> rw [h] <;> rfl
 have ek10 : (C.kind == 10) = false := by rcases hkd with h | h <;> rw [h] <;> rfl
 have hk5 : C.kind ≠ 5 := by omega
 have hk9 : C.kind ≠ 9 := by omega
 have HBB := Lib.hid HB.out.size
 have HZ := Lib.hid hz
 have em : mvA m = .agg #[.int .i64 0, .int .i64 m.dst, .int .i64 m.item, .int .i64 m.n, .slice none 0 0] := by unfold mvA; rw [hz]
 rw [em]
 clear hz
 have hba := (Below.refl w.heap.size w).alloc (Nat.le_refl _) (.cells #[.int .i64 0, .int .i64 m.dst, .int .i64 m.item, .int .i64 m.n, .slice none 0 0] 40)
 have kb := Blk.new w 40 #[.int .i64 0, .int .i64 m.dst, .int .i64 m.item, .int .i64 m.n, .slice none 0 0]
 obtain ⟨w1, hw1⟩ : ∃ w1, w.alloc (.cells #[.int .i64 0, .int .i64 m.dst, .int .i64 m.item, .int .i64 m.n, .slice none 0 0] 40) = w1 := ⟨_, rfl⟩
 obtain ⟨b, hb⟩ : ∃ b, w.heap.size = b := ⟨_, rfl⟩
 rw [hw1] at hba kb
 have HCA := Lib.hid (HC.out.all hba)
 have HB1 : Hid (Below w0.heap.size w0 w1) := Lib.hid (HB.out.trans (hba.mono HB.out.size))
 have HLA := Lib.hid (HL.out.all HB1.out)
 rw [hb] at kb
 have q0 : w1.cell? ⟨b, 0, none⟩ = some (.int .i64 0) := kb.cell 0
 have q1 : w1.cell? ⟨b, 1, none⟩ = some (.int .i64 m.dst) := kb.cell 1
 have q2 : w1.cell? ⟨b, 2, none⟩ = some (.int .i64 m.item) := kb.cell 2
 have q3 : w1.cell? ⟨b, 3, none⟩ = some (.int .i64 m.n) := kb.cell 3
 have q4 : w1.cell? ⟨b, 4, none⟩ = some (.slice none 0 0) := kb.cell 4
 have KB := Lib.hid kb
 have HBA := Lib.hid hba
 clear hba kb
 go_enter Tryz.func77, Tryz.ntmps77
 go_wp2_with fail
 clear hw1 hb q0 q1 q2 q3 q4
 rw [← em]
 refine (tk_any m _ HCA HLA HO HM hK hgl hk5 hk9).mono ?_
 rw [em]
 clear em
 intro e w2 h2
 unfold TkPost at h2
 cases hw : wdP mx S m with
 | none =>
   rw [hw] at h2
   obtain ⟨rfl, hb2⟩ := h2
   have HB2 := Lib.hid (HB1.out.trans (hb2.mono HB1.out.size))
   have HW := Lib.hid hw
   clear hb2 hw
   go_wp2
   go_ret
   unfold MovePost moveP
   rw [HW.out]
   exact ⟨rfl, HB2.out⟩
 | some S1 =>
   rw [hw] at h2
   obtain ⟨V, es, he, hc2, hm2⟩ := h2
   obtain ⟨VA, Vn, Vc⟩ := V
   replace he : e = .returned (.tuple #[.slice VA Vn Vc, .int .i64 0]) := he
   subst he
   obtain ⟨ho1, t1, sh1, nf1, ns1, now1⟩ := wdP_ok HO.out hn1 hw
   have hb2 : Below w0.heap.size w0 w2 := hm2.below HB1.out HB1.out.size (fun b hb => HCA.out.low hb)
   have HN2 : Hid (Mod (ChF C) w w2) := Lib.hid ((Mod.of_below (ChF C) HBA.out).trans hm2 (fun b hb => .inl hb))
   have kb2 := hm2.blk KB.out (fun hf => HCA.out.not_ty hf KB.out.ty (by decide) (by decide))
   have HW := Lib.hid hw
   have HB2 := Lib.hid hb2
   have HC2 := Lib.hid hc2
   have HL2 := Lib.hid (HL.out.all hb2)
   have KB2 := Lib.hid kb2
   have HO1 := Lib.hid ho1
   have HNF1 := Lib.hid nf1
   have HSH1 := Lib.hid sh1
   have c9 : w2.cell? ⟨C.gc, 9, none⟩ = some (.map (some C.bT)) := hc2.c.cell 9
   have q0 : w2.cell? ⟨b, 0, none⟩ = some (.int .i64 0) := kb2.cell 0
   have q1 : w2.cell? ⟨b, 1, none⟩ = some (.int .i64 m.dst) := kb2.cell 1
   have q2 : w2.cell? ⟨b, 2, none⟩ = some (.int .i64 m.item) := kb2.cell 2
   have q3 : w2.cell? ⟨b, 3, none⟩ = some (.int .i64 m.n) := kb2.cell 3
   have htt : ((C.ts.lookup m.item).or (L.ts.lookup m.item)).getD (.int .i64 0) = .int .i64 (S1.tot m.item) := hc2.tt m.item
   have e1 : ∀ q, (Instr.lookup 89 (.map (some C.bT)) (.int .i64 m.item) true).run Tryz.prog (w2.drewN q) = .ok (.tuple #[(C.ts.lookup m.item).getD (.int .i64 0), .bool (C.ts.lookup m.item).isSome]) (w2.drewN q) := fun q => (hc2.all (below_drewN (Below.refl _ w2) q)).lookT m.item
   obtain ⟨v, hv⟩ := HLK.out
   rw [hv] at htt e1
   simp only [Option.some_or, Option.getD_some, Option.isSome_some] at htt e1
   subst htt
   clear hc2 hm2 hb2 kb2 ho1 nf1 sh1 hv hw
   go_wp2_with fail
   go_quiet (fail)
   obtain ⟨w3, hw3⟩ : ∃ w3, w2.drewN nq = w3 := ⟨_, rfl⟩
   have hd3 : Below w2.heap.size w2 w3 := by rw [← hw3]; exact below_drewN (Below.refl _ _) _
   rw [hw3]
   clear hw3 e1
   have HB3 := Lib.hid (HB2.out.trans (hd3.mono HB2.out.size))
   have HN3 := Lib.hid (HN2.out.then_below hd3)
   have HC3 := Lib.hid (HC2.out.all hd3)
   have HL3 := Lib.hid (HL2.out.all hd3)
   have kb3 := KB2.out.all hd3
   have KB3 := Lib.hid kb3
   clear HB2 HC2 HL2 KB2 c9 q0 q1 q2 q3 hd3
   have q0 : w3.cell? ⟨b, 0, none⟩ = some (.int .i64 0) := kb3.cell 0
   have q1 : w3.cell? ⟨b, 1, none⟩ = some (.int .i64 m.dst) := kb3.cell 1
   have q2 : w3.cell? ⟨b, 2, none⟩ = some (.int .i64 m.item) := kb3.cell 2
   have q3 : w3.cell? ⟨b, 3, none⟩ = some (.int .i64 m.n) := kb3.cell 3
   have c9 : w3.cell? ⟨C.gc, 9, none⟩ = some (.map (some C.bT)) := HC3.out.c.cell 9
   clear kb3
   have htr := HO.out.tot m.item
   unfold MaxU at htr
   have HTP : Hid (totP S m = (S.tot m.item + m.n)) := Lib.hid (by unfold totP; rw [if_pos HZ.out])
   have hwr : IntKind.i64.wrap (S.tot m.item + m.n) = (S.tot m.item + m.n) := IntWalk.i64_in _ (by omega)
   rcases Int.lt_or_le 1099511627776 (S.tot m.item + m.n) with hT | hT
   ·go_wp2
    go_ret
    unfold MovePost moveP
    rw [HW.out]
    dsimp only
    rw [HTP.out, if_pos (show MaxU < _ from hT)]
    exact ⟨rfl, HB3.out⟩
   obtain ⟨w4, hu4, hc4, hm4⟩ := (HC3.out.all (Below.refl _ w3).drew).layT m.item (S.tot m.item + m.n)
   have hb4 : Below w0.heap.size w0 w4 := hm4.below HB3.out.drew HB3.out.size (fun b hb => by rw [hb]; exact HC3.out.lo.2.2.1)
   have kb4 := hm4.blk (w := w3.drew) KB3.out (fun e => HC3.out.t.not_ty (e ▸ KB3.out.ty))
   have HC4 := Lib.hid hc4
   have HB4 := Lib.hid hb4
   have HN4 : Hid (Mod (ChF C) w w4) := Lib.hid (HN3.out.drew.trans hm4 (fun b hb => .inl (.inr (.inr (.inl hb)))))
   have HL4 := Lib.hid (HL.out.all hb4)
   have KB4 := Lib.hid kb4
   clear hc4 hm4 hb4 htr
   go_wp2_with fail
   go_still_tail 7, (by kernel_rfl)
   change wpList _ _ _ _ _ w3.drew
   clear q0 q1 q2 q3 c9
   have q0 : w4.cell? ⟨b, 0, none⟩ = some (.int .i64 0) := kb4.cell 0
   have q1 : w4.cell? ⟨b, 1, none⟩ = some (.int .i64 m.dst) := kb4.cell 1
   have q2 : w4.cell? ⟨b, 2, none⟩ = some (.int .i64 m.item) := kb4.cell 2
   have q3 : w4.cell? ⟨b, 3, none⟩ = some (.int .i64 m.n) := kb4.cell 3
   have c0 : w4.cell? ⟨C.gc, 0, none⟩ = some (.pointer (some ⟨L.gl, 0, none⟩)) := HC4.out.c.cell 0
   have c1 : w4.cell? ⟨C.gc, 1, none⟩ = some (.int .i64 ((S0.sh : Int) * 4294967296 + (S0.ns : Int))) := HC4.out.c.cell 1
   have c2 : w4.cell? ⟨C.gc, 2, none⟩ = some (.int .i64 C.kind) := HC4.out.c.cell 2
   have c3 : w4.cell? ⟨C.gc, 3, none⟩ = some (.int .i64 C.actor) := HC4.out.c.cell 3
   have c4 : w4.cell? ⟨C.gc, 4, none⟩ = some (.int .i64 C.tick) := HC4.out.c.cell 4
   have l0 : w4.cell? ⟨L.gl, 0, none⟩ = some (.int .i64 (S0.sh : Int)) := HL4.out.c.cell 0
   obtain ⟨xs, hxs, -⟩ := HC4.out.fl
   obtain ⟨Ag, cg, hfg⟩ := own_split hxs
   obtain ⟨ys, hys⟩ := HL4.out.fl
   obtain ⟨Af, cf, hff⟩ := own_split hys
   replace hfg : slV C.fl = .slice Ag (S1.nf - S0.nf) cg := hfg
   have c12 : w4.cell? ⟨C.gc, 12, none⟩ = some (slV C.fl) := HC4.out.c.cell 12
   have l8 : w4.cell? ⟨L.gl, 8, none⟩ = some (slV L.fl) := HL4.out.c.cell 8
   rw [hfg] at c12
   rw [hff] at l8
   obtain ⟨N0, hN0⟩ : ∃ N0, S0.nf = N0 := ⟨_, rfl⟩
   obtain ⟨N1, hN1⟩ : ∃ N1, S1.nf - S0.nf = N1 := ⟨_, rfl⟩
   obtain ⟨nid, hid⟩ : ∃ nid, S1.id = nid := ⟨_, rfl⟩
   rw [hN1] at c12
   rw [hN0] at l8
   have hge : S0.nf ≤ S1.nf := HC4.out.nf
   have hsh : S1.sh = S0.sh := HC4.out.sh
   have hs3 := HO1.out.sh
   have hn3 := HO1.out.nf
   obtain ⟨w_1, w_2, w_3⟩ := flow_id hsh hge hs3 hn3 hN0 hN1 hid
   have lb4 := kb4.lt
   have lc4 : C.gc < w4.heap.size := HC4.out.c.lt
   have ll4 := HL4.out.c.lt
   have HID := Lib.hid hid
   clear hxs hys hfg hff xs ys hN0 hN1 hid hge hsh hs3 hn3 kb4
   go_wp2_with fail
   have hkeep : ∀ y, Below w4.heap.size w4 y → (fun y => y.cell? ⟨C.gc, 0, none⟩ = some (.pointer (some ⟨L.gl, 0, none⟩)) ∧ y.cell? ⟨C.gc, 1, none⟩ = some (.int .i64 ((S0.sh : Int) * 4294967296 + (S0.ns : Int))) ∧ y.cell? ⟨C.gc, 2, none⟩ = some (.int .i64 C.kind) ∧ y.cell? ⟨C.gc, 3, none⟩ = some (.int .i64 C.actor) ∧ y.cell? ⟨C.gc, 4, none⟩ = some (.int .i64 C.tick) ∧ y.cell? ⟨C.gc, 12, none⟩ = some (.slice Ag N1 cg) ∧ y.cell? ⟨L.gl, 0, none⟩ = some (.int .i64 (S0.sh : Int)) ∧ y.cell? ⟨L.gl, 8, none⟩ = some (.slice Af N0 cf) ∧ y.cell? ⟨b, 0, none⟩ = some (.int .i64 0) ∧ y.cell? ⟨b, 1, none⟩ = some (.int .i64 m.dst) ∧ y.cell? ⟨b, 2, none⟩ = some (.int .i64 m.item) ∧ y.cell? ⟨b, 3, none⟩ = some (.int .i64 m.n)) y := fun y hb => ⟨(hb.cell (p := ⟨C.gc, 0, none⟩) lc4).trans c0, (hb.cell (p := ⟨C.gc, 1, none⟩) lc4).trans c1, (hb.cell (p := ⟨C.gc, 2, none⟩) lc4).trans c2, (hb.cell (p := ⟨C.gc, 3, none⟩) lc4).trans c3, (hb.cell (p := ⟨C.gc, 4, none⟩) lc4).trans c4, (hb.cell (p := ⟨C.gc, 12, none⟩) lc4).trans c12, (hb.cell (p := ⟨L.gl, 0, none⟩) ll4).trans l0, (hb.cell (p := ⟨L.gl, 8, none⟩) ll4).trans l8, (hb.cell (p := ⟨b, 0, none⟩) lb4).trans q0, (hb.cell (p := ⟨b, 1, none⟩) lb4).trans q1, (hb.cell (p := ⟨b, 2, none⟩) lb4).trans q2, (hb.cell (p := ⟨b, 3, none⟩) lb4).trans q3⟩
   clear c0 c1 c2 c3 c4 c12 l0 l8 q0 q1 q2 q3
   refine wp_region_held_drew (S := (fun y => y.cell? ⟨C.gc, 0, none⟩ = some (.pointer (some ⟨L.gl, 0, none⟩)) ∧ y.cell? ⟨C.gc, 1, none⟩ = some (.int .i64 ((S0.sh : Int) * 4294967296 + (S0.ns : Int))) ∧ y.cell? ⟨C.gc, 2, none⟩ = some (.int .i64 C.kind) ∧ y.cell? ⟨C.gc, 3, none⟩ = some (.int .i64 C.actor) ∧ y.cell? ⟨C.gc, 4, none⟩ = some (.int .i64 C.tick) ∧ y.cell? ⟨C.gc, 12, none⟩ = some (.slice Ag N1 cg) ∧ y.cell? ⟨L.gl, 0, none⟩ = some (.int .i64 (S0.sh : Int)) ∧ y.cell? ⟨L.gl, 8, none⟩ = some (.slice Af N0 cf) ∧ y.cell? ⟨b, 0, none⟩ = some (.int .i64 0) ∧ y.cell? ⟨b, 1, none⟩ = some (.int .i64 m.dst) ∧ y.cell? ⟨b, 2, none⟩ = some (.int .i64 m.item) ∧ y.cell? ⟨b, 3, none⟩ = some (.int .i64 m.n))) (by kernel_rfl) (hkeep _ (Below.refl _ w4).drew) (fun hHeld => ?_)
   refine takeJ 0 (some 65) ?_
   refine takeJ 1 (some 66) ?_
   refine takeJ 2 (some 67) ?_
   refine takeJ 3 (some 68) ?_
   refine takeJ 4 (some 69) ?_
   refine takeJ 5 (some 70) ?_
   refine takeJ 6 (some 71) ?_
   refine takeJ 7 (some 72) ?_
   refine takeJ 8 (some 73) ?_
   refine takeJ 9 (some 74) ?_
   refine takeJ 10 (some 75) ?_
   refine takeJ 11 (some 76) ?_
   refine takeJ 12 (some 77) ?_
   refine takeJ 13 (some 78) ?_
   refine takeJ 14 (some 79) ?_
   refine takeJ 15 (some 80) ?_
   refine takeJ 16 (some 81) ?_
   refine takeJ 17 (some 82) ?_
   refine takeJ 18 (some 83) ?_
   refine takeJ 19 (some 84) ?_
   refine takeJ 20 (some 85) ?_
   refine takeJ 21 (some 86) ?_
   refine takeJ 22 (some 87) ?_
   refine takeJ 23 (some 88) ?_
   refine takeJ 24 (some 89) ?_
   refine takeJ 25 (some 90) ?_
   refine takeJ 26 (some 91) ?_
   refine takeJ 27 (some 92) ?_
   refine takeJ 28 (some 93) ?_
   refine takeJ 29 (some 94) ?_
   refine takeJ 30 (some 95) ?_
   refine takeJ 31 (some 96) ?_
   refine takeJ 32 (some 97) ?_
   refine takeJ 33 (some 98) ?_
   refine takeJ 34 (some 99) ?_
   refine takeJ 35 (some 100) ?_
   refine takeJ 36 (some 101) ?_
   refine takeJ 37 (some 102) ?_
   refine takeJ 38 (some 103) ?_
   refine takeJ 39 (some 104) ?_
   refine takeJ 40 (some 105) ?_
   refine takeJ 41 (some 106) ?_
   refine takeJ 42 (some 107) ?_
   refine takeJ 43 (some 108) ?_
   refine takeJ 44 (some 109) ?_
   refine takeJ 45 (some 110) ?_
   refine takeJ 46 (some 111) ?_
   refine takeJ 47 (some 112) ?_
   refine takeJ 48 (some 113) ?_
   refine takeJ 49 (some 114) ?_
   refine takeJ 50 (some 115) ?_
   refine takeJ 51 (some 116) ?_
   refine takeJ 52 (some 117) ?_
   refine wpAnyH_ready (rs := [53]) (by kernel_rfl) (by simp) ?_
   refine AllReadyH.cons rfl (fun K hK => ?_) AllReadyH.nil
   go_simp
   refine hK.out _ _ ?_ (fun hH53 => ?_)
   ·exact hkeep _ ((Below.refl _ w4).drew.alloc (Nat.le_refl _) _)
   clear hK K
   try simp only [Act.put, pB, pC, pD]
   refine wpAnyH_ready (rs := [54]) (by kernel_rfl) (by simp) ?_
   refine AllReadyH.cons rfl (fun K hK => ?_) AllReadyH.nil
   go_simp
   refine hK.out _ _ ?_ (fun hH54 => ?_)
   ·exact hkeep _ ((Below.refl _ w4).drew.alloc (Nat.le_refl _) _)
   clear hK K
   try simp only [Act.put, pB, pC, pD]
   refine wpAnyH_done (by kernel_rfl) ?_ _
   have hb5 : Below w4.heap.size w4 (w4.alloc (.cells #[.int .i64 nid, .int .i64 ((S0.sh : Int) * 4294967296 + (S0.ns : Int)), .int .i64 C.kind, .int .i64 C.tick, .int .i64 C.actor, .int .i64 0, .int .i64 m.dst, .int .i64 m.item, .int .i64 m.n, .slice VA Vn Vc, .slice none 0 0] 236)).drew := ((Below.refl _ w4).alloc (Nat.le_refl _) _).drew
   have kf5 : Blk (w4.alloc (.cells #[.int .i64 nid, .int .i64 ((S0.sh : Int) * 4294967296 + (S0.ns : Int)), .int .i64 C.kind, .int .i64 C.tick, .int .i64 C.actor, .int .i64 0, .int .i64 m.dst, .int .i64 m.item, .int .i64 m.n, .slice VA Vn Vc, .slice none 0 0] 236)).drew w4.heap.size 236 #[.int .i64 nid, .int .i64 ((S0.sh : Int) * 4294967296 + (S0.ns : Int)), .int .i64 C.kind, .int .i64 C.tick, .int .i64 C.actor, .int .i64 0, .int .i64 m.dst, .int .i64 m.item, .int .i64 m.n, .slice VA Vn Vc, .slice none 0 0] := Blk.new w4 _ _
   obtain ⟨w5, hw5⟩ : ∃ w5, (w4.alloc (.cells #[.int .i64 nid, .int .i64 ((S0.sh : Int) * 4294967296 + (S0.ns : Int)), .int .i64 C.kind, .int .i64 C.tick, .int .i64 C.actor, .int .i64 0, .int .i64 m.dst, .int .i64 m.item, .int .i64 m.n, .slice VA Vn Vc, .slice none 0 0] 236)).drew = w5 := ⟨_, rfl⟩
   have hfn : ∀ b, b = w4.heap.size → ¬ ChF { C with es := es, ts := put C.ts m.item (.int .i64 (S.tot m.item + m.n)) } b := fun b hb hf => Nat.lt_irrefl _ (hb ▸ HC4.out.lt hf)
   obtain ⟨f, hf⟩ : ∃ f, w4.heap.size = f := ⟨_, rfl⟩
   rw [hw5] at hb5 kf5 ⊢
   rw [hf] at kf5 hfn ⊢
   have HC5 := Lib.hid (HC4.out.all hb5)
   have HB5 := Lib.hid (bt HB4.out hb5)
   have HN5 := Lib.hid (HN4.out.then_below hb5)
   have kb5 := KB4.out.all hb5
   have HFN := Lib.hid (hfn f rfl)
   clear hH54 hH53 hHeld hkeep hw5 hf hfn lb4 lc4 ll4 hb5 w_1 w_2 w_3
   have q0 : w5.cell? ⟨b, 0, none⟩ = some (.int .i64 0) := kb5.cell 0
   have g0 : w5.cell? ⟨f, 0, none⟩ = some (.int .i64 nid) := kf5.cell 0
   have g1 : w5.cell? ⟨f, 1, none⟩ = some (.int .i64 ((S0.sh : Int) * 4294967296 + (S0.ns : Int))) := kf5.cell 1
   have g2 : w5.cell? ⟨f, 2, none⟩ = some (.int .i64 C.kind) := kf5.cell 2
   have g3 : w5.cell? ⟨f, 3, none⟩ = some (.int .i64 C.tick) := kf5.cell 3
   have g4 : w5.cell? ⟨f, 4, none⟩ = some (.int .i64 C.actor) := kf5.cell 4
   have g5 : w5.cell? ⟨f, 5, none⟩ = some (.int .i64 0) := kf5.cell 5
   have g6 : w5.cell? ⟨f, 6, none⟩ = some (.int .i64 m.dst) := kf5.cell 6
   have g7 : w5.cell? ⟨f, 7, none⟩ = some (.int .i64 m.item) := kf5.cell 7
   have g8 : w5.cell? ⟨f, 8, none⟩ = some (.int .i64 m.n) := kf5.cell 8
   have g9 : w5.cell? ⟨f, 9, none⟩ = some (.slice VA Vn Vc) := kf5.cell 9
   have g10 : w5.cell? ⟨f, 10, none⟩ = some (.slice none 0 0) := kf5.cell 10
   have c12 : w5.cell? ⟨C.gc, 12, none⟩ = some (slV C.fl) := HC5.out.c.cell 12
   have hbz : Below w5.heap.size w5 (w5.drew.alloc (.cells #[.int .i64 nid, .int .i64 ((S0.sh : Int) * 4294967296 + (S0.ns : Int)), .int .i64 C.kind, .int .i64 C.tick, .int .i64 C.actor, .int .i64 0, .int .i64 m.dst, .int .i64 m.item, .int .i64 m.n, .slice VA Vn Vc, .slice none 0 0] 236)) := (Below.refl _ w5).drew.alloc (Nat.le_refl _) _
   have hcz := HC5.out.all hbz
   have kbz := kb5.all hbz
   have kfz := kf5.all hbz
   obtain ⟨V6, w6, hrun6, hcell6, hfrz6, hc6, hm6, hm6a⟩ := hcz.flow w5.heap.size #[.int .i64 nid, .int .i64 ((S0.sh : Int) * 4294967296 + (S0.ns : Int)), .int .i64 C.kind, .int .i64 C.tick, .int .i64 C.actor, .int .i64 0, .int .i64 m.dst, .int .i64 m.item, .int .i64 m.n, .slice VA Vn Vc, .slice none 0 0] (Blk.new w5.drew _ _) rfl (by simp; exact ⟨rfl, rfl, rfl, rfl, rfl, rfl, rfl, rfl, rfl, rfl, rfl⟩) (by show S1.nf < 1000000; have := HNF1.out; omega) (Nat.le_trans HB5.out.size hbz.size) 92
   obtain ⟨VA6, Vn6, Vc6⟩ := V6
   obtain ⟨w7, hw7⟩ : ∃ w7, w6.setCell ⟨C.gc, 12, none⟩ (.slice VA6 Vn6 Vc6) = w7 := ⟨_, rfl⟩
   change _ = Result.ok (Value.slice VA6 Vn6 Vc6) _ at hrun6
   change ChAt w0.heap.size (w6.setCell ⟨C.gc, 12, none⟩ (.slice VA6 Vn6 Vc6)) _ _ _ _ at hc6
   change Mod _ _ (w6.setCell ⟨C.gc, 12, none⟩ (.slice VA6 Vn6 Vc6)) at hm6
   rw [hw7] at hc6 hm6
   have kb7 := hm6.blk kbz (fun hf => hcz.not_ty hf kbz.ty (by decide) (by decide))
   have kf7 := hm6.blk kfz HFN.out
   have hb7 : Below w0.heap.size w0 w7 := hm6.below (bt HB5.out hbz) (Nat.le_trans HB5.out.size hbz.size) (fun b hb => hcz.low hb)
   have HRUN6 := Lib.hid hrun6
   have HC7 := Lib.hid hc6
   have HB7 := Lib.hid hb7
   have HN7 : Hid (Mod (ChF C) w w7) := Lib.hid ((HN5.out.then_below hbz).trans hm6 (fun b hb => .inl hb))
   have HL7 := Lib.hid (HL.out.all hb7)
   have KB7 := Lib.hid kb7
   have KF7 := Lib.hid kf7
   replace hcell6 : w6.cell? ⟨C.gc, 12, none⟩ = some (slV C.fl) := hcell6
   replace hfrz6 : w6.frozen? ⟨C.gc, 12, none⟩ = false := hfrz6
   have kf6 := hm6a.blk kfz HFN.out
   have lc5 : C.gc < w5.heap.size := HC5.out.c.lt
   have lf5 := kf5.lt
   have hkeep5 : ∀ y, Below w5.heap.size w5 y → (fun y => y.cell? ⟨C.gc, 12, none⟩ = some (slV C.fl) ∧ y.cell? ⟨f, 0, none⟩ = some (.int .i64 nid) ∧ y.cell? ⟨f, 1, none⟩ = some (.int .i64 ((S0.sh : Int) * 4294967296 + (S0.ns : Int))) ∧ y.cell? ⟨f, 2, none⟩ = some (.int .i64 C.kind) ∧ y.cell? ⟨f, 3, none⟩ = some (.int .i64 C.tick) ∧ y.cell? ⟨f, 4, none⟩ = some (.int .i64 C.actor) ∧ y.cell? ⟨f, 5, none⟩ = some (.int .i64 0) ∧ y.cell? ⟨f, 6, none⟩ = some (.int .i64 m.dst) ∧ y.cell? ⟨f, 7, none⟩ = some (.int .i64 m.item) ∧ y.cell? ⟨f, 8, none⟩ = some (.int .i64 m.n) ∧ y.cell? ⟨f, 9, none⟩ = some (.slice VA Vn Vc) ∧ y.cell? ⟨f, 10, none⟩ = some (.slice none 0 0) ∧ y.frozen? ⟨C.gc, 12, none⟩ = false) y := fun y hb => ⟨(hb.cell (p := ⟨C.gc, 12, none⟩) lc5).trans c12, (hb.cell (p := ⟨f, 0, none⟩) lf5).trans g0, (hb.cell (p := ⟨f, 1, none⟩) lf5).trans g1, (hb.cell (p := ⟨f, 2, none⟩) lf5).trans g2, (hb.cell (p := ⟨f, 3, none⟩) lf5).trans g3, (hb.cell (p := ⟨f, 4, none⟩) lf5).trans g4, (hb.cell (p := ⟨f, 5, none⟩) lf5).trans g5, (hb.cell (p := ⟨f, 6, none⟩) lf5).trans g6, (hb.cell (p := ⟨f, 7, none⟩) lf5).trans g7, (hb.cell (p := ⟨f, 8, none⟩) lf5).trans g8, (hb.cell (p := ⟨f, 9, none⟩) lf5).trans g9, (hb.cell (p := ⟨f, 10, none⟩) lf5).trans g10, (HC5.out.all hb).c.frozen 12⟩
   have hS6 : (fun y => y.cell? ⟨C.gc, 12, none⟩ = some (slV C.fl) ∧ y.cell? ⟨f, 0, none⟩ = some (.int .i64 nid) ∧ y.cell? ⟨f, 1, none⟩ = some (.int .i64 ((S0.sh : Int) * 4294967296 + (S0.ns : Int))) ∧ y.cell? ⟨f, 2, none⟩ = some (.int .i64 C.kind) ∧ y.cell? ⟨f, 3, none⟩ = some (.int .i64 C.tick) ∧ y.cell? ⟨f, 4, none⟩ = some (.int .i64 C.actor) ∧ y.cell? ⟨f, 5, none⟩ = some (.int .i64 0) ∧ y.cell? ⟨f, 6, none⟩ = some (.int .i64 m.dst) ∧ y.cell? ⟨f, 7, none⟩ = some (.int .i64 m.item) ∧ y.cell? ⟨f, 8, none⟩ = some (.int .i64 m.n) ∧ y.cell? ⟨f, 9, none⟩ = some (.slice VA Vn Vc) ∧ y.cell? ⟨f, 10, none⟩ = some (.slice none 0 0) ∧ y.frozen? ⟨C.gc, 12, none⟩ = false) w6 := ⟨hcell6, kf6.cell 0, kf6.cell 1, kf6.cell 2, kf6.cell 3, kf6.cell 4, kf6.cell 5, kf6.cell 6, kf6.cell 7, kf6.cell 8, kf6.cell 9, kf6.cell 10, hfrz6⟩
   clear kb5 kf5 kf6 hcz hbz kbz kfz hrun6 hc6 hm6 hm6a hb7 kb7 kf7 hcell6 hfrz6
   go_wp2_with fail
   clear q0 g0 g1 g2 g3 g4 g5 g6 g7 g8 g9 g10 c12
   refine beginG (S := (fun y => y.cell? ⟨C.gc, 12, none⟩ = some (slV C.fl) ∧ y.cell? ⟨f, 0, none⟩ = some (.int .i64 nid) ∧ y.cell? ⟨f, 1, none⟩ = some (.int .i64 ((S0.sh : Int) * 4294967296 + (S0.ns : Int))) ∧ y.cell? ⟨f, 2, none⟩ = some (.int .i64 C.kind) ∧ y.cell? ⟨f, 3, none⟩ = some (.int .i64 C.tick) ∧ y.cell? ⟨f, 4, none⟩ = some (.int .i64 C.actor) ∧ y.cell? ⟨f, 5, none⟩ = some (.int .i64 0) ∧ y.cell? ⟨f, 6, none⟩ = some (.int .i64 m.dst) ∧ y.cell? ⟨f, 7, none⟩ = some (.int .i64 m.item) ∧ y.cell? ⟨f, 8, none⟩ = some (.int .i64 m.n) ∧ y.cell? ⟨f, 9, none⟩ = some (.slice VA Vn Vc) ∧ y.cell? ⟨f, 10, none⟩ = some (.slice none 0 0) ∧ y.frozen? ⟨C.gc, 12, none⟩ = false)) 10 (by kernel_rfl) (hkeep5 _ (Below.refl _ w5).drew) (fun hHeld => ?_)
   refine takeG 0 (some 137) (v := ?_) (by rfl) (by rfl) (by kernel_rfl) (by kernel_rfl) (by decide) (by kernel_rfl) (by kernel_rfl) (fun _ _ _ h => h) ?_ (by assumption) ?_
   rotate_left
   ·(intro o ho w hSw; obtain ⟨z0, z1, z2, z3, z4, z5, z6, z7, z8, z9, z10, z11, z12⟩ := hSw; cases ho; go_simp; try with_reducible rfl)
   try simp only [Act.put, pB, pC, pD]
   refine takeG 1 (some 138) (v := ?_) (by rfl) (by rfl) (by kernel_rfl) (by kernel_rfl) (by decide) (by kernel_rfl) (by kernel_rfl) (fun _ _ _ h => h) ?_ (by assumption) ?_
   rotate_left
   ·(intro o ho w hSw; obtain ⟨z0, z1, z2, z3, z4, z5, z6, z7, z8, z9, z10, z11, z12⟩ := hSw; cases ho; go_simp; try with_reducible rfl)
   try simp only [Act.put, pB, pC, pD]
   refine takeG 2 (some 139) (v := ?_) (by rfl) (by rfl) (by kernel_rfl) (by kernel_rfl) (by decide) (by kernel_rfl) (by kernel_rfl) (fun _ _ _ h => h) ?_ (by assumption) ?_
   rotate_left
   ·(intro o ho w hSw; obtain ⟨z0, z1, z2, z3, z4, z5, z6, z7, z8, z9, z10, z11, z12⟩ := hSw; cases ho; go_simp; try with_reducible rfl)
   try simp only [Act.put, pB, pC, pD]
   refine takeG 3 (some 140) (v := ?_) (by rfl) (by rfl) (by kernel_rfl) (by kernel_rfl) (by decide) (by kernel_rfl) (by kernel_rfl) (fun _ _ _ h => h) ?_ (by assumption) ?_
   rotate_left
   ·(intro o ho w hSw; obtain ⟨z0, z1, z2, z3, z4, z5, z6, z7, z8, z9, z10, z11, z12⟩ := hSw; cases ho; go_simp; try with_reducible rfl)
   try simp only [Act.put, pB, pC, pD]
   refine takeG 4 (some 141) (v := ?_) (by rfl) (by rfl) (by kernel_rfl) (by kernel_rfl) (by decide) (by kernel_rfl) (by kernel_rfl) (fun _ _ _ h => h) ?_ (by assumption) ?_
   rotate_left
   ·(intro o ho w hSw; obtain ⟨z0, z1, z2, z3, z4, z5, z6, z7, z8, z9, z10, z11, z12⟩ := hSw; cases ho; go_simp; try with_reducible rfl)
   try simp only [Act.put, pB, pC, pD]
   refine takeG 5 (some 142) (v := ?_) (by rfl) (by rfl) (by kernel_rfl) (by kernel_rfl) (by decide) (by kernel_rfl) (by kernel_rfl) (fun _ _ _ h => h) ?_ (by assumption) ?_
   rotate_left
   ·(intro o ho w hSw; obtain ⟨z0, z1, z2, z3, z4, z5, z6, z7, z8, z9, z10, z11, z12⟩ := hSw; cases ho; go_simp; try with_reducible rfl)
   try simp only [Act.put, pB, pC, pD]
   refine readyG (i := 6) (by kernel_rfl) rfl (fun K hK => ?_)
   go_simp
   refine hK.out _ _ ?_ (fun hH6 => ?_)
   ·exact hkeep5 _ ((Below.refl _ w5).drew.alloc (Nat.le_refl _) _)
   clear hK K
   try simp only [Act.put, pB, pC, pD]
   refine readyG (i := 7) (by kernel_rfl) rfl (fun K hK => ?_)
   refine step_app (t := 92) HRUN6.out (by kernel_rfl) (by rfl) (by rfl) (by rfl) ?_
   (try simp only [List.getElem_toArray, List.getElem_cons_succ, List.getElem_cons_zero])
   refine hK.out _ _ ?_ (fun hH7 => ?_)
   ·exact hS6
   clear hK K
   (try simp only [Act.put]); (try simp only [pB]); (try simp only [pD]); (try simp only [pC])
   refine takeGD [9, 10] 8 (some 145) (v := ?_) (by rfl) (by rfl) (by kernel_rfl) (by kernel_rfl) (by decide) (by kernel_rfl) (by kernel_rfl) (fun _ _ _ h => h) ?_ (by assumption) ?_
   rotate_left
   ·(intro o ho w hSw; obtain ⟨z0, z1, z2, z3, z4, z5, z6, z7, z8, z9, z10, z11, z12⟩ := hSw; cases ho; go_simp; try with_reducible rfl)
   (try simp only [Act.put]); (try simp only [pB]); (try simp only [pD]); (try simp only [pC])
   refine takeG 9 (some 146) (v := ?_) (by rfl) (by rfl) (by kernel_rfl) (by kernel_rfl) (by decide) (by kernel_rfl) (by kernel_rfl) (fun _ _ _ h => h) ?_ (by assumption) ?_
   rotate_left
   ·(intro o ho w hSw; obtain ⟨z0, z1, z2, z3, z4, z5, z6, z7, z8, z9, z10, z11, z12⟩ := hSw; cases ho; go_simp; try with_reducible rfl)
   (try simp only [Act.put]); (try simp only [pB]); (try simp only [pD]); (try simp only [pC])
   refine lastG (by kernel_rfl) rfl (fun K hK => ?_)
   obtain ⟨z0, z1, z2, z3, z4, z5, z6, z7, z8, z9, z10, z11, z12⟩ := hH7
   go_simp
   refine hK.out _ _ ?_
   clear hK K
   (try simp only [Act.put]); (try simp only [pB]); (try simp only [pD]); (try simp only [pC])
   refine doneG (by kernel_rfl) ?_ _
   clear hH6 hHeld hkeep5 hS6 lc5 lf5 hw7 z0 z1 z2 z3 z4 z5 z6 z7 z8 z9 z10 z11 z12
   have kb7 := KB7.out
   have kf7 := KF7.out
   have q1 : w7.cell? ⟨b, 1, none⟩ = some (.int .i64 m.dst) := kb7.cell 1
   have q2 : w7.cell? ⟨b, 2, none⟩ = some (.int .i64 m.item) := kb7.cell 2
   clear kb7 kf7
   go_wp2_with fail
   clear q1 q2
   refine (stack_any m.dst m.item _ HC7 HL7 hd hi).mono ?_
   rintro e w8 ⟨V8, he, hV8, hb8⟩
   obtain ⟨VB, Vm, Vd⟩ := V8
   replace he : e = .returned (.slice VB Vm Vd) := he
   subst he
   replace hV8 : LotsAt w8 VB Vm Vd (S1.st m.tgt) := hV8
   have HV8 := Lib.hid hV8
   have HLEN : Hid ((S1.st m.tgt).length = Vm) := Lib.hid hV8.1
   have HC8 := Lib.hid (HC7.out.all hb8)
   have HB8 := Lib.hid (bt HB7.out hb8)
   have HN8 := Lib.hid (HN7.out.then_below hb8)
   have HL8 := Lib.hid (HL7.out.all hb8)
   have kb8 := KB7.out.all hb8
   have kf8 := KF7.out.all hb8
   clear hV8 hb8
   rcases Nat.lt_or_ge Vm 4096 with hlt | hge
   ·have hltI : ¬ (4096 ≤ (Vm : Int)) := by omega
    have c8 : w8.cell? ⟨C.gc, 8, none⟩ = some (.map (some C.bS)) := HC8.out.c.cell 8
    have q1 : w8.cell? ⟨b, 1, none⟩ = some (.int .i64 m.dst) := kb8.cell 1
    have q2 : w8.cell? ⟨b, 2, none⟩ = some (.int .i64 m.item) := kb8.cell 2
    have g0 : w8.cell? ⟨f, 0, none⟩ = some (.int .i64 nid) := kf8.cell 0
    have g8 : w8.cell? ⟨f, 8, none⟩ = some (.int .i64 m.n) := kf8.cell 8
    have hidr := HO1.out.id
    have HX : Hid (Lot.ok ⟨nid, 0, m.n⟩) := Lib.hid (by rw [HID.out] at hidr; exact ⟨hidr.1, hidr.2, Int.le_refl _, hn1, by show (0 : Int) + m.n ≤ MaxU; unfold MaxU; omega⟩)
    have HOK8 : Hid (LotsOk (S1.st m.tgt)) := Lib.hid (HO1.out.ok _)
    have LB8 := Lib.hid kb8.lt
    have TB8 := Lib.hid kb8.ty
    have LF8 := Lib.hid kf8.lt
    have TF8 := Lib.hid kf8.ty
    clear kb8 kf8 hidr
    have hnb : ∀ x t, Ty w8 x t → ¬ x = C.bS := fun x t h e => by rw [e] at h; exact HC8.out.s.not_ty h
    have hn1 : ¬ C.gc = C.bS := hnb _ _ HC8.out.c.ty
    have hn2 := hnb _ _ TB8.out
    have hn3 := hnb _ _ TF8.out
    have lc8 : C.gc < w8.heap.size := HC8.out.c.lt
    have hkeep8 : ∀ y, Mod (fun b => b = C.bS) w8 y → (fun y => y.cell? ⟨C.gc, 8, none⟩ = some (.map (some C.bS)) ∧ y.cell? ⟨b, 1, none⟩ = some (.int .i64 m.dst) ∧ y.cell? ⟨b, 2, none⟩ = some (.int .i64 m.item) ∧ y.cell? ⟨f, 0, none⟩ = some (.int .i64 nid) ∧ y.cell? ⟨f, 8, none⟩ = some (.int .i64 m.n)) y := fun y hy => ⟨(hy.cell (p := ⟨C.gc, 8, none⟩) lc8 hn1).trans c8, (hy.cell (p := ⟨b, 1, none⟩) LB8.out hn2).trans q1, (hy.cell (p := ⟨b, 2, none⟩) LB8.out hn2).trans q2, (hy.cell (p := ⟨f, 0, none⟩) LF8.out hn3).trans g0, (hy.cell (p := ⟨f, 8, none⟩) LF8.out hn3).trans g8⟩
    go_wp2_with fail
    clear c8 q1 q2 g0 g8 hnb hn1 hn2 hn3 lc8
    refine wp_region_held_drew (S := (fun y => y.cell? ⟨C.gc, 8, none⟩ = some (.map (some C.bS)) ∧ y.cell? ⟨b, 1, none⟩ = some (.int .i64 m.dst) ∧ y.cell? ⟨b, 2, none⟩ = some (.int .i64 m.item) ∧ y.cell? ⟨f, 0, none⟩ = some (.int .i64 nid) ∧ y.cell? ⟨f, 8, none⟩ = some (.int .i64 m.n))) (by kernel_rfl) (hkeep8 _ (Mod.of_below _ (Below.refl _ w8).drew)) (fun hHeld => ?_)
    refine takeJ 0 (some 170) ?_
    refine takeJ 1 (some 171) ?_
    refine takeJ 2 (some 172) ?_
    refine takeJ 3 (some 173) ?_
    refine takeJ 4 (some 174) ?_
    refine takeJ 5 (some 175) ?_
    refine takeJ 6 (some 176) ?_
    refine takeJ 7 (some 177) ?_
    refine takeJ 8 (some 178) ?_
    refine takeJ 9 (some 179) ?_
    refine takeJ 10 (some 180) ?_
    refine takeJ 11 (some 181) ?_
    refine takeJ 12 (some 182) ?_
    refine takeJ 13 (some 183) ?_
    refine takeJ 14 (some 184) ?_
    refine wpAnyH_ready (rs := [15]) (by kernel_rfl) (by simp) ?_
    refine AllReadyH.cons rfl (fun K hK => ?_) AllReadyH.nil
    go_simp
    go_at_call 158
    (refine (putAll_any VB Vm Vd (S1.st m.tgt) ⟨nid, 0, m.n⟩ _ (Lib.hid (HV8.out.all (Below.refl _ w8).drew)) HOK8 HX (by omega)).mono ?_)
    rintro e w9 ⟨A9, n9, c9, rfl, ho9, hb9⟩
    have hb89 : Below w8.heap.size w8 w9 := ⟨hb9.os, hb9.tape, hb9.output, hb9.size, hb9.block⟩
    have hc9 := HC8.out.all hb89
    obtain ⟨w10, hu10, hc10, hm10⟩ := hc9.lay m.tgt (A9, n9, c9) _ ho9.at_
    have hkey : kEnc m.tgt = .agg #[.int .i64 m.dst, .int .i64 m.item] := kOf_enc hd hi
    rw [hkey] at hu10
    change Sem.run _ (Instr.mapUpdate _ _ _ (.slice A9 n9 c9)) _ = Result.ok () w10 at hu10
    have HC10 := Lib.hid hc10
    have HM9 : Hid (Mod (fun b => b = C.bS) w8 w9) := Lib.hid (Mod.of_below _ hb89)
    have HM10 : Hid (Mod (fun b => b = C.bS) w8 w10) := Lib.hid (HM9.out.trans hm10 (fun b hb => .inl hb))
    have HN10 : Hid (Mod (ChF C) w w10) := Lib.hid (HN8.out.trans HM10.out (fun b hb => .inl (.inr (.inl hb))))
    clear hc10 hm10 hc9 hb89 hb9 ho9 hkey
    go_wp2
    refine hK.out _ _ ?_ (fun hH15 => ?_)
    ·exact (hkeep8 _ HM9.out)
    clear hK K
    try simp only [Act.put, pB, pC, pD]
    refine wpAnyH_ready (rs := [16]) (by kernel_rfl) (by simp) ?_
    refine AllReadyH.cons rfl (fun K hK => ?_) AllReadyH.nil
    go_simp
    refine hK.out _ _ ?_ (fun hH16 => ?_)
    ·exact (hkeep8 _ HM10.out)
    clear hK K
    try simp only [Act.put, pB, pC, pD]
    refine wpAnyH_done (by kernel_rfl) ?_ _
    clear hH16 hH15 hHeld hkeep8
    go_wp2
    go_ret
    unfold MovePost moveP
    rw [HW.out]
    dsimp only
    rw [HTP.out, if_neg (show ¬ MaxU < _ by unfold MaxU; omega), if_neg (by rw [HLEN.out]; omega)]
    have he := HID.out
    subst he
    exact ⟨_, _, _, rfl, HC10.out, HN10.out⟩
   ·have hgeI : (4096 : Int) ≤ (Vm : Int) := by omega
    go_wp2
    go_ret
    unfold MovePost moveP
    rw [HW.out]
    dsimp only
    rw [HTP.out, if_neg (show ¬ MaxU < _ by unfold MaxU; omega), if_pos (by rw [HLEN.out]; omega)]
    exact ⟨rfl, HB8.out⟩
end Go.Proofs.YtlcalajehnaenaaGreatDoor
