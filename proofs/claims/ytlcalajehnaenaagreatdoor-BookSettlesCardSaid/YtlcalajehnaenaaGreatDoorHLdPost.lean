/- ledger: Post, at valid steps. -/
import Derived.Test.YtlcalajehnaenaaGreatDoorHG32
namespace Go.Proofs.YtlcalajehnaenaaGreatDoor
open Go.RowKit
def LedSame (L L' : Led) : Prop := L'.gl = L.gl ∧ L'.lS = L.lS ∧ L'.lT = L.lT ∧ L'.lI = L.lI ∧ L'.lR = L.lR ∧ L'.it = L.it
def PostPost (mx : Int → Bool) (w : World) (L : Led) (S0 : LSt) (ms : List Mv) (tick : Int) (e : Ending) (w' : World) : Prop :=
 match mvsP mx S0 ms with
 | .error er => e = .returned (.tuple #[.int .i64 0, .int .i64 er]) ∧ Below w.heap.size w w'
 | .ok S' => ∃ L', e = .returned (.tuple #[.int .i64 ((S0.sh : Int) * 4294967296 + (S0.ns : Int)), .int .i64 0]) ∧ LedAt mx w' L' { S' with ns := S0.ns + 1, now := tick } ∧ LedSame L L' ∧ Mod (LedF L) w w' ∧ ∀ b, LedF L' b → LedF L b ∨ w.heap.size ≤ b
theorem mvsP_err {mx : Int → Bool} : ∀ (ms : List Mv) {S : LSt} {er : Int}, mvsP mx S ms = .error er → er = 10 ∨ er = 4
 | [], _, _, h => by cases h
 | m :: ms, S, er, h => by
   unfold mvsP at h
   cases hm : moveP mx S m with
   | error e => rw [hm] at h; injection h with h; rw [← h]; exact moveP_err hm
   | ok S1 => rw [hm] at h; exact mvsP_err ms h
theorem ChAt.led {mx : Int → Bool} {w w1 wx wy : World} {L : Led} {S0 S : LSt} {C : Chg} {F : Nat → Prop} (h : ChAt w1.heap.size wx L S0 S C) (m : Mod F wx wy) (hL : LedAt mx w L S0) (h1 : w.heap.size ≤ w1.heap.size) (hF : ∀ b, F b → LedF L b) (hT : ∀ b, F b → ¬ Ty wx b 163) : ChAt w1.heap.size wy L S0 S C :=
 h.mod m (fun b hb => ⟨fun hc => by have h2 := hL.lt (hF b hb); have h3 := h.low hc; omega, hT b hb⟩)
theorem st_start (S0 S' : LSt) : ({ S0 with st := fun k => if (fun _ : LK => true) k = true then S0.st k else S'.st k } : LSt) = S0 := by simp
theorem st_round (S0 S' : LSt) (left : LK → Bool) (k : LK) : ({ S0 with st := fun j => if left j = true then S0.st j else S'.st j } : LSt).put k (S'.st k) = { S0 with st := fun j => if (left j && !(decide (j = k))) = true then S0.st j else S'.st j } := by
 unfold LSt.put
 congr 1
 funext j
 dsimp only
 by_cases hj : j = k
 ·subst hj
  simp
 ·rw [if_neg hj]
  simp [hj]
set_option maxRecDepth 100000 in
set_option maxHeartbeats 16000000 in
theorem postG (mx : Int → Bool) (K : Int) (L : Led) (S0 : LSt) (id kind actor tick : Int) (A : Option Addr) (n c : Nat) (ms : List Mv) (w : World) (HL : Hid (LedAt mx w L S0)) (HO : Hid (LOk mx K S0)) (hlen : ms.length = n) (hok : Hid (∀ m ∈ ms, 1 ≤ m.n ∧ m.n ≤ MaxU)) (hnf : S0.nf + n ≤ 1000000)
 (HT : Hid (∀ w1, Below w.heap.size w w1 → Calls Tryz.prog 28 #[.pointer (some ⟨L.gl, 0, none⟩), stA id kind actor tick (-1) 0 (.slice A n c)] w1 (TryPost mx w1 L S0 ms kind actor tick))) :
 Calls Tryz.prog 7 #[.pointer (some ⟨L.gl, 0, none⟩), stA id kind actor tick (-1) 0 (.slice A n c)] w (PostPost mx w L S0 ms tick) := by
 unfold stA
 have hba := (Below.refl w.heap.size w).alloc (Nat.le_refl _) (.cells #[.int .i64 id, .int .i64 kind, .int .i64 actor, .int .i64 tick, .int .i64 (-1), .int .i64 0, .slice A n c] 43)
 have kb := Blk.new w 43 #[.int .i64 id, .int .i64 kind, .int .i64 actor, .int .i64 tick, .int .i64 (-1), .int .i64 0, .slice A n c]
 obtain ⟨w1, hw1⟩ : ∃ w1, w.alloc (.cells #[.int .i64 id, .int .i64 kind, .int .i64 actor, .int .i64 tick, .int .i64 (-1), .int .i64 0, .slice A n c] 43) = w1 := ⟨_, rfl⟩
 rw [hw1] at hba kb
 have HB1 := Lib.hid hba
 have HL1 := Lib.hid (HL.out.all hba)
 have HT1 := Lib.hid (HT.out w1 hba)
 have s0 : w1.cell? ⟨w.heap.size, 0, none⟩ = some (.int .i64 id) := kb.cell 0
 have s1 : w1.cell? ⟨w.heap.size, 1, none⟩ = some (.int .i64 kind) := kb.cell 1
 have s2 : w1.cell? ⟨w.heap.size, 2, none⟩ = some (.int .i64 actor) := kb.cell 2
 have s3 : w1.cell? ⟨w.heap.size, 3, none⟩ = some (.int .i64 tick) := kb.cell 3
 have s4 : w1.cell? ⟨w.heap.size, 4, none⟩ = some (.int .i64 (-1)) := kb.cell 4
 have s5 : w1.cell? ⟨w.heap.size, 5, none⟩ = some (.int .i64 0) := kb.cell 5
 have s6 : w1.cell? ⟨w.heap.size, 6, none⟩ = some (.slice A n c) := kb.cell 6
 clear hba kb
 go_enter Tryz.func7, Tryz.ntmps7
 go_wp2_with fail
 clear hw1 s0 s1 s2 s3 s4 s5 s6
 refine HT1.out.mono ?_
 intro e w2 h2
 unfold TryPost at h2
 cases hm : mvsP mx S0 ms with
 | error er =>
   rw [hm] at h2
   obtain ⟨rfl, hb2⟩ := h2
   have HB2 := Lib.hid (bt HB1.out hb2)
   have HM := Lib.hid hm
   have her := mvsP_err ms hm
   clear hb2 hm
   rcases her with rfl | rfl
   ·go_wp2
    go_ret2
    unfold PostPost
    rw [HM.out]
    exact ⟨rfl, HB2.out⟩
   ·go_wp2
    go_ret2
    unfold PostPost
    rw [HM.out]
    exact ⟨rfl, HB2.out⟩
 | ok S' =>
   rw [hm] at h2
   obtain ⟨C, rfl, hc, hb2, hk, ha, ht⟩ := h2
   obtain ⟨-, hnf', hsh', hns', hnow'⟩ := mvsP_ok ms HO.out hok.out (by rw [hlen]; exact hnf) hm
   have HM := Lib.hid hm
   have HB2 := Lib.hid (bt HB1.out hb2)
   have HW1 := Lib.hid HB1.out.size
   have c8 : w2.cell? ⟨C.gc, 8, none⟩ = some (.map (some C.bS)) := hc.c.cell 8
   obtain ⟨w3, hrg, hi3, hb3⟩ := hc.s.iter (P := Tryz.prog) Tryz.underlying88
   obtain ⟨r, hr⟩ : ∃ r, w2.heap.size = r := ⟨_, rfl⟩
   rw [hr] at hrg hi3
   have HR := Lib.hid (show w.heap.size ≤ r by rw [← hr]; exact HB2.out.size)
   have HRC := Lib.hid (show ∀ b, ChF C b → b < r from fun b hb => by rw [← hr]; exact hc.lt hb)
   have HI3 := Lib.hid hi3
   have HC3 := Lib.hid (hc.all hb3)
   have HB3 := Lib.hid (bt HB2.out hb3)
   have HL3 : Hid (LedAt mx w3 { L with es := L.es } { S0 with st := fun k => if (fun _ : LK => true) k = true then S0.st k else S'.st k }) := Lib.hid (by rw [st_start]; exact HL.out.all HB3.out)
   have HM3 : Hid (Mod (LedF L) w w3) := Lib.hid (Mod.of_below _ HB3.out)
   have HLF := Lib.hid (show ∀ b, LedF L b → b < w.heap.size from fun b hb => HL.out.lt hb)
   have HN := Lib.hid hc.s.nodup
   have HCT : Hid (C.tick = tick) := Lib.hid ht
   have HNF : Hid (S'.nf = S0.nf + n) := Lib.hid (by rw [hnf', hlen])
   have HSH : Hid (S'.sh = S0.sh) := Lib.hid hsh'
   clear hm hc hb2 hk ha ht hi3 hb3 hr hnf' hsh' hns' hnow' HB2
   go_wp2_with fail
   clear c8
   go_loopw [9] (fun _ wr => ∃ left es', Hid (GIter kEnc wr C.bS r C.es left) ∧ Hid (LedAt mx wr { L with es := es' } { S0 with st := fun k => if left k = true then S0.st k else S'.st k }) ∧ Hid (ChAt w1.heap.size wr L S0 S' C) ∧ Hid (Mod (LedF L) w wr)) (fun _ wr => iterLeft wr C.bS r)
   case atStart => exact ⟨_, _, HI3, HL3, HC3, HM3⟩
   case round =>
    obtain ⟨left, es', HI, HLr, HC, HMr⟩ := hrel
    clear HI3 HL3 HC3 HM3 HB3
    rcases HI.out.next (P := Tryz.prog) (fun h => kEncOk.inj h) with ⟨hno, hnx⟩ | ⟨k, v, w', hkv, hlk, hnx, hen, hI', hg', -, hlt⟩
    ·have hst : ∀ k, (if left k = true then S0.st k else S'.st k) = S'.st k := fun k => by
      split
      ·rename_i hk
       have hnone : glk C.es k = none := glk_none.2 (fun p hp e => by rw [← e, hno p hp] at hk; cases hk)
       obtain ⟨V, hv, hV⟩ := HC.out.st k
       rw [hnone, Option.none_or] at hv
       obtain ⟨V2, hv2, hV2⟩ := (HL.out.st k).mod HMr.out (fun b hb ht => HL.out.not_ty hb ht (by decide) (by decide) (by decide))
       rw [hv] at hv2
       rw [slV_inj hv2] at hV
       exact hV2.inj hV
      ·rfl
     have hle : ({ S0 with st := fun k => if left k = true then S0.st k else S'.st k } : LSt) = { S0 with st := S'.st } := by
      congr 1
      funext k
      exact hst k
     have hl4 := HLr.out
     rw [hle] at hl4
     have HL4 := Lib.hid hl4
     have l6 : wr.cell? ⟨L.gl, 6, none⟩ = some (.map (some L.lT)) := hl4.c.cell 6
     have c9 : wr.cell? ⟨C.gc, 9, none⟩ = some (.map (some C.bT)) := HC.out.c.cell 9
     clear hno hst hle hl4 HI HLr
     go_wp2_with fail
     go_still_tail 8, (by kernel_rfl)
     change wpList _ _ _ _ _ wr.drew
     clear hnx l6 c9
     go_wp2_with fail
     refine (copyT_any L.lT C.bT L.ts C.ts wr.drew (Lib.hid (HL4.out.all (Below.refl _ wr).drew).t) (Lib.hid (HC.out.all (Below.refl _ wr).drew).t) (fun e => by have h1 := HLF.out L.lT (.inr (.inr (.inl rfl))); have h2 := HC.out.lo.2.2.1; have h3 := HW1.out; omega)).mono ?_
     rintro e w5 ⟨rfl, ⟨ts', hts, hlk⟩, hm5⟩
     have hl5 := (HL4.out.all (Below.refl _ wr).drew).setT hm5 ts' hts S'.tot (fun i => by rw [hlk i]; exact HC.out.tt i)
     have hnt : ∀ b t, b = L.lT → ¬ Ty wr.drew b t := fun b t e => by rw [e]; exact HL4.out.t.not_ty
     have hc5 := (HC.out.all (Below.refl _ wr).drew).led hm5 HL.out HW1.out (fun b e => .inr (.inr (.inl e))) (fun b e => hnt b _ e)
     have hm5w : Mod (LedF L) w w5 := HMr.out.drew.trans hm5 (fun b e => .inl (.inr (.inr (.inl e))))
     have HL5 := Lib.hid hl5
     have HC5 := Lib.hid hc5
     have HM5 := Lib.hid hm5w
     have l9 : w5.cell? ⟨L.gl, 9, none⟩ = some (.map (some L.lI)) := hl5.c.cell 9
     have c10 : w5.cell? ⟨C.gc, 10, none⟩ = some (.map (some C.bI)) := hc5.c.cell 10
     clear hts hlk hm5 hl5 hnt hc5 hm5w
     go_wp2_with fail
     go_still_tail 8, (by kernel_rfl)
     change wpList _ _ _ _ _ w5.drew
     clear l9 c10
     go_wp2_with fail
     refine (copyE_any L.lI C.bI w5.drew (Lib.hid (HC5.out.all (Below.refl _ w5).drew).i)).mono ?_
     rintro e w6 ⟨rfl, hb6⟩
     have hb56 : Below w5.heap.size w5 w6 := ⟨hb6.os, hb6.tape, hb6.output, hb6.size, hb6.block⟩
     have HL6 := Lib.hid (HL5.out.all hb56)
     have HC6 := Lib.hid (HC5.out.all hb56)
     have HM6 := Lib.hid (HM5.out.then_below hb56)
     have l10 : w6.cell? ⟨L.gl, 10, none⟩ = some (.map (some L.lR)) := HL6.out.c.cell 10
     have c11 : w6.cell? ⟨C.gc, 11, none⟩ = some (.map (some C.bR)) := HC6.out.c.cell 11
     clear hb6 hb56
     go_wp2_with fail
     go_still_tail 8, (by kernel_rfl)
     change wpList _ _ _ _ _ w6.drew
     clear l10 c11
     go_wp2_with fail
     refine (copyE_any L.lR C.bR w6.drew (Lib.hid (HC6.out.all (Below.refl _ w6).drew).r)).mono ?_
     rintro e w7 ⟨rfl, hb7⟩
     have hb67 : Below w6.heap.size w6 w7 := ⟨hb7.os, hb7.tape, hb7.output, hb7.size, hb7.block⟩
     have HL7 := Lib.hid (HL6.out.all hb67)
     have HC7 := Lib.hid (HC6.out.all hb67)
     have HM7 := Lib.hid (HM6.out.then_below hb67)
     clear hb7 hb67
     obtain ⟨xs, hxs, hx1⟩ := HC7.out.fl
     obtain ⟨V8, w8, hrun8, hcell8, hfrz8, hl8, hm8a, hm8, hV8⟩ := (HL7.out.all (Below.refl _ w7).drew).addF C.fl (S'.nf - S0.nf) w1.heap.size xs (own_keep hxs (Below.refl _ w7).drew) hx1 (by show S0.nf + (S'.nf - S0.nf) < 1000000000; have := HNF.out; omega) 92
     obtain ⟨VA8, Vn8, Vc8⟩ := V8
     change _ = Result.ok (Value.slice VA8 Vn8 Vc8) _ at hrun8
     change LedAt mx (w8.setCell ⟨L.gl, 8, none⟩ (.slice VA8 Vn8 Vc8)) _ _ at hl8
     change Mod _ _ (w8.setCell ⟨L.gl, 8, none⟩ (.slice VA8 Vn8 Vc8)) at hm8
     obtain ⟨w9, hw9⟩ : ∃ w9, w8.setCell ⟨L.gl, 8, none⟩ (.slice VA8 Vn8 Vc8) = w9 := ⟨_, rfl⟩
     rw [hw9] at hl8 hm8
     have hcd := HC7.out.all (Below.refl _ w7).drew
     have hld := HL7.out.all (Below.refl _ w7).drew
     have hownL : ∀ b, (slV L.fl).ownBlock = some b → LedF L b := fun b e => .inr (.inr (.inr (.inr (.inr (.inr e)))))
     have hnF : ∀ b, (slV L.fl).ownBlock = some b → ¬ Ty w7.drew b 163 := fun b e ht => hld.not_ty (.inr (.inr (.inr (.inr (.inr (.inr e)))))) ht (by decide) (by decide) (by decide)
     have hc8 := hcd.led hm8a HL.out HW1.out hownL hnF
     have hc9 := hcd.led hm8 HL.out HW1.out (fun b e => e.elim (hownL b) (fun e => .inl e)) (fun b e => e.elim (hnF b) (fun e ht => absurd (ht.unique (e ▸ hld.c.ty)) (by decide)))
     have hm9w : Mod (LedF L) w w9 := HM7.out.drew.trans hm8 (fun b e => .inl (e.elim (hownL b) (fun e => .inl e)))
     have HRUN8 := Lib.hid hrun8
     have HL9 := Lib.hid hl8
     have HC9 := Lib.hid hc9
     have HM9 := Lib.hid hm9w
     have HV9 := Lib.hid (show ∀ b, (Value.slice VA8 Vn8 Vc8).ownBlock = some b → LedF L b ∨ w.heap.size ≤ b from fun b hb => (hV8 b hb).elim (fun e => .inl e) (fun e => .inr (Nat.le_trans HM7.out.size e)))
     have hS8 : (fun y => y.cell? ⟨L.gl, 8, none⟩ = some (slV L.fl) ∧ y.cell? ⟨C.gc, 12, none⟩ = some (slV C.fl) ∧ y.frozen? ⟨L.gl, 8, none⟩ = false) w8 := ⟨hcell8, hc8.c.cell 12, hfrz8⟩
     have hS7 : (fun y => y.cell? ⟨L.gl, 8, none⟩ = some (slV L.fl) ∧ y.cell? ⟨C.gc, 12, none⟩ = some (slV C.fl) ∧ y.frozen? ⟨L.gl, 8, none⟩ = false) w7.drew := ⟨hld.c.cell 8, hcd.c.cell 12, hld.c.frozen 8⟩
     clear hxs hx1 hrun8 hcell8 hfrz8 hl8 hm8a hm8 hV8 hcd hld hownL hnF hc8 hc9 hm9w
     go_wp2_with fail
     refine beginG (S := (fun y => y.cell? ⟨L.gl, 8, none⟩ = some (slV L.fl) ∧ y.cell? ⟨C.gc, 12, none⟩ = some (slV C.fl) ∧ y.frozen? ⟨L.gl, 8, none⟩ = false)) 12 (by kernel_rfl) hS7 (fun hHeld => ?_)
     refine takeG 0 (some 70) (v := ?_) (by rfl) (by rfl) (by kernel_rfl) (by kernel_rfl) (by decide) (by kernel_rfl) (by kernel_rfl) (fun _ _ _ h => h) ?_ (by assumption) ?_
     rotate_left
     ·(intro o ho w hSw; obtain ⟨z0, z1, z2⟩ := hSw; cases ho; go_simp; try with_reducible rfl)
     try simp only [Act.put, pB, pC, pD]
     refine takeG 1 (some 71) (v := ?_) (by rfl) (by rfl) (by kernel_rfl) (by kernel_rfl) (by decide) (by kernel_rfl) (by kernel_rfl) (fun _ _ _ h => h) ?_ (by assumption) ?_
     rotate_left
     ·(intro o ho w hSw; obtain ⟨z0, z1, z2⟩ := hSw; cases ho; go_simp; try with_reducible rfl)
     try simp only [Act.put, pB, pC, pD]
     refine takeG 2 (some 72) (v := ?_) (by rfl) (by rfl) (by kernel_rfl) (by kernel_rfl) (by decide) (by kernel_rfl) (by kernel_rfl) (fun _ _ _ h => h) ?_ (by assumption) ?_
     rotate_left
     ·(intro o ho w hSw; obtain ⟨z0, z1, z2⟩ := hSw; cases ho; go_simp; try with_reducible rfl)
     try simp only [Act.put, pB, pC, pD]
     refine takeG 3 (some 73) (v := ?_) (by rfl) (by rfl) (by kernel_rfl) (by kernel_rfl) (by decide) (by kernel_rfl) (by kernel_rfl) (fun _ _ _ h => h) ?_ (by assumption) ?_
     rotate_left
     ·(intro o ho w hSw; obtain ⟨z0, z1, z2⟩ := hSw; cases ho; go_simp; try with_reducible rfl)
     try simp only [Act.put, pB, pC, pD]
     refine takeG 4 (some 74) (v := ?_) (by rfl) (by rfl) (by kernel_rfl) (by kernel_rfl) (by decide) (by kernel_rfl) (by kernel_rfl) (fun _ _ _ h => h) ?_ (by assumption) ?_
     rotate_left
     ·(intro o ho w hSw; obtain ⟨z0, z1, z2⟩ := hSw; cases ho; go_simp; try with_reducible rfl)
     try simp only [Act.put, pB, pC, pD]
     refine takeG 5 (some 75) (v := ?_) (by rfl) (by rfl) (by kernel_rfl) (by kernel_rfl) (by decide) (by kernel_rfl) (by kernel_rfl) (fun _ _ _ h => h) ?_ (by assumption) ?_
     rotate_left
     ·(intro o ho w hSw; obtain ⟨z0, z1, z2⟩ := hSw; cases ho; go_simp; try with_reducible rfl)
     try simp only [Act.put, pB, pC, pD]
     refine takeG 6 (some 76) (v := ?_) (by rfl) (by rfl) (by kernel_rfl) (by kernel_rfl) (by decide) (by kernel_rfl) (by kernel_rfl) (fun _ _ _ h => h) ?_ (by assumption) ?_
     rotate_left
     ·(intro o ho w hSw; obtain ⟨z0, z1, z2⟩ := hSw; cases ho; go_simp; try with_reducible rfl)
     try simp only [Act.put, pB, pC, pD]
     refine takeG 7 (some 77) (v := ?_) (by rfl) (by rfl) (by kernel_rfl) (by kernel_rfl) (by decide) (by kernel_rfl) (by kernel_rfl) (fun _ _ _ h => h) ?_ (by assumption) ?_
     rotate_left
     ·(intro o ho w hSw; obtain ⟨z0, z1, z2⟩ := hSw; cases ho; go_simp; try with_reducible rfl)
     try simp only [Act.put, pB, pC, pD]
     refine takeG 8 (some 78) (v := ?_) (by rfl) (by rfl) (by kernel_rfl) (by kernel_rfl) (by decide) (by kernel_rfl) (by kernel_rfl) (fun _ _ _ h => h) ?_ (by assumption) ?_
     rotate_left
     ·(intro o ho w hSw; obtain ⟨z0, z1, z2⟩ := hSw; cases ho; go_simp; try with_reducible rfl)
     try simp only [Act.put, pB, pC, pD]
     refine readyG (i := 9) (by kernel_rfl) rfl (fun K hK => ?_)
     refine step_app (t := 92) HRUN8.out (by kernel_rfl) (by rfl) (by rfl) (by rfl) ?_
     (try simp only [List.getElem_toArray, List.getElem_cons_succ, List.getElem_cons_zero])
     refine hK.out _ _ ?_ (fun hH9 => ?_)
     ·exact hS8
     clear hK K
     (try simp only [Act.put]); (try simp only [pB]); (try simp only [pD]); (try simp only [pC])
     refine takeGD [11, 12] 10 (some 80) (v := ?_) (by rfl) (by rfl) (by kernel_rfl) (by kernel_rfl) (by decide) (by kernel_rfl) (by kernel_rfl) (fun _ _ _ h => h) ?_ (by assumption) ?_
     rotate_left
     ·(intro o ho w hSw; obtain ⟨z0, z1, z2⟩ := hSw; cases ho; go_simp; try with_reducible rfl)
     (try simp only [Act.put]); (try simp only [pB]); (try simp only [pD]); (try simp only [pC])
     refine takeG 11 (some 81) (v := ?_) (by rfl) (by rfl) (by kernel_rfl) (by kernel_rfl) (by decide) (by kernel_rfl) (by kernel_rfl) (fun _ _ _ h => h) ?_ (by assumption) ?_
     rotate_left
     ·(intro o ho w hSw; obtain ⟨z0, z1, z2⟩ := hSw; cases ho; go_simp; try with_reducible rfl)
     (try simp only [Act.put]); (try simp only [pB]); (try simp only [pD]); (try simp only [pC])
     refine lastG (by kernel_rfl) rfl (fun K hK => ?_)
     obtain ⟨z0, z1, z2⟩ := hH9
     go_simp
     refine hK.out _ _ ?_
     clear hK K
     (try simp only [Act.put]); (try simp only [pB]); (try simp only [pD]); (try simp only [pC])
     refine doneG (by kernel_rfl) ?_ _
     clear hHeld hS8 hS7 hw9 z0 z1 z2
     obtain ⟨MA, Mn, Mc, hmv⟩ : ∃ MA Mn Mc, slV C.mv = .slice MA Mn Mc := ⟨_, _, _, rfl⟩
     have hbz : Below w9.heap.size w9 (w9.drew.alloc (.cells #[.int .i64 ((S0.sh : Int) * 4294967296 + (S0.ns : Int)), .int .i64 C.kind, .int .i64 C.actor, .int .i64 C.tick, .int .i64 (-1), .int .i64 0, .slice MA Mn Mc] 43)) := (Below.refl _ w9).drew.alloc (Nat.le_refl _) _
     have hlz := HL9.out.all hbz
     have hcz := HC9.out.all hbz
     obtain ⟨V10, w10, hrun10, hcell10, hfrz10, hl10, hm10a, hm10, hV10⟩ := hlz.addS w9.heap.size #[.int .i64 ((S0.sh : Int) * 4294967296 + (S0.ns : Int)), .int .i64 C.kind, .int .i64 C.actor, .int .i64 C.tick, .int .i64 (-1), .int .i64 0, .slice MA Mn Mc] (Blk.new w9.drew _ _) rfl (by simp; exact ⟨rfl, rfl, rfl, rfl, rfl, rfl, rfl⟩) C.tick rfl (by show S0.ns < 1000000; have := HO.out.ns; omega) 91
     obtain ⟨VA10, Vn10, Vc10⟩ := V10
     change _ = Result.ok (Value.slice VA10 Vn10 Vc10) _ at hrun10
     change LedAt mx (w10.setCell ⟨L.gl, 7, none⟩ (.slice VA10 Vn10 Vc10)) _ _ at hl10
     change Mod _ _ (w10.setCell ⟨L.gl, 7, none⟩ (.slice VA10 Vn10 Vc10)) at hm10
     obtain ⟨w11, hw11⟩ : ∃ w11, w10.setCell ⟨L.gl, 7, none⟩ (.slice VA10 Vn10 Vc10) = w11 := ⟨_, rfl⟩
     rw [hw11] at hl10 hm10
     have hownL : ∀ b, (slV L.sp).ownBlock = some b → LedF L b := fun b e => .inr (.inr (.inr (.inr (.inr (.inl e)))))
     have hnF : ∀ b, (slV L.sp).ownBlock = some b → ¬ Ty (w9.drew.alloc (.cells #[.int .i64 ((S0.sh : Int) * 4294967296 + (S0.ns : Int)), .int .i64 C.kind, .int .i64 C.actor, .int .i64 C.tick, .int .i64 (-1), .int .i64 0, .slice MA Mn Mc] 43)) b 163 := fun b e ht => hlz.not_ty (.inr (.inr (.inr (.inr (.inr (.inl e)))))) ht (by decide) (by decide) (by decide)
     have hc10 := hcz.led hm10a HL.out HW1.out hownL hnF
     have hc11 := hcz.led hm10 HL.out HW1.out (fun b e => e.elim (hownL b) (fun e => .inl e)) (fun b e => e.elim (hnF b) (fun e ht => absurd (ht.unique (e ▸ hlz.c.ty)) (by decide)))
     have hm11w : Mod (LedF L) w w11 := (HM9.out.then_below hbz).trans hm10 (fun b e => .inl (e.elim (hownL b) (fun e => .inl e)))
     have HRUN10 := Lib.hid hrun10
     have HL11 := Lib.hid hl10
     have HM11 := Lib.hid hm11w
     have HV11 := Lib.hid (show ∀ b, (Value.slice VA10 Vn10 Vc10).ownBlock = some b → LedF L b ∨ w.heap.size ≤ b from fun b hb => (hV10 b hb).elim (fun e => by
      rcases e with e | e | e | e | e | e | e
      ·exact .inl (.inl e)
      ·exact .inl (.inr (.inl e))
      ·exact .inl (.inr (.inr (.inl e)))
      ·exact .inl (.inr (.inr (.inr (.inl e))))
      ·exact .inl (.inr (.inr (.inr (.inr (.inl e)))))
      ·exact .inl (.inr (.inr (.inr (.inr (.inr (.inl e))))))
      ·exact HV9.out b e) (fun e => .inr (Nat.le_trans HM9.out.size (Nat.le_trans hbz.size e))))
     have hcell : ∀ (y : World), ChAt w1.heap.size y L S0 S' C → y.cell? ⟨C.gc, 1, none⟩ = some (.int .i64 ((S0.sh : Int) * 4294967296 + (S0.ns : Int))) ∧ y.cell? ⟨C.gc, 2, none⟩ = some (.int .i64 C.kind) ∧ y.cell? ⟨C.gc, 3, none⟩ = some (.int .i64 C.actor) ∧ y.cell? ⟨C.gc, 4, none⟩ = some (.int .i64 C.tick) ∧ y.cell? ⟨C.gc, 5, none⟩ = some (.int .i64 (-1)) ∧ y.cell? ⟨C.gc, 6, none⟩ = some (.int .i64 0) ∧ y.cell? ⟨C.gc, 7, none⟩ = some (.slice MA Mn Mc) := fun y hy => ⟨hy.c.cell 1, hy.c.cell 2, hy.c.cell 3, hy.c.cell 4, hy.c.cell 5, hy.c.cell 6, by rw [← hmv]; exact hy.c.cell 7⟩
     have hSof : ∀ (y : World), y.cell? ⟨L.gl, 7, none⟩ = some (slV L.sp) → y.frozen? ⟨L.gl, 7, none⟩ = false → ChAt w1.heap.size y L S0 S' C → (fun y => y.cell? ⟨L.gl, 7, none⟩ = some (slV L.sp) ∧ y.cell? ⟨C.gc, 1, none⟩ = some (.int .i64 ((S0.sh : Int) * 4294967296 + (S0.ns : Int))) ∧ y.cell? ⟨C.gc, 2, none⟩ = some (.int .i64 C.kind) ∧ y.cell? ⟨C.gc, 3, none⟩ = some (.int .i64 C.actor) ∧ y.cell? ⟨C.gc, 4, none⟩ = some (.int .i64 C.tick) ∧ y.cell? ⟨C.gc, 5, none⟩ = some (.int .i64 (-1)) ∧ y.cell? ⟨C.gc, 6, none⟩ = some (.int .i64 0) ∧ y.cell? ⟨C.gc, 7, none⟩ = some (.slice MA Mn Mc) ∧ y.frozen? ⟨L.gl, 7, none⟩ = false) y := fun y h1 h2 hy => by
      obtain ⟨a1, a2, a3, a4, a5, a6, a7⟩ := hcell y hy
      exact ⟨h1, a1, a2, a3, a4, a5, a6, a7, h2⟩
     have hl9d := HL9.out.all (Below.refl _ w9).drew
     have hS9 := hSof w9.drew (hl9d.c.cell 7) (hl9d.c.frozen 7) (HC9.out.all (Below.refl _ w9).drew)
     have hSz := hSof _ (hlz.c.cell 7) (hlz.c.frozen 7) hcz
     have hS10 := hSof w10 hcell10 hfrz10 hc10
     have c1 : w11.cell? ⟨C.gc, 1, none⟩ = some (.int .i64 ((S0.sh : Int) * 4294967296 + (S0.ns : Int))) := hc11.c.cell 1
     clear hmv hbz hlz hcz hrun10 hcell10 hfrz10 hl10 hm10a hm10 hV10 hownL hnF hc10 hc11 hm11w hcell hSof hl9d
     go_wp2_with fail
     refine beginG (S := (fun y => y.cell? ⟨L.gl, 7, none⟩ = some (slV L.sp) ∧ y.cell? ⟨C.gc, 1, none⟩ = some (.int .i64 ((S0.sh : Int) * 4294967296 + (S0.ns : Int))) ∧ y.cell? ⟨C.gc, 2, none⟩ = some (.int .i64 C.kind) ∧ y.cell? ⟨C.gc, 3, none⟩ = some (.int .i64 C.actor) ∧ y.cell? ⟨C.gc, 4, none⟩ = some (.int .i64 C.tick) ∧ y.cell? ⟨C.gc, 5, none⟩ = some (.int .i64 (-1)) ∧ y.cell? ⟨C.gc, 6, none⟩ = some (.int .i64 0) ∧ y.cell? ⟨C.gc, 7, none⟩ = some (.slice MA Mn Mc) ∧ y.frozen? ⟨L.gl, 7, none⟩ = false)) 13 (by kernel_rfl) hS9 (fun hHeld => ?_)
     refine takeG 0 (some 82) (v := ?_) (by rfl) (by rfl) (by kernel_rfl) (by kernel_rfl) (by decide) (by kernel_rfl) (by kernel_rfl) (fun _ _ _ h => h) ?_ (by assumption) ?_
     rotate_left
     ·(intro o ho w hSw; obtain ⟨z0, z1, z2, z3, z4, z5, z6, z7, z8⟩ := hSw; cases ho; go_simp; try with_reducible rfl)
     try simp only [Act.put, pB, pC, pD]
     refine takeG 1 (some 83) (v := ?_) (by rfl) (by rfl) (by kernel_rfl) (by kernel_rfl) (by decide) (by kernel_rfl) (by kernel_rfl) (fun _ _ _ h => h) ?_ (by assumption) ?_
     rotate_left
     ·(intro o ho w hSw; obtain ⟨z0, z1, z2, z3, z4, z5, z6, z7, z8⟩ := hSw; cases ho; go_simp; try with_reducible rfl)
     try simp only [Act.put, pB, pC, pD]
     refine takeG 2 (some 84) (v := ?_) (by rfl) (by rfl) (by kernel_rfl) (by kernel_rfl) (by decide) (by kernel_rfl) (by kernel_rfl) (fun _ _ _ h => h) ?_ (by assumption) ?_
     rotate_left
     ·(intro o ho w hSw; obtain ⟨z0, z1, z2, z3, z4, z5, z6, z7, z8⟩ := hSw; cases ho; go_simp; try with_reducible rfl)
     try simp only [Act.put, pB, pC, pD]
     refine takeG 3 (some 85) (v := ?_) (by rfl) (by rfl) (by kernel_rfl) (by kernel_rfl) (by decide) (by kernel_rfl) (by kernel_rfl) (fun _ _ _ h => h) ?_ (by assumption) ?_
     rotate_left
     ·(intro o ho w hSw; obtain ⟨z0, z1, z2, z3, z4, z5, z6, z7, z8⟩ := hSw; cases ho; go_simp; try with_reducible rfl)
     try simp only [Act.put, pB, pC, pD]
     refine takeG 4 (some 86) (v := ?_) (by rfl) (by rfl) (by kernel_rfl) (by kernel_rfl) (by decide) (by kernel_rfl) (by kernel_rfl) (fun _ _ _ h => h) ?_ (by assumption) ?_
     rotate_left
     ·(intro o ho w hSw; obtain ⟨z0, z1, z2, z3, z4, z5, z6, z7, z8⟩ := hSw; cases ho; go_simp; try with_reducible rfl)
     try simp only [Act.put, pB, pC, pD]
     refine takeG 5 (some 87) (v := ?_) (by rfl) (by rfl) (by kernel_rfl) (by kernel_rfl) (by decide) (by kernel_rfl) (by kernel_rfl) (fun _ _ _ h => h) ?_ (by assumption) ?_
     rotate_left
     ·(intro o ho w hSw; obtain ⟨z0, z1, z2, z3, z4, z5, z6, z7, z8⟩ := hSw; cases ho; go_simp; try with_reducible rfl)
     try simp only [Act.put, pB, pC, pD]
     refine takeG 6 (some 88) (v := ?_) (by rfl) (by rfl) (by kernel_rfl) (by kernel_rfl) (by decide) (by kernel_rfl) (by kernel_rfl) (fun _ _ _ h => h) ?_ (by assumption) ?_
     rotate_left
     ·(intro o ho w hSw; obtain ⟨z0, z1, z2, z3, z4, z5, z6, z7, z8⟩ := hSw; cases ho; go_simp; try with_reducible rfl)
     try simp only [Act.put, pB, pC, pD]
     refine takeG 7 (some 89) (v := ?_) (by rfl) (by rfl) (by kernel_rfl) (by kernel_rfl) (by decide) (by kernel_rfl) (by kernel_rfl) (fun _ _ _ h => h) ?_ (by assumption) ?_
     rotate_left
     ·(intro o ho w hSw; obtain ⟨z0, z1, z2, z3, z4, z5, z6, z7, z8⟩ := hSw; cases ho; go_simp; try with_reducible rfl)
     try simp only [Act.put, pB, pC, pD]
     refine takeG 8 (some 90) (v := ?_) (by rfl) (by rfl) (by kernel_rfl) (by kernel_rfl) (by decide) (by kernel_rfl) (by kernel_rfl) (fun _ _ _ h => h) ?_ (by assumption) ?_
     rotate_left
     ·(intro o ho w hSw; obtain ⟨z0, z1, z2, z3, z4, z5, z6, z7, z8⟩ := hSw; cases ho; go_simp; try with_reducible rfl)
     try simp only [Act.put, pB, pC, pD]
     refine readyG (i := 9) (by kernel_rfl) rfl (fun K hK => ?_)
     go_simp
     refine hK.out _ _ ?_ (fun hH9 => ?_)
     ·exact hSz
     clear hK K
     try simp only [Act.put, pB, pC, pD]
     refine readyG (i := 10) (by kernel_rfl) rfl (fun K hK => ?_)
     refine step_app (t := 91) HRUN10.out (by kernel_rfl) (by rfl) (by rfl) (by rfl) ?_
     (try simp only [List.getElem_toArray, List.getElem_cons_succ, List.getElem_cons_zero])
     refine hK.out _ _ ?_ (fun hH10 => ?_)
     ·exact hS10
     clear hK K
     (try simp only [Act.put]); (try simp only [pB]); (try simp only [pD]); (try simp only [pC])
     refine takeGD [12, 13] 11 (some 93) (v := ?_) (by rfl) (by rfl) (by kernel_rfl) (by kernel_rfl) (by decide) (by kernel_rfl) (by kernel_rfl) (fun _ _ _ h => h) ?_ (by assumption) ?_
     rotate_left
     ·(intro o ho w hSw; obtain ⟨z0, z1, z2, z3, z4, z5, z6, z7, z8⟩ := hSw; cases ho; go_simp; try with_reducible rfl)
     (try simp only [Act.put]); (try simp only [pB]); (try simp only [pD]); (try simp only [pC])
     refine takeG 12 (some 94) (v := ?_) (by rfl) (by rfl) (by kernel_rfl) (by kernel_rfl) (by decide) (by kernel_rfl) (by kernel_rfl) (fun _ _ _ h => h) ?_ (by assumption) ?_
     rotate_left
     ·(intro o ho w hSw; obtain ⟨z0, z1, z2, z3, z4, z5, z6, z7, z8⟩ := hSw; cases ho; go_simp; try with_reducible rfl)
     (try simp only [Act.put]); (try simp only [pB]); (try simp only [pD]); (try simp only [pC])
     refine lastG (by kernel_rfl) rfl (fun K hK => ?_)
     obtain ⟨z0, z1, z2, z3, z4, z5, z6, z7, z8⟩ := hH10
     go_simp
     refine hK.out _ _ ?_
     clear hK K
     (try simp only [Act.put]); (try simp only [pB]); (try simp only [pD]); (try simp only [pC])
     refine doneG (by kernel_rfl) ?_ _
     clear hHeld hH9 hSz hS9 hS10 hw11 z0 z1 z2 z3 z4 z5 z6 z7 z8
     go_wp2
     go_ret2
     unfold PostPost
     rw [HM.out]
     refine ⟨{ L with es := es', ts := ts', fl := (VA8, Vn8, Vc8), sp := (VA10, Vn10, Vc10) }, rfl, ?_, ?_, HM11.out, ?_⟩
     ·have hl := HL11.out
      rw [HCT.out] at hl
      have hnf2 : S0.nf + (S'.nf - S0.nf) = S'.nf := by have := HNF.out; omega
      have hS : ({ S' with ns := S0.ns + 1, now := tick } : LSt) = ⟨S'.st, S'.tot, S0.sh, S0.ns + 1, S0.nf + (S'.nf - S0.nf), tick⟩ := by rw [hnf2, ← HSH.out]
      rw [hS]
      exact hl
     ·exact ⟨rfl, rfl, rfl, rfl, rfl, rfl⟩
     ·rintro b (e | e | e | e | e | e | e)
      ·exact .inl (.inl e)
      ·exact .inl (.inr (.inl e))
      ·exact .inl (.inr (.inr (.inl e)))
      ·exact .inl (.inr (.inr (.inr (.inl e))))
      ·exact .inl (.inr (.inr (.inr (.inr (.inl e)))))
      ·exact HV11.out b e
      ·exact HV9.out b e
    ·obtain ⟨V, hv, hV⟩ := HC.out.st k
     rw [glk_of_mem HN.out hkv] at hv
     simp only [Option.some_or, Option.getD_some] at hv
     obtain ⟨VA, Vn, Vc⟩ := V
     replace hv : v = .slice VA Vn Vc := hv
     subst hv
     have m1 : Mod (fun b => b = r) wr w' := Mod.of_grown hg' (fun b e => .inl (by injection e with e; exact e.symm))
     have hb2 := (Below.refl w'.heap.size w').alloc (Nat.le_refl _) (.cells #[.int .i64 (k.1.1 : Int), .int .i64 (k.2.1 : Int)] 108)
     have kk := Blk.new w' 108 #[.int .i64 (k.1.1 : Int), .int .i64 (k.2.1 : Int)]
     obtain ⟨wk, hwk⟩ : ∃ wk, w'.alloc (.cells #[.int .i64 (k.1.1 : Int), .int .i64 (k.2.1 : Int)] 108) = wk := ⟨_, rfl⟩
     rw [hwk] at hb2 kk
     have hrr : ∀ b, LedF L b → ¬ b = r := fun b hb e => by have := HLF.out b hb; have := HR.out; omega
     have hiter : ∀ t, ¬ Ty wr r t := fun t ht => by
      obtain ⟨l, cl, sn, -, -, -, -, -, h6, -⟩ := HI.out
      obtain ⟨_, _, h7⟩ := ht
      rw [h6] at h7
      cases h7
     have m2 : Mod (fun b => b = r) wr wk := m1.then_below hb2
     have hlk2 := HLr.out.mod m2 (fun b e => ⟨fun hb => hrr b hb e, by rw [e]; exact hiter _, by rw [e]; exact hiter _⟩)
     have hck := HC.out.mod m2 (fun b e => ⟨fun hb => by have := HRC.out b hb; omega, by rw [e]; exact hiter _⟩)
     have hmk : Mod (LedF L) w wk := HMr.out.trans m2 (fun b e => .inr (by have := HR.out; omega))
     have hik := hI'.mod (F := fun _ => False) (Mod.of_below _ hb2) (fun h => h) (fun h => h)
     have l5 : wk.cell? ⟨L.gl, 5, none⟩ = some (.map (some L.lS)) := hlk2.c.cell 5
     have q0 : wk.cell? ⟨w'.heap.size, 0, none⟩ = some (.int .i64 (k.1.1 : Int)) := kk.cell 0
     have q1 : wk.cell? ⟨w'.heap.size, 1, none⟩ = some (.int .i64 (k.2.1 : Int)) := kk.cell 1
     replace hnx : ∀ ty, (Instr.next (.pointer (some ⟨r, 0, none⟩)) false ty).run Tryz.prog wr = .ok (.tuple #[.bool true, .agg #[.int .i64 (k.1.1 : Int), .int .i64 (k.2.1 : Int)], .slice VA Vn Vc]) w' := hnx
     replace hen : (Instr.entry (.pointer (some ⟨r, 0, none⟩))).run Tryz.prog w' = .ok (.tuple #[.agg #[.int .i64 (k.1.1 : Int), .int .i64 (k.2.1 : Int)], .slice VA Vn Vc]) w' := hen
     have hVk : LotsAt wk VA Vn Vc (S'.st k) := hV.mod m2 (fun b e => by rw [e]; exact hiter _)
     have HLK := Lib.hid hlk2
     have HCK := Lib.hid hck
     have HMK := Lib.hid hmk
     have HIK := Lib.hid hik
     have HVK := Lib.hid hVk
     have HLT : Hid (iterLeft wk C.bS r < iterLeft wr C.bS r) := Lib.hid (by
      have e : iterLeft wk C.bS r = iterLeft w' C.bS r := by
       unfold iterLeft
       rw [hb2.block _ hI'.lt.1, hb2.block _ hI'.lt.2]
      rw [e]
      exact hlt)
     clear hkv hlk hI' hg' hlt hV m1 m2 hb2 kk hlk2 hck hmk hik hVk hrr hiter
     rcases Nat.eq_zero_or_pos Vn with h0 | h0
     ·subst h0
      have hnil : S'.st k = [] := List.eq_nil_of_length_eq_zero HVK.out.1
      obtain ⟨w5, hup, hl5, hm5⟩ := (HLK.out.all (Below.refl _ wk).drew).delS k 0
      change Sem.run _ (Builtin.delete_ _ _ #[_, .agg #[.int .i64 (k.1.1 : Int), .int .i64 (k.2.1 : Int)]]) _ = _ at hup
      have HL5 : Hid (LedAt mx w5 _ { S0 with st := fun j => if (left j && !(decide (j = k))) = true then S0.st j else S'.st j }) := Lib.hid (by rw [← st_round, hnil]; exact hl5)
      have hnt : ∀ b t, b = L.lS → ¬ Ty wk.drew b t := fun b t e => by rw [e]; exact HLK.out.s.not_ty
      have HC5 := Lib.hid ((HCK.out.all (Below.refl _ wk).drew).led hm5 HL.out HW1.out (fun b e => .inr (.inl e)) (fun b e => hnt b _ e))
      have hlS := HLF.out L.lS (.inr (.inl rfl))
      have hbS := HCK.out.lo.2.1
      have hRr := HR.out
      have hWr := HW1.out
      have hd0 := HIK.out.mod (F := fun _ => False) (Mod.of_below _ (Below.refl _ wk).drew) (fun h => h) (fun h => h)
      have HI5 := Lib.hid (hd0.mod hm5 (by show ¬ C.bS = L.lS; omega) (by show ¬ r = L.lS; omega))
      have HM5 : Hid (Mod (LedF L) w w5) := Lib.hid (HMK.out.drew.trans hm5 (fun b e => .inl (.inr (.inl e))))
      have HLT5 : Hid (iterLeft w5 C.bS r < iterLeft wr C.bS r) := Lib.hid (by
       have e : iterLeft w5 C.bS r = iterLeft wk C.bS r := by
        have h1 := hm5.block C.bS hd0.lt.1 (by show ¬ C.bS = L.lS; omega)
        have h2 := hm5.block r hd0.lt.2 (by show ¬ r = L.lS; omega)
        unfold iterLeft
        rw [h1, h2]
        rfl
       rw [e]
       exact HLT.out)
      clear hl5 hm5 hnt hlS hbS hRr hWr hd0
      go_wp2_with fail
      go_still_tail 5, (by kernel_rfl)
      change wpList _ _ _ _ _ wk.drew
      clear hnx hen hwk l5 q0 q1
      go_wp2_with fail
      exact ⟨⟨_, _, HI5, HL5, HC5, HM5⟩, HLT5.out⟩
     ·have hpI : ¬ (Vn : Int) = 0 := by omega
      obtain ⟨w5, hup, hl5, hm5⟩ := (HLK.out.all (Below.refl _ wk).drew).putS k (VA, Vn, Vc) (S'.st k) (HVK.out.all (Below.refl _ wk).drew) (by intro e; have := HVK.out.1; rw [e] at this; simp at this; omega)
      change Sem.run _ (Instr.mapUpdate _ _ (.agg #[.int .i64 (k.1.1 : Int), .int .i64 (k.2.1 : Int)]) (.slice VA Vn Vc)) _ = _ at hup
      have HL5 : Hid (LedAt mx w5 _ { S0 with st := fun j => if (left j && !(decide (j = k))) = true then S0.st j else S'.st j }) := Lib.hid (by rw [← st_round]; exact hl5)
      have hnt : ∀ b t, b = L.lS → ¬ Ty wk.drew b t := fun b t e => by rw [e]; exact HLK.out.s.not_ty
      have HC5 := Lib.hid ((HCK.out.all (Below.refl _ wk).drew).led hm5 HL.out HW1.out (fun b e => .inr (.inl e)) (fun b e => hnt b _ e))
      have hlS := HLF.out L.lS (.inr (.inl rfl))
      have hbS := HCK.out.lo.2.1
      have hRr := HR.out
      have hWr := HW1.out
      have hd0 := HIK.out.mod (F := fun _ => False) (Mod.of_below _ (Below.refl _ wk).drew) (fun h => h) (fun h => h)
      have HI5 := Lib.hid (hd0.mod hm5 (by show ¬ C.bS = L.lS; omega) (by show ¬ r = L.lS; omega))
      have HM5 : Hid (Mod (LedF L) w w5) := Lib.hid (HMK.out.drew.trans hm5 (fun b e => .inl (.inr (.inl e))))
      have HLT5 : Hid (iterLeft w5 C.bS r < iterLeft wr C.bS r) := Lib.hid (by
       have e : iterLeft w5 C.bS r = iterLeft wk C.bS r := by
        have h1 := hm5.block C.bS hd0.lt.1 (by show ¬ C.bS = L.lS; omega)
        have h2 := hm5.block r hd0.lt.2 (by show ¬ r = L.lS; omega)
        unfold iterLeft
        rw [h1, h2]
        rfl
       rw [e]
       exact HLT.out)
      clear hl5 hm5 hnt hlS hbS hRr hWr hd0
      go_wp2_with fail
      go_still_tail 6, (by kernel_rfl)
      change wpList _ _ _ _ _ wk.drew
      clear hnx hen hwk l5 q0 q1
      go_wp2_with fail
      exact ⟨⟨_, _, HI5, HL5, HC5, HM5⟩, HLT5.out⟩
end Go.Proofs.YtlcalajehnaenaaGreatDoor
