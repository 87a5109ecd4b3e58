/- ledger: withdraw and take, of moves without parts. -/
import Derived.Test.YtlcalajehnaenaaGreatDoorHLdStk
import Derived.Test.YtlcalajehnaenaaGreatDoorHLdFit
import Derived.StillTailTactics
namespace Go.Proofs.YtlcalajehnaenaaGreatDoor
open Go.RowKit
theorem ChAt.lay {B : Nat} {w : World} {L : Led} {S0 S : LSt} {C : Chg} (h : ChAt B w L S0 S C) (k : LK) (V : Sl) (ls : List Lot) (hV : LotsAt w V.1 V.2.1 V.2.2 ls) :
 ∃ w', (Instr.mapUpdate 88 (.map (some C.bS)) (kEnc k) (slV V)).run Tryz.prog w = .ok () w' ∧ ChAt B w' L S0 (S.put k ls) { C with es := gput C.es k (slV V) } ∧ Mod (fun b => b = C.bS) w w' := by
 obtain ⟨w', hrun, hs, hg, -⟩ := h.s.store kEncOk Tryz.underlying88 k (slV V)
 have m : Mod (fun b => b = C.bS) w w' := Mod.of_grown hg (fun g e => .inl (Option.some.inj e).symm)
 have hty : ∀ (b : Nat) (t : TypeId), b = C.bS → ¬ Ty w b t := fun b t e => by rw [e]; exact h.s.not_ty
 obtain ⟨d1, d2, d3, d4, d5, d6⟩ := h.dm
 obtain ⟨xs, hx, hx1⟩ := h.fl
 refine ⟨w', hrun, ⟨m.blk h.c (fun e => hty _ _ e h.c.ty), hs, h.t.mod m (fun e => d1 e.symm), h.i.mod m (fun e => d2 e.symm), h.r.mod m (fun e => d3 e.symm), fun k' => ?_, h.tt,
  ⟨xs, m.own hx (fun g hg e => hty _ _ e (Ty.of_own hx hg)), hx1⟩, h.nf, h.sh, h.lo, h.dm⟩, m⟩
 rw [glk_put]
 by_cases hk : k' = k
 ·rw [if_pos hk]
  refine ⟨V, rfl, ?_⟩
  have : (S.put k ls).st k' = ls := if_pos hk
  rw [this]
  exact hV.mod m (fun b e => hty b _ e)
 ·rw [if_neg hk]
  have : (S.put k ls).st k' = S.st k' := if_neg hk
  rw [this]
  exact (h.st k').mod m (fun b e => hty b _ e)
theorem ChAt.layT {B : Nat} {w : World} {L : Led} {S0 S : LSt} {C : Chg} (h : ChAt B w L S0 S C) (i t : Int) :
 ∃ w', (Instr.mapUpdate 89 (.map (some C.bT)) (.int .i64 i) (.int .i64 t)).run Tryz.prog w = .ok () w' ∧ ChAt B w' L S0 { S with tot := fun j => if j = i then t else S.tot j } { C with ts := put C.ts i (.int .i64 t) } ∧ Mod (fun b => b = C.bT) w w' := by
 obtain ⟨w', hrun, hs, hg, -⟩ := h.t.store Tryz.underlying89 Tryz.underlying3 i (.int .i64 t)
 have m : Mod (fun b => b = C.bT) w w' := Mod.of_grown hg (fun g e => .inl (Option.some.inj e).symm)
 have hty : ∀ (b : Nat) (t : TypeId), b = C.bT → ¬ Ty w b t := fun b t e => by rw [e]; exact h.t.not_ty
 obtain ⟨d1, d2, d3, d4, d5, d6⟩ := h.dm
 obtain ⟨xs, hx, hx1⟩ := h.fl
 refine ⟨w', hrun, ⟨m.blk h.c (fun e => hty _ _ e h.c.ty), h.s.mod m d1, hs, h.i.mod m (fun e => d4 e.symm), h.r.mod m (fun e => d5 e.symm), fun k' => (h.st k').mod m (fun b e => hty b _ e), fun j => ?_,
  ⟨xs, m.own hx (fun g hg e => hty _ _ e (Ty.of_own hx hg)), hx1⟩, h.nf, h.sh, h.lo, h.dm⟩, m⟩
 dsimp only
 rw [lookup_put]
 by_cases hj : j = i
 ·rw [if_pos hj, if_pos hj]
  rfl
 ·rw [if_neg hj, if_neg hj]
  exact h.tt j
set_option maxRecDepth 100000 in
set_option maxHeartbeats 4000000 in
theorem withdraw_ok {mx : Int → Bool} {K : Int} {B : Nat} {L : Led} {S0 S : LSt} {C : Chg} (m : Mv) (w : World) (HC : Hid (ChAt B w L S0 S C)) (HL : Hid (LedAt mx w L S0)) (HO : Hid (LOk mx K S)) (HM : Hid (MvOk L.it.2.1 m)) (hf : 1 ≤ m.frm) (hge : Hid (m.n ≤ totL (S.st m.src))) (hK : K ≤ 1073741824) (hgl : L.it.2.1 ≤ 64) :
 Calls Tryz.prog 189 #[.pointer (some ⟨C.gc, 0, none⟩), mvA m] w fun e w' => ∃ (V : Sl) (es : List (LK × Value)), e = .returned (.tuple #[slV V, .int .i64 0]) ∧ ChAt B w' L S0 (S.put m.src (divL [] [] (S.st m.src) (cntM (mx m.item) (S.st m.src) m.n)).2) { C with es := es } ∧ Mod (ChF C) w w' := by
 obtain ⟨i0, i1, hn1, hn2, f0, f1, d0, d1, hne⟩ := HM.out
 have ha : 0 ≤ m.frm ∧ m.frm < 2147483648 := by omega
 have hi : 0 ≤ m.item ∧ m.item < 2147483648 := by omega
 obtain ⟨k, hk⟩ : ∃ k : Nat, m.item = (k : Int) := ⟨m.item.toNat, by omega⟩
 have hkn : k < L.it.2.1 := by omega
 have HK := Lib.hid (HO.out.ok m.src)
 have hlen : (S.st m.src).length ≤ 4096 := HO.out.len m.src
 have HSM : Hid (mx (k : Int) = true → totL (S.st m.src) ≤ 1073741824) := Lib.hid (fun h => by
  have h1 : ((m.src).2.1 : Int) = (k : Int) := by show ((m.item.toNat % 2147483648 : Nat) : Int) = _; omega
  exact Int.le_trans (HO.out.mix m.src (by rw [h1]; exact h)) hK)
 have hsrc : kOf m.frm (k : Int) = m.src := by rw [← hk]; rfl
 unfold mvA
 rw [hk] at hi ⊢
 have ci := HL.out.it.cell hkn
 have lgc := HC.out.c.lt
 have lgl := HL.out.c.lt
 go_enter Tryz.func189, Tryz.ntmps189
 go_wp2_with fail
 obtain ⟨M, hM⟩ : ∃ M : Array Value, M = #[.int .i64 m.frm, .int .i64 m.dst, .int .i64 (k : Int), .int .i64 m.n, .slice none 0 0] := ⟨_, rfl⟩
 rw [← hM]
 have hb0 := (Below.refl w.heap.size w).alloc (Nat.le_refl _) (.cells M 40)
 have k0 := Blk.new w 40 M
 obtain ⟨w0, hw0⟩ : ∃ w0, w.alloc (.cells M 40) = w0 := ⟨_, rfl⟩
 rw [hw0] at hb0 k0 ⊢
 obtain ⟨b, hb⟩ : ∃ b, w.heap.size = b := ⟨_, rfl⟩
 rw [hb] at k0 ⊢
 have HC0 := Lib.hid (HC.out.all hb0)
 have HL0 := Lib.hid (HL.out.all hb0)
 rw [hM] at k0
 have q0 : w0.cell? ⟨b, 0, none⟩ = some (.int .i64 m.frm) := k0.cell 0
 have q2 : w0.cell? ⟨b, 2, none⟩ = some (.int .i64 (k : Int)) := k0.cell 2
 go_wp2_with fail
 refine (stack_any m.frm (k : Int) _ HC0 HL0 ha hi).mono ?_
 rintro e w1 ⟨V, rfl, hV, hb1⟩
 rw [hsrc] at hV
 have k1 := k0.all hb1
 have HC1 := Lib.hid (HC0.out.all hb1)
 have HL1 := Lib.hid (HL0.out.all hb1)
 have hb01 := bt hb0 hb1
 have r0 : w1.cell? ⟨b, 0, none⟩ = some (.int .i64 m.frm) := k1.cell 0
 have r2 : w1.cell? ⟨b, 2, none⟩ = some (.int .i64 (k : Int)) := k1.cell 2
 have r4 : w1.cell? ⟨b, 4, none⟩ = some (.slice none 0 0) := k1.cell 4
 have hb2 := (Below.refl w1.heap.size w1).alloc (Nat.le_refl _) (.cells #[.int .i64 m.frm, .int .i64 (k : Int)] 108)
 have kk := Blk.new w1 108 #[.int .i64 m.frm, .int .i64 (k : Int)]
 obtain ⟨w2, hw2⟩ : ∃ w2, w1.alloc (.cells #[.int .i64 m.frm, .int .i64 (k : Int)] 108) = w2 := ⟨_, rfl⟩
 obtain ⟨bk, hbk⟩ : ∃ bk, w1.heap.size = bk := ⟨_, rfl⟩
 rw [hw2] at hb2 kk
 rw [hbk] at kk
 have k2 := k1.all hb2
 have kl := kk.lt
 have HC2 := Lib.hid (HC1.out.all hb2)
 have HL2 := Lib.hid (HL1.out.all hb2)
 have hb02 := bt hb01 hb2
 have q24 : w2.cell? ⟨b, 4, none⟩ = some (.slice none 0 0) := k2.cell 4
 obtain ⟨bi, off, hit, lbi, cmx⟩ := HL2.out.it.cell hkn
 have c1 : w2.cell? ⟨L.gl, 1, none⟩ = some (slV L.it) := HL2.out.c.cell 1
 obtain ⟨Ai, ni, ci, hsl⟩ : ∃ A n c, L.it = (A, n, c) := ⟨_, _, _, rfl⟩
 rw [hsl] at hit c1 hkn i1
 dsimp only at hit hkn i1
 subst hit
 replace c1 : w2.cell? ⟨L.gl, 1, none⟩ = some (.slice (some ⟨bi, off, none⟩) ni ci) := c1
 have lb := k2.lt
 have lgc2 := HC2.out.c.lt
 have lgl2 := HL2.out.c.lt
 have hS : (fun y => LotsAt y V.1 V.2.1 V.2.2 (S.st m.src) ∧ y.cell? ⟨b, 2, none⟩ = some (.int .i64 (k : Int)) ∧ y.cell? ⟨b, 3, none⟩ = some (.int .i64 m.n) ∧ y.cell? ⟨C.gc, 0, none⟩ = some (.pointer (some ⟨L.gl, 0, none⟩)) ∧ y.cell? ⟨L.gl, 1, none⟩ = some (.slice (some ⟨bi, off, none⟩) ni ci) ∧ y.cell? ⟨bi, off + k * 7 + 2, none⟩ = some (.bool (mx (k : Int)))) w2 := ⟨hV.all hb2, k2.cell 2, k2.cell 3, HC2.out.c.cell 0, c1, cmx⟩
 have hkI : (k : Int) < (ni : Int) := by omega
 have hk0 : (0 : Int) ≤ (k : Int) := by omega
 have HBK := Lib.hid kk
 have HB2 := Lib.hid hb02
 have HSL := Lib.hid hsl
 clear hsl k0 q0 q2 k1 hb1 hb0 hb01 hb02 hb2 kk c1 cmx hV hM hw0 lgc lgl k2
 go_wp2_with fail
 clear hw2 hbk r0 r2 r4 hb
 refine wp_region_held_drew (S := (fun y => LotsAt y V.1 V.2.1 V.2.2 (S.st m.src) ∧ y.cell? ⟨b, 2, none⟩ = some (.int .i64 (k : Int)) ∧ y.cell? ⟨b, 3, none⟩ = some (.int .i64 m.n) ∧ y.cell? ⟨C.gc, 0, none⟩ = some (.pointer (some ⟨L.gl, 0, none⟩)) ∧ y.cell? ⟨L.gl, 1, none⟩ = some (.slice (some ⟨bi, off, none⟩) ni ci) ∧ y.cell? ⟨bi, off + k * 7 + 2, none⟩ = some (.bool (mx (k : Int))))) (by kernel_rfl) ⟨hS.1.all (Below.refl _ _).drew, hS.2⟩ (fun hHeld => ?_)
 refine takeJ 0 (some 27) ?_
 refine takeJ 1 (some 28) ?_
 refine takeJ 2 (some 29) ?_
 refine takeJ 3 (some 30) ?_
 refine takeJ 4 (some 31) ?_
 refine takeJ 5 (some 32) ?_
 refine takeJ 6 (some 33) ?_
 refine takeJ 7 (some 34) ?_
 refine takeJ 8 (some 35) ?_
 refine takeJ 9 (some 36) ?_
 refine takeJ 10 (some 37) ?_
 refine takeJ 11 (some 38) ?_
 refine takeJ 12 (some 39) ?_
 refine takeJ 13 (some 40) ?_
 refine takeJ 14 (some 41) ?_
 refine takeJ 15 (some 42) ?_
 refine wpAnyH_ready (rs := [16]) (by kernel_rfl) (by simp) ?_
 refine AllReadyH.cons rfl (fun K hK => ?_) AllReadyH.nil
 go_simp
 go_at_call 211
 (refine (take_any (mx (k : Int)) _ _ _ _ m.n _ (Lib.hid hHeld.1) HK (by rw [← hHeld.1.1]; exact hlen) hn1 hn2 HSM).mono ?_)
 rintro e w3 (⟨hlt, -, -⟩ | ⟨-, V1, V2, rfl, o1, o2, hb3⟩)
 ·exact absurd hlt (by have := hge.out; omega)
 go_wp2
 refine hK.out _ _ ?_ (fun hH16 => ?_)
 ·exact ⟨hHeld.1.all hb3, (hb3.cell (p := ⟨b, 2, none⟩) lb).trans hHeld.2.1, (hb3.cell (p := ⟨b, 3, none⟩) lb).trans hHeld.2.2.1, (hb3.cell (p := ⟨C.gc, 0, none⟩) lgc2).trans hHeld.2.2.2.1, (hb3.cell (p := ⟨L.gl, 1, none⟩) lgl2).trans hHeld.2.2.2.2.1, (hb3.cell (p := ⟨bi, off + k * 7 + 2, none⟩) lbi).trans hHeld.2.2.2.2.2⟩
 clear hK K
 try simp only [Act.put, pB, pC, pD]
 refine takeJ 17 (some 26) ?_
 refine takeJ 18 (some 44) ?_
 refine takeJ 19 (some 45) ?_
 refine takeJ 20 (some 46) ?_
 refine takeJ 21 (some 8) ?_
 refine takeJ 22 (some 9) ?_
 refine takeJ 23 (some 10) ?_
 refine wpAnyH_done (by kernel_rfl) ?_ _
 have HB3 : Hid (Below w.heap.size w w3) := Lib.hid (bt (below_drewN HB2.out 1) hb3)
 have HC3 := Lib.hid ((HC2.out.all (below_drewN (Below.refl _ _) 1)).all hb3)
 have kk3 : Blk w3 bk 108 #[.int .i64 m.frm, .int .i64 (k : Int)] := Blk.all (w := w2.drew) HBK.out hb3
 obtain ⟨w4, hw4, hc4, hm4⟩ := (HC3.out.all (Below.refl _ w3).drew).lay m.src V2 _ (o2.at_.all (Below.refl _ w3).drew)
 rw [← hsrc, kOf_enc ha hi] at hw4
 have HC4 := Lib.hid hc4
 have HB4 : Hid (Mod (ChF C) w w4) := Lib.hid ((Mod.of_below (ChF C) HB3.out).drew.trans hm4 (fun b hb => .inl (.inr (.inl hb))))
 have p8 : w3.cell? ⟨C.gc, 8, none⟩ = some (.map (some C.bS)) := HC3.out.c.cell 8
 have p0 : w3.cell? ⟨bk, 0, none⟩ = some (.int .i64 m.frm) := kk3.cell 0
 have p1 : w3.cell? ⟨bk, 1, none⟩ = some (.int .i64 (k : Int)) := kk3.cell 1
 clear hH16 hHeld hS hb3 hc4 hm4 kk3 o1 o2
 go_wp2
 go_still_tail 6, (by kernel_rfl)
 change wpList _ _ _ _ _ w3.drew
 go_wp2
 go_ret2
 exact ⟨V1, _, rfl, HC4.out, HB4.out⟩
set_option maxRecDepth 100000 in
set_option maxHeartbeats 4000000 in
theorem withdraw_short {mx : Int → Bool} {K : Int} {B : Nat} {L : Led} {S0 S : LSt} {C : Chg} (m : Mv) (w : World) (HC : Hid (ChAt B w L S0 S C)) (HL : Hid (LedAt mx w L S0)) (HO : Hid (LOk mx K S)) (HM : Hid (MvOk L.it.2.1 m)) (hf : 1 ≤ m.frm) (hge : Hid (totL (S.st m.src) < m.n)) (hK : K ≤ 1073741824) (hgl : L.it.2.1 ≤ 64) :
 Calls Tryz.prog 189 #[.pointer (some ⟨C.gc, 0, none⟩), mvA m] w fun e w' => e = .returned (.tuple #[.slice none 0 0, .int .i64 10]) ∧ Below w.heap.size w w' := by
 obtain ⟨i0, i1, hn1, hn2, f0, f1, d0, d1, hne⟩ := HM.out
 have ha : 0 ≤ m.frm ∧ m.frm < 2147483648 := by omega
 have hi : 0 ≤ m.item ∧ m.item < 2147483648 := by omega
 obtain ⟨k, hk⟩ : ∃ k : Nat, m.item = (k : Int) := ⟨m.item.toNat, by omega⟩
 have hkn : k < L.it.2.1 := by omega
 have HK := Lib.hid (HO.out.ok m.src)
 have hlen : (S.st m.src).length ≤ 4096 := HO.out.len m.src
 have HSM : Hid (mx (k : Int) = true → totL (S.st m.src) ≤ 1073741824) := Lib.hid (fun h => by
  have h1 : ((m.src).2.1 : Int) = (k : Int) := by show ((m.item.toNat % 2147483648 : Nat) : Int) = _; omega
  exact Int.le_trans (HO.out.mix m.src (by rw [h1]; exact h)) hK)
 have hsrc : kOf m.frm (k : Int) = m.src := by rw [← hk]; rfl
 unfold mvA
 rw [hk] at hi ⊢
 have ci := HL.out.it.cell hkn
 have lgc := HC.out.c.lt
 have lgl := HL.out.c.lt
 go_enter Tryz.func189, Tryz.ntmps189
 go_wp2_with fail
 obtain ⟨M, hM⟩ : ∃ M : Array Value, M = #[.int .i64 m.frm, .int .i64 m.dst, .int .i64 (k : Int), .int .i64 m.n, .slice none 0 0] := ⟨_, rfl⟩
 rw [← hM]
 have hb0 := (Below.refl w.heap.size w).alloc (Nat.le_refl _) (.cells M 40)
 have k0 := Blk.new w 40 M
 obtain ⟨w0, hw0⟩ : ∃ w0, w.alloc (.cells M 40) = w0 := ⟨_, rfl⟩
 rw [hw0] at hb0 k0 ⊢
 obtain ⟨b, hb⟩ : ∃ b, w.heap.size = b := ⟨_, rfl⟩
 rw [hb] at k0 ⊢
 have HC0 := Lib.hid (HC.out.all hb0)
 have HL0 := Lib.hid (HL.out.all hb0)
 rw [hM] at k0
 have q0 : w0.cell? ⟨b, 0, none⟩ = some (.int .i64 m.frm) := k0.cell 0
 have q2 : w0.cell? ⟨b, 2, none⟩ = some (.int .i64 (k : Int)) := k0.cell 2
 go_wp2_with fail
 refine (stack_any m.frm (k : Int) _ HC0 HL0 ha hi).mono ?_
 rintro e w1 ⟨V, rfl, hV, hb1⟩
 rw [hsrc] at hV
 have k1 := k0.all hb1
 have HC1 := Lib.hid (HC0.out.all hb1)
 have HL1 := Lib.hid (HL0.out.all hb1)
 have hb01 := bt hb0 hb1
 have r0 : w1.cell? ⟨b, 0, none⟩ = some (.int .i64 m.frm) := k1.cell 0
 have r2 : w1.cell? ⟨b, 2, none⟩ = some (.int .i64 (k : Int)) := k1.cell 2
 have r4 : w1.cell? ⟨b, 4, none⟩ = some (.slice none 0 0) := k1.cell 4
 have hb2 := (Below.refl w1.heap.size w1).alloc (Nat.le_refl _) (.cells #[.int .i64 m.frm, .int .i64 (k : Int)] 108)
 have kk := Blk.new w1 108 #[.int .i64 m.frm, .int .i64 (k : Int)]
 obtain ⟨w2, hw2⟩ : ∃ w2, w1.alloc (.cells #[.int .i64 m.frm, .int .i64 (k : Int)] 108) = w2 := ⟨_, rfl⟩
 obtain ⟨bk, hbk⟩ : ∃ bk, w1.heap.size = bk := ⟨_, rfl⟩
 rw [hw2] at hb2 kk
 rw [hbk] at kk
 have k2 := k1.all hb2
 have kl := kk.lt
 have HC2 := Lib.hid (HC1.out.all hb2)
 have HL2 := Lib.hid (HL1.out.all hb2)
 have hb02 := bt hb01 hb2
 have q24 : w2.cell? ⟨b, 4, none⟩ = some (.slice none 0 0) := k2.cell 4
 obtain ⟨bi, off, hit, lbi, cmx⟩ := HL2.out.it.cell hkn
 have c1 : w2.cell? ⟨L.gl, 1, none⟩ = some (slV L.it) := HL2.out.c.cell 1
 obtain ⟨Ai, ni, ci, hsl⟩ : ∃ A n c, L.it = (A, n, c) := ⟨_, _, _, rfl⟩
 rw [hsl] at hit c1 hkn i1
 dsimp only at hit hkn i1
 subst hit
 replace c1 : w2.cell? ⟨L.gl, 1, none⟩ = some (.slice (some ⟨bi, off, none⟩) ni ci) := c1
 have lb := k2.lt
 have lgc2 := HC2.out.c.lt
 have lgl2 := HL2.out.c.lt
 have hS : (fun y => LotsAt y V.1 V.2.1 V.2.2 (S.st m.src) ∧ y.cell? ⟨b, 2, none⟩ = some (.int .i64 (k : Int)) ∧ y.cell? ⟨b, 3, none⟩ = some (.int .i64 m.n) ∧ y.cell? ⟨C.gc, 0, none⟩ = some (.pointer (some ⟨L.gl, 0, none⟩)) ∧ y.cell? ⟨L.gl, 1, none⟩ = some (.slice (some ⟨bi, off, none⟩) ni ci) ∧ y.cell? ⟨bi, off + k * 7 + 2, none⟩ = some (.bool (mx (k : Int)))) w2 := ⟨hV.all hb2, k2.cell 2, k2.cell 3, HC2.out.c.cell 0, c1, cmx⟩
 have hkI : (k : Int) < (ni : Int) := by omega
 have hk0 : (0 : Int) ≤ (k : Int) := by omega
 have HBK := Lib.hid kk
 have HB2 := Lib.hid hb02
 have HSL := Lib.hid hsl
 clear hsl k0 q0 q2 k1 hb1 hb0 hb01 hb02 hb2 kk c1 cmx hV hM hw0 lgc lgl k2
 go_wp2_with fail
 clear hw2 hbk r0 r2 r4 hb
 refine wp_region_held_drew (S := (fun y => LotsAt y V.1 V.2.1 V.2.2 (S.st m.src) ∧ y.cell? ⟨b, 2, none⟩ = some (.int .i64 (k : Int)) ∧ y.cell? ⟨b, 3, none⟩ = some (.int .i64 m.n) ∧ y.cell? ⟨C.gc, 0, none⟩ = some (.pointer (some ⟨L.gl, 0, none⟩)) ∧ y.cell? ⟨L.gl, 1, none⟩ = some (.slice (some ⟨bi, off, none⟩) ni ci) ∧ y.cell? ⟨bi, off + k * 7 + 2, none⟩ = some (.bool (mx (k : Int))))) (by kernel_rfl) ⟨hS.1.all (Below.refl _ _).drew, hS.2⟩ (fun hHeld => ?_)
 refine takeJ 0 (some 27) ?_
 refine takeJ 1 (some 28) ?_
 refine takeJ 2 (some 29) ?_
 refine takeJ 3 (some 30) ?_
 refine takeJ 4 (some 31) ?_
 refine takeJ 5 (some 32) ?_
 refine takeJ 6 (some 33) ?_
 refine takeJ 7 (some 34) ?_
 refine takeJ 8 (some 35) ?_
 refine takeJ 9 (some 36) ?_
 refine takeJ 10 (some 37) ?_
 refine takeJ 11 (some 38) ?_
 refine takeJ 12 (some 39) ?_
 refine takeJ 13 (some 40) ?_
 refine takeJ 14 (some 41) ?_
 refine takeJ 15 (some 42) ?_
 refine wpAnyH_ready (rs := [16]) (by kernel_rfl) (by simp) ?_
 refine AllReadyH.cons rfl (fun K hK => ?_) AllReadyH.nil
 go_simp
 go_at_call 211
 (refine (take_any (mx (k : Int)) _ _ _ _ m.n _ (Lib.hid hHeld.1) HK (by rw [← hHeld.1.1]; exact hlen) hn1 hn2 HSM).mono ?_)
 rintro e w3 (⟨-, rfl, hb3⟩ | ⟨hlt, -⟩)
 rotate_left
 ·exact absurd hlt (by have := hge.out; omega)
 go_wp2
 refine hK.out _ _ ?_ (fun hH16 => ?_)
 ·exact ⟨hHeld.1.all hb3, (hb3.cell (p := ⟨b, 2, none⟩) lb).trans hHeld.2.1, (hb3.cell (p := ⟨b, 3, none⟩) lb).trans hHeld.2.2.1, (hb3.cell (p := ⟨C.gc, 0, none⟩) lgc2).trans hHeld.2.2.2.1, (hb3.cell (p := ⟨L.gl, 1, none⟩) lgl2).trans hHeld.2.2.2.2.1, (hb3.cell (p := ⟨bi, off + k * 7 + 2, none⟩) lbi).trans hHeld.2.2.2.2.2⟩
 clear hK K
 try simp only [Act.put, pB, pC, pD]
 refine takeJ 17 (some 26) ?_
 refine takeJ 18 (some 44) ?_
 refine takeJ 19 (some 45) ?_
 refine takeJ 20 (some 46) ?_
 refine takeJ 21 (some 8) ?_
 refine takeJ 22 (some 9) ?_
 refine takeJ 23 (some 10) ?_
 refine wpAnyH_done (by kernel_rfl) ?_ _
 have HB3 : Hid (Below w.heap.size w w3) := Lib.hid (bt (below_drewN HB2.out 1) hb3)
 clear hH16 hHeld hS hb3
 go_wp2
 go_ret2
 exact ⟨rfl, HB3.out⟩
end Go.Proofs.YtlcalajehnaenaaGreatDoor
