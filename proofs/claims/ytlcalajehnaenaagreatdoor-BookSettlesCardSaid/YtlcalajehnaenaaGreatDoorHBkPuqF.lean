/- book: Place of an order to sell. -/
import Derived.Test.YtlcalajehnaenaaGreatDoorHG26
namespace Go.Proofs.YtlcalajehnaenaaGreatDoor
open Go.RowKit
set_option maxRecDepth 100000 in
set_option maxHeartbeats 20000000 in
theorem place_false (gb B : Nat) (V : BkV) (b : BkS) (acc price n : Int) (w : World) (HK : Hid (BkAt w B gb V b)) (hlt : b.os.length < 100000) (h1 : 1 ≤ acc) (h2 : acc ≤ 1073741824) (hp : inR price = true) (hn : inR n = true) (hd : price ≤ (1099511627776 : Int).tdiv n) (h : b.bs.length + b.ss.length < 4096) :
 Calls Tryz.prog 9 #[.pointer (some ⟨gb, 0, none⟩), .int .i64 acc, .bool false, .int .i64 price, .int .i64 n] w (PlacePost gb B V b acc false price n w) := by
 obtain ⟨A1, n1, c1, hV1⟩ : ∃ A n c, V.b = (A, n, c) := ⟨_, _, _, rfl⟩
 obtain ⟨A2, n2, c2, hV2⟩ : ∃ A n c, V.s = (A, n, c) := ⟨_, _, _, rfl⟩
 have hl1 : b.bs.length = n1 := by have := HK.out.bs.len; rw [hV1] at this; exact this
 have hl2 : b.ss.length = n2 := by have := HK.out.ss.len; rw [hV2] at this; exact this
 have h4 : (n1 : Int) + (n2 : Int) < 4096 := by omega
 have hw : IntKind.i64.wrap ((n1 : Int) + (n2 : Int)) = (n1 : Int) + (n2 : Int) := IntWalk.i64_in _ (by omega)
 have hwB : decide (4096 ≤ (n1 : Int) + (n2 : Int)) = false := decide_eq_false (Int.not_le.2 h4)
 have hn' := hn
 unfold inR at hn'
 rw [Bool.and_eq_true, decide_eq_true_eq, decide_eq_true_eq] at hn'
 have hn0 : ¬ n = 0 := by omega
 have hq0 : 0 ≤ (1099511627776 : Int).tdiv n := Int.tdiv_nonneg (by omega) (by omega)
 have hq1 : (1099511627776 : Int).tdiv n ≤ 1099511627776 := by rw [Int.tdiv_eq_ediv_of_nonneg (by omega)]; exact Int.ediv_le_self _ (by omega)
 have hd2 : ¬ (1099511627776 : Int).tdiv n < price := by omega
 have hcp := fun w => inr_any price w
 have hcn := fun w => inr_any n w
 simp only [hp] at hcp
 simp only [hn] at hcn
 have hnn0 : 0 ≤ n := by omega
 have hnn1 : n ≤ 1099511627776 := by omega
 have HS5 : Hid (∀ w', Below w.heap.size w w' → (fun w' => w'.cell? ⟨gb, 1, none⟩ = some (.slice A1 n1 c1) ∧ w'.cell? ⟨gb, 3, none⟩ = some (.slice A2 n2 c2)) w') := Lib.hid (fun w' hb => by
  have q := HK.out.blk.all hb
  have u1 := q.cell 1
  have u3 := q.cell 3
  simp only [List.getElem?_toArray, List.getElem?_cons_zero, List.getElem?_cons_succ] at u1 u3
  unfold slV at u1 u3
  rw [hV1] at u1
  rw [hV2] at u3
  exact ⟨u1, u3⟩)
 obtain ⟨nn, hnn⟩ : ∃ nn, b.os.length = nn := ⟨_, rfl⟩
 have HNN := Lib.hid hnn
 have HSO : Hid (w.cell? ⟨gb, 0, none⟩ = some (.slice V.oA nn V.oc)) := Lib.hid (by
  rw [HK.out.blk.cell 0, ← hnn]
  rfl)
 have HE0 : Hid (placeErr b acc price n = 0) := Lib.hid (by unfold placeErr; rw [if_neg (by omega), if_neg (by rw [hp, hn]; simp; omega), if_neg (by omega)])
 have HLT : Hid (∀ q, BkF gb V nn q → q < w.heap.size) := Lib.hid (fun q hq => (HK.out.lt (by rw [hnn]; exact hq)).2)
 have HNL : Hid (nn < 100000) := Lib.hid (by rw [← hnn]; exact hlt)
 have hz0 := HSO.out
 clear h hl1 hl2 hV1 hV2 hn' hnn hlt
 go_enter Tryz.func9, Tryz.ntmps9
 go_wp2_with (go_at_call 32; ((first | (with_reducible refine (hcp _).mono ?_) | (with_reducible refine (hcn _).mono ?_)); rintro e w1 ⟨rfl, rfl⟩))
 refine wp_region_held_drew (S := (fun w' => w'.cell? ⟨gb, 1, none⟩ = some (.slice A1 n1 c1) ∧ w'.cell? ⟨gb, 3, none⟩ = some (.slice A2 n2 c2))) (by kernel_rfl) (HS5.out _ (below_drewN (Below.refl _ _) 1)) (fun hHeld => ?_)
 refine takeJ 0 (some 41) ?_
 refine takeJ 1 (some 42) ?_
 refine takeJ 2 (some 43) ?_
 refine takeJ 3 (some 44) ?_
 refine takeJ 4 (some 45) ?_
 refine takeJ 5 (some 46) ?_
 refine takeJ 6 (some 47) ?_
 refine takeJ 7 (some 48) ?_
 refine takeJ 8 (some 49) ?_
 refine takeJ 9 (some 50) ?_
 refine takeJ 10 (some 51) ?_
 refine takeJ 11 (some 52) ?_
 refine takeJ 12 (some 53) ?_
 refine takeJ 13 (some 54) ?_
 refine takeJ 14 (some 55) ?_
 refine takeJ 15 (some 56) ?_
 refine takeJ 16 (some 40) ?_
 refine wpAnyH_done (by kernel_rfl) ?_ _
 go_wp2
 clear hcp hcn hp hn hq0 hq1 hd2 hn0 hw hwB h4 HS5 hd
 try clear hHeld
 go_quiet ((go_at_call 33; exact (side_true _).mono (fun e w'' h => ⟨h.1, _, h.2.symm⟩)))
 obtain ⟨W, hW⟩ : ∃ W, W = ((w.alloc (.cells #[.int .i64 (nn : Int), .int .i64 acc, .bool false, .int .i64 price, .int .i64 n, .int .i64 n] 55)).drew.drewN nq) := ⟨_, rfl⟩
 rw [← hW]
 obtain ⟨o0, ho0⟩ : ∃ o0 : Ord, o0 = ⟨(nn : Int), acc, false, price, n, n⟩ := ⟨_, rfl⟩
 have HO0 := Lib.hid ho0
 have hbW : Below w.heap.size w W := by rw [hW]; exact below_drewN (below_drewN ((Below.refl _ _).alloc (Nat.le_refl _) _) 1) nq
 have k13 : Blk W w.heap.size 55 #[.int .i64 (nn : Int), .int .i64 acc, .bool false, .int .i64 price, .int .i64 n, .int .i64 n] := by rw [hW]; exact blk_drewN nq (blk_drew (Blk.new w _ _))
 obtain ⟨g13, hg13⟩ : ∃ g13, w.heap.size = g13 := ⟨_, rfl⟩
 rw [hg13] at k13 ⊢
 have HPR0 : Hid (PR gb B V nn w g13 b o0 [] none 0 0 V W) := Lib.hid ⟨(HK.out.all hbW).raw, by rw [ho0]; exact k13, World.ownsRow_nil _ _ _ 4, rfl, Mod.of_below _ hbW, by rw [HNN.out]; exact fun q h => h, ⟨rfl, rfl⟩, by omega, HLT.out⟩
 have HPM0 : Hid (PM b true o0 b o0 []) := Lib.hid (PM.start HK.out.ok true o0 (by rw [ho0]; exact hnn0))
 clear hW hbW k13 ho0 hg13 hz0 HSO
 go_wp2
 go_loopg [15] ((b.side true).length + (if 0 < o0.left then 1 else 0)) (fun gk lv wr => PLoop gb B V nn w g13 b true o0 gk lv wr)
 case atStart => exact PLoop.mk HPM0.out HPR0.out
 case round =>
  clear HPR0 HPM0
  obtain ⟨c, o, ts, A, m, cc, V', rfl, HPM, HPR, HGK⟩ := hrel
  obtain ⟨y0, y1, y2, y3, y4, y5, fy⟩ := HPR.out.y
  obtain ⟨v0, v1, fv⟩ := HPR.out.z_true
  obtain ⟨As, ns, cs, hVs⟩ : ∃ As ns cs, V'.b = (As, ns, cs) := ⟨_, _, _, rfl⟩
  rw [hVs] at v1
  dsimp only at v1
  have hcl : c.os.length = nn := HPM.out.len.trans HNN.out
  rw [hcl] at v0
  have HCL := Lib.hid hcl
  have hIs : IRow wr B (As, ns, cs) (c.side true) := by have := HPR.out.bk.bs; rw [hVs] at this; exact this
  have HIS := Lib.hid hIs
  have hlen : (c.side true).length = ns := hIs.len
  have HVS := Lib.hid hVs
  have hlk := HPM.out.like
  have hoacc : o.acc = acc := hlk.2.1.trans (by rw [HO0.out])
  have hobuy : o.buy = false := hlk.2.2.1.trans (by rw [HO0.out])
  have HOB := Lib.hid hobuy
  have HOA := Lib.hid hoacc
  obtain ⟨oa, hoa⟩ : ∃ oa, V'.oA = oa := ⟨_, rfl⟩
  obtain ⟨oc, hoc⟩ : ∃ oc, V'.oc = oc := ⟨_, rfl⟩
  rw [hoa, hoc] at v0
  replace hoa := Lib.hid hoa
  replace hoc := Lib.hid hoc
  clear hVs hcl hIs hlk hoacc hobuy
  rcases Int.lt_or_le 0 o.left with hlf | hlf
  ·rcases hs : c.side true with _ | ⟨id, t⟩
   ·rw [hs] at hlen
    obtain rfl : 0 = ns := hlen
    have HST : Hid (Stops c true o) := Lib.hid (.inr (.inl hs))
    clear hs
    go_wp2
    have hPx := (show Below wr.heap.size wr wr.drew from below_drewN (Below.refl _ _) 1)
    have HS22 : Hid (∀ w', Below wr.heap.size wr w' → (fun w' => w'.cell? ⟨gb, 0, none⟩ = some (.slice oa nn oc) ∧ w'.cell? ⟨g13, 0, none⟩ = some (.int .i64 o.id) ∧ w'.cell? ⟨g13, 1, none⟩ = some (.int .i64 o.acc) ∧ w'.cell? ⟨g13, 2, none⟩ = some (.bool o.buy) ∧ w'.cell? ⟨g13, 3, none⟩ = some (.int .i64 o.price) ∧ w'.cell? ⟨g13, 4, none⟩ = some (.int .i64 o.n) ∧ w'.cell? ⟨g13, 5, none⟩ = some (.int .i64 o.left) ∧ w'.frozen? ⟨gb, 0, none⟩ = false) w') := Lib.hid (fun w' hb => by
     have q := HPR.out.below hb
     have y := q.y
     have z := q.z_true
     rw [hoa.out, hoc.out, HCL.out] at z
     exact ⟨z.1, y.1, y.2.1, y.2.2.1, y.2.2.2.1, y.2.2.2.2.1, y.2.2.2.2.2.1, q.bk.blk.frozen 0⟩)
    have HAPP : Hid (∀ w', Below wr.heap.size wr w' → ∃ A' c' w5, (Builtin.append_ #[95, 95] 95 #[.slice oa nn oc, .slice (some ⟨w'.heap.size, 0, none⟩) 1 1]).run Tryz.prog (w'.alloc (.cells #[.int .i64 o.id, .int .i64 o.acc, .bool o.buy, .int .i64 o.price, .int .i64 o.n, .int .i64 o.left] 55)) = .ok (.slice A' (nn + 1) c') w5 ∧ (fun w' => w'.cell? ⟨gb, 0, none⟩ = some (.slice oa nn oc) ∧ w'.cell? ⟨g13, 0, none⟩ = some (.int .i64 o.id) ∧ w'.cell? ⟨g13, 1, none⟩ = some (.int .i64 o.acc) ∧ w'.cell? ⟨g13, 2, none⟩ = some (.bool o.buy) ∧ w'.cell? ⟨g13, 3, none⟩ = some (.int .i64 o.price) ∧ w'.cell? ⟨g13, 4, none⟩ = some (.int .i64 o.n) ∧ w'.cell? ⟨g13, 5, none⟩ = some (.int .i64 o.left) ∧ w'.frozen? ⟨gb, 0, none⟩ = false) w5 ∧ ∃ V2, PF gb B V nn w g13 c o ts A m cc V2 (w5.setCell ⟨gb, 0, none⟩ (.slice A' (nn + 1) c'))) := Lib.hid (fun w' hb => by
     have q := HPR.out.below hb
     have ho := q.bk.orders
     unfold BkV.os at ho
     rw [hoa.out, hoc.out, HCL.out] at ho
     obtain ⟨A', c', w5, hr, h1, h2, h3, h4⟩ := app_elem2 95 slT_ord ho #[.int .i64 o.id, .int .i64 o.acc, .bool o.buy, .int .i64 o.price, .int .i64 o.n, .int .i64 o.left] rfl (one6 _ _ _ _ _ _) (by have := HNL.out; omega) (by decide) (Nat.le_trans (Nat.le_trans HK.out.ge (Nat.le_of_lt HK.out.blk.lt)) q.mod.size)
     have hvo : V'.os c.os.length = .slice oa nn oc := by unfold BkV.os; rw [hoa.out, hoc.out, HCL.out]
     have ha := q.added (A' := A') (c' := c') (w5 := w5) (by rw [HCL.out]; exact HNL.out) (by rw [hvo]; exact h3) (by rw [HCL.out]; exact h1) (by rw [hvo, HCL.out]; exact h4)
     rw [hoa.out, hoc.out, HCL.out] at ha
     exact ⟨A', c', w5, hr, ha.1, ha.2⟩)
    clear y0 y1 y2 y3 y4 y5 fy v0 v1 fv
    refine beginG (S := (fun w' => w'.cell? ⟨gb, 0, none⟩ = some (.slice oa nn oc) ∧ w'.cell? ⟨g13, 0, none⟩ = some (.int .i64 o.id) ∧ w'.cell? ⟨g13, 1, none⟩ = some (.int .i64 o.acc) ∧ w'.cell? ⟨g13, 2, none⟩ = some (.bool o.buy) ∧ w'.cell? ⟨g13, 3, none⟩ = some (.int .i64 o.price) ∧ w'.cell? ⟨g13, 4, none⟩ = some (.int .i64 o.n) ∧ w'.cell? ⟨g13, 5, none⟩ = some (.int .i64 o.left) ∧ w'.frozen? ⟨gb, 0, none⟩ = false)) 10 (by kernel_rfl) (HS22.out _ hPx) (fun hHeld => ?_)
    refine takeG 0 (some 175) (v := ?_) (by rfl) (by rfl) (by kernel_rfl) (by kernel_rfl) (by decide) (by kernel_rfl) (by kernel_rfl) (fun _ _ _ h => h) ?_ (by assumption) ?_
    rotate_left
    ·(intro o ho w hSw; obtain ⟨z0, y0, y1, y2, y3, y4, y5, f0⟩ := hSw; cases ho; go_simp; try with_reducible rfl)
    try simp only [Act.put, pB, pC, pD]
    refine takeG 1 (some 176) (v := ?_) (by rfl) (by rfl) (by kernel_rfl) (by kernel_rfl) (by decide) (by kernel_rfl) (by kernel_rfl) (fun _ _ _ h => h) ?_ (by assumption) ?_
    rotate_left
    ·(intro o ho w hSw; obtain ⟨z0, y0, y1, y2, y3, y4, y5, f0⟩ := hSw; cases ho; go_simp; try with_reducible rfl)
    try simp only [Act.put, pB, pC, pD]
    refine takeG 2 (some 177) (v := ?_) (by rfl) (by rfl) (by kernel_rfl) (by kernel_rfl) (by decide) (by kernel_rfl) (by kernel_rfl) (fun _ _ _ h => h) ?_ (by assumption) ?_
    rotate_left
    ·(intro o ho w hSw; obtain ⟨z0, y0, y1, y2, y3, y4, y5, f0⟩ := hSw; cases ho; go_simp; try with_reducible rfl)
    try simp only [Act.put, pB, pC, pD]
    refine takeG 3 (some 178) (v := ?_) (by rfl) (by rfl) (by kernel_rfl) (by kernel_rfl) (by decide) (by kernel_rfl) (by kernel_rfl) (fun _ _ _ h => h) ?_ (by assumption) ?_
    rotate_left
    ·(intro o ho w hSw; obtain ⟨z0, y0, y1, y2, y3, y4, y5, f0⟩ := hSw; cases ho; go_simp; try with_reducible rfl)
    try simp only [Act.put, pB, pC, pD]
    refine takeG 4 (some 179) (v := ?_) (by rfl) (by rfl) (by kernel_rfl) (by kernel_rfl) (by decide) (by kernel_rfl) (by kernel_rfl) (fun _ _ _ h => h) ?_ (by assumption) ?_
    rotate_left
    ·(intro o ho w hSw; obtain ⟨z0, y0, y1, y2, y3, y4, y5, f0⟩ := hSw; cases ho; go_simp; try with_reducible rfl)
    try simp only [Act.put, pB, pC, pD]
    refine takeG 5 (some 180) (v := ?_) (by rfl) (by rfl) (by kernel_rfl) (by kernel_rfl) (by decide) (by kernel_rfl) (by kernel_rfl) (fun _ _ _ h => h) ?_ (by assumption) ?_
    rotate_left
    ·(intro o ho w hSw; obtain ⟨z0, y0, y1, y2, y3, y4, y5, f0⟩ := hSw; cases ho; go_simp; try with_reducible rfl)
    try simp only [Act.put, pB, pC, pD]
    refine readyG (i := 6) (by kernel_rfl) rfl (fun K hK => ?_)
    go_simp
    have hP8 := hPx.alloc hPx.size (.cells #[.int .i64 o.id, .int .i64 o.acc, .bool o.buy, .int .i64 o.price, .int .i64 o.n, .int .i64 o.left] 55)
    refine hK.out _ _ ?_ (fun hH6 => ?_)
    ·exact (HS22.out _ hP8)
    clear hK K
    (try simp only [Act.put]); (try simp only [pB]); (try simp only [pD]); (try simp only [pC])
    refine readyG (i := 7) (by kernel_rfl) rfl (fun K hK => ?_)
    obtain ⟨A5, c5, w5, hr5, hHx, V2, hF5⟩ := HAPP.out _ hPx
    refine step_app (t := 95) hr5 (by kernel_rfl) (by rfl) (by rfl) (by rfl) ?_
    (try simp only [List.getElem_toArray, List.getElem_cons_succ, List.getElem_cons_zero])
    refine hK.out _ _ ?_ (fun hH7 => ?_)
    ·exact hHx
    clear hK K
    (try simp only [Act.put]); (try simp only [pB]); (try simp only [pD]); (try simp only [pC])
    refine takeGD [9, 10] 8 (some 183) (v := ?_) (by rfl) (by rfl) (by kernel_rfl) (by kernel_rfl) (by decide) (by kernel_rfl) (by kernel_rfl) (fun _ _ _ h => h) ?_ (by assumption) ?_
    rotate_left
    ·(intro o ho w hSw; obtain ⟨z0, y0, y1, y2, y3, y4, y5, f0⟩ := hSw; cases ho; go_simp; try with_reducible rfl)
    (try simp only [Act.put]); (try simp only [pB]); (try simp only [pD]); (try simp only [pC])
    refine takeG 9 (some 184) (v := ?_) (by rfl) (by rfl) (by kernel_rfl) (by kernel_rfl) (by decide) (by kernel_rfl) (by kernel_rfl) (fun _ _ _ h => h) ?_ (by assumption) ?_
    rotate_left
    ·(intro o ho w hSw; obtain ⟨z0, y0, y1, y2, y3, y4, y5, f0⟩ := hSw; cases ho; go_simp; try with_reducible rfl)
    (try simp only [Act.put]); (try simp only [pB]); (try simp only [pD]); (try simp only [pC])
    refine lastG (by kernel_rfl) rfl (fun K hK => ?_)
    obtain ⟨z0, y0, y1, y2, y3, y4, y5, f0⟩ := hHx
    go_simp
    refine hK.out _ _ ?_
    clear hK K
    (try simp only [Act.put]); (try simp only [pB]); (try simp only [pD]); (try simp only [pC])
    refine doneG (by kernel_rfl) ?_ _
    obtain ⟨w7, hw7⟩ : ∃ w7, w7 = w5.setCell ⟨gb, 0, none⟩ (.slice A5 (nn + 1) c5) := ⟨_, rfl⟩
    rw [← hw7] at hF5 ⊢
    obtain ⟨y0, y1, y2, y3, y4, y5⟩ := hF5.y
    have HF5 := Lib.hid hF5
    clear hw7 hF5
    have HFL : Hid (BkAt w7 B gb V2 (c.withO o) ∧ ((c.withO o).opened o).Ok ∧ o.id = ((nn : Nat) : Int)) := Lib.hid (HF5.out.full (show PM b (!false) ⟨(nn : Int), acc, false, price, n, n⟩ c o ts from by rw [← HO0.out]; exact HPM.out) HE0.out HNN.out hlf)
    go_wp2_with (go_at_call 35; ((with_reducible refine (open_any gb B nn V2 (c.withO o) o _ (Lib.hid HFL.out.1) (Lib.hid HFL.out.2.2) (Lib.hid HFL.out.2.1)).mono ?_); rintro e w8 ⟨rfl, hp8⟩; have k8 := HF5.out.y8 hp8))
    refine bodyPost_ret (v := .tuple #[.int .i64 o.id, .slice A m cc, .int .i64 0]) (by simp [results, Tryz.results9, go_sem]) rfl (HF5.out.fin1 (show PM b (!false) ⟨(nn : Int), acc, false, price, n, n⟩ c o ts from by rw [← HO0.out]; exact HPM.out) HST.out HE0.out HNN.out hlf hp8)
   ·have hfa := HPM.out.facts hs
    obtain ⟨gr, hgr, lgr, -, fx, x0, x1, x2, x3, x4, x5⟩ := HPR.out.bk.order hfa.1
    rw [hoa.out] at hgr
    obtain ⟨gs, off, hgs, -, lgs, i0, -⟩ := (show IRow wr B (As, ns, cs) (id :: t) by rw [← hs]; exact HIS.out).cell (j := 0) (by rw [← hlen, hs]; simp)
    subst hgs
    simp only [List.getElem?_cons_zero, Option.getD_some, Nat.add_zero] at i0
    have HGR := Lib.hid hgr
    rw [hgr] at v0
    have hns : 0 < ns := by rw [← hlen, hs]; simp
    have hnc : ns ≤ cs := HIS.out.2.1
    have hidl : (id : Int) < (nn : Int) := by have := hfa.1; rw [HCL.out] at this; omega
    obtain ⟨x, hx⟩ : ∃ x, ordAt c.os id = x := ⟨_, rfl⟩
    rw [hx] at hfa x0 x1 x2 x3 x4 x5
    have hxl := hfa.2.2.1
    have hxm := hfa.2.2.2.2
    have HX := Lib.hid hx
    have HSD := Lib.hid hs
    have HS : Hid (∀ w', Below wr.heap.size wr w' → (fun w' => w'.cell? ⟨gb, 0, none⟩ = some (.slice (some ⟨gr, 0, none⟩) nn oc) ∧ w'.cell? ⟨gb, 1, none⟩ = some (.slice (some ⟨gs, off, none⟩) ns cs) ∧ w'.cell? ⟨gs, off, none⟩ = some (.int .i64 (id : Int))) w' ∧ (fun w' => w'.cell? ⟨gr, id * 6, none⟩ = some (.int .i64 x.id) ∧ w'.cell? ⟨gr, id * 6 + 1, none⟩ = some (.int .i64 x.acc) ∧ w'.cell? ⟨gr, id * 6 + 2, none⟩ = some (.bool x.buy) ∧ w'.cell? ⟨gr, id * 6 + 3, none⟩ = some (.int .i64 x.price) ∧ w'.cell? ⟨gr, id * 6 + 4, none⟩ = some (.int .i64 x.n) ∧ w'.cell? ⟨gr, id * 6 + 5, none⟩ = some (.int .i64 x.left) ∧ w'.cell? ⟨g13, 0, none⟩ = some (.int .i64 o.id) ∧ w'.cell? ⟨g13, 1, none⟩ = some (.int .i64 o.acc) ∧ w'.cell? ⟨g13, 2, none⟩ = some (.bool o.buy) ∧ w'.cell? ⟨g13, 3, none⟩ = some (.int .i64 o.price) ∧ w'.cell? ⟨g13, 4, none⟩ = some (.int .i64 o.n) ∧ w'.cell? ⟨g13, 5, none⟩ = some (.int .i64 o.left)) w' ∧ w'.frozen? ⟨gb, 1, none⟩ = false) := Lib.hid (fun w' hb => by
     have q := HPR.out.below hb
     have y := q.y
     have z := q.z_true
     rw [HVS.out] at z
     rw [hoa.out, hoc.out, HCL.out, HGR.out] at z
     obtain ⟨g', hg', -, -, -, x⟩ := q.bk.order (k := id) (by rw [HCL.out]; omega)
     rw [hoa.out, HGR.out] at hg'
     injection hg' with hg'
     injection hg' with hg'
     subst hg'
     rw [HX.out] at x
     exact ⟨⟨z.1, z.2.1, (hb.cell (p := ⟨gs, off, none⟩) lgs).trans i0⟩, ⟨x.1, x.2.1, x.2.2.1, x.2.2.2.1, x.2.2.2.2.1, x.2.2.2.2.2, y.1, y.2.1, y.2.2.1, y.2.2.2.1, y.2.2.2.2.1, y.2.2.2.2.2.1⟩, z.2.2⟩)
    clear hx hgr hs hfa lgr lgs fx
    have hP : Below wr.heap.size wr wr.drew := below_drewN (Below.refl _ _) 1
    have hP2 : Below wr.heap.size wr wr.drew.drew := below_drewN hP 1
    have hac : ∀ w, Calls Tryz.prog 34 #[.agg #[.int .i64 o.id, .int .i64 o.acc, .bool o.buy, .int .i64 o.price, .int .i64 o.n, .int .i64 o.left], .agg #[.int .i64 x.id, .int .i64 x.acc, .bool x.buy, .int .i64 x.price, .int .i64 x.n, .int .i64 x.left]] w fun e w' => e = .returned (.bool (acceptsB o x)) ∧ Below w.heap.size w w' := fun w => acc_any o x w
    cases hab : acceptsB o x
    ·have HAC : Hid (∀ w, Calls Tryz.prog 34 #[.agg #[.int .i64 o.id, .int .i64 o.acc, .bool o.buy, .int .i64 o.price, .int .i64 o.n, .int .i64 o.left], .agg #[.int .i64 x.id, .int .i64 x.acc, .bool x.buy, .int .i64 x.price, .int .i64 x.n, .int .i64 x.left]] w fun e w' => e = .returned (.bool false) ∧ Below w.heap.size w w') := Lib.hid (by simp only [hab] at hac; exact hac)
     have HST : Hid (Stops c true o) := Lib.hid (.inr (.inr ⟨id, t, HSD.out, by rw [HX.out]; exact hab⟩))
     clear hab hac hlen
     go_wp2
     refine wp_region_held_drew (S := (fun w' => w'.cell? ⟨gb, 0, none⟩ = some (.slice (some ⟨gr, 0, none⟩) nn oc) ∧ w'.cell? ⟨gb, 1, none⟩ = some (.slice (some ⟨gs, off, none⟩) ns cs) ∧ w'.cell? ⟨gs, off, none⟩ = some (.int .i64 (id : Int)))) (by kernel_rfl) (HS.out _ hP).1 (fun hHeld => ?_)
     refine takeJ 0 (some 86) ?_
     refine takeJ 1 (some 87) ?_
     refine takeJ 2 (some 88) ?_
     refine takeJ 3 (some 89) ?_
     refine takeJ 4 (some 90) ?_
     refine takeJ 5 (some 91) ?_
     refine takeJ 6 (some 92) ?_
     refine takeJ 7 (some 93) ?_
     refine takeJ 8 (some 94) ?_
     refine takeJ 9 (some 95) ?_
     refine takeJ 10 (some 96) (v := .pointer (some ⟨gr, id * 6, none⟩)) ?_
     refine takeJ 11 (some 16) ?_
     refine wpAnyH_done (by kernel_rfl) ?_ _
     go_wp2
     refine wp_region_held_drew (S := (fun w' => w'.cell? ⟨gr, id * 6, none⟩ = some (.int .i64 x.id) ∧ w'.cell? ⟨gr, id * 6 + 1, none⟩ = some (.int .i64 x.acc) ∧ w'.cell? ⟨gr, id * 6 + 2, none⟩ = some (.bool x.buy) ∧ w'.cell? ⟨gr, id * 6 + 3, none⟩ = some (.int .i64 x.price) ∧ w'.cell? ⟨gr, id * 6 + 4, none⟩ = some (.int .i64 x.n) ∧ w'.cell? ⟨gr, id * 6 + 5, none⟩ = some (.int .i64 x.left) ∧ w'.cell? ⟨g13, 0, none⟩ = some (.int .i64 o.id) ∧ w'.cell? ⟨g13, 1, none⟩ = some (.int .i64 o.acc) ∧ w'.cell? ⟨g13, 2, none⟩ = some (.bool o.buy) ∧ w'.cell? ⟨g13, 3, none⟩ = some (.int .i64 o.price) ∧ w'.cell? ⟨g13, 4, none⟩ = some (.int .i64 o.n) ∧ w'.cell? ⟨g13, 5, none⟩ = some (.int .i64 o.left))) (by kernel_rfl) (HS.out _ hP2).2.1 (fun hHeld => ?_)
     refine takeJ 0 (some 97) ?_
     refine takeJ 1 (some 98) ?_
     refine takeJ 2 (some 99) ?_
     refine takeJ 3 (some 100) ?_
     refine wpAnyH_ready (rs := [4]) (by kernel_rfl) (by simp) ?_
     refine AllReadyH.cons rfl (fun K hK => ?_) AllReadyH.nil
     go_simp
     go_at_call 34
     (with_reducible refine (HAC.out _).mono ?_)
     rintro e w5 ⟨rfl, hb5⟩
     have hP5 := bt hP2 hb5
     go_wp2
     refine hK.out _ _ ?_ (fun hH4 => ?_)
     ·exact (HS.out _ hP5).2.1
     clear hK K
     try simp only [Act.put, pB, pC, pD]
     refine takeJ 5 (some 102) ?_
     refine wpAnyH_done (by kernel_rfl) ?_ _
     go_wp2
     have hPx := (show Below wr.heap.size wr w5.drew from below_drewN hP5 1)
     have HS22 : Hid (∀ w', Below wr.heap.size wr w' → (fun w' => w'.cell? ⟨gb, 0, none⟩ = some (.slice oa nn oc) ∧ w'.cell? ⟨g13, 0, none⟩ = some (.int .i64 o.id) ∧ w'.cell? ⟨g13, 1, none⟩ = some (.int .i64 o.acc) ∧ w'.cell? ⟨g13, 2, none⟩ = some (.bool o.buy) ∧ w'.cell? ⟨g13, 3, none⟩ = some (.int .i64 o.price) ∧ w'.cell? ⟨g13, 4, none⟩ = some (.int .i64 o.n) ∧ w'.cell? ⟨g13, 5, none⟩ = some (.int .i64 o.left) ∧ w'.frozen? ⟨gb, 0, none⟩ = false) w') := Lib.hid (fun w' hb => by
      have q := HPR.out.below hb
      have y := q.y
      have z := q.z_true
      rw [hoa.out, hoc.out, HCL.out] at z
      exact ⟨z.1, y.1, y.2.1, y.2.2.1, y.2.2.2.1, y.2.2.2.2.1, y.2.2.2.2.2.1, q.bk.blk.frozen 0⟩)
     have HAPP : Hid (∀ w', Below wr.heap.size wr w' → ∃ A' c' w5, (Builtin.append_ #[95, 95] 95 #[.slice oa nn oc, .slice (some ⟨w'.heap.size, 0, none⟩) 1 1]).run Tryz.prog (w'.alloc (.cells #[.int .i64 o.id, .int .i64 o.acc, .bool o.buy, .int .i64 o.price, .int .i64 o.n, .int .i64 o.left] 55)) = .ok (.slice A' (nn + 1) c') w5 ∧ (fun w' => w'.cell? ⟨gb, 0, none⟩ = some (.slice oa nn oc) ∧ w'.cell? ⟨g13, 0, none⟩ = some (.int .i64 o.id) ∧ w'.cell? ⟨g13, 1, none⟩ = some (.int .i64 o.acc) ∧ w'.cell? ⟨g13, 2, none⟩ = some (.bool o.buy) ∧ w'.cell? ⟨g13, 3, none⟩ = some (.int .i64 o.price) ∧ w'.cell? ⟨g13, 4, none⟩ = some (.int .i64 o.n) ∧ w'.cell? ⟨g13, 5, none⟩ = some (.int .i64 o.left) ∧ w'.frozen? ⟨gb, 0, none⟩ = false) w5 ∧ ∃ V2, PF gb B V nn w g13 c o ts A m cc V2 (w5.setCell ⟨gb, 0, none⟩ (.slice A' (nn + 1) c'))) := Lib.hid (fun w' hb => by
      have q := HPR.out.below hb
      have ho := q.bk.orders
      unfold BkV.os at ho
      rw [hoa.out, hoc.out, HCL.out] at ho
      obtain ⟨A', c', w5, hr, h1, h2, h3, h4⟩ := app_elem2 95 slT_ord ho #[.int .i64 o.id, .int .i64 o.acc, .bool o.buy, .int .i64 o.price, .int .i64 o.n, .int .i64 o.left] rfl (one6 _ _ _ _ _ _) (by have := HNL.out; omega) (by decide) (Nat.le_trans (Nat.le_trans HK.out.ge (Nat.le_of_lt HK.out.blk.lt)) q.mod.size)
      have hvo : V'.os c.os.length = .slice oa nn oc := by unfold BkV.os; rw [hoa.out, hoc.out, HCL.out]
      have ha := q.added (A' := A') (c' := c') (w5 := w5) (by rw [HCL.out]; exact HNL.out) (by rw [hvo]; exact h3) (by rw [HCL.out]; exact h1) (by rw [hvo, HCL.out]; exact h4)
      rw [hoa.out, hoc.out, HCL.out] at ha
      exact ⟨A', c', w5, hr, ha.1, ha.2⟩)
     clear y0 y1 y2 y3 y4 y5 fy v0 v1 fv
     refine beginG (S := (fun w' => w'.cell? ⟨gb, 0, none⟩ = some (.slice oa nn oc) ∧ w'.cell? ⟨g13, 0, none⟩ = some (.int .i64 o.id) ∧ w'.cell? ⟨g13, 1, none⟩ = some (.int .i64 o.acc) ∧ w'.cell? ⟨g13, 2, none⟩ = some (.bool o.buy) ∧ w'.cell? ⟨g13, 3, none⟩ = some (.int .i64 o.price) ∧ w'.cell? ⟨g13, 4, none⟩ = some (.int .i64 o.n) ∧ w'.cell? ⟨g13, 5, none⟩ = some (.int .i64 o.left) ∧ w'.frozen? ⟨gb, 0, none⟩ = false)) 10 (by kernel_rfl) (HS22.out _ hPx) (fun hHeld => ?_)
     refine takeG 0 (some 175) (v := ?_) (by rfl) (by rfl) (by kernel_rfl) (by kernel_rfl) (by decide) (by kernel_rfl) (by kernel_rfl) (fun _ _ _ h => h) ?_ (by assumption) ?_
     rotate_left
     ·(intro o ho w hSw; obtain ⟨z0, y0, y1, y2, y3, y4, y5, f0⟩ := hSw; cases ho; go_simp; try with_reducible rfl)
     try simp only [Act.put, pB, pC, pD]
     refine takeG 1 (some 176) (v := ?_) (by rfl) (by rfl) (by kernel_rfl) (by kernel_rfl) (by decide) (by kernel_rfl) (by kernel_rfl) (fun _ _ _ h => h) ?_ (by assumption) ?_
     rotate_left
     ·(intro o ho w hSw; obtain ⟨z0, y0, y1, y2, y3, y4, y5, f0⟩ := hSw; cases ho; go_simp; try with_reducible rfl)
     try simp only [Act.put, pB, pC, pD]
     refine takeG 2 (some 177) (v := ?_) (by rfl) (by rfl) (by kernel_rfl) (by kernel_rfl) (by decide) (by kernel_rfl) (by kernel_rfl) (fun _ _ _ h => h) ?_ (by assumption) ?_
     rotate_left
     ·(intro o ho w hSw; obtain ⟨z0, y0, y1, y2, y3, y4, y5, f0⟩ := hSw; cases ho; go_simp; try with_reducible rfl)
     try simp only [Act.put, pB, pC, pD]
     refine takeG 3 (some 178) (v := ?_) (by rfl) (by rfl) (by kernel_rfl) (by kernel_rfl) (by decide) (by kernel_rfl) (by kernel_rfl) (fun _ _ _ h => h) ?_ (by assumption) ?_
     rotate_left
     ·(intro o ho w hSw; obtain ⟨z0, y0, y1, y2, y3, y4, y5, f0⟩ := hSw; cases ho; go_simp; try with_reducible rfl)
     try simp only [Act.put, pB, pC, pD]
     refine takeG 4 (some 179) (v := ?_) (by rfl) (by rfl) (by kernel_rfl) (by kernel_rfl) (by decide) (by kernel_rfl) (by kernel_rfl) (fun _ _ _ h => h) ?_ (by assumption) ?_
     rotate_left
     ·(intro o ho w hSw; obtain ⟨z0, y0, y1, y2, y3, y4, y5, f0⟩ := hSw; cases ho; go_simp; try with_reducible rfl)
     try simp only [Act.put, pB, pC, pD]
     refine takeG 5 (some 180) (v := ?_) (by rfl) (by rfl) (by kernel_rfl) (by kernel_rfl) (by decide) (by kernel_rfl) (by kernel_rfl) (fun _ _ _ h => h) ?_ (by assumption) ?_
     rotate_left
     ·(intro o ho w hSw; obtain ⟨z0, y0, y1, y2, y3, y4, y5, f0⟩ := hSw; cases ho; go_simp; try with_reducible rfl)
     try simp only [Act.put, pB, pC, pD]
     refine readyG (i := 6) (by kernel_rfl) rfl (fun K hK => ?_)
     go_simp
     have hP8 := hPx.alloc hPx.size (.cells #[.int .i64 o.id, .int .i64 o.acc, .bool o.buy, .int .i64 o.price, .int .i64 o.n, .int .i64 o.left] 55)
     refine hK.out _ _ ?_ (fun hH6 => ?_)
     ·exact (HS22.out _ hP8)
     clear hK K
     (try simp only [Act.put]); (try simp only [pB]); (try simp only [pD]); (try simp only [pC])
     refine readyG (i := 7) (by kernel_rfl) rfl (fun K hK => ?_)
     obtain ⟨A5, c5, w5, hr5, hHx, V2, hF5⟩ := HAPP.out _ hPx
     refine step_app (t := 95) hr5 (by kernel_rfl) (by rfl) (by rfl) (by rfl) ?_
     (try simp only [List.getElem_toArray, List.getElem_cons_succ, List.getElem_cons_zero])
     refine hK.out _ _ ?_ (fun hH7 => ?_)
     ·exact hHx
     clear hK K
     (try simp only [Act.put]); (try simp only [pB]); (try simp only [pD]); (try simp only [pC])
     refine takeGD [9, 10] 8 (some 183) (v := ?_) (by rfl) (by rfl) (by kernel_rfl) (by kernel_rfl) (by decide) (by kernel_rfl) (by kernel_rfl) (fun _ _ _ h => h) ?_ (by assumption) ?_
     rotate_left
     ·(intro o ho w hSw; obtain ⟨z0, y0, y1, y2, y3, y4, y5, f0⟩ := hSw; cases ho; go_simp; try with_reducible rfl)
     (try simp only [Act.put]); (try simp only [pB]); (try simp only [pD]); (try simp only [pC])
     refine takeG 9 (some 184) (v := ?_) (by rfl) (by rfl) (by kernel_rfl) (by kernel_rfl) (by decide) (by kernel_rfl) (by kernel_rfl) (fun _ _ _ h => h) ?_ (by assumption) ?_
     rotate_left
     ·(intro o ho w hSw; obtain ⟨z0, y0, y1, y2, y3, y4, y5, f0⟩ := hSw; cases ho; go_simp; try with_reducible rfl)
     (try simp only [Act.put]); (try simp only [pB]); (try simp only [pD]); (try simp only [pC])
     refine lastG (by kernel_rfl) rfl (fun K hK => ?_)
     obtain ⟨z0, y0, y1, y2, y3, y4, y5, f0⟩ := hHx
     go_simp
     refine hK.out _ _ ?_
     clear hK K
     (try simp only [Act.put]); (try simp only [pB]); (try simp only [pD]); (try simp only [pC])
     refine doneG (by kernel_rfl) ?_ _
     obtain ⟨w7, hw7⟩ : ∃ w7, w7 = w5.setCell ⟨gb, 0, none⟩ (.slice A5 (nn + 1) c5) := ⟨_, rfl⟩
     rw [← hw7] at hF5 ⊢
     obtain ⟨y0, y1, y2, y3, y4, y5⟩ := hF5.y
     have HF5 := Lib.hid hF5
     clear hw7 hF5
     have HFL : Hid (BkAt w7 B gb V2 (c.withO o) ∧ ((c.withO o).opened o).Ok ∧ o.id = ((nn : Nat) : Int)) := Lib.hid (HF5.out.full (show PM b (!false) ⟨(nn : Int), acc, false, price, n, n⟩ c o ts from by rw [← HO0.out]; exact HPM.out) HE0.out HNN.out hlf)
     go_wp2_with (go_at_call 35; ((with_reducible refine (open_any gb B nn V2 (c.withO o) o _ (Lib.hid HFL.out.1) (Lib.hid HFL.out.2.2) (Lib.hid HFL.out.2.1)).mono ?_); rintro e w8 ⟨rfl, hp8⟩; have k8 := HF5.out.y8 hp8))
     refine bodyPost_ret (v := .tuple #[.int .i64 o.id, .slice A m cc, .int .i64 0]) (by simp [results, Tryz.results9, go_sem]) rfl (HF5.out.fin1 (show PM b (!false) ⟨(nn : Int), acc, false, price, n, n⟩ c o ts from by rw [← HO0.out]; exact HPM.out) HST.out HE0.out HNN.out hlf hp8)
    ·have HAC : Hid (∀ w, Calls Tryz.prog 34 #[.agg #[.int .i64 o.id, .int .i64 o.acc, .bool o.buy, .int .i64 o.price, .int .i64 o.n, .int .i64 o.left], .agg #[.int .i64 x.id, .int .i64 x.acc, .bool x.buy, .int .i64 x.price, .int .i64 x.n, .int .i64 x.left]] w fun e w' => e = .returned (.bool true) ∧ Below w.heap.size w w') := Lib.hid (by simp only [hab] at hac; exact hac)
     have HAB := Lib.hid hab
     clear hab hac hlen
     go_wp2
     refine wp_region_held_drew (S := (fun w' => w'.cell? ⟨gb, 0, none⟩ = some (.slice (some ⟨gr, 0, none⟩) nn oc) ∧ w'.cell? ⟨gb, 1, none⟩ = some (.slice (some ⟨gs, off, none⟩) ns cs) ∧ w'.cell? ⟨gs, off, none⟩ = some (.int .i64 (id : Int)))) (by kernel_rfl) (HS.out _ hP).1 (fun hHeld => ?_)
     refine takeJ 0 (some 86) ?_
     refine takeJ 1 (some 87) ?_
     refine takeJ 2 (some 88) ?_
     refine takeJ 3 (some 89) ?_
     refine takeJ 4 (some 90) ?_
     refine takeJ 5 (some 91) ?_
     refine takeJ 6 (some 92) ?_
     refine takeJ 7 (some 93) ?_
     refine takeJ 8 (some 94) ?_
     refine takeJ 9 (some 95) ?_
     refine takeJ 10 (some 96) (v := .pointer (some ⟨gr, id * 6, none⟩)) ?_
     refine takeJ 11 (some 16) ?_
     refine wpAnyH_done (by kernel_rfl) ?_ _
     go_wp2
     refine wp_region_held_drew (S := (fun w' => w'.cell? ⟨gr, id * 6, none⟩ = some (.int .i64 x.id) ∧ w'.cell? ⟨gr, id * 6 + 1, none⟩ = some (.int .i64 x.acc) ∧ w'.cell? ⟨gr, id * 6 + 2, none⟩ = some (.bool x.buy) ∧ w'.cell? ⟨gr, id * 6 + 3, none⟩ = some (.int .i64 x.price) ∧ w'.cell? ⟨gr, id * 6 + 4, none⟩ = some (.int .i64 x.n) ∧ w'.cell? ⟨gr, id * 6 + 5, none⟩ = some (.int .i64 x.left) ∧ w'.cell? ⟨g13, 0, none⟩ = some (.int .i64 o.id) ∧ w'.cell? ⟨g13, 1, none⟩ = some (.int .i64 o.acc) ∧ w'.cell? ⟨g13, 2, none⟩ = some (.bool o.buy) ∧ w'.cell? ⟨g13, 3, none⟩ = some (.int .i64 o.price) ∧ w'.cell? ⟨g13, 4, none⟩ = some (.int .i64 o.n) ∧ w'.cell? ⟨g13, 5, none⟩ = some (.int .i64 o.left))) (by kernel_rfl) (HS.out _ hP2).2.1 (fun hHeld => ?_)
     refine takeJ 0 (some 97) ?_
     refine takeJ 1 (some 98) ?_
     refine takeJ 2 (some 99) ?_
     refine takeJ 3 (some 100) ?_
     refine wpAnyH_ready (rs := [4]) (by kernel_rfl) (by simp) ?_
     refine AllReadyH.cons rfl (fun K hK => ?_) AllReadyH.nil
     go_simp
     go_at_call 34
     (with_reducible refine (HAC.out _).mono ?_)
     rintro e w5 ⟨rfl, hb5⟩
     have hP5 := bt hP2 hb5
     go_wp2
     refine hK.out _ _ ?_ (fun hH4 => ?_)
     ·exact (HS.out _ hP5).2.1
     clear hK K
     try simp only [Act.put, pB, pC, pD]
     refine takeJ 5 (some 102) ?_
     refine wpAnyH_done (by kernel_rfl) ?_ _
     obtain ⟨⟨z0', z1', z2'⟩, ⟨x0', x1', x2', x3', x4', x5', y0', y1', y2', y3', y4', y5'⟩, f1'⟩ := HS.out _ hP5
     by_cases hxa : x.acc = acc
     ·clear x0 x1 x2 x3 x4 x5 y0 y1 y2 y3 y4 y5 i0 v0 v1 fy fv
      have hb5w := HPR.out.below hP5
      have HPM9 : Hid (PM b true o0 (c.put true t) o ts) := Lib.hid (HPM.out.same HSD.out hlf (by rw [HX.out]; exact HAB.out) (by rw [HX.out, HOA.out]; exact hxa))
      rcases (show cs = 1 ∨ cs ≠ 1 by omega) with hc1 | hc1
      ·subst hc1
       obtain rfl : ns = 1 := by omega
       go_wp2
       obtain ⟨V2, hPR2⟩ := hb5w.pop_true HVS.out HSD.out
       rw [if_pos rfl] at hPR2
       go_roundg (((c.put true t).side true).length + (if 0 < o.left then 1 else 0))
       case measure =>
        rw [← HGK.out, HSD.out, put_side]
        simp only [List.length_cons]
        omega
       case rel => exact PLoop.mk HPM9.out hPR2
      ·go_wp2
       obtain ⟨V2, hPR2⟩ := hb5w.pop_true HVS.out HSD.out
       rw [if_neg hc1] at hPR2
       go_roundg (((c.put true t).side true).length + (if 0 < o.left then 1 else 0))
       case measure =>
        rw [← HGK.out, HSD.out, put_side]
        simp only [List.length_cons]
        omega
       case rel => exact PLoop.mk HPM9.out hPR2
     ·have hM0 : 0 < min o.left x.left := by omega
      obtain ⟨M, hM⟩ : ∃ M, min o.left x.left = M := ⟨_, rfl⟩
      have hMo : M ≤ o.left := by omega
      have hMx : M ≤ x.left := by omega
      rw [hM] at hM0
      have HMM := Lib.hid hM
      have HS14 : Hid (∀ w', Below wr.heap.size wr w' → (fun w' => w'.cell? ⟨g13, 0, none⟩ = some (.int .i64 o.id) ∧ w'.cell? ⟨gr, id * 6, none⟩ = some (.int .i64 x.id) ∧ w'.cell? ⟨gr, id * 6 + 3, none⟩ = some (.int .i64 x.price) ∧ w'.cell? ⟨g13, 5, none⟩ = some (.int .i64 o.left) ∧ w'.cell? ⟨gr, id * 6 + 5, none⟩ = some (.int .i64 x.left)) w') := Lib.hid (fun w' hb => by
       obtain ⟨-, ⟨x0, x1, x2, x3, x4, x5, y0, y1, y2, y3, y4, y5⟩, -⟩ := HS.out w' hb
       exact ⟨y0, x0, x3, y5, x5⟩)
      clear x0 x1 x2 x3 x4 x5 y0 y1 y2 y3 y4 y5 i0 v0 v1 fy fv hM
      have hP6 : Below wr.heap.size wr w5.drew := below_drewN hP5 1
      go_wp2
      refine wp_region_held_drew (S := (fun w' => w'.cell? ⟨g13, 0, none⟩ = some (.int .i64 o.id) ∧ w'.cell? ⟨gr, id * 6, none⟩ = some (.int .i64 x.id) ∧ w'.cell? ⟨gr, id * 6 + 3, none⟩ = some (.int .i64 x.price) ∧ w'.cell? ⟨g13, 5, none⟩ = some (.int .i64 o.left) ∧ w'.cell? ⟨gr, id * 6 + 5, none⟩ = some (.int .i64 x.left))) (by kernel_rfl) (HS14.out _ hP6) (fun hHeld => ?_)
      refine takeJ 0 (some 109) ?_
      refine takeJ 1 (some 110) ?_
      refine takeJ 2 (some 111) ?_
      refine takeJ 3 (some 112) ?_
      refine takeJ 4 (some 113) ?_
      refine takeJ 5 (some 114) ?_
      refine takeJ 6 (some 115) ?_
      refine takeJ 7 (some 116) ?_
      refine takeJ 8 (some 117) ?_
      refine takeJ 9 (some 118) ?_
      refine takeJ 10 (some 119) ?_
      refine takeJ 11 (some 120) ?_
      refine takeJ 12 (some 121) ?_
      refine takeJ 13 (some 122) ?_
      refine takeJ 14 (some 123) ?_
      refine takeJ 15 (some 124) ?_
      refine takeI 16 (some 125) (v := .int .i64 M) ?_ ?_
      skip
      ·(intro o ho w hSw; obtain ⟨a0, a1, a2, a3, a4⟩ := hSw; cases ho; go_simp; (try rw [HMM.out]); try with_reducible rfl)
      try simp only [Act.put, pB, pC, pD]
      refine takeJ 17 (some 126) ?_
      refine wpAnyH_ready (rs := [18]) (by kernel_rfl) (by simp) ?_
      refine AllReadyH.cons rfl (fun K hK => ?_) AllReadyH.nil
      go_simp
      refine hK.out _ _ ?_ (fun hH18 => ?_)
      ·exact (HS14.out _ (hP6.alloc hP6.size _))
      clear hK K
      try simp only [Act.put, pB, pC, pD]
      refine wpAnyH_ready (rs := [19]) (by kernel_rfl) (by simp) ?_
      refine AllReadyH.cons rfl (fun K hK => ?_) AllReadyH.nil
      go_simp
      have hP7 := hP6.alloc hP6.size (.cells #[.int .i64 o.id, .int .i64 x.id, .int .i64 x.price, .int .i64 M] 59)
      refine hK.out _ _ ?_ (fun hH19 => ?_)
      ·exact (HS14.out _ hP7)
      clear hK K
      try simp only [Act.put, List.setIfInBounds_toArray]
      refine wpAnyH_done (by kernel_rfl) ?_ _
      clear x0' x1' x2' x3' x4' x5' y0' y1' y2' y3' y4' y5' z0' z1' z2' f1'
      obtain ⟨w6, hw6⟩ : ∃ w6, w6 = (w5.alloc (.cells #[.int .i64 o.id, .int .i64 x.id, .int .i64 x.price, .int .i64 M] 59)).drew := ⟨_, rfl⟩
      rw [← hw6]
      have hP8 : Below wr.heap.size wr w6 := by rw [hw6]; exact below_drewN (hP5.alloc hP5.size _) 1
      have hB6 : Blk w6 w5.heap.size 59 #[.int .i64 o.id, .int .i64 x.id, .int .i64 x.price, .int .i64 M] := by rw [hw6]; exact blk_drew (Blk.new w5 _ _)
      have HR5 := Lib.hid (HPR.out.below hP5)
      obtain ⟨g17, hg17⟩ : ∃ g17, w5.heap.size = g17 := ⟨_, rfl⟩
      rw [hg17] at hB6 ⊢
      have HRG : Hid (∀ q, (Value.slice A m cc).ownBlock = some q → q < g17) := Lib.hid (fun q hq => by rw [← hg17]; exact (own_ge HR5.out.row hq).2)
      have HGG : Hid (wr.heap.size ≤ g17) := Lib.hid (by rw [← hg17]; exact hP5.size)
      have d0 := hB6.cell 0
      have d1 := hB6.cell 1
      have d2 := hB6.cell 2
      have d3 := hB6.cell 3
      have fd0 := hB6.frozen 0
      have fd1 := hB6.frozen 1
      simp only [List.getElem?_toArray, List.getElem?_cons_zero, List.getElem?_cons_succ] at d0 d1 d2 d3
      have HB6 := Lib.hid hB6
      have HP8 := Lib.hid hP8
      clear hw6 hg17 hB6 hP8 hP6 hP7 HR5
      have HPA : Hid (Below wr.heap.size wr ((w6.setCell ⟨g17, 0, none⟩ (.int .i64 x.id)).setCell ⟨g17, 1, none⟩ (.int .i64 o.id))) := Lib.hid ((((Mod.refl (fun q => q = g17) w6).set (p := ⟨g17, 0, none⟩) (.inl rfl) (.int .i64 x.id)).set (p := ⟨g17, 1, none⟩) (.inl rfl) (.int .i64 o.id)).below HP8.out HP8.out.size (fun q hq => by rw [hq]; exact HGG.out))
      have HR14 := Lib.hid (HPR.out.below HPA.out)
      have HBA : Hid (Blk ((w6.setCell ⟨g17, 0, none⟩ (.int .i64 x.id)).setCell ⟨g17, 1, none⟩ (.int .i64 o.id)) g17 59 #[.int .i64 x.id, .int .i64 o.id, .int .i64 x.price, .int .i64 M]) := Lib.hid ((HB6.out.set_ 0 _).set_ 1 _)
      have hm5 : m ≤ 5000 := by
       have h1 := HPM.out.tl
       have h2 := HK.out.ok.few
       have h3 := HPR.out.len
       rw [BkS.few_side b true] at h2
       split at h1 <;> omega
      have hw18 : IntKind.i64.wrap (o.left - M) = o.left - M := IntWalk.i64_in _ (by have h1 := HPM.out.l1; rw [HO0.out] at h1; dsimp only at h1; omega)
      have hw19 : IntKind.i64.wrap (x.left - M) = x.left - M := IntWalk.i64_in _ (by omega)
      have HTC : Hid ((trdOf o x M).cells = #[.int .i64 x.id, .int .i64 o.id, .int .i64 x.price, .int .i64 M].toList) := Lib.hid (by unfold trdOf; rw [HOB.out]; rfl)
      have hzWA : ((w6.setCell ⟨g17, 0, none⟩ (.int .i64 x.id)).setCell ⟨g17, 1, none⟩ (.int .i64 o.id)).heap.size = w6.heap.size := by simp
      have HZWA := Lib.hid hzWA
      clear hzWA
      go_wp2_with (at_builtin
                   obtain ⟨A6, c6, w7, hr6, ho6, -, hm6, -⟩ := app_elem2 (w := ((w6.setCell ⟨g17, 0, none⟩ (.int .i64 x.id)).setCell ⟨g17, 1, none⟩ (.int .i64 o.id))) 51 slT_trd HR14.out.row #[.int .i64 x.id, .int .i64 o.id, .int .i64 x.price, .int .i64 M] rfl (one4 _ _ _ _) (by omega) (by decide) HR14.out.mod.size
                   rw [HZWA.out] at hr6
                   refine wpList_append_run hr6 (by rfl) (by rfl) (by rfl) (by rfl) ?_
                   have HR7 : Hid (PR gb B V nn w g13 c o (ts ++ [trdOf o x M]) A6 (m + 1) c6 V' w7) := Lib.hid (HR14.out.app hm6 (by rw [HTC.out]; exact ho6))
                   have hB7 : Blk w7 g17 59 #[.int .i64 x.id, .int .i64 o.id, .int .i64 x.price, .int .i64 M] := hm6.blk HBA.out (fun e => by
                    have h9 := HRG.out _ e
                    exact absurd h9 (Nat.lt_irrefl _))
                   have HB7 := Lib.hid hB7
                   clear d3
                   have d3 := hB7.cell 3
                   simp only [List.getElem?_toArray, List.getElem?_cons_zero, List.getElem?_cons_succ] at d3
                   obtain ⟨-, -, -, -, -, y5, fy⟩ := HR7.out.y
                   clear hr6 ho6 hm6 hB7)
      try clear d0 d1 d2 fd0 fd1
      obtain ⟨w8, hw8⟩ : ∃ w8, w8 = w7.setCell ⟨g13, 5, none⟩ (.int .i64 (o.left - M)) := ⟨_, rfl⟩
      rw [← hw8]
      have HR8 : Hid (PR gb B V nn w g13 c (o.less M) (ts ++ [trdOf o x M]) A6 (m + 1) c6 V' w8) := Lib.hid (by rw [hw8]; exact HR7.out.own13 M)
      have HB8 : Hid (Blk w8 g17 59 #[.int .i64 x.id, .int .i64 o.id, .int .i64 x.price, .int .i64 M]) := Lib.hid (by
       rw [hw8]
       exact HB7.out.far (by have h1 := HPR.out.blk.lt; have h2 := HGG.out; dsimp only; omega) _)
      have HVA : Hid (V.oA = some ⟨gr, 0, none⟩) := Lib.hid (HPR.out.vA.1.symm.trans (hoa.out.trans HGR.out))
      have HRD : Hid (PR gb B V nn w g13 c (o.less M) (ts ++ [trdOf o x M]) A6 (m + 1) c6 V' w8.drew) := Lib.hid (HR8.out.below (below_drewN (Below.refl _ _) 1))
      have HS19 : Hid ((fun w' => w'.cell? ⟨gr, id * 6 + 5, none⟩ = some (.int .i64 x.left) ∧ w'.cell? ⟨g17, 3, none⟩ = some (.int .i64 M) ∧ w'.frozen? ⟨gr, id * 6 + 5, none⟩ = false) w8.drew) := Lib.hid (by
       obtain ⟨g', hg', -, -, h1, h2⟩ := HRD.out.bk.order (k := id) (by rw [HCL.out]; omega)
       rw [hoa.out, HGR.out] at hg'
       injection hg' with hg'
       injection hg' with hg'
       subst hg'
       rw [HX.out] at h2
       exact ⟨h2.2.2.2.2.2, by rw [(blk_drew HB8.out).cell]; rfl, h1⟩)
      clear hw8 d3 y5 fy HB7
      refine beginG (S := (fun w' => w'.cell? ⟨gr, id * 6 + 5, none⟩ = some (.int .i64 x.left) ∧ w'.cell? ⟨g17, 3, none⟩ = some (.int .i64 M) ∧ w'.frozen? ⟨gr, id * 6 + 5, none⟩ = false)) 9 (by kernel_rfl) HS19.out (fun hHeld => ?_)
      refine takeG 0 (some 145) (v := ?_) (by rfl) (by rfl) (by kernel_rfl) (by kernel_rfl) (by decide) (by kernel_rfl) (by kernel_rfl) (fun _ _ _ h => h) ?_ (by assumption) ?_
      rotate_left
      ·(intro o ho w hSw; obtain ⟨a0, a1, a2⟩ := hSw; cases ho; go_simp; try with_reducible rfl)
      try simp only [Act.put, pB, pC, pD]
      refine takeG 1 (some 146) (v := ?_) (by rfl) (by rfl) (by kernel_rfl) (by kernel_rfl) (by decide) (by kernel_rfl) (by kernel_rfl) (fun _ _ _ h => h) ?_ (by assumption) ?_
      rotate_left
      ·(intro o ho w hSw; obtain ⟨a0, a1, a2⟩ := hSw; cases ho; go_simp; try with_reducible rfl)
      try simp only [Act.put, pB, pC, pD]
      refine takeG 2 (some 147) (v := ?_) (by rfl) (by rfl) (by kernel_rfl) (by kernel_rfl) (by decide) (by kernel_rfl) (by kernel_rfl) (fun _ _ _ h => h) ?_ (by assumption) ?_
      rotate_left
      ·(intro o ho w hSw; obtain ⟨a0, a1, a2⟩ := hSw; cases ho; go_simp; try with_reducible rfl)
      try simp only [Act.put, pB, pC, pD]
      refine takeG 3 (some 148) (v := ?_) (by rfl) (by rfl) (by kernel_rfl) (by kernel_rfl) (by decide) (by kernel_rfl) (by kernel_rfl) (fun _ _ _ h => h) ?_ (by assumption) ?_
      rotate_left
      ·(intro o ho w hSw; obtain ⟨a0, a1, a2⟩ := hSw; cases ho; go_simp; try with_reducible rfl)
      try simp only [Act.put, pB, pC, pD]
      refine takeG 4 (some 149) (v := ?_) (by rfl) (by rfl) (by kernel_rfl) (by kernel_rfl) (by decide) (by kernel_rfl) (by kernel_rfl) (fun _ _ _ h => h) ?_ (by assumption) ?_
      rotate_left
      ·(intro o ho w hSw; obtain ⟨a0, a1, a2⟩ := hSw; cases ho; go_simp; try with_reducible rfl)
      try simp only [Act.put, pB, pC, pD]
      refine takeG 5 (some 150) (v := ?_) (by rfl) (by rfl) (by kernel_rfl) (by kernel_rfl) (by decide) (by kernel_rfl) (by kernel_rfl) (fun _ _ _ h => h) ?_ (by assumption) ?_
      rotate_left
      ·(intro o ho w hSw; obtain ⟨a0, a1, a2⟩ := hSw; cases ho; go_simp; try with_reducible rfl)
      try simp only [Act.put, pB, pC, pD]
      refine takeG 6 (some 151) (v := ?_) (by rfl) (by rfl) (by kernel_rfl) (by kernel_rfl) (by decide) (by kernel_rfl) (by kernel_rfl) (fun _ _ _ h => h) ?_ (by assumption) ?_
      rotate_left
      ·(intro o ho w hSw; obtain ⟨a0, a1, a2⟩ := hSw; cases ho; go_simp; try with_reducible rfl)
      try simp only [Act.put, pB, pC, pD]
      refine takeGD [8, 9] 7 (some 152) (v := ?_) (by rfl) (by rfl) (by kernel_rfl) (by kernel_rfl) (by decide) (by kernel_rfl) (by kernel_rfl) (fun _ _ _ h => h) ?_ (by assumption) ?_
      rotate_left
      ·(intro o ho w hSw; obtain ⟨a0, a1, a2⟩ := hSw; cases ho; go_simp; try with_reducible rfl)
      try simp only [Act.put, pB, pC, pD]
      refine takeG 8 (some 153) (v := ?_) (by rfl) (by rfl) (by kernel_rfl) (by kernel_rfl) (by decide) (by kernel_rfl) (by kernel_rfl) (fun _ _ _ h => h) ?_ (by assumption) ?_
      rotate_left
      ·(intro o ho w hSw; obtain ⟨a0, a1, a2⟩ := hSw; cases ho; go_simp; try with_reducible rfl)
      try simp only [Act.put, pB, pC, pD]
      refine lastG (by kernel_rfl) rfl (fun K hK => ?_)
      obtain ⟨a0, a1, a2⟩ := HS19.out
      go_simp
      refine hK.out _ _ ?_
      clear hK K
      (try simp only [Act.put]); (try simp only [pB]); (try simp only [pD]); (try simp only [pC])
      refine doneG (by kernel_rfl) ?_ _
      obtain ⟨w9, hw9⟩ : ∃ w9, w9 = (w8.setCell ⟨gr, id * 6 + 5, none⟩ (.int .i64 (x.left - M))).drew := ⟨_, rfl⟩
      rw [← hw9]
      have HR9 : Hid (PR gb B V nn w g13 (c.setOs (c.os.set id (x.less M))) (o.less M) (ts ++ [trdOf o x M]) A6 (m + 1) c6 V' w9) := Lib.hid (by
       have h1 := HR8.out.other HVA.out (k := id) (by rw [HCL.out]; omega) M
       rw [HX.out] at h1
       rw [hw9]
       exact h1.below (below_drewN (Below.refl _ _) 1))
      have HX9 : Hid (ordAt (c.os.set id (x.less M)) id = x.less M) := Lib.hid (by rw [ordAt_set (by rw [HCL.out]; omega), if_pos rfl])
      have HC9 : Hid ((c.setOs (c.os.set id (x.less M))).os.length = nn) := Lib.hid (by show (c.os.set id (x.less M)).length = nn; rw [List.length_set]; exact HCL.out)
      obtain ⟨g', hg', -, -, -, -, e1, -, -, -, e5⟩ := HR9.out.bk.order (k := id) (by rw [HC9.out]; omega)
      rw [hoa.out, HGR.out] at hg'
      injection hg' with hg'
      injection hg' with hg' hz1 hz2
      clear hz1 hz2
      subst hg'
      rw [show (c.setOs (c.os.set id (x.less M))).os = c.os.set id (x.less M) from rfl, HX9.out] at e1 e5
      replace e1 : w9.cell? ⟨gr, id * 6 + 1, none⟩ = some (.int .i64 x.acc) := e1
      replace e5 : w9.cell? ⟨gr, id * 6 + 5, none⟩ = some (.int .i64 (x.left - M)) := e5
      obtain ⟨-, v1, fv⟩ := HR9.out.z_true
      rw [HVS.out] at v1
      dsimp only at v1
      obtain ⟨L, hL⟩ : ∃ L, x.left - M = L := ⟨_, rfl⟩
      rw [hL] at e5
      have HL := Lib.hid hL
      clear hL hw9 hw18 hw19 a0 a1 a2 HS19 HS14 HS HAC
      try clear hHeld hH18 hH19
      rcases Decidable.em (L = 0) with hzz | hzz
      ·subst hzz
       have HPM9 : Hid (PM b true o0 ((c.setOs (c.os.set id (x.less M))).put true t) (o.less M) (ts ++ [trdOf o x M])) := Lib.hid (by
        have h1 := HPM.out.full HSD.out hlf (by rw [HX.out]; exact HAB.out) (by rw [HX.out, HOA.out]; exact hxa) (m := M) (by rw [HX.out]; exact HMM.out.symm) (by rw [HX.out]; exact HL.out)
        rw [HX.out] at h1
        exact h1)
       rcases (show cs = 1 ∨ cs ≠ 1 by omega) with hc1 | hc1
       ·subst hc1
        obtain rfl : ns = 1 := by omega
        go_wp2
        obtain ⟨V2, hPR2⟩ := HR9.out.pop_true HVS.out (show (c.setOs (c.os.set id (x.less M))).side true = id :: t by rw [setOs_side]; exact HSD.out)
        rw [if_pos rfl] at hPR2
        go_roundg ((((c.setOs (c.os.set id (x.less M))).put true t).side true).length + (if 0 < (o.less M).left then 1 else 0))
        case measure =>
         rw [← HGK.out, HSD.out, if_pos hlf, put_side]
         simp only [List.length_cons]
         split <;> omega
        case rel => exact PLoop.mk HPM9.out hPR2
       ·go_wp2
        obtain ⟨V2, hPR2⟩ := HR9.out.pop_true HVS.out (show (c.setOs (c.os.set id (x.less M))).side true = id :: t by rw [setOs_side]; exact HSD.out)
        rw [if_neg hc1] at hPR2
        go_roundg ((((c.setOs (c.os.set id (x.less M))).put true t).side true).length + (if 0 < (o.less M).left then 1 else 0))
        case measure =>
         rw [← HGK.out, HSD.out, if_pos hlf, put_side]
         simp only [List.length_cons]
         split <;> omega
        case rel => exact PLoop.mk HPM9.out hPR2
      ·have HZ : Hid (x.left - M ≠ 0) := Lib.hid (by rw [HL.out]; exact hzz)
       have hzb : (L == 0) = false := by simp [hzz]
       have hae : (x.acc == acc) = false := by simp [hxa]
       have HPM9 : Hid (PM b true o0 (c.setOs (c.os.set id (x.less M))) (o.less M) (ts ++ [trdOf o x M])) := Lib.hid (by
        have h1 := (HPM.out.part HSD.out hlf (by rw [HX.out]; exact HAB.out) (by rw [HX.out, HOA.out]; exact hxa) (m := M) (by rw [HX.out]; exact HMM.out.symm) (by rw [HX.out]; exact HZ.out)).1
        rw [HX.out] at h1
        exact h1)
       go_wp2
       go_roundg (((c.setOs (c.os.set id (x.less M))).side true).length + (if 0 < (o.less M).left then 1 else 0))
       case measure =>
        rw [← HGK.out, HSD.out, if_pos hlf, setOs_side, HSD.out, if_neg (by show ¬ 0 < o.left - M; have := HMM.out; have := HZ.out; omega)]
        omega
       case rel => exact PLoop.mk HPM9.out HR9.out
  ·have HST : Hid (Stops c true o) := Lib.hid (.inl hlf)
   clear hlen
   go_wp2
   have hPx := (show Below wr.heap.size wr wr.drew from below_drewN (Below.refl _ _) 1)
   have HS22 : Hid (∀ w', Below wr.heap.size wr w' → (fun w' => w'.cell? ⟨gb, 0, none⟩ = some (.slice oa nn oc) ∧ w'.cell? ⟨g13, 0, none⟩ = some (.int .i64 o.id) ∧ w'.cell? ⟨g13, 1, none⟩ = some (.int .i64 o.acc) ∧ w'.cell? ⟨g13, 2, none⟩ = some (.bool o.buy) ∧ w'.cell? ⟨g13, 3, none⟩ = some (.int .i64 o.price) ∧ w'.cell? ⟨g13, 4, none⟩ = some (.int .i64 o.n) ∧ w'.cell? ⟨g13, 5, none⟩ = some (.int .i64 o.left) ∧ w'.frozen? ⟨gb, 0, none⟩ = false) w') := Lib.hid (fun w' hb => by
    have q := HPR.out.below hb
    have y := q.y
    have z := q.z_true
    rw [hoa.out, hoc.out, HCL.out] at z
    exact ⟨z.1, y.1, y.2.1, y.2.2.1, y.2.2.2.1, y.2.2.2.2.1, y.2.2.2.2.2.1, q.bk.blk.frozen 0⟩)
   have HAPP : Hid (∀ w', Below wr.heap.size wr w' → ∃ A' c' w5, (Builtin.append_ #[95, 95] 95 #[.slice oa nn oc, .slice (some ⟨w'.heap.size, 0, none⟩) 1 1]).run Tryz.prog (w'.alloc (.cells #[.int .i64 o.id, .int .i64 o.acc, .bool o.buy, .int .i64 o.price, .int .i64 o.n, .int .i64 o.left] 55)) = .ok (.slice A' (nn + 1) c') w5 ∧ (fun w' => w'.cell? ⟨gb, 0, none⟩ = some (.slice oa nn oc) ∧ w'.cell? ⟨g13, 0, none⟩ = some (.int .i64 o.id) ∧ w'.cell? ⟨g13, 1, none⟩ = some (.int .i64 o.acc) ∧ w'.cell? ⟨g13, 2, none⟩ = some (.bool o.buy) ∧ w'.cell? ⟨g13, 3, none⟩ = some (.int .i64 o.price) ∧ w'.cell? ⟨g13, 4, none⟩ = some (.int .i64 o.n) ∧ w'.cell? ⟨g13, 5, none⟩ = some (.int .i64 o.left) ∧ w'.frozen? ⟨gb, 0, none⟩ = false) w5 ∧ ∃ V2, PF gb B V nn w g13 c o ts A m cc V2 (w5.setCell ⟨gb, 0, none⟩ (.slice A' (nn + 1) c'))) := Lib.hid (fun w' hb => by
    have q := HPR.out.below hb
    have ho := q.bk.orders
    unfold BkV.os at ho
    rw [hoa.out, hoc.out, HCL.out] at ho
    obtain ⟨A', c', w5, hr, h1, h2, h3, h4⟩ := app_elem2 95 slT_ord ho #[.int .i64 o.id, .int .i64 o.acc, .bool o.buy, .int .i64 o.price, .int .i64 o.n, .int .i64 o.left] rfl (one6 _ _ _ _ _ _) (by have := HNL.out; omega) (by decide) (Nat.le_trans (Nat.le_trans HK.out.ge (Nat.le_of_lt HK.out.blk.lt)) q.mod.size)
    have hvo : V'.os c.os.length = .slice oa nn oc := by unfold BkV.os; rw [hoa.out, hoc.out, HCL.out]
    have ha := q.added (A' := A') (c' := c') (w5 := w5) (by rw [HCL.out]; exact HNL.out) (by rw [hvo]; exact h3) (by rw [HCL.out]; exact h1) (by rw [hvo, HCL.out]; exact h4)
    rw [hoa.out, hoc.out, HCL.out] at ha
    exact ⟨A', c', w5, hr, ha.1, ha.2⟩)
   clear y0 y1 y2 y3 y4 y5 fy v0 v1 fv
   refine beginG (S := (fun w' => w'.cell? ⟨gb, 0, none⟩ = some (.slice oa nn oc) ∧ w'.cell? ⟨g13, 0, none⟩ = some (.int .i64 o.id) ∧ w'.cell? ⟨g13, 1, none⟩ = some (.int .i64 o.acc) ∧ w'.cell? ⟨g13, 2, none⟩ = some (.bool o.buy) ∧ w'.cell? ⟨g13, 3, none⟩ = some (.int .i64 o.price) ∧ w'.cell? ⟨g13, 4, none⟩ = some (.int .i64 o.n) ∧ w'.cell? ⟨g13, 5, none⟩ = some (.int .i64 o.left) ∧ w'.frozen? ⟨gb, 0, none⟩ = false)) 10 (by kernel_rfl) (HS22.out _ hPx) (fun hHeld => ?_)
   refine takeG 0 (some 175) (v := ?_) (by rfl) (by rfl) (by kernel_rfl) (by kernel_rfl) (by decide) (by kernel_rfl) (by kernel_rfl) (fun _ _ _ h => h) ?_ (by assumption) ?_
   rotate_left
   ·(intro o ho w hSw; obtain ⟨z0, y0, y1, y2, y3, y4, y5, f0⟩ := hSw; cases ho; go_simp; try with_reducible rfl)
   try simp only [Act.put, pB, pC, pD]
   refine takeG 1 (some 176) (v := ?_) (by rfl) (by rfl) (by kernel_rfl) (by kernel_rfl) (by decide) (by kernel_rfl) (by kernel_rfl) (fun _ _ _ h => h) ?_ (by assumption) ?_
   rotate_left
   ·(intro o ho w hSw; obtain ⟨z0, y0, y1, y2, y3, y4, y5, f0⟩ := hSw; cases ho; go_simp; try with_reducible rfl)
   try simp only [Act.put, pB, pC, pD]
   refine takeG 2 (some 177) (v := ?_) (by rfl) (by rfl) (by kernel_rfl) (by kernel_rfl) (by decide) (by kernel_rfl) (by kernel_rfl) (fun _ _ _ h => h) ?_ (by assumption) ?_
   rotate_left
   ·(intro o ho w hSw; obtain ⟨z0, y0, y1, y2, y3, y4, y5, f0⟩ := hSw; cases ho; go_simp; try with_reducible rfl)
   try simp only [Act.put, pB, pC, pD]
   refine takeG 3 (some 178) (v := ?_) (by rfl) (by rfl) (by kernel_rfl) (by kernel_rfl) (by decide) (by kernel_rfl) (by kernel_rfl) (fun _ _ _ h => h) ?_ (by assumption) ?_
   rotate_left
   ·(intro o ho w hSw; obtain ⟨z0, y0, y1, y2, y3, y4, y5, f0⟩ := hSw; cases ho; go_simp; try with_reducible rfl)
   try simp only [Act.put, pB, pC, pD]
   refine takeG 4 (some 179) (v := ?_) (by rfl) (by rfl) (by kernel_rfl) (by kernel_rfl) (by decide) (by kernel_rfl) (by kernel_rfl) (fun _ _ _ h => h) ?_ (by assumption) ?_
   rotate_left
   ·(intro o ho w hSw; obtain ⟨z0, y0, y1, y2, y3, y4, y5, f0⟩ := hSw; cases ho; go_simp; try with_reducible rfl)
   try simp only [Act.put, pB, pC, pD]
   refine takeG 5 (some 180) (v := ?_) (by rfl) (by rfl) (by kernel_rfl) (by kernel_rfl) (by decide) (by kernel_rfl) (by kernel_rfl) (fun _ _ _ h => h) ?_ (by assumption) ?_
   rotate_left
   ·(intro o ho w hSw; obtain ⟨z0, y0, y1, y2, y3, y4, y5, f0⟩ := hSw; cases ho; go_simp; try with_reducible rfl)
   try simp only [Act.put, pB, pC, pD]
   refine readyG (i := 6) (by kernel_rfl) rfl (fun K hK => ?_)
   go_simp
   have hP8 := hPx.alloc hPx.size (.cells #[.int .i64 o.id, .int .i64 o.acc, .bool o.buy, .int .i64 o.price, .int .i64 o.n, .int .i64 o.left] 55)
   refine hK.out _ _ ?_ (fun hH6 => ?_)
   ·exact (HS22.out _ hP8)
   clear hK K
   (try simp only [Act.put]); (try simp only [pB]); (try simp only [pD]); (try simp only [pC])
   refine readyG (i := 7) (by kernel_rfl) rfl (fun K hK => ?_)
   obtain ⟨A5, c5, w5, hr5, hHx, V2, hF5⟩ := HAPP.out _ hPx
   refine step_app (t := 95) hr5 (by kernel_rfl) (by rfl) (by rfl) (by rfl) ?_
   (try simp only [List.getElem_toArray, List.getElem_cons_succ, List.getElem_cons_zero])
   refine hK.out _ _ ?_ (fun hH7 => ?_)
   ·exact hHx
   clear hK K
   (try simp only [Act.put]); (try simp only [pB]); (try simp only [pD]); (try simp only [pC])
   refine takeGD [9, 10] 8 (some 183) (v := ?_) (by rfl) (by rfl) (by kernel_rfl) (by kernel_rfl) (by decide) (by kernel_rfl) (by kernel_rfl) (fun _ _ _ h => h) ?_ (by assumption) ?_
   rotate_left
   ·(intro o ho w hSw; obtain ⟨z0, y0, y1, y2, y3, y4, y5, f0⟩ := hSw; cases ho; go_simp; try with_reducible rfl)
   (try simp only [Act.put]); (try simp only [pB]); (try simp only [pD]); (try simp only [pC])
   refine takeG 9 (some 184) (v := ?_) (by rfl) (by rfl) (by kernel_rfl) (by kernel_rfl) (by decide) (by kernel_rfl) (by kernel_rfl) (fun _ _ _ h => h) ?_ (by assumption) ?_
   rotate_left
   ·(intro o ho w hSw; obtain ⟨z0, y0, y1, y2, y3, y4, y5, f0⟩ := hSw; cases ho; go_simp; try with_reducible rfl)
   (try simp only [Act.put]); (try simp only [pB]); (try simp only [pD]); (try simp only [pC])
   refine lastG (by kernel_rfl) rfl (fun K hK => ?_)
   obtain ⟨z0, y0, y1, y2, y3, y4, y5, f0⟩ := hHx
   go_simp
   refine hK.out _ _ ?_
   clear hK K
   (try simp only [Act.put]); (try simp only [pB]); (try simp only [pD]); (try simp only [pC])
   refine doneG (by kernel_rfl) ?_ _
   obtain ⟨w7, hw7⟩ : ∃ w7, w7 = w5.setCell ⟨gb, 0, none⟩ (.slice A5 (nn + 1) c5) := ⟨_, rfl⟩
   rw [← hw7] at hF5 ⊢
   obtain ⟨y0, y1, y2, y3, y4, y5⟩ := hF5.y
   have HF5 := Lib.hid hF5
   clear hw7 hF5
   go_wp2
   refine bodyPost_ret (v := .tuple #[.int .i64 o.id, .slice A m cc, .int .i64 0]) (by simp [results, Tryz.results9, go_sem]) rfl (HF5.out.fin0 (show PM b (!false) ⟨(nn : Int), acc, false, price, n, n⟩ c o ts from by rw [← HO0.out]; exact HPM.out) HST.out HE0.out HNN.out hlf)
end Go.Proofs.YtlcalajehnaenaaGreatDoor
