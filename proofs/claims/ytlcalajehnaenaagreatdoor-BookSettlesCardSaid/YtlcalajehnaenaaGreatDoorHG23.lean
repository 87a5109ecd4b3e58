/- book: sort.Search with place's closure. -/
import Derived.Test.YtlcalajehnaenaaGreatDoorHG22
import Derived.Test.YtlcalajehnaenaaGreatDoorHG1
namespace Go.Proofs.YtlcalajehnaenaaGreatDoor
open Go.RowKit
set_option maxHeartbeats 1000000 in
theorem search_any (p5 p2 p3 n : Nat) (p : Nat → Bool) (w : World) (hn : n ≤ 1000000) (hf : Hid (∀ w', Below w.heap.size w w' → ∀ i : Nat, i < n → Calls Tryz.prog 162 #[.int .i64 (i : Int), .pointer (some ⟨p5, 0, none⟩), .pointer (some ⟨p2, 0, none⟩), .pointer (some ⟨p3, 0, none⟩)] w' fun e w'' => e = .returned (.bool (p i)) ∧ Below w'.heap.size w' w'')) (hm : Hid (∀ a b, a ≤ b → b < n → p a = true → p b = true)) :
 Calls Tryz.prog 161 #[.int .i64 (n : Int), .func (.func 162) #[] #[.pointer (some ⟨p5, 0, none⟩), .pointer (some ⟨p2, 0, none⟩), .pointer (some ⟨p3, 0, none⟩)]] w fun e w' => ∃ r : Nat, e = .returned (.int .i64 (r : Int)) ∧ r ≤ n ∧ (∀ i, i < r → p i = false) ∧ (∀ i, r ≤ i → i < n → p i = true) ∧ Below w.heap.size w w' := by
 go_enter Tryz.func161, Tryz.ntmps161
 go_wp2
 go_loopw [5, 6] (fun iv jv wr => ∃ lo hi : Nat, lo ≤ hi ∧ hi ≤ n ∧ iv = .int .i64 (lo : Int) ∧ jv = .int .i64 (hi : Int) ∧ Hid ((∀ i, i < lo → p i = false) ∧ (∀ i, hi ≤ i → i < n → p i = true)) ∧ Hid (Below w.heap.size w wr)) (fun iv jv _ => (intOf jv).toNat - (intOf iv).toNat)
 case atStart => exact ⟨0, n, by omega, Nat.le_refl _, rfl, rfl, Lib.hid ⟨fun i hi => absurd hi (by omega), fun i h1 h2 => absurd h2 (by omega)⟩, Lib.hid (Below.refl _ _)⟩
 case round =>
  obtain ⟨lo, hi, h1, h2, rfl, rfl, HP, HB⟩ := hrel
  by_cases hlt : lo < hi
  ·have hlt' : (lo : Int) < (hi : Int) := by omega
   obtain ⟨md, hmd⟩ : ∃ md, (lo + hi) / 2 = md := ⟨_, rfl⟩
   have hw : ((lo : Int) + (hi : Int)) / 2 = (md : Int) := by omega
   have hm1 : lo ≤ md := by omega
   have hm2 : md < hi := by omega
   clear hmd
   obtain ⟨r, hr⟩ : ∃ r, p md = r := ⟨_, rfl⟩
   have hc := hf.out _ HB.out md (by omega)
   rw [hr] at hc
   have HC := Lib.hid hc
   clear hc
   have HR := Lib.hid hr
   clear hr
   have HM := Lib.hid hm1
   have HM2 := Lib.hid hm2
   clear hm1 hm2
   cases r
   ·go_wp2_with (go_at_call 162; (refine (HC.out).mono ?_); rintro e w1 ⟨rfl, hb1⟩)
    have HB1 := Lib.hid (bt HB.out hb1)
    clear hb1
    have hlow : ∀ i, i < md + 1 → p i = false := by
     intro i hi1
     cases hpi : p i with
     | false => rfl
     | true =>
       have := hm.out i md (by omega) (by have := HM2.out; omega) hpi
       rw [HR.out] at this
       cases this
    exact ⟨⟨md + 1, hi, by have := HM2.out; omega, h2, rfl, rfl, Lib.hid ⟨hlow, HP.out.2⟩, HB1⟩, by have := HM.out; have := HM2.out; simp [intOf]; omega⟩
   ·go_wp2_with (go_at_call 162; (refine (HC.out).mono ?_); rintro e w1 ⟨rfl, hb1⟩)
    have HB1 := Lib.hid (bt HB.out hb1)
    clear hb1
    exact ⟨⟨lo, md, HM.out, by have := HM2.out; omega, rfl, rfl, Lib.hid ⟨HP.out.1, fun i h3 h4 => hm.out md i h3 h4 HR.out⟩, HB1⟩, by have := HM.out; have := HM2.out; simp [intOf]; omega⟩
  ·have hlt' : ¬ (lo : Int) < (hi : Int) := by omega
   go_wp2
   go_ret
   exact ⟨lo, rfl, by omega, HP.out.1, fun i h3 h4 => HP.out.2 i (by omega) h4, HB.out⟩
end Go.Proofs.YtlcalajehnaenaaGreatDoor
namespace Go.Proofs.YtlcalajehnaenaaGreatDoor
open Go.RowKit
theorem side_true (w : World) : Calls Tryz.prog 33 #[.bool true] w fun e w' => e = .returned (.int .i64 0) ∧ w = w' := side_any true w
theorem side_false (w : World) : Calls Tryz.prog 33 #[.bool false] w fun e w' => e = .returned (.int .i64 1) ∧ w = w' := side_any false w
theorem bet_trans {buy : Bool} {x y z : Ord} (h : betterB buy x y = true) (k : betterB buy y z = true) : betterB buy x z = true := by
 unfold betterB at *
 cases buy <;> simp only [Bool.false_eq_true, if_false, if_true, Bool.or_eq_true, Bool.and_eq_true, decide_eq_true_eq] at * <;> omega
theorem placeN_eq {os : List Ord} {l : List Nat} {o : Ord} {r : Nat} (hr : r ≤ l.length) (h1 : ∀ i (hi : i < l.length), i < r → betterB o.buy (ordAt os l[i]) o = true) (h2 : ∀ i (hi : i < l.length), r ≤ i → betterB o.buy (ordAt os l[i]) o = false) : placeN os l o = r := by
 unfold placeN
 rcases Nat.lt_or_ge r l.length with h | h
 ·refine (List.findIdx_eq h).2 ⟨by simp [h2 r h (Nat.le_refl _)], fun j hj => by simp [h1 j (by omega) hj]⟩
 ·have hrl : r = l.length := by omega
  rw [hrl]
  refine List.findIdx_eq_length.2 (fun x hx => ?_)
  obtain ⟨i, hi, rfl⟩ := List.mem_iff_getElem.1 hx
  simp [h1 i hi (by omega)]
def plB (os : List Ord) (l : List Nat) (o : Ord) (k : Nat) : Bool := !betterB o.buy (ordAt os ((l[k]?).getD 0)) o
theorem plB_mono {os : List Ord} {l : List Nat} {o : Ord} (h : SortedB os o.buy l) : ∀ a b, a ≤ b → b < l.length → plB os l o a = true → plB os l o b = true := by
 intro a b hab hb ha
 rcases Nat.lt_or_ge a b with hlt | hge
 ·unfold plB at *
  rw [List.getElem?_eq_getElem hb]
  rw [List.getElem?_eq_getElem (by omega)] at ha
  simp only [Option.getD_some, Bool.not_eq_true'] at *
  cases hbo : betterB o.buy (ordAt os l[b]) o with
  | false => rfl
  | true =>
    have := bet_trans (List.pairwise_iff_getElem.1 h a b (by omega) hb hlt) hbo
    rw [ha] at this
    cases this
 ·rw [show b = a by omega]
  exact ha
theorem plB_place {os : List Ord} {l : List Nat} {o : Ord} {r : Nat} (hr : r ≤ l.length) (h1 : ∀ i, i < r → plB os l o i = false) (h2 : ∀ i, r ≤ i → i < l.length → plB os l o i = true) : placeN os l o = r := by
 refine placeN_eq hr (fun i hi hir => ?_) (fun i hi hir => ?_)
 ·have := h1 i hir
  unfold plB at this
  rw [List.getElem?_eq_getElem hi] at this
  simpa using this
 ·have := h2 i hir hi
  unfold plB at this
  rw [List.getElem?_eq_getElem hi] at this
  simpa using this
theorem pl_true (p5 p2 p3 t5 t2 t3 gb B i : Nat) (V : BkV) (b : BkS) (o : Ord) (w : World) (hb : BkAt w B gb V b) (ho : o.buy = true) (hi : i < (b.side true).length) (h5 : Blk w p5 t5 #[.pointer (some ⟨gb, 1, none⟩)]) (h2 : Blk w p2 t2 #[.pointer (some ⟨gb, 0, none⟩)]) (h3 : Blk w p3 t3 #[.int .i64 o.id, .int .i64 o.acc, .bool o.buy, .int .i64 o.price, .int .i64 o.n, .int .i64 o.left]) :
 Calls Tryz.prog 162 #[.int .i64 (i : Int), .pointer (some ⟨p5, 0, none⟩), .pointer (some ⟨p2, 0, none⟩), .pointer (some ⟨p3, 0, none⟩)] w fun e w' => e = .returned (.bool (plB b.os (b.side true) o i)) ∧ Below w.heap.size w w' := by
 have hI : IRow w B V.b (b.side true) := hb.bs
 have hm := hb.ok.mem true (b.side true)[i] (List.getElem_mem hi)
 have hsl : V.b = (V.b.1, V.b.2.1, V.b.2.2) := rfl
 have hlen := hI.len
 rw [hsl] at hI
 obtain ⟨gs, off, e1, -, lgs, c1, -⟩ := hI.cell (j := i) (by omega)
 rw [List.getElem?_eq_getElem hi] at c1
 obtain ⟨gr, e2, lgr, -, x0, x1, x2, x3, x4, x5⟩ := hb.order hm.1
 have b0 := hb.blk.cell 0
 have b1 := hb.blk.cell 1
 have b2 := hb.blk.cell 2
 simp only [List.getElem?_toArray, List.getElem?_cons_zero, List.getElem?_cons_succ] at b0 b1 b2
 unfold BkV.os at b0
 unfold slV at b1
 rw [e2] at b0
 rw [e1] at b1
 have y := fun j => h3.cell j
 refine (pl1_raw p5 p2 p3 gb gr b.os.length V.oc gs off V.b.2.1 V.b.2.2 i (b.side true)[i] (ordAt b.os (b.side true)[i]) o w ⟨by rw [h5.cell]; rfl, by rw [h2.cell]; rfl, b0, b1, b2, c1, ⟨x0, x1, x2, x3, x4, x5⟩, by rw [y]; rfl, by rw [y]; rfl, by rw [y]; rfl, by rw [y]; rfl, by rw [y]; rfl, by rw [y]; rfl⟩ (by omega) hm.1 h5.lt h2.lt h3.lt hb.blk.lt lgr lgs).mono ?_
 rintro e w' ⟨rfl, hbw⟩
 refine ⟨?_, hbw⟩
 unfold plB
 rw [List.getElem?_eq_getElem hi, ho]
 rfl
theorem pl_false (p5 p2 p3 t5 t2 t3 gb B i : Nat) (V : BkV) (b : BkS) (o : Ord) (w : World) (hb : BkAt w B gb V b) (ho : o.buy = false) (hi : i < (b.side false).length) (h5 : Blk w p5 t5 #[.pointer (some ⟨gb, 3, none⟩)]) (h2 : Blk w p2 t2 #[.pointer (some ⟨gb, 0, none⟩)]) (h3 : Blk w p3 t3 #[.int .i64 o.id, .int .i64 o.acc, .bool o.buy, .int .i64 o.price, .int .i64 o.n, .int .i64 o.left]) :
 Calls Tryz.prog 162 #[.int .i64 (i : Int), .pointer (some ⟨p5, 0, none⟩), .pointer (some ⟨p2, 0, none⟩), .pointer (some ⟨p3, 0, none⟩)] w fun e w' => e = .returned (.bool (plB b.os (b.side false) o i)) ∧ Below w.heap.size w w' := by
 have hI : IRow w B V.s (b.side false) := hb.ss
 have hm := hb.ok.mem false (b.side false)[i] (List.getElem_mem hi)
 have hsl : V.s = (V.s.1, V.s.2.1, V.s.2.2) := rfl
 have hlen := hI.len
 rw [hsl] at hI
 obtain ⟨gs, off, e1, -, lgs, c1, -⟩ := hI.cell (j := i) (by omega)
 rw [List.getElem?_eq_getElem hi] at c1
 obtain ⟨gr, e2, lgr, -, x0, x1, x2, x3, x4, x5⟩ := hb.order hm.1
 have b0 := hb.blk.cell 0
 have b1 := hb.blk.cell 3
 have b2 := hb.blk.cell 4
 simp only [List.getElem?_toArray, List.getElem?_cons_zero, List.getElem?_cons_succ] at b0 b1 b2
 unfold BkV.os at b0
 unfold slV at b1
 rw [e2] at b0
 rw [e1] at b1
 have y := fun j => h3.cell j
 refine (pl2_raw p5 p2 p3 gb gr b.os.length V.oc gs off V.s.2.1 V.s.2.2 i (b.side false)[i] (ordAt b.os (b.side false)[i]) o w ⟨by rw [h5.cell]; rfl, by rw [h2.cell]; rfl, b0, b1, b2, c1, ⟨x0, x1, x2, x3, x4, x5⟩, by rw [y]; rfl, by rw [y]; rfl, by rw [y]; rfl, by rw [y]; rfl, by rw [y]; rfl, by rw [y]; rfl⟩ (by omega) hm.1 h5.lt h2.lt h3.lt hb.blk.lt lgr lgs).mono ?_
 rintro e w' ⟨rfl, hbw⟩
 refine ⟨?_, hbw⟩
 unfold plB
 rw [List.getElem?_eq_getElem hi, ho]
 rfl
set_option maxHeartbeats 1000000 in
theorem place_any (gb B : Nat) (V : BkV) (b : BkS) (o : Ord) (w : World) (HK : Hid (BkAt w B gb V b)) :
 Calls Tryz.prog 80 #[.pointer (some ⟨gb, 0, none⟩), .agg #[.int .i64 o.id, .int .i64 o.acc, .bool o.buy, .int .i64 o.price, .int .i64 o.n, .int .i64 o.left]] w fun e w' => e = .returned (.int .i64 (placeN b.os (b.side o.buy) o : Nat)) ∧ Below w.heap.size w w' := by
 obtain ⟨i1, a1, b1, p1, n1, l1⟩ := o
 dsimp only
 cases b1
 ·
   obtain ⟨A, n, c, hV⟩ : ∃ A n c, V.s = (A, n, c) := ⟨_, _, _, rfl⟩
   have c1 := HK.out.blk.cell 3
   simp only [List.getElem?_toArray, List.getElem?_cons_zero, List.getElem?_cons_succ] at c1
   unfold slV at c1
   rw [hV] at c1
   dsimp only at c1
   have hgb := HK.out.blk.lt
   have hlen : (b.side false).length = n := by have := HK.out.ss.len; rw [hV] at this; exact this
   have hn : n ≤ 1000000 := by
    have := HK.out.ok.few
    rw [← hlen]
    unfold BkS.side
    simp
    omega
   have HS : Hid (SortedB b.os false (b.side false)) := Lib.hid (HK.out.ok.sorted false)
   have HL := Lib.hid hlen
   clear hV hlen
   go_enter Tryz.func80, Tryz.ntmps80
   go_wp2
   go_region_law (go_simp; go_at_call 33; ((with_reducible refine (side_false _).mono ?_); rintro e w1 ⟨rfl, rfl⟩))
   all_goals
    obtain ⟨W, hW⟩ : ∃ W, W = (((w.alloc (.cells #[.pointer (some ⟨gb, 0, none⟩)] 36)).alloc (.cells #[.int .i64 i1, .int .i64 a1, .bool false, .int .i64 p1, .int .i64 n1, .int .i64 l1] 55)).alloc (.cells #[.pointer (some ⟨gb, 3, none⟩)] 112)).drew := ⟨_, rfl⟩
    rw [← hW]
    have hbW : Below w.heap.size w W := by rw [hW]; exact below_drewN (((Below.refl _ _).alloc (Nat.le_refl _) _ |>.alloc (by simp) _).alloc (by simp; omega) _) 1
    have k2 : Blk W w.heap.size 36 #[.pointer (some ⟨gb, 0, none⟩)] := by rw [hW]; exact ((Blk.new w _ _).alloc _).alloc _
    have k3 : Blk W (w.heap.size + 1) 55 #[.int .i64 i1, .int .i64 a1, .bool false, .int .i64 p1, .int .i64 n1, .int .i64 l1] := by rw [hW]; exact (Blk.new' (w.alloc _) _ _ (by simp)).alloc _
    have k5 : Blk W (w.heap.size + 1 + 1) 112 #[.pointer (some ⟨gb, 3, none⟩)] := by rw [hW]; exact Blk.new' ((w.alloc _).alloc _) _ _ (by simp)
    have c2 : W.cell? ⟨gb, 3, none⟩ = some (.slice A n c) := (hbW.cell (p := ⟨gb, 3, none⟩) hgb).trans c1
    have c5 : W.cell? ⟨w.heap.size + 1 + 1, 0, none⟩ = some (.pointer (some ⟨gb, 3, none⟩)) := by rw [k5.cell]; rfl
    have HA := Lib.hid (HK.out.all hbW)
    have HBW := Lib.hid hbW
    have K2 := Lib.hid k2
    have K3 := Lib.hid k3
    have K5 := Lib.hid k5
    clear hW hbW k2 k3 k5
    generalize w.heap.size + 1 + 1 = g5 at *
    generalize w.heap.size + 1 = g3 at *
    go_wp2_with (go_at_call 161; (refine (search_any g5 _ g3 n (plB b.os (b.side false) ⟨i1, a1, false, p1, n1, l1⟩) _ hn (Lib.hid (fun w' hb' i hi => pl_false g5 _ g3 _ _ _ gb B i V b ⟨i1, a1, false, p1, n1, l1⟩ w' (HA.out.all hb') rfl (by rw [HL.out]; exact hi) (K5.out.all hb') (K2.out.all hb') (K3.out.all hb'))) (Lib.hid (fun x y hxy hy => plB_mono HS.out x y hxy (by rw [HL.out]; exact hy)))).mono ?_); rintro e w5 ⟨r, rfl, hr1, hr2, hr3, hb5⟩)
    rw [plB_place (o := ⟨i1, a1, false, p1, n1, l1⟩) (by rw [HL.out]; exact hr1) hr2 (fun i h1 h2 => hr3 i h1 (by rw [← HL.out]; exact h2))]
    go_ret
    exact ⟨rfl, bt HBW.out hb5⟩
 ·
   obtain ⟨A, n, c, hV⟩ : ∃ A n c, V.b = (A, n, c) := ⟨_, _, _, rfl⟩
   have c1 := HK.out.blk.cell 1
   simp only [List.getElem?_toArray, List.getElem?_cons_zero, List.getElem?_cons_succ] at c1
   unfold slV at c1
   rw [hV] at c1
   dsimp only at c1
   have hgb := HK.out.blk.lt
   have hlen : (b.side true).length = n := by have := HK.out.bs.len; rw [hV] at this; exact this
   have hn : n ≤ 1000000 := by
    have := HK.out.ok.few
    rw [← hlen]
    unfold BkS.side
    simp
    omega
   have HS : Hid (SortedB b.os true (b.side true)) := Lib.hid (HK.out.ok.sorted true)
   have HL := Lib.hid hlen
   clear hV hlen
   go_enter Tryz.func80, Tryz.ntmps80
   go_wp2
   go_region_law (go_simp; go_at_call 33; ((with_reducible refine (side_true _).mono ?_); rintro e w1 ⟨rfl, rfl⟩))
   all_goals
    obtain ⟨W, hW⟩ : ∃ W, W = (((w.alloc (.cells #[.pointer (some ⟨gb, 0, none⟩)] 36)).alloc (.cells #[.int .i64 i1, .int .i64 a1, .bool true, .int .i64 p1, .int .i64 n1, .int .i64 l1] 55)).alloc (.cells #[.pointer (some ⟨gb, 1, none⟩)] 112)).drew := ⟨_, rfl⟩
    rw [← hW]
    have hbW : Below w.heap.size w W := by rw [hW]; exact below_drewN (((Below.refl _ _).alloc (Nat.le_refl _) _ |>.alloc (by simp) _).alloc (by simp; omega) _) 1
    have k2 : Blk W w.heap.size 36 #[.pointer (some ⟨gb, 0, none⟩)] := by rw [hW]; exact ((Blk.new w _ _).alloc _).alloc _
    have k3 : Blk W (w.heap.size + 1) 55 #[.int .i64 i1, .int .i64 a1, .bool true, .int .i64 p1, .int .i64 n1, .int .i64 l1] := by rw [hW]; exact (Blk.new' (w.alloc _) _ _ (by simp)).alloc _
    have k5 : Blk W (w.heap.size + 1 + 1) 112 #[.pointer (some ⟨gb, 1, none⟩)] := by rw [hW]; exact Blk.new' ((w.alloc _).alloc _) _ _ (by simp)
    have c2 : W.cell? ⟨gb, 1, none⟩ = some (.slice A n c) := (hbW.cell (p := ⟨gb, 1, none⟩) hgb).trans c1
    have c5 : W.cell? ⟨w.heap.size + 1 + 1, 0, none⟩ = some (.pointer (some ⟨gb, 1, none⟩)) := by rw [k5.cell]; rfl
    have HA := Lib.hid (HK.out.all hbW)
    have HBW := Lib.hid hbW
    have K2 := Lib.hid k2
    have K3 := Lib.hid k3
    have K5 := Lib.hid k5
    clear hW hbW k2 k3 k5
    generalize w.heap.size + 1 + 1 = g5 at *
    generalize w.heap.size + 1 = g3 at *
    go_wp2_with (go_at_call 161; (refine (search_any g5 _ g3 n (plB b.os (b.side true) ⟨i1, a1, true, p1, n1, l1⟩) _ hn (Lib.hid (fun w' hb' i hi => pl_true g5 _ g3 _ _ _ gb B i V b ⟨i1, a1, true, p1, n1, l1⟩ w' (HA.out.all hb') rfl (by rw [HL.out]; exact hi) (K5.out.all hb') (K2.out.all hb') (K3.out.all hb'))) (Lib.hid (fun x y hxy hy => plB_mono HS.out x y hxy (by rw [HL.out]; exact hy)))).mono ?_); rintro e w5 ⟨r, rfl, hr1, hr2, hr3, hb5⟩)
    rw [plB_place (o := ⟨i1, a1, true, p1, n1, l1⟩) (by rw [HL.out]; exact hr1) hr2 (fun i h1 h2 => hr3 i h1 (by rw [← HL.out]; exact h2))]
    go_ret
    exact ⟨rfl, bt HBW.out hb5⟩
end Go.Proofs.YtlcalajehnaenaaGreatDoor
namespace Go.Proofs.YtlcalajehnaenaaGreatDoor
open Go.RowKit
theorem blk_drew {w : World} {g : Nat} {t : TypeId} {cs : Array Value} (h : Blk w g t cs) : Blk w.drew g t cs := h
def getO (os : List Ord) (id : Int) : Ord := if 0 ≤ id ∧ id < (os.length : Int) then ordAt os id.toNat else ord0
def hasO (os : List Ord) (id : Int) : Bool := decide (0 ≤ id) && decide (id < (os.length : Int))
set_option maxRecDepth 100000 in
theorem get_any (gb B : Nat) (V : BkV) (b : BkS) (id : Int) (w : World) (HK : Hid (BkAt w B gb V b)) :
 Calls Tryz.prog 10 #[.pointer (some ⟨gb, 0, none⟩), .int .i64 id] w fun e w' => e = .returned (.tuple #[.agg #[.int .i64 (getO b.os id).id, .int .i64 (getO b.os id).acc, .bool (getO b.os id).buy, .int .i64 (getO b.os id).price, .int .i64 (getO b.os id).n, .int .i64 (getO b.os id).left], .bool (hasO b.os id)]) ∧ Below w.heap.size w w' := by
 have c0 := HK.out.blk.cell 0
 simp only [List.getElem?_toArray, List.getElem?_cons_zero] at c0
 unfold BkV.os at c0
 have hgb := HK.out.blk.lt
 by_cases h0 : id < 0
 ·have hr : getO b.os id = ord0 := if_neg (by omega)
  have hh : hasO b.os id = false := by simp [hasO]; omega
  rw [hr, hh]
  clear hr hh
  go_enter Tryz.func10, Tryz.ntmps10
  go_wp2
  refine bodyPost_ret (v := .tuple #[.agg #[.int .i64 0, .int .i64 0, .bool false, .int .i64 0, .int .i64 0, .int .i64 0], .bool false]) (by simp [results, Tryz.results10, go_sem]) rfl ⟨rfl, (Below.refl _ _).alloc (Nat.le_refl _) _⟩
 ·by_cases h1 : id < (b.os.length : Int)
  ·have hid : id.toNat < b.os.length := by omega
   have hr : getO b.os id = ordAt b.os id.toNat := if_pos ⟨by omega, h1⟩
   have hh : hasO b.os id = true := by simp [hasO]; omega
   rw [hr, hh]
   obtain ⟨gr, e2, lgr, -, x0, x1, x2, x3, x4, x5⟩ := HK.out.order hid
   obtain ⟨k, rfl⟩ : ∃ k : Nat, id = (k : Int) := ⟨id.toNat, by omega⟩
   rw [Int.toNat_natCast] at *
   rw [e2] at c0
   clear hr hh
   obtain ⟨x, hx⟩ : ∃ x, ordAt b.os k = x := ⟨_, rfl⟩
   rw [hx] at x0 x1 x2 x3 x4 x5 ⊢
   obtain ⟨nn, hnn⟩ : ∃ nn, b.os.length = nn := ⟨_, rfl⟩
   rw [hnn] at c0 h1
   clear hx hnn HK hid e2
   go_enter Tryz.func10, Tryz.ntmps10
   go_wp2
   refine bodyPost_ret (v := .tuple #[.agg #[.int .i64 x.id, .int .i64 x.acc, .bool x.buy, .int .i64 x.price, .int .i64 x.n, .int .i64 x.left], .bool true]) (by simp [results, Tryz.results10, go_sem]) rfl ⟨rfl, ?_⟩
   exact (Below.refl _ _).alloc (Nat.le_refl _) _
  ·have hr : getO b.os id = ord0 := if_neg (by omega)
   have hh : hasO b.os id = false := by simp [hasO]; omega
   rw [hr, hh]
   clear hr hh
   go_enter Tryz.func10, Tryz.ntmps10
   go_wp2
   refine bodyPost_ret (v := .tuple #[.agg #[.int .i64 0, .int .i64 0, .bool false, .int .i64 0, .int .i64 0, .int .i64 0], .bool false]) (by simp [results, Tryz.results10, go_sem]) rfl ⟨rfl, (Below.refl _ _).alloc (Nat.le_refl _) _⟩
end Go.Proofs.YtlcalajehnaenaaGreatDoor
namespace Go.Proofs.YtlcalajehnaenaaGreatDoor
open Go.RowKit
theorem blk_drewN {w : World} {g : Nat} {t : TypeId} {cs : Array Value} (n : Nat) (h : Blk w g t cs) : Blk (w.drewN n) g t cs := h
end Go.Proofs.YtlcalajehnaenaaGreatDoor
namespace Go.Proofs.YtlcalajehnaenaaGreatDoor
open Go.RowKit
theorem BkS.Ok.sub {b : BkS} (h : b.Ok) (buy : Bool) {l : List Nat} (hl : l.Sublist (b.side buy)) : (b.put buy l).Ok := by
 have hlen := hl.length_le
 cases buy
 ·refine ⟨h.ids, h.rng, fun y k hk => ?_, fun y => ?_, ?_⟩
  ·cases y
   ·exact h.mem false k (hl.subset hk)
   ·exact h.mem true k hk
  ·cases y
   ·exact (h.sorted false).sublist hl
   ·exact h.sorted true
  ·have := h.few
   simp only [BkS.put, BkS.side, Bool.false_eq_true, if_false] at hlen ⊢
   omega
 ·refine ⟨h.ids, h.rng, fun y k hk => ?_, fun y => ?_, ?_⟩
  ·cases y
   ·exact h.mem false k hk
   ·exact h.mem true k (hl.subset hk)
  ·cases y
   ·exact h.sorted false
   ·exact (h.sorted true).sublist hl
  ·have := h.few
   simp only [BkS.put, BkS.side, if_true] at hlen ⊢
   omega
def BkPost (gb B : Nat) (V : BkV) (b : BkS) (w : World) (b' : BkS) (w' : World) : Prop := ∃ V', BkAt w' B gb V' b' ∧ Mod (BkF gb V b.os.length) w w' ∧ ∀ g, BkF gb V' b'.os.length g → BkF gb V b.os.length g ∨ w.heap.size ≤ g
theorem BkAt.put_true {W W5 : World} {B gb : Nat} {V : BkV} {b : BkS} {s' : Sl} {l' : List Nat} (h : BkAt W B gb V b) (m : Mod (fun g => blkOf V.b = some g) W W5) (hI : IRow W5 B s' l') (hs : ∀ g, blkOf s' = some g → blkOf V.b = some g ∨ W.heap.size ≤ g) (hok : (b.put true l').Ok) : BkPost gb B V b W (b.put true l') (W5.setCell ⟨gb, 1, none⟩ (slV s')) := by
 have hng : ∀ g, Ty W g 3 → g ≠ gb := fun g h1 he => by
  rw [he] at h1
  exact absurd (h1.unique h.blk.ty) (by decide)
 have b5 : Blk W5 gb 101 #[V.os b.os.length, slV V.b, bet1, slV V.s, bet2] := m.blk h.blk (fun hg => hng gb (h.bs.at_ hg).1 rfl)
 have ms : Mod (fun g => g = gb) W5 (W5.setCell ⟨gb, 1, none⟩ (slV s')) := Mod.set (F := fun g => g = gb) (Mod.refl _ _) (p := ⟨gb, 1, none⟩) (.inl rfl) _
 have mT : Mod (fun g => blkOf V.b = some g ∨ g = gb) W (W5.setCell ⟨gb, 1, none⟩ (slV s')) := (m.mono (fun b h => .inl (.inl h))).trans ms (fun b h => .inl (.inr h))
 have hsg : ∀ g, blkOf s' = some g → ¬ g = gb := fun g hg he => by
  have h1 := (hI.at_ hg).1
  rw [he] at h1
  exact absurd (h1.unique b5.ty) (by decide)
 have b6 := b5.set_ 1 (slV s')
 refine ⟨⟨V.oA, V.oc, s', V.s⟩, ⟨b6, h.ge, mT.own h.orders (fun g hg h1 => ?_), hI.mod ms (fun g hg => hsg g hg), h.ss.mod mT (fun g hg h1 => h1.elim (fun h2 => h.apart g h2 hg) (fun h2 => hng g (h.ss.at_ hg).1 h2)), fun g h1 h2 => (hs g h1).elim (fun h3 => h.apart g h3 h2) (fun h3 => by have := (h.ss.at_ h2).2.2; omega), hok, h.few⟩, mT.mono (fun g hg => .inl (hg.elim (fun h1 => .inr (.inr (.inl h1))) .inl)), fun g hg => ?_⟩
 ·have ho := own_ty h.orders hg
  rcases h1 with h1 | h1
  ·exact absurd (ho.unique (h.bs.at_ h1).1) (by decide)
  ·rw [h1] at ho
   exact absurd (ho.unique h.blk.ty) (by decide)
 ·rcases hg with hg | hg | hg | hg
  ·exact .inl (.inl hg)
  ·exact .inl (.inr (.inl hg))
  ·exact (hs g hg).imp (fun h1 => .inr (.inr (.inl h1))) id
  ·exact .inl (.inr (.inr (.inr hg)))
theorem BkAt.put_false {W W5 : World} {B gb : Nat} {V : BkV} {b : BkS} {s' : Sl} {l' : List Nat} (h : BkAt W B gb V b) (m : Mod (fun g => blkOf V.s = some g) W W5) (hI : IRow W5 B s' l') (hs : ∀ g, blkOf s' = some g → blkOf V.s = some g ∨ W.heap.size ≤ g) (hok : (b.put false l').Ok) : BkPost gb B V b W (b.put false l') (W5.setCell ⟨gb, 3, none⟩ (slV s')) := by
 have hng : ∀ g, Ty W g 3 → g ≠ gb := fun g h1 he => by
  rw [he] at h1
  exact absurd (h1.unique h.blk.ty) (by decide)
 have b5 : Blk W5 gb 101 #[V.os b.os.length, slV V.b, bet1, slV V.s, bet2] := m.blk h.blk (fun hg => hng gb (h.ss.at_ hg).1 rfl)
 have ms : Mod (fun g => g = gb) W5 (W5.setCell ⟨gb, 3, none⟩ (slV s')) := Mod.set (F := fun g => g = gb) (Mod.refl _ _) (p := ⟨gb, 3, none⟩) (.inl rfl) _
 have mT : Mod (fun g => blkOf V.s = some g ∨ g = gb) W (W5.setCell ⟨gb, 3, none⟩ (slV s')) := (m.mono (fun b h => .inl (.inl h))).trans ms (fun b h => .inl (.inr h))
 have hsg : ∀ g, blkOf s' = some g → ¬ g = gb := fun g hg he => by
  have h1 := (hI.at_ hg).1
  rw [he] at h1
  exact absurd (h1.unique b5.ty) (by decide)
 have b6 := b5.set_ 3 (slV s')
 refine ⟨⟨V.oA, V.oc, V.b, s'⟩, ⟨b6, h.ge, mT.own h.orders (fun g hg h1 => ?_), h.bs.mod mT (fun g hg h1 => h1.elim (fun h2 => h.apart g hg h2) (fun h2 => hng g (h.bs.at_ hg).1 h2)), hI.mod ms (fun g hg => hsg g hg), fun g h1 h2 => (hs g h2).elim (fun h3 => h.apart g h1 h3) (fun h3 => by have := (h.bs.at_ h1).2.2; omega), hok, h.few⟩, mT.mono (fun g hg => .inl (hg.elim (fun h1 => .inr (.inr (.inr h1))) .inl)), fun g hg => ?_⟩
 ·have ho := own_ty h.orders hg
  rcases h1 with h1 | h1
  ·exact absurd (ho.unique (h.ss.at_ h1).1) (by decide)
  ·rw [h1] at ho
   exact absurd (ho.unique h.blk.ty) (by decide)
 ·rcases hg with hg | hg | hg | hg
  ·exact .inl (.inl hg)
  ·exact .inl (.inr (.inl hg))
  ·exact .inl (.inr (.inr (.inl hg)))
  ·exact (hs g hg).imp (fun h1 => .inr (.inr (.inr h1))) id
end Go.Proofs.YtlcalajehnaenaaGreatDoor
namespace Go.Proofs.YtlcalajehnaenaaGreatDoor
open Go.RowKit
theorem bet_total {buy : Bool} {x y : Ord} (h : betterB buy x y = false) (hne : x.id ≠ y.id) : betterB buy y x = true := by
 cases buy
 ·simp [betterB] at h ⊢
  omega
 ·simp [betterB] at h ⊢
  omega
section
variable {b : BkS}
theorem BkS.isIn_side (h : b.Ok) (k : Nat) : b.isIn k = decide (k ∈ b.side (ordAt b.os k).buy) := by
 unfold BkS.isIn
 cases hb : (ordAt b.os k).buy
 ·have : ¬ k ∈ b.bs := fun hm => by
   have := (h.mem true k hm).2.1
   rw [hb] at this
   cases this
  simp [this, BkS.side]
 ·have : ¬ k ∈ b.ss := fun hm => by
   have := (h.mem false k hm).2.1
   rw [hb] at this
   cases this
  simp [this, BkS.side]
def BkS.keep (b : BkS) (p : Nat → Bool) : BkS := ⟨b.os, b.bs.filter p, b.ss.filter p⟩
theorem BkS.Ok.keep (h : b.Ok) (p : Nat → Bool) : (b.keep p).Ok := by
 have h1 := h.sub true (l := b.bs.filter p) List.filter_sublist
 have h2 := h1.sub false (l := b.ss.filter p) List.filter_sublist
 exact h2
theorem BkS.Ok.opened (h : b.Ok) {o : Ord} {k : Nat} (hk : k < b.os.length) (ho : ordAt b.os k = o) (hl : 0 < o.left) (hn : b.isIn k = false) (hf : b.bs.length + b.ss.length < 4096) : (b.opened o).Ok := by
 have hid : o.id = (k : Int) := by rw [← ho]; exact h.ids k hk
 obtain ⟨r, hr⟩ : ∃ r, placeN b.os (b.side o.buy) o = r := ⟨_, rfl⟩
 have hrl : r ≤ (b.side o.buy).length := by rw [← hr]; exact List.findIdx_le_length
 have hlo : ∀ x ∈ (b.side o.buy).take r, betterB o.buy (ordAt b.os x) o = true := by
  intro x hx
  obtain ⟨i, hi, rfl⟩ := List.getElem_of_mem hx
  rw [List.length_take] at hi
  rw [List.getElem_take]
  have := List.not_of_lt_findIdx (p := fun id => !betterB o.buy (ordAt b.os id) o) (xs := b.side o.buy) (i := i) (by unfold placeN at hr; omega)
  simpa using this
 have hne : ∀ x ∈ b.side o.buy, (ordAt b.os x).id ≠ o.id := by
  intro x hx e
  have h1 := h.mem o.buy x hx
  rw [h.ids x h1.1, hid] at e
  have : x = k := by omega
  subst this
  rw [BkS.isIn_side h _, ho] at hn
  simp [hx] at hn
 have hhi : ∀ x ∈ (b.side o.buy).drop r, betterB o.buy o (ordAt b.os x) = true := by
  intro x hx
  obtain ⟨i, hi, rfl⟩ := List.getElem_of_mem hx
  rw [List.length_drop] at hi
  rw [List.getElem_drop]
  have hrlt : r < (b.side o.buy).length := by omega
  have h0 : betterB o.buy (ordAt b.os (b.side o.buy)[r]) o = false := by
   have := List.findIdx_getElem (p := fun id => !betterB o.buy (ordAt b.os id) o) (xs := b.side o.buy) (w := by unfold placeN at hr; omega)
   have e : List.findIdx (fun id => !betterB o.buy (ordAt b.os id) o) (b.side o.buy) = r := hr
   simp only [e] at this
   simpa using this
  have h1 := bet_total h0 (hne _ (List.getElem_mem _))
  rcases Nat.eq_zero_or_pos i with hi0 | hi0
  ·subst hi0
   exact h1
  ·exact bet_trans h1 (List.pairwise_iff_getElem.1 (h.sorted o.buy) r (r + i) (by omega) (by omega) (by omega))
 have hmem : ∀ x, x ∈ (b.side o.buy).take r ++ [k] ++ (b.side o.buy).drop r ↔ x = k ∨ x ∈ b.side o.buy := by
  intro x
  rw [List.append_assoc, List.mem_append, List.mem_append, List.mem_singleton]
  conv => rhs; rw [← List.take_append_drop r (b.side o.buy), List.mem_append]
  exact ⟨fun h => by rcases h with h | h | h <;> simp [h], fun h => by rcases h with h | h | h <;> simp [h]⟩
 have hsort : SortedB b.os o.buy ((b.side o.buy).take r ++ [k] ++ (b.side o.buy).drop r) := by
  have hs := h.sorted o.buy
  rw [← List.take_append_drop r (b.side o.buy)] at hs
  obtain ⟨s1, s2, s3⟩ := List.pairwise_append.1 hs
  refine List.pairwise_append.2 ⟨List.pairwise_append.2 ⟨s1, List.pairwise_singleton _ _, fun x hx y hy => ?_⟩, s2, fun x hx y hy => ?_⟩
  ·rw [List.mem_singleton.1 hy, ho]
   exact hlo x hx
  ·rcases List.mem_append.1 hx with hx | hx
   ·exact s3 x hx y hy
   ·rw [List.mem_singleton.1 hx, ho]
    exact hhi y hy
 have hlen : ((b.side o.buy).take r ++ [k] ++ (b.side o.buy).drop r).length = (b.side o.buy).length + 1 := by
  simp
  omega
 have e : b.opened o = b.put o.buy ((b.side o.buy).take r ++ [k] ++ (b.side o.buy).drop r) := by
  unfold BkS.opened
  rw [hr, hid, Int.toNat_natCast]
 rw [e]
 obtain ⟨l', hl'⟩ : ∃ l', (b.side o.buy).take r ++ [k] ++ (b.side o.buy).drop r = l' := ⟨_, rfl⟩
 rw [hl'] at hmem hsort hlen ⊢
 have hbuy : ∀ x, x ∈ l' → x < b.os.length ∧ (ordAt b.os x).buy = o.buy ∧ 0 < (ordAt b.os x).left := by
  intro x hx
  rcases (hmem x).1 hx with rfl | hx
  ·exact ⟨hk, by rw [ho], by rw [ho]; exact hl⟩
  ·exact h.mem o.buy x hx
 cases hb : o.buy
 ·rw [hb] at hbuy hsort hlen
  refine ⟨h.ids, h.rng, fun buy x hx => ?_, fun buy => ?_, ?_⟩
  ·cases buy
   ·exact hbuy x hx
   ·exact h.mem true x hx
  ·cases buy
   ·exact hsort
   ·exact h.sorted true
  ·simp only [BkS.put, BkS.side, Bool.false_eq_true, if_false] at hlen ⊢
   omega
 ·rw [hb] at hbuy hsort hlen
  refine ⟨h.ids, h.rng, fun buy x hx => ?_, fun buy => ?_, ?_⟩
  ·cases buy
   ·exact h.mem false x hx
   ·exact hbuy x hx
  ·cases buy
   ·exact h.sorted false
   ·exact hsort
  ·simp only [BkS.put, BkS.side, if_true] at hlen ⊢
   omega
end
end Go.Proofs.YtlcalajehnaenaaGreatDoor
namespace Go.Proofs.YtlcalajehnaenaaGreatDoor
open Go.RowKit
section
variable {b : BkS}
theorem ordAt_set {os : List Ord} {id k : Nat} {v : Ord} (hk : id < os.length) : ordAt (os.set id v) k = if k = id then v else ordAt os k := by
 unfold ordAt
 rw [List.getElem?_set]
 by_cases h : id = k
 ·subst h
  rw [if_pos rfl, if_pos rfl, if_pos hk]
  rfl
 ·rw [if_neg h, if_neg (fun e => h e.symm)]
theorem ordAt_app {os : List Ord} {o : Ord} {k : Nat} : ordAt (os ++ [o]) k = if k = os.length then o else ordAt os k := by
 unfold ordAt
 rw [List.getElem?_append]
 split
 ·rw [if_neg (by omega)]
 ·split
  ·rename_i h
   subst h
   simp
  ·rename_i h1 h2
   rw [List.getElem?_eq_none (by simp; omega), List.getElem?_eq_none (by omega)]
def Ord.like (x y : Ord) : Prop := x.id = y.id ∧ x.acc = y.acc ∧ x.buy = y.buy ∧ x.price = y.price ∧ x.n = y.n
theorem Ord.like_less (x : Ord) (m : Int) : (x.less m).like x := ⟨rfl, rfl, rfl, rfl, rfl⟩
theorem Ord.like.bet {x y x' y' : Ord} (h : x.like x') (k : y.like y') (buy : Bool) : betterB buy x y = betterB buy x' y' := by
 obtain ⟨h1, -, -, h4, -⟩ := h
 obtain ⟨k1, -, -, k4, -⟩ := k
 unfold betterB
 rw [h1, h4, k1, k4]
theorem Ord.like.rfl' (x : Ord) : x.like x := ⟨rfl, rfl, rfl, rfl, rfl⟩
theorem setOs_side (b : BkS) (os : List Ord) (s : Bool) : (b.setOs os).side s = b.side s := by cases s <;> rfl
theorem put_side (b : BkS) (l : List Nat) (s : Bool) : (b.put s l).side s = l := by cases s <;> rfl
theorem put_side' (b : BkS) (l : List Nat) (s : Bool) : (b.put s l).side (!s) = b.side (!s) := by cases s <;> rfl
theorem put_os (b : BkS) (l : List Nat) (s : Bool) : (b.put s l).os = b.os := by cases s <;> rfl
theorem put_setOs (b : BkS) (l : List Nat) (s : Bool) (os : List Ord) : (b.put s l).setOs os = (b.setOs os).put s l := by cases s <;> rfl
theorem BkS.ext' {b c : BkS} (s : Bool) (h1 : b.os = c.os) (h2 : b.side s = c.side s) (h3 : b.side (!s) = c.side (!s)) : b = c := by
 obtain ⟨o, x, y⟩ := b
 obtain ⟨o', x', y'⟩ := c
 dsimp only at h1
 subst h1
 cases s <;> simp_all [BkS.side]
theorem BkS.few_side (b : BkS) (s : Bool) : b.bs.length + b.ss.length = (b.side s).length + (b.side (!s)).length := by
 cases s <;> simp [BkS.side] <;> omega
theorem isIn_of {k : Nat} {s : Bool} (h : k ∈ b.side s) : b.isIn k = true := by
 cases s <;> simp [BkS.side, BkS.isIn] at h ⊢ <;> simp [h]
theorem BkS.Ok.setO (h : b.Ok) {id : Nat} {v : Ord} (hid : id < b.os.length) (hv : v.like (ordAt b.os id)) (h0 : 0 ≤ v.left) (h1 : v.left ≤ v.n) (hm : b.isIn id = true → 0 < v.left) : (b.setOs (b.os.set id v)).Ok := by
 have hl : (b.os.set id v).length = b.os.length := by simp
 have key : ∀ k, (ordAt (b.os.set id v) k).like (ordAt b.os k) := by
  intro k
  rw [ordAt_set hid]
  split
  ·rename_i e
   rw [e]
   exact hv
  ·exact Ord.like.rfl' _
 refine ⟨fun k hk => ?_, fun k hk => ?_, fun s k hk => ?_, fun s => ?_, h.few⟩
 ·have hk' : k < b.os.length := by rw [← hl]; exact hk
  exact (key k).1.trans (h.ids k hk')
 ·have hk' : k < b.os.length := by rw [← hl]; exact hk
  have hr := h.rng k hk'
  obtain ⟨-, k2, -, k4, k5⟩ := key k
  show 1 ≤ (ordAt (b.os.set id v) k).price ∧ (ordAt (b.os.set id v) k).price ≤ 1099511627776 ∧ 1 ≤ (ordAt (b.os.set id v) k).n ∧ (ordAt (b.os.set id v) k).n ≤ 1099511627776 ∧ 0 ≤ (ordAt (b.os.set id v) k).left ∧ (ordAt (b.os.set id v) k).left ≤ (ordAt (b.os.set id v) k).n ∧ 1 ≤ (ordAt (b.os.set id v) k).acc ∧ (ordAt (b.os.set id v) k).acc ≤ 1073741824 ∧ (ordAt (b.os.set id v) k).price * (ordAt (b.os.set id v) k).n ≤ 1099511627776
  have hle : 0 ≤ (ordAt (b.os.set id v) k).left ∧ (ordAt (b.os.set id v) k).left ≤ (ordAt (b.os.set id v) k).n := by
   rw [ordAt_set hid]
   split
   ·exact ⟨h0, h1⟩
   ·exact ⟨hr.2.2.2.2.1, hr.2.2.2.2.2.1⟩
  rw [k4, k2, k5] at *
  exact ⟨hr.1, hr.2.1, hr.2.2.1, hr.2.2.2.1, hle.1, by rw [← k5]; rw [k5]; exact hle.2, hr.2.2.2.2.2.2⟩
 ·rw [setOs_side] at hk
  have hr := h.mem s k hk
  refine ⟨by show k < (b.os.set id v).length; rw [hl]; exact hr.1, (key k).2.2.1.trans hr.2.1, ?_⟩
  show 0 < (ordAt (b.os.set id v) k).left
  rw [ordAt_set hid]
  split
  ·rename_i e
   exact hm (by rw [← e]; exact isIn_of hk)
  ·exact hr.2.2
 ·rw [setOs_side]
  refine (h.sorted s).imp (fun {x y} hxy => ?_)
  show betterB s (ordAt (b.os.set id v) x) (ordAt (b.os.set id v) y) = true
  rw [(key x).bet (key y)]
  exact hxy
theorem BkS.Ok.app (h : b.Ok) {o : Ord} (h1 : o.id = (b.os.length : Int)) (h2 : 1 ≤ o.price ∧ o.price ≤ 1099511627776 ∧ 1 ≤ o.n ∧ o.n ≤ 1099511627776 ∧ 0 ≤ o.left ∧ o.left ≤ o.n ∧ 1 ≤ o.acc ∧ o.acc ≤ 1073741824 ∧ o.price * o.n ≤ 1099511627776) : (b.setOs (b.os ++ [o])).Ok := by
 have key : ∀ k, k < b.os.length → ordAt (b.os ++ [o]) k = ordAt b.os k := fun k hk => by rw [ordAt_app, if_neg (by omega)]
 have hlen : (b.setOs (b.os ++ [o])).os.length = b.os.length + 1 := by simp [BkS.setOs]
 refine ⟨fun k hk => ?_, fun k hk => ?_, fun s k hk => ?_, fun s => ?_, h.few⟩
 ·show (ordAt (b.os ++ [o]) k).id = _
  rw [ordAt_app]
  split
  ·rename_i e
   rw [e, h1]
  ·exact h.ids k (by omega)
 ·show 1 ≤ (ordAt (b.os ++ [o]) k).price ∧ (ordAt (b.os ++ [o]) k).price ≤ 1099511627776 ∧ 1 ≤ (ordAt (b.os ++ [o]) k).n ∧ (ordAt (b.os ++ [o]) k).n ≤ 1099511627776 ∧ 0 ≤ (ordAt (b.os ++ [o]) k).left ∧ (ordAt (b.os ++ [o]) k).left ≤ (ordAt (b.os ++ [o]) k).n ∧ 1 ≤ (ordAt (b.os ++ [o]) k).acc ∧ (ordAt (b.os ++ [o]) k).acc ≤ 1073741824 ∧ (ordAt (b.os ++ [o]) k).price * (ordAt (b.os ++ [o]) k).n ≤ 1099511627776
  rw [ordAt_app]
  split
  ·exact h2
  ·exact h.rng k (by omega)
 ·rw [setOs_side] at hk
  have hr := h.mem s k hk
  refine ⟨by omega, ?_⟩
  show (ordAt (b.os ++ [o]) k).buy = s ∧ 0 < (ordAt (b.os ++ [o]) k).left
  rw [key k hr.1]
  exact hr.2
 ·rw [setOs_side]
  refine (h.sorted s).imp_of_mem (fun {x y} hx hy hxy => ?_)
  show betterB s (ordAt (b.os ++ [o]) x) (ordAt (b.os ++ [o]) y) = true
  rw [key x (h.mem s x hx).1, key y (h.mem s y hy).1]
  exact hxy
theorem BkS.Ok.notIn (h : b.Ok) {k : Nat} (hk : b.os.length ≤ k) : b.isIn k = false := by
 cases hb : b.isIn k with
 | false => rfl
 | true =>
   unfold BkS.isIn at hb
   rw [Bool.or_eq_true, decide_eq_true_eq, decide_eq_true_eq] at hb
   rcases hb with hb | hb
   ·have := (h.mem true k hb).1; omega
   ·have := (h.mem false k hb).1; omega
theorem BkS.Ok.pop (h : b.Ok) {s : Bool} {id : Nat} {t : List Nat} (hs : b.side s = id :: t) : (b.put s t).Ok ∧ (b.put s t).isIn id = false := by
 refine ⟨h.sub s (by rw [hs]; exact List.sublist_cons_self _ _), ?_⟩
 have h1 : id ∉ t := by
  have := (h.sorted s).nodup
  rw [hs] at this
  exact (List.nodup_cons.1 this).1
 have h2 : id ∉ b.side (!s) := fun hm => by
  have k1 := (h.mem s id (by rw [hs]; exact List.mem_cons_self)).2.1
  have k2 := (h.mem (!s) id hm).2.1
  rw [k1] at k2
  cases s <;> cases k2
 unfold BkS.isIn
 cases s <;> simp_all [BkS.put, BkS.side]
structure PM (b : BkS) (s : Bool) (o0 : Ord) (c : BkS) (o : Ord) (ts : List Trd) : Prop where
 ok : c.Ok
 other : c.side (!s) = b.side (!s)
 len : c.os.length = b.os.length
 few : (c.side s).length ≤ (b.side s).length
 eq : matchP b.os o0 (b.side s) = (ts ++ (matchP c.os o (c.side s)).1, (matchP c.os o (c.side s)).2)
 like : o.like o0
 l0 : 0 ≤ o.left
 l1 : o.left ≤ o0.left
 tl : ts.length + (c.side s).length ≤ (b.side s).length + (if 0 < o.left then 0 else 1)
theorem PM.start (h : b.Ok) (s : Bool) (o : Ord) (h0 : 0 ≤ o.left) : PM b s o b o [] := ⟨h, rfl, rfl, Nat.le_refl _, rfl, Ord.like.rfl' _, h0, Int.le_refl _, by simp⟩
theorem Ord.like.trans {x y z : Ord} (h : x.like y) (k : y.like z) : x.like z := ⟨h.1.trans k.1, h.2.1.trans k.2.1, h.2.2.1.trans k.2.2.1, h.2.2.2.1.trans k.2.2.2.1, h.2.2.2.2.trans k.2.2.2.2⟩
variable {s : Bool} {o0 o : Ord} {c : BkS} {ts : List Trd} {id : Nat} {t : List Nat}
theorem PM.facts (h : PM b s o0 c o ts) (hs : c.side s = id :: t) : id < c.os.length ∧ (ordAt c.os id).buy = s ∧ 0 < (ordAt c.os id).left ∧ (ordAt c.os id).id = (id : Int) ∧ (ordAt c.os id).left ≤ 1099511627776 := by
 have hm := h.ok.mem s id (by rw [hs]; exact List.mem_cons_self)
 have hr := h.ok.rng id hm.1
 exact ⟨hm.1, hm.2.1, hm.2.2, h.ok.ids id hm.1, by omega⟩
theorem PM.same (h : PM b s o0 c o ts) (hs : c.side s = id :: t) (hl : 0 < o.left) (ha : acceptsB o (ordAt c.os id) = true) (hacc : (ordAt c.os id).acc = o.acc) : PM b s o0 (c.put s t) o ts := by
 refine ⟨(h.ok.pop hs).1, (put_side' c t s).trans h.other, by rw [put_os]; exact h.len, ?_, ?_, h.like, h.l0, h.l1, ?_⟩
 ·have := h.few
  rw [hs] at this
  rw [put_side]
  simp only [List.length_cons] at this
  omega
 ·rw [h.eq, put_side, put_os, hs]
  rw [show matchP c.os o (id :: t) = matchP c.os o t by
   rw [matchP, if_pos ⟨hl, ha⟩, if_pos hacc]]
 ·have := h.tl
  rw [hs] at this
  rw [put_side]
  simp only [List.length_cons] at this
  omega
theorem PM.full (h : PM b s o0 c o ts) (hs : c.side s = id :: t) (hl : 0 < o.left) (ha : acceptsB o (ordAt c.os id) = true) (hacc : (ordAt c.os id).acc ≠ o.acc) {m : Int} (hm : m = min o.left (ordAt c.os id).left) (h0 : (ordAt c.os id).left - m = 0) : PM b s o0 ((c.setOs (c.os.set id ((ordAt c.os id).less m))).put s t) (o.less m) (ts ++ [trdOf o (ordAt c.os id) m]) := by
 have hf := h.facts hs
 obtain ⟨p1, p2⟩ := h.ok.pop hs
 have hml : m ≤ o.left := by rw [hm]; exact Int.min_le_left _ _
 have hm1 : 0 < m := by omega
 refine ⟨?_, (put_side' _ t s).trans ((setOs_side _ _ _).trans h.other), ?_, ?_, ?_, (Ord.like_less o m).trans h.like, ?_, ?_, ?_⟩
 ·rw [← put_setOs]
  have := p1.setO (id := id) (v := (ordAt c.os id).less m) (by rw [put_os]; exact hf.1) (by rw [put_os]; exact Ord.like_less _ _) (by show 0 ≤ (ordAt c.os id).left - m; omega) (by
   have := h.ok.rng id hf.1
   show (ordAt c.os id).left - m ≤ (ordAt c.os id).n
   omega) (fun e => by rw [p2] at e; cases e)
  rw [put_os] at this
  exact this
 ·rw [put_os]
  show (c.os.set id _).length = _
  rw [List.length_set]
  exact h.len
 ·have := h.few
  rw [hs] at this
  rw [put_side]
  simp only [List.length_cons] at this
  omega
 ·rw [h.eq, put_side, put_os, hs, matchP, if_pos ⟨hl, ha⟩, if_neg hacc, ← hm, if_pos h0, List.append_assoc]
  rfl
 ·show 0 ≤ o.left - m
  omega
 ·show o.left - m ≤ o0.left
  have := h.l1
  omega
 ·have := h.tl
  rw [hs] at this
  rw [put_side, List.length_append, List.length_singleton]
  rw [if_pos hl] at this
  simp only [List.length_cons] at this
  omega
theorem PM.part (h : PM b s o0 c o ts) (hs : c.side s = id :: t) (hl : 0 < o.left) (ha : acceptsB o (ordAt c.os id) = true) (hacc : (ordAt c.os id).acc ≠ o.acc) {m : Int} (hm : m = min o.left (ordAt c.os id).left) (h0 : (ordAt c.os id).left - m ≠ 0) : PM b s o0 (c.setOs (c.os.set id ((ordAt c.os id).less m))) (o.less m) (ts ++ [trdOf o (ordAt c.os id) m]) ∧ (o.less m).left = 0 := by
 have hf := h.facts hs
 have hmo : m = o.left := by omega
 have hz : (o.less m).left = 0 := by show o.left - m = 0; omega
 refine ⟨⟨?_, (setOs_side _ _ _).trans h.other, ?_, ?_, ?_, (Ord.like_less o m).trans h.like, by omega, by have := h.l0; have := h.l1; omega, ?_⟩, hz⟩
 ·exact h.ok.setO hf.1 (Ord.like_less _ _) (by show 0 ≤ (ordAt c.os id).left - m; omega) (by
   have := h.ok.rng id hf.1
   show (ordAt c.os id).left - m ≤ (ordAt c.os id).n
   omega) (fun _ => by show 0 < (ordAt c.os id).left - m; omega)
 ·show (c.os.set id _).length = _
  rw [List.length_set]
  exact h.len
 ·rw [setOs_side]
  exact h.few
 ·rw [h.eq, setOs_side, hs]
  rw [show matchP c.os o (id :: t) = ([trdOf o (ordAt c.os id) m], o.less m, c.os.set id ((ordAt c.os id).less m), id :: t) by
   rw [matchP, if_pos ⟨hl, ha⟩, if_neg hacc, ← hm, if_neg h0]]
  rw [show matchP (c.setOs (c.os.set id ((ordAt c.os id).less m))).os (o.less m) (id :: t) = ([], o.less m, c.os.set id ((ordAt c.os id).less m), id :: t) by
   rw [matchP, if_neg (by rw [hz]; omega)]
   rfl]
  simp
 ·have := h.tl
  rw [setOs_side, List.length_append, List.length_singleton, hz, if_neg (by omega)]
  rw [if_pos hl] at this
  omega
def Stops (c : BkS) (s : Bool) (o : Ord) : Prop := o.left ≤ 0 ∨ c.side s = [] ∨ ∃ id t, c.side s = id :: t ∧ acceptsB o (ordAt c.os id) = false
theorem matchP_stop (h : Stops c s o) : matchP c.os o (c.side s) = ([], o, c.os, c.side s) := by
 rcases h with h | h | ⟨id, t, h1, h2⟩
 ·cases hs : c.side s with
  | nil => rfl
  | cons id t => rw [matchP, if_neg (by omega)]
 ·rw [h]; rfl
 ·rw [h1, matchP, if_neg (by rw [h2]; simp)]
def BkS.withO (c : BkS) (o : Ord) : BkS := c.setOs (c.os ++ [o])
def BkS.last (c : BkS) (o : Ord) : BkS := if 0 < o.left then (c.withO o).opened o else c.withO o
theorem PM.done {acc price n : Int} {buy : Bool} (h : PM b (!buy) ⟨b.os.length, acc, buy, price, n, n⟩ c o ts) (hst : Stops c (!buy) o) : placeS b acc buy price n = (ts, c.last o) := by
 have he := h.eq
 rw [matchP_stop hst] at he
 unfold placeS
 rw [he]
 dsimp only
 have hc : (b.put (!buy) (c.side (!buy))).setOs (c.os ++ [o]) = c.withO o := by
  refine BkS.ext' (!buy) ?_ ?_ ?_
  ·rfl
  ·rw [setOs_side, put_side]
   unfold BkS.withO
   rw [setOs_side]
  ·rw [setOs_side, put_side']
   unfold BkS.withO
   rw [setOs_side]
   exact h.other.symm
 rw [hc, List.append_nil]
 rfl
theorem PM.okW {acc price n : Int} {buy : Bool} (h : PM b (!buy) ⟨b.os.length, acc, buy, price, n, n⟩ c o ts) (he : placeErr b acc price n = 0) : (c.withO o).Ok ∧ (0 < o.left → (c.last o).Ok) := by
 obtain ⟨k1, k2, k3, k4, k5⟩ := h.like
 dsimp only at k1 k2 k3 k4 k5
 have hl0 := h.l0
 have hl1 := h.l1
 dsimp only at hl1
 unfold placeErr at he
 split at he
 ·cases he
 ·rename_i h1
  split at he
  ·cases he
  ·rename_i h2
   split at he
   ·cases he
   ·rename_i h3
    have hpr : inR price = true := by simpa using (fun e => h2 (.inl e))
    have hnr : inR n = true := by simpa using (fun e => h2 (.inr (.inl e)))
    have hq : ¬ (1099511627776 : Int).tdiv n < price := fun e => h2 (.inr (.inr e))
    unfold inR at hpr hnr
    rw [Bool.and_eq_true, decide_eq_true_eq, decide_eq_true_eq] at hpr hnr
    have hpn : price * n ≤ 1099511627776 := by
     rw [Int.tdiv_eq_ediv_of_nonneg (by omega)] at hq
     exact (Int.le_ediv_iff_mul_le (by omega)).1 (by omega)
    have hw : (c.withO o).Ok := h.ok.app (by rw [k1, h.len]) (by
     rw [k4, k5, k2]
     exact ⟨hpr.1, hpr.2, hnr.1, hnr.2, hl0, hl1, by omega, by omega, hpn⟩)
    refine ⟨hw, fun hl => ?_⟩
    unfold BkS.last
    rw [if_pos hl]
    refine hw.opened (k := c.os.length) (by simp [BkS.withO, BkS.setOs]) ?_ hl ?_ ?_
    ·show ordAt (c.os ++ [o]) c.os.length = o
     rw [ordAt_app, if_pos rfl]
    ·exact h.ok.notIn (Nat.le_refl _)
    ·show c.bs.length + c.ss.length < 4096
     have h5 := h.few
     have h6 := h.other
     rw [BkS.few_side c (!buy), h6]
     have h7 := BkS.few_side b (!buy)
     omega
end
def placeE (b : BkS) (acc : Int) (buy : Bool) (price n : Int) : Int × List Trd × Int × BkS :=
 if placeErr b acc price n = 0 then ((b.os.length : Int), (placeS b acc buy price n).1, 0, (placeS b acc buy price n).2) else (0, [], placeErr b acc price n, b)
end Go.Proofs.YtlcalajehnaenaaGreatDoor
