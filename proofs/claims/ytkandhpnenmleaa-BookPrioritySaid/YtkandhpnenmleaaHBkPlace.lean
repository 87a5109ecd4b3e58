/- book: place. -/
import Derived.Test.YtkandhpnenmleaaHBkSe

namespace Go.Proofs.Ytkandhpnenmleaa
open Go.RowKit

theorem side_true (w : World) : Calls Try.prog 30 #[.bool true] w fun e w' => e = .returned (.int .i64 0) ∧ w = w' := side_any true w
theorem side_false (w : World) : Calls Try.prog 30 #[.bool false] w fun e w' => e = .returned (.int .i64 1) ∧ w = w' := side_any false w
theorem bet_trans {buy : Bool} {x y z : Ord} (h : betterB buy x y = true) (k : betterB buy y z = true) : betterB buy x z = true := by
  unfold betterB at *
  cases buy <;> simp only [Bool.false_eq_true, if_false, if_true, Bool.or_eq_true, Bool.and_eq_true, decide_eq_true_eq] at * <;> omega
theorem placeN_eq {os : List Ord} {l : List Nat} {o : Ord} {r : Nat} (hr : r ≤ l.length) (h1 : ∀ i (hi : i < l.length), i < r → betterB o.buy (ordAt os l[i]) o = true) (h2 : ∀ i (hi : i < l.length), r ≤ i → betterB o.buy (ordAt os l[i]) o = false) : placeN os l o = r := by
  unfold placeN
  rcases Nat.lt_or_ge r l.length with h | h
  · refine (List.findIdx_eq h).2 ⟨by simp [h2 r h (Nat.le_refl _)], fun j hj => by simp [h1 j (by omega) hj]⟩
  · have hrl : r = l.length := by omega
    rw [hrl]
    refine List.findIdx_eq_length.2 (fun x hx => ?_)
    obtain ⟨i, hi, rfl⟩ := List.mem_iff_getElem.1 hx
    simp [h1 i hi (by omega)]
/-- What the closure says of the k-th open order. -/
def plB (os : List Ord) (l : List Nat) (o : Ord) (k : Nat) : Bool := !betterB o.buy (ordAt os ((l[k]?).getD 0)) o
theorem plB_mono {os : List Ord} {l : List Nat} {o : Ord} (h : SortedB os o.buy l) : ∀ a b, a ≤ b → b < l.length → plB os l o a = true → plB os l o b = true := by
  intro a b hab hb ha
  rcases Nat.lt_or_ge a b with hlt | hge
  · unfold plB at *
    rw [List.getElem?_eq_getElem hb]
    rw [List.getElem?_eq_getElem (by omega)] at ha
    simp only [Option.getD_some, Bool.not_eq_true'] at *
    cases hbo : betterB o.buy (ordAt os l[b]) o with
    | false => rfl
    | true =>
      have := bet_trans (List.pairwise_iff_getElem.1 h a b (by omega) hb hlt) hbo
      rw [ha] at this
      cases this
  · rw [show b = a by omega]
    exact ha
theorem plB_place {os : List Ord} {l : List Nat} {o : Ord} {r : Nat} (hr : r ≤ l.length) (h1 : ∀ i, i < r → plB os l o i = false) (h2 : ∀ i, r ≤ i → i < l.length → plB os l o i = true) : placeN os l o = r := by
  refine placeN_eq hr (fun i hi hir => ?_) (fun i hi hir => ?_)
  · have := h1 i hir
    unfold plB at this
    rw [List.getElem?_eq_getElem hi] at this
    simpa using this
  · have := h2 i hir hi
    unfold plB at this
    rw [List.getElem?_eq_getElem hi] at this
    simpa using this
theorem pl_true (p5 p2 p3 t5 t2 t3 gb B i : Nat) (V : BkV) (b : BkS) (o : Ord) (w : World) (hb : BkAt w B gb V b) (ho : o.buy = true) (hi : i < (b.side true).length) (h5 : Blk w p5 t5 #[.pointer (some ⟨gb, 1, none⟩)]) (h2 : Blk w p2 t2 #[.pointer (some ⟨gb, 0, none⟩)]) (h3 : Blk w p3 t3 #[.int .i64 o.id, .int .i64 o.acc, .bool o.buy, .int .i64 o.price, .int .i64 o.n, .int .i64 o.left]) :
    Calls Try.prog 65 #[.int .i64 (i : Int), .pointer (some ⟨p5, 0, none⟩), .pointer (some ⟨p2, 0, none⟩), .pointer (some ⟨p3, 0, none⟩)] w fun e w' => e = .returned (.bool (plB b.os (b.side true) o i)) ∧ Below w.heap.size w w' := by
  have hI : IRow w B V.b (b.side true) := hb.bs
  have hm := hb.ok.mem true (b.side true)[i] (List.getElem_mem hi)
  have hsl : V.b = (V.b.1, V.b.2.1, V.b.2.2) := rfl
  have hlen := hI.len
  rw [hsl] at hI
  obtain ⟨gs, off, e1, -, lgs, c1, -⟩ := hI.cell (j := i) (by omega)
  rw [List.getElem?_eq_getElem hi] at c1
  obtain ⟨gr, e2, lgr, -, x0, x1, x2, x3, x4, x5⟩ := hb.order hm.1
  have b0 := hb.blk.cell 0
  have b1 := hb.blk.cell 1
  have b2 := hb.blk.cell 2
  simp only [List.getElem?_toArray, List.getElem?_cons_zero, List.getElem?_cons_succ] at b0 b1 b2
  unfold BkV.os at b0
  unfold slV at b1
  rw [e2] at b0
  rw [e1] at b1
  have y := fun j => h3.cell j
  refine (pl1_raw p5 p2 p3 gb gr b.os.length V.oc gs off V.b.2.1 V.b.2.2 i (b.side true)[i] (ordAt b.os (b.side true)[i]) o w ⟨by rw [h5.cell]; rfl, by rw [h2.cell]; rfl, b0, b1, b2, c1, ⟨x0, x1, x2, x3, x4, x5⟩, by rw [y]; rfl, by rw [y]; rfl, by rw [y]; rfl, by rw [y]; rfl, by rw [y]; rfl, by rw [y]; rfl⟩ (by omega) hm.1 h5.lt h2.lt h3.lt hb.blk.lt lgr lgs).mono ?_
  rintro e w' ⟨rfl, hbw⟩
  refine ⟨?_, hbw⟩
  unfold plB
  rw [List.getElem?_eq_getElem hi, ho]
  rfl
theorem pl_false (p5 p2 p3 t5 t2 t3 gb B i : Nat) (V : BkV) (b : BkS) (o : Ord) (w : World) (hb : BkAt w B gb V b) (ho : o.buy = false) (hi : i < (b.side false).length) (h5 : Blk w p5 t5 #[.pointer (some ⟨gb, 3, none⟩)]) (h2 : Blk w p2 t2 #[.pointer (some ⟨gb, 0, none⟩)]) (h3 : Blk w p3 t3 #[.int .i64 o.id, .int .i64 o.acc, .bool o.buy, .int .i64 o.price, .int .i64 o.n, .int .i64 o.left]) :
    Calls Try.prog 65 #[.int .i64 (i : Int), .pointer (some ⟨p5, 0, none⟩), .pointer (some ⟨p2, 0, none⟩), .pointer (some ⟨p3, 0, none⟩)] w fun e w' => e = .returned (.bool (plB b.os (b.side false) o i)) ∧ Below w.heap.size w w' := by
  have hI : IRow w B V.s (b.side false) := hb.ss
  have hm := hb.ok.mem false (b.side false)[i] (List.getElem_mem hi)
  have hsl : V.s = (V.s.1, V.s.2.1, V.s.2.2) := rfl
  have hlen := hI.len
  rw [hsl] at hI
  obtain ⟨gs, off, e1, -, lgs, c1, -⟩ := hI.cell (j := i) (by omega)
  rw [List.getElem?_eq_getElem hi] at c1
  obtain ⟨gr, e2, lgr, -, x0, x1, x2, x3, x4, x5⟩ := hb.order hm.1
  have b0 := hb.blk.cell 0
  have b1 := hb.blk.cell 3
  have b2 := hb.blk.cell 4
  simp only [List.getElem?_toArray, List.getElem?_cons_zero, List.getElem?_cons_succ] at b0 b1 b2
  unfold BkV.os at b0
  unfold slV at b1
  rw [e2] at b0
  rw [e1] at b1
  have y := fun j => h3.cell j
  refine (pl2_raw p5 p2 p3 gb gr b.os.length V.oc gs off V.s.2.1 V.s.2.2 i (b.side false)[i] (ordAt b.os (b.side false)[i]) o w ⟨by rw [h5.cell]; rfl, by rw [h2.cell]; rfl, b0, b1, b2, c1, ⟨x0, x1, x2, x3, x4, x5⟩, by rw [y]; rfl, by rw [y]; rfl, by rw [y]; rfl, by rw [y]; rfl, by rw [y]; rfl, by rw [y]; rfl⟩ (by omega) hm.1 h5.lt h2.lt h3.lt hb.blk.lt lgr lgs).mono ?_
  rintro e w' ⟨rfl, hbw⟩
  refine ⟨?_, hbw⟩
  unfold plB
  rw [List.getElem?_eq_getElem hi, ho]
  rfl
set_option maxHeartbeats 1000000 in
theorem place_any (gb B : Nat) (V : BkV) (b : BkS) (o : Ord) (w : World) (HK : Hid (BkAt w B gb V b)) :
    Calls Try.prog 54 #[.pointer (some ⟨gb, 0, none⟩), .agg #[.int .i64 o.id, .int .i64 o.acc, .bool o.buy, .int .i64 o.price, .int .i64 o.n, .int .i64 o.left]] w fun e w' => e = .returned (.int .i64 (placeN b.os (b.side o.buy) o : Nat)) ∧ Below w.heap.size w w' := by
  obtain ⟨i1, a1, b1, p1, n1, l1⟩ := o
  dsimp only
  cases b1
  ·
    obtain ⟨A, n, c, hV⟩ : ∃ A n c, V.s = (A, n, c) := ⟨_, _, _, rfl⟩
    have c1 := HK.out.blk.cell 3
    simp only [List.getElem?_toArray, List.getElem?_cons_zero, List.getElem?_cons_succ] at c1
    unfold slV at c1
    rw [hV] at c1
    dsimp only at c1
    have hgb := HK.out.blk.lt
    have hlen : (b.side false).length = n := by have := HK.out.ss.len; rw [hV] at this; exact this
    have hn : n ≤ 1000000 := by
      have := HK.out.ok.few
      rw [← hlen]
      unfold BkS.side
      simp
      omega
    have HS : Hid (SortedB b.os false (b.side false)) := Lib.hid (HK.out.ok.sorted false)
    have HL := Lib.hid hlen
    clear hV hlen
    go_enter Try.func54, Try.ntmps54
    go_wp2
    go_region_law (go_simp; go_at_call 30; ((with_reducible refine (side_false _).mono ?_); rintro e w1 ⟨rfl, rfl⟩))
    all_goals
      obtain ⟨W, hW⟩ : ∃ W, W = (((w.alloc (.cells #[.pointer (some ⟨gb, 0, none⟩)] 23)).alloc (.cells #[.int .i64 i1, .int .i64 a1, .bool false, .int .i64 p1, .int .i64 n1, .int .i64 l1] 42)).alloc (.cells #[.pointer (some ⟨gb, 3, none⟩)] 71)).drew := ⟨_, rfl⟩
      rw [← hW]
      have hbW : Below w.heap.size w W := by rw [hW]; exact below_drewN (((Below.refl _ _).alloc (Nat.le_refl _) _ |>.alloc (by simp) _).alloc (by simp; omega) _) 1
      have k2 : Blk W w.heap.size 23 #[.pointer (some ⟨gb, 0, none⟩)] := by rw [hW]; exact ((Blk.new w _ _).alloc _).alloc _
      have k3 : Blk W (w.heap.size + 1) 42 #[.int .i64 i1, .int .i64 a1, .bool false, .int .i64 p1, .int .i64 n1, .int .i64 l1] := by rw [hW]; exact (Blk.new' (w.alloc _) _ _ (by simp)).alloc _
      have k5 : Blk W (w.heap.size + 1 + 1) 71 #[.pointer (some ⟨gb, 3, none⟩)] := by rw [hW]; exact Blk.new' ((w.alloc _).alloc _) _ _ (by simp)
      have c2 : W.cell? ⟨gb, 3, none⟩ = some (.slice A n c) := (hbW.cell (p := ⟨gb, 3, none⟩) hgb).trans c1
      have c5 : W.cell? ⟨w.heap.size + 1 + 1, 0, none⟩ = some (.pointer (some ⟨gb, 3, none⟩)) := by rw [k5.cell]; rfl
      have HA := Lib.hid (HK.out.all hbW)
      have HBW := Lib.hid hbW
      have K2 := Lib.hid k2
      have K3 := Lib.hid k3
      have K5 := Lib.hid k5
      clear hW hbW k2 k3 k5
      generalize w.heap.size + 1 + 1 = g5 at *
      generalize w.heap.size + 1 = g3 at *
      go_wp2_with (go_at_call 64; (refine (search_any g5 _ g3 n (plB b.os (b.side false) ⟨i1, a1, false, p1, n1, l1⟩) _ hn (Lib.hid (fun w' hb' i hi => pl_false g5 _ g3 _ _ _ gb B i V b ⟨i1, a1, false, p1, n1, l1⟩ w' (HA.out.all hb') rfl (by rw [HL.out]; exact hi) (K5.out.all hb') (K2.out.all hb') (K3.out.all hb'))) (Lib.hid (fun x y hxy hy => plB_mono HS.out x y hxy (by rw [HL.out]; exact hy)))).mono ?_); rintro e w5 ⟨r, rfl, hr1, hr2, hr3, hb5⟩)
      rw [plB_place (o := ⟨i1, a1, false, p1, n1, l1⟩) (by rw [HL.out]; exact hr1) hr2 (fun i h1 h2 => hr3 i h1 (by rw [← HL.out]; exact h2))]
      go_ret
      exact ⟨rfl, bt HBW.out hb5⟩

  ·
    obtain ⟨A, n, c, hV⟩ : ∃ A n c, V.b = (A, n, c) := ⟨_, _, _, rfl⟩
    have c1 := HK.out.blk.cell 1
    simp only [List.getElem?_toArray, List.getElem?_cons_zero, List.getElem?_cons_succ] at c1
    unfold slV at c1
    rw [hV] at c1
    dsimp only at c1
    have hgb := HK.out.blk.lt
    have hlen : (b.side true).length = n := by have := HK.out.bs.len; rw [hV] at this; exact this
    have hn : n ≤ 1000000 := by
      have := HK.out.ok.few
      rw [← hlen]
      unfold BkS.side
      simp
      omega
    have HS : Hid (SortedB b.os true (b.side true)) := Lib.hid (HK.out.ok.sorted true)
    have HL := Lib.hid hlen
    clear hV hlen
    go_enter Try.func54, Try.ntmps54
    go_wp2
    go_region_law (go_simp; go_at_call 30; ((with_reducible refine (side_true _).mono ?_); rintro e w1 ⟨rfl, rfl⟩))
    all_goals
      obtain ⟨W, hW⟩ : ∃ W, W = (((w.alloc (.cells #[.pointer (some ⟨gb, 0, none⟩)] 23)).alloc (.cells #[.int .i64 i1, .int .i64 a1, .bool true, .int .i64 p1, .int .i64 n1, .int .i64 l1] 42)).alloc (.cells #[.pointer (some ⟨gb, 1, none⟩)] 71)).drew := ⟨_, rfl⟩
      rw [← hW]
      have hbW : Below w.heap.size w W := by rw [hW]; exact below_drewN (((Below.refl _ _).alloc (Nat.le_refl _) _ |>.alloc (by simp) _).alloc (by simp; omega) _) 1
      have k2 : Blk W w.heap.size 23 #[.pointer (some ⟨gb, 0, none⟩)] := by rw [hW]; exact ((Blk.new w _ _).alloc _).alloc _
      have k3 : Blk W (w.heap.size + 1) 42 #[.int .i64 i1, .int .i64 a1, .bool true, .int .i64 p1, .int .i64 n1, .int .i64 l1] := by rw [hW]; exact (Blk.new' (w.alloc _) _ _ (by simp)).alloc _
      have k5 : Blk W (w.heap.size + 1 + 1) 71 #[.pointer (some ⟨gb, 1, none⟩)] := by rw [hW]; exact Blk.new' ((w.alloc _).alloc _) _ _ (by simp)
      have c2 : W.cell? ⟨gb, 1, none⟩ = some (.slice A n c) := (hbW.cell (p := ⟨gb, 1, none⟩) hgb).trans c1
      have c5 : W.cell? ⟨w.heap.size + 1 + 1, 0, none⟩ = some (.pointer (some ⟨gb, 1, none⟩)) := by rw [k5.cell]; rfl
      have HA := Lib.hid (HK.out.all hbW)
      have HBW := Lib.hid hbW
      have K2 := Lib.hid k2
      have K3 := Lib.hid k3
      have K5 := Lib.hid k5
      clear hW hbW k2 k3 k5
      generalize w.heap.size + 1 + 1 = g5 at *
      generalize w.heap.size + 1 = g3 at *
      go_wp2_with (go_at_call 64; (refine (search_any g5 _ g3 n (plB b.os (b.side true) ⟨i1, a1, true, p1, n1, l1⟩) _ hn (Lib.hid (fun w' hb' i hi => pl_true g5 _ g3 _ _ _ gb B i V b ⟨i1, a1, true, p1, n1, l1⟩ w' (HA.out.all hb') rfl (by rw [HL.out]; exact hi) (K5.out.all hb') (K2.out.all hb') (K3.out.all hb'))) (Lib.hid (fun x y hxy hy => plB_mono HS.out x y hxy (by rw [HL.out]; exact hy)))).mono ?_); rintro e w5 ⟨r, rfl, hr1, hr2, hr3, hb5⟩)
      rw [plB_place (o := ⟨i1, a1, true, p1, n1, l1⟩) (by rw [HL.out]; exact hr1) hr2 (fun i h1 h2 => hr3 i h1 (by rw [← HL.out]; exact h2))]
      go_ret
      exact ⟨rfl, bt HBW.out hb5⟩

end Go.Proofs.Ytkandhpnenmleaa
