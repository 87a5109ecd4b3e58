/- law 26: lives. -/
import Derived.Test.YtkandhpnenmleaaHBkJoin
import Derived.Test.YtkandhpnenmleaaHBkOrd
import Derived.Test.YtkandhpnenmleaaHBrSame

namespace Go.Proofs.Ytkandhpnenmleaa
open Go.RowKit

theorem BkNext.below {gb B : Nat} {V V' : BkV} {b b' : BkS} {w0 w w' : World} (h : BkNext gb B V b w V' b' w') (hK : BkAt w B gb V b) (hb : Below B w0 w) (hB : B ≤ w.heap.size) : Below B w0 w' := h.mod.below hb hB (fun _ hq => (hK.lt hq).1)
def LB1 : BkS := ⟨[⟨0, 1, false, 10, 5, 5⟩], [], [0]⟩
def LB2 : BkS := ⟨[⟨0, 1, false, 10, 5, 5⟩, ⟨1, 1, false, 9, 5, 5⟩], [], [1, 0]⟩
def LB3 : BkS := ⟨[⟨0, 1, false, 10, 5, 3⟩, ⟨1, 1, false, 9, 5, 0⟩, ⟨2, 2, true, 10, 7, 0⟩], [], [0]⟩
def LB4 : BkS := ⟨[⟨0, 1, false, 10, 5, 3⟩, ⟨1, 1, false, 9, 5, 0⟩, ⟨2, 2, true, 10, 7, 0⟩, ⟨3, 1, true, 10, 1, 1⟩], [3], []⟩
theorem lb1 : placeE ⟨[], [], []⟩ 1 false 10 5 = (0, [], 0, LB1) := by rfl
theorem lb2 : placeE LB1 1 false 9 5 = (1, [], 0, LB2) := by rfl
theorem lb3 : placeE LB2 2 true 10 7 = (2, [⟨2, 1, 9, 5⟩, ⟨2, 0, 10, 2⟩], 0, LB3) := by rfl
theorem lb4 : placeE LB3 1 true 10 1 = (3, [], 0, LB4) := by rfl
theorem lb5 : LB4.openOs.length = 1 := by rfl
theorem lb6 : getO LB3.os 0 = ⟨0, 1, false, 10, 5, 3⟩ := by rfl
theorem lb7 : hasO LB3.os 0 = true := by rfl
set_option maxRecDepth 100000 in
set_option maxHeartbeats 4000000 in
theorem lives_any (w : World) : Calls Try.prog 15 #[] w fun e w' => e = .returned (.bool true) ∧ Below w.heap.size w w' := by
  obtain ⟨g, hg⟩ : ∃ g, w.heap.size = g := ⟨_, rfl⟩
  have hnew := new_any w
  rw [hg] at hnew
  go_enter Try.func15, Try.ntmps15
  go_wp2_with fail
  refine (hnew).mono ?_
  rintro e w0 ⟨V0, rfl, hB0', hb0⟩
  have hB0 := Lib.hid hB0'
  have HB0 := Lib.hid hb0
  clear hB0' hnew hb0
  go_wp2_with fail
  refine (place_step g g V0 ⟨[], [], []⟩ false 1 10 5 w0 hB0 (by decide) lb1 (k := 0) rfl).mono ?_
  rintro e w1 ⟨A1, c1, V1, rfl, -, n1⟩
  have hB1 := Lib.hid n1.bk
  have hN1 := Lib.hid n1
  clear n1
  go_wp2_with fail
  refine (place_step g g V1 LB1 false 1 9 5 w1 hB1 (by decide) lb2 (k := 0) rfl).mono ?_
  rintro e w2 ⟨A2, c2, V2, rfl, -, n2⟩
  have hB2 := Lib.hid n2.bk
  have hN2 := Lib.hid n2
  clear n2
  go_wp2_with fail
  refine (place_step g g V2 LB2 true 2 10 7 w2 hB2 (by decide) lb3 (k := 2) rfl).mono ?_
  rintro e w3 ⟨A3, c3, V3, rfl, hrow, n3⟩
  have hB3 := Lib.hid n3.bk
  have hN3 := Lib.hid n3
  have HR3 := Lib.hid hrow
  clear n3 hrow
  go_wp2_with fail
  refine (get_any g g V3 LB3 0 w3 hB3).mono ?_
  rintro e w4 ⟨rfl, hb4⟩
  rw [lb6, lb7]
  dsimp only
  have hB4 := Lib.hid (hB3.out.all hb4)
  have HB4 := Lib.hid hb4
  have HR4 := Lib.hid (own_keep HR3.out hb4)
  clear hb4
  go_wp2_with fail
  obtain ⟨w5, hw5⟩ : ∃ w5, w5 = w4.alloc (.cells #[.int .i64 0, .int .i64 1, .bool false, .int .i64 10, .int .i64 5, .int .i64 3] 42) := ⟨_, rfl⟩
  rw [← hw5]
  have hb5 : Below w4.heap.size w4 w5 := by rw [hw5]; exact (Below.refl _ _).alloc (Nat.le_refl _) _
  have hB5 := Lib.hid (hB4.out.all hb5)
  have HB5 := Lib.hid (bt HB4.out hb5)
  have HR5 := Lib.hid (own_keep HR4.out hb5)
  obtain ⟨g11, hg11⟩ : ∃ g11, w4.heap.size = g11 := ⟨_, rfl⟩
  rw [hg11]
  clear hw5 hb5 hg11
  refine (place_step g g V3 LB3 true 1 10 1 w5 hB5 (by decide) lb4 (k := 0) rfl).mono ?_
  rintro e w6 ⟨A5, c5, V5, rfl, -, n5⟩
  have hB6 := Lib.hid n5.bk
  have hN6 := Lib.hid n5
  have HR6 := Lib.hid (n5.mod.own HR5.out (fun q hq hf => hB5.out.raw.isnt (own_ty HR5.out hq) (by decide) hf))
  obtain ⟨ga, hA, -, hga, a0, a1, a2, a3⟩ := trdRow HR6.out rfl (k := 0) (by decide)
  obtain ⟨ga', hA', -, -, d0, d1, d2, d3⟩ := trdRow HR6.out rfl (k := 1) (by decide)
  subst hA
  injection hA' with hA'
  injection hA' with hA' hz1 hz2
  clear hz1 hz2
  subst hA'
  have q0 : trdAt [⟨2, 1, 9, 5⟩, ⟨2, 0, 10, 2⟩] 0 = ⟨2, 1, 9, 5⟩ := rfl
  have q1 : trdAt [⟨2, 1, 9, 5⟩, ⟨2, 0, 10, 2⟩] 1 = ⟨2, 0, 10, 2⟩ := rfl
  rw [q0] at a0 a1 a2 a3
  rw [q1] at d0 d1 d2 d3
  clear q0 q1 n5
  go_wp2_with (go_at_call 12
               (with_reducible refine (orders_any g g V5 LB4 _ hB6).mono ?_)
               rintro e w7 ⟨A6, c6, h6, -, hb7⟩
               rw [lb5] at h6
               subst h6
               have HB7 := Lib.hid hb7
               clear hb7)
  go_ret
  refine ⟨rfl, ?_⟩
  subst hg
  have z0 := HB0.out
  have z1 := hN1.out.below hB0.out z0 z0.size
  have z2 := hN2.out.below hB1.out z1 z1.size
  have z3 := hN3.out.below hB2.out z2 z2.size
  have z5 := bt z3 HB5.out
  have z6 := hN6.out.below hB5.out z5 z5.size
  exact bt z6 HB7.out
end Go.Proofs.Ytkandhpnenmleaa
