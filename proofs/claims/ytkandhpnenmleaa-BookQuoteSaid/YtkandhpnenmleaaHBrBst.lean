/- book: the reference's Best. -/
import Derived.Test.YtkandhpnenmleaaHBrGet
import Derived.Deep.DeepCutAuto

namespace Go.Proofs.Ytkandhpnenmleaa
open Go.RowKit

def RBestPost (b : BkS) (w : World) (e : Ending) (w' : World) : Prop := (∃ x y : ROrd, x.o = bestO b.os (b.side true) ∧ y.o = bestO b.os (b.side false) ∧ e = .returned (.tuple #[.agg #[.int .i64 x.o.id, .int .i64 x.o.acc, .bool x.o.buy, .int .i64 x.o.price, .int .i64 x.o.n, .int .i64 x.o.left, .bool x.e], .agg #[.int .i64 y.o.id, .int .i64 y.o.acc, .bool y.o.buy, .int .i64 y.o.price, .int .i64 y.o.n, .int .i64 y.o.left, .bool y.e], .bool (!(b.side true).isEmpty), .bool (!(b.side false).isEmpty)])) ∧ Below w.heap.size w w'
set_option maxRecDepth 100000 in
set_option maxHeartbeats 4000000 in
theorem rBest_tt (B g n c : Nat) (A : Option Addr) (l : List ROrd) (b : BkS) (w : World) (ix : Nat) (tx : List Nat) (iy : Nat) (ty : List Nat) (HK : Hid (RAt w B g A n c l b)) (hx : b.side true = ix :: tx) (hy : b.side false = iy :: ty) :
    Calls Try.prog 42 #[.pointer (some ⟨g, 0, none⟩)] w (RBestPost b w) := by
  have HBT : Hid (rbestN l true n = headI (b.side true)) := Lib.hid (by rw [← HK.out.rb.len]; exact HK.out.rel.best HK.out.ok true)
  have HBF : Hid (rbestN l false n = headI (b.side false)) := Lib.hid (by rw [← HK.out.rb.len]; exact HK.out.rel.best HK.out.ok false)
  have hmx := HK.out.ok.mem true ix (by rw [hx]; exact List.mem_cons_self)
  obtain ⟨x, hxx⟩ : ∃ x, rAt l ix = x := ⟨_, rfl⟩
  have HXE : Hid (x.o = bestO b.os (b.side true)) := Lib.hid (by rw [hx, ← hxx, HK.out.rel.at_]; rfl)
  have hinx : ix < n := by have := HK.out.rel.len; have := HK.out.rb.len; have := hmx.1; omega
  have hiix : (ix : Int) < (n : Int) := by omega
  have hmy := HK.out.ok.mem false iy (by rw [hy]; exact List.mem_cons_self)
  obtain ⟨y, hyx⟩ : ∃ y, rAt l iy = y := ⟨_, rfl⟩
  have HYE : Hid (y.o = bestO b.os (b.side false)) := Lib.hid (by rw [hy, ← hyx, HK.out.rel.at_]; rfl)
  have hiny : iy < n := by have := HK.out.rel.len; have := HK.out.rb.len; have := hmy.1; omega
  have hiiy : (iy : Int) < (n : Int) := by omega
  have HB1 : Hid (∀ w', Below w.heap.size w w' → Calls Try.prog 49 #[.pointer (some ⟨g, 0, none⟩), .bool true] w' fun e w'' => e = .returned (.int .i64 (ix : Int)) ∧ Below w'.heap.size w' w'') := Lib.hid (fun w' hb => by
    have := rbest_walk B g n c A l true w' (Lib.hid (HK.out.rb.all hb))
    rw [HBT.out, hx] at this
    exact this)
  have HB2 : Hid (∀ w', Below w.heap.size w w' → Calls Try.prog 49 #[.pointer (some ⟨g, 0, none⟩), .bool false] w' fun e w'' => e = .returned (.int .i64 (iy : Int)) ∧ Below w'.heap.size w' w'') := Lib.hid (fun w' hb => by
    have := rbest_walk B g n c A l false w' (Lib.hid (HK.out.rb.all hb))
    rw [HBF.out, hy] at this
    exact this)
  obtain ⟨gr, hA, hgr, -⟩ := HK.out.rb.order hinx
  subst hA
  have HGRL := Lib.hid hgr
  have HRD : Hid (∀ w', Below w.heap.size w w' → RB w' B g (some ⟨gr, 0, none⟩) n c l) := Lib.hid (fun w' hb => HK.out.rb.all hb)
  have HHX := Lib.hid hxx
  have HHY := Lib.hid hyx
  have HSX := Lib.hid hx
  have HSY := Lib.hid hy
  clear hxx hyx hx hy
  clear hmx
  clear hmy
  have hsz0 : Below w.heap.size w ((((w.alloc (.cells #[.int .i64 0, .int .i64 0, .bool false, .int .i64 0, .int .i64 0, .int .i64 0, .bool false] 85)).alloc (.cells #[.int .i64 0, .int .i64 0, .bool false, .int .i64 0, .int .i64 0, .int .i64 0, .bool false] 85)).alloc (.cells #[.int .i64 0, .int .i64 0, .bool false, .int .i64 0, .int .i64 0, .int .i64 0, .bool false] 85)).alloc (.cells #[.int .i64 0, .int .i64 0, .bool false, .int .i64 0, .int .i64 0, .int .i64 0, .bool false] 85)) := (((((Below.refl _ _).alloc (Nat.le_refl _) _).alloc (by simp) _).alloc (by first | (simp; done) | (simp; omega)) _).alloc (by first | (simp; done) | (simp; omega)) _)
  go_enter Try.func42, Try.ntmps42
  go_upto_region 2 with (fail)
  obtain ⟨w0, hw0⟩ : ∃ w0, w0 = ((((w.alloc (.cells #[.int .i64 0, .int .i64 0, .bool false, .int .i64 0, .int .i64 0, .int .i64 0, .bool false] 85)).alloc (.cells #[.int .i64 0, .int .i64 0, .bool false, .int .i64 0, .int .i64 0, .int .i64 0, .bool false] 85)).alloc (.cells #[.int .i64 0, .int .i64 0, .bool false, .int .i64 0, .int .i64 0, .int .i64 0, .bool false] 85)).alloc (.cells #[.int .i64 0, .int .i64 0, .bool false, .int .i64 0, .int .i64 0, .int .i64 0, .bool false] 85)) := ⟨_, rfl⟩
  have k1 : Blk w0 w.heap.size 85 #[.int .i64 0, .int .i64 0, .bool false, .int .i64 0, .int .i64 0, .int .i64 0, .bool false] := by rw [hw0]; exact (((Blk.new w _ _).alloc _).alloc _).alloc _
  have k2 : Blk w0 (w.heap.size + 1) 85 #[.int .i64 0, .int .i64 0, .bool false, .int .i64 0, .int .i64 0, .int .i64 0, .bool false] := by rw [hw0]; exact ((Blk.new' _ _ _ (by simp)).alloc _).alloc _
  have k3 : Blk w0 (w.heap.size + 1 + 1) 85 #[.int .i64 0, .int .i64 0, .bool false, .int .i64 0, .int .i64 0, .int .i64 0, .bool false] := by rw [hw0]; exact (Blk.new' _ _ _ (by simp)).alloc _
  have k4 : Blk w0 (w.heap.size + 1 + 1 + 1) 85 #[.int .i64 0, .int .i64 0, .bool false, .int .i64 0, .int .i64 0, .int .i64 0, .bool false] := by rw [hw0]; exact Blk.new' _ _ _ (by simp)
  rw [← hw0] at hsz0 ⊢
  clear hw0
  obtain ⟨g2, hg2⟩ : ∃ g2, w.heap.size + 1 = g2 := ⟨_, rfl⟩
  obtain ⟨g3, hg3⟩ : ∃ g3, w.heap.size + 1 + 1 = g3 := ⟨_, rfl⟩
  obtain ⟨g4, hg4⟩ : ∃ g4, w.heap.size + 1 + 1 + 1 = g4 := ⟨_, rfl⟩
  have n12 : w.heap.size ≠ g2 := by omega
  have n13 : w.heap.size ≠ g3 := by omega
  have n14 : w.heap.size ≠ g4 := by omega
  have n23 : g2 ≠ g3 := by omega
  have n24 : g2 ≠ g4 := by omega
  have n34 : g3 ≠ g4 := by omega
  have l2 : w.heap.size ≤ g2 := by omega
  have l3 : w.heap.size ≤ g3 := by omega
  have l4 : w.heap.size ≤ g4 := by omega
  rw [hg4] at k4 ⊢
  rw [hg3] at k3 ⊢
  rw [hg2] at k2 ⊢
  clear hg2 hg3 hg4
  have ng3 : gr ≠ g3 := by omega
  have ng4 : gr ≠ g4 := by omega
  have HGG3 : Hid (¬ RF g (some ⟨gr, 0, none⟩) n c g3) := Lib.hid (fun h => by have := (HK.out.rb.lt h).2; omega)
  have HGG4 : Hid (¬ RF g (some ⟨gr, 0, none⟩) n c g4) := Lib.hid (fun h => by have := (HK.out.rb.lt h).2; omega)
  go_upto_region 4 with (first
    | (go_at_call 49
       (with_reducible refine (HB1.out _ hsz0).mono ?_)
       rintro e w1 ⟨rfl, hb1⟩
       have k1' := Lib.hid (k1.all hb1)
       have k2' := Lib.hid (k2.all hb1)
       have k3' := Lib.hid (k3.all hb1)
       have k4' := Lib.hid (k4.all hb1)
       replace hb1 := bt hsz0 hb1
       clear k1 k2 k3 k4)
    | (go_at_call 49
       (with_reducible refine (HB2.out _ hb1).mono ?_)
       rintro e w2 ⟨rfl, hb2⟩
       have j1 := Lib.hid (k1'.out.all hb2)
       have j2 := Lib.hid (k2'.out.all hb2)
       have j3 := Lib.hid (k3'.out.all hb2)
       have j4 := Lib.hid (k4'.out.all hb2)
       replace hb2 := bt hb1 hb2
       have HQ := Lib.hid (HRD.out w2 hb2)
       have HB22 := Lib.hid hb2
       clear hb2))
  clear hsz0
  have q := HQ.out
  have u0 := q.cell0
  obtain ⟨g', hg', -, -, -, x0, x1, x2, x3, x4, x5, x6⟩ := q.order hinx
  injection hg' with hg'
  injection hg' with hg' hz1 hz2
  clear hz1 hz2
  subst hg'
  rw [HHX.out] at x0 x1 x2 x3 x4 x5 x6
  have d0 := j3.out.cell 0
  have f30 := j3.out.frozen 0
  have d1 := j3.out.cell 1
  have f31 := j3.out.frozen 1
  have d2 := j3.out.cell 2
  have f32 := j3.out.frozen 2
  have d3 := j3.out.cell 3
  have f33 := j3.out.frozen 3
  have d4 := j3.out.cell 4
  have f34 := j3.out.frozen 4
  have d5 := j3.out.cell 5
  have f35 := j3.out.frozen 5
  have d6 := j3.out.cell 6
  have f36 := j3.out.frozen 6
  simp only [List.getElem?_toArray, List.getElem?_cons_zero, List.getElem?_cons_succ] at d0 d1 d2 d3 d4 d5 d6
  clear q
  go_upto_region 6 with (fail)
  obtain ⟨w3, hw3⟩ : ∃ w3, w3 = set7 w2 g3 (.int .i64 x.o.id) (.int .i64 x.o.acc) (.bool x.o.buy) (.int .i64 x.o.price) (.int .i64 x.o.n) (.int .i64 x.o.left) (.bool x.e) := ⟨_, rfl⟩
  have mW : Mod (fun q => q = g3) w2 w3 := by rw [hw3]; exact set7_mod (F := fun q => q = g3) rfl (.int .i64 x.o.id) (.int .i64 x.o.acc) (.bool x.o.buy) (.int .i64 x.o.price) (.int .i64 x.o.n) (.int .i64 x.o.left) (.bool x.e)
  replace j1 := Lib.hid (mW.blk j1.out n13)
  replace j2 := Lib.hid (mW.blk j2.out n23)
  have ij3 : Blk w3 g3 85 #[.int .i64 x.o.id, .int .i64 x.o.acc, .bool x.o.buy, .int .i64 x.o.price, .int .i64 x.o.n, .int .i64 x.o.left, .bool x.e] := by rw [hw3]; exact set7_blk j3.out rfl (.int .i64 x.o.id) (.int .i64 x.o.acc) (.bool x.o.buy) (.int .i64 x.o.price) (.int .i64 x.o.n) (.int .i64 x.o.left) (.bool x.e)
  replace j3 := Lib.hid ij3
  replace j4 := Lib.hid (mW.blk j4.out (Ne.symm n34))
  replace HQ := Lib.hid (HQ.out.mod mW (fun q hq e => HGG3.out (by rw [← e]; exact hq)))
  replace HB22 := Lib.hid (mW.below HB22.out HB22.out.size (fun q h => by omega))
  unfold set7 at hw3
  rw [← hw3]
  clear hw3 mW ij3 u0 x0 x1 x2 x3 x4 x5 x6 d0 d1 d2 d3 d4 d5 d6 f30 f31 f32 f33 f34 f35 f36
  have q := HQ.out
  have u0 := q.cell0
  obtain ⟨g', hg', -, -, -, y0, y1, y2, y3, y4, y5, y6⟩ := q.order hiny
  injection hg' with hg'
  injection hg' with hg' hz1 hz2
  clear hz1 hz2
  subst hg'
  rw [HHY.out] at y0 y1 y2 y3 y4 y5 y6
  have e0 := j4.out.cell 0
  have f40 := j4.out.frozen 0
  have e1 := j4.out.cell 1
  have f41 := j4.out.frozen 1
  have e2 := j4.out.cell 2
  have f42 := j4.out.frozen 2
  have e3 := j4.out.cell 3
  have f43 := j4.out.frozen 3
  have e4 := j4.out.cell 4
  have f44 := j4.out.frozen 4
  have e5 := j4.out.cell 5
  have f45 := j4.out.frozen 5
  have e6 := j4.out.cell 6
  have f46 := j4.out.frozen 6
  simp only [List.getElem?_toArray, List.getElem?_cons_zero, List.getElem?_cons_succ] at e0 e1 e2 e3 e4 e5 e6
  clear q
  go_upto_region 8 with (fail)
  obtain ⟨w4, hw4⟩ : ∃ w4, w4 = set7 w3 g4 (.int .i64 y.o.id) (.int .i64 y.o.acc) (.bool y.o.buy) (.int .i64 y.o.price) (.int .i64 y.o.n) (.int .i64 y.o.left) (.bool y.e) := ⟨_, rfl⟩
  have mW : Mod (fun q => q = g4) w3 w4 := by rw [hw4]; exact set7_mod (F := fun q => q = g4) rfl (.int .i64 y.o.id) (.int .i64 y.o.acc) (.bool y.o.buy) (.int .i64 y.o.price) (.int .i64 y.o.n) (.int .i64 y.o.left) (.bool y.e)
  replace j1 := Lib.hid (mW.blk j1.out n14)
  replace j2 := Lib.hid (mW.blk j2.out n24)
  have ij4 : Blk w4 g4 85 #[.int .i64 y.o.id, .int .i64 y.o.acc, .bool y.o.buy, .int .i64 y.o.price, .int .i64 y.o.n, .int .i64 y.o.left, .bool y.e] := by rw [hw4]; exact set7_blk j4.out rfl (.int .i64 y.o.id) (.int .i64 y.o.acc) (.bool y.o.buy) (.int .i64 y.o.price) (.int .i64 y.o.n) (.int .i64 y.o.left) (.bool y.e)
  replace j4 := Lib.hid ij4
  replace j3 := Lib.hid (mW.blk j3.out n34)
  replace HQ := Lib.hid (HQ.out.mod mW (fun q hq e => HGG4.out (by rw [← e]; exact hq)))
  replace HB22 := Lib.hid (mW.below HB22.out HB22.out.size (fun q h => by omega))
  unfold set7 at hw4
  rw [← hw4]
  clear hw4 mW ij4 u0 y0 y1 y2 y3 y4 y5 y6 e0 e1 e2 e3 e4 e5 e6 f40 f41 f42 f43 f44 f45 f46
  obtain ⟨W, hW⟩ : ∃ W, W = w4 := ⟨_, rfl⟩
  rw [← hW]
  rw [← hW] at j1 j2 j3 j4 HB22
  have m1 := j1.out
  have m2 := j2.out
  have m3 : Blk W g3 85 #[.int .i64 x.o.id, .int .i64 x.o.acc, .bool x.o.buy, .int .i64 x.o.price, .int .i64 x.o.n, .int .i64 x.o.left, .bool x.e] := by
    skip
    exact j3.out
  have m4 : Blk W g4 85 #[.int .i64 y.o.id, .int .i64 y.o.acc, .bool y.o.buy, .int .i64 y.o.price, .int .i64 y.o.n, .int .i64 y.o.left, .bool y.e] := by
    skip
    exact j4.out
  have HBW := HB22
  clear hW j1 j2 j3 j4 HB22 HQ
  have HM := Lib.hid (And.intro m1 m2)
  have a0 := m1.cell 0
  have a1 := m1.cell 1
  have a2 := m1.cell 2
  have a3 := m1.cell 3
  have a4 := m1.cell 4
  have a5 := m1.cell 5
  have a6 := m1.cell 6
  have b0 := m2.cell 0
  have b1 := m2.cell 1
  have b2 := m2.cell 2
  have b3 := m2.cell 3
  have b4 := m2.cell 4
  have b5 := m2.cell 5
  have b6 := m2.cell 6
  have c0 := m3.cell 0
  have c1 := m3.cell 1
  have c2 := m3.cell 2
  have c3 := m3.cell 3
  have c4 := m3.cell 4
  have c5 := m3.cell 5
  have c6 := m3.cell 6
  have d0 := m4.cell 0
  have d1 := m4.cell 1
  have d2 := m4.cell 2
  have d3 := m4.cell 3
  have d4 := m4.cell 4
  have d5 := m4.cell 5
  have d6 := m4.cell 6
  have fm10 := m1.frozen 0
  have fm11 := m1.frozen 1
  have fm12 := m1.frozen 2
  have fm13 := m1.frozen 3
  have fm14 := m1.frozen 4
  have fm15 := m1.frozen 5
  have fm16 := m1.frozen 6
  have fm20 := m2.frozen 0
  have fm21 := m2.frozen 1
  have fm22 := m2.frozen 2
  have fm23 := m2.frozen 3
  have fm24 := m2.frozen 4
  have fm25 := m2.frozen 5
  have fm26 := m2.frozen 6
  simp only [List.getElem?_toArray, List.getElem?_cons_zero, List.getElem?_cons_succ] at a0 a1 a2 a3 a4 a5 a6 b0 b1 b2 b3 b4 b5 b6 c0 c1 c2 c3 c4 c5 c6 d0 d1 d2 d3 d4 d5 d6
  clear m1 m2 m3 m4
  go_region
  go_wp2
  obtain ⟨W2, hW2⟩ : ∃ W2, W2 = (set7 (set7 W w.heap.size (.int .i64 x.o.id) (.int .i64 x.o.acc) (.bool x.o.buy) (.int .i64 x.o.price) (.int .i64 x.o.n) (.int .i64 x.o.left) (.bool x.e)) g2 (.int .i64 y.o.id) (.int .i64 y.o.acc) (.bool y.o.buy) (.int .i64 y.o.price) (.int .i64 y.o.n) (.int .i64 y.o.left) (.bool y.e)).drew := ⟨_, rfl⟩
  have q0 := set7_mod (w := W) (F := fun g => g = w.heap.size) rfl (.int .i64 x.o.id) (.int .i64 x.o.acc) (.bool x.o.buy) (.int .i64 x.o.price) (.int .i64 x.o.n) (.int .i64 x.o.left) (.bool x.e)
  have q5 := set7_mod (w := set7 W w.heap.size (.int .i64 x.o.id) (.int .i64 x.o.acc) (.bool x.o.buy) (.int .i64 x.o.price) (.int .i64 x.o.n) (.int .i64 x.o.left) (.bool x.e)) (F := fun g => g = g2) rfl (.int .i64 y.o.id) (.int .i64 y.o.acc) (.bool y.o.buy) (.int .i64 y.o.price) (.int .i64 y.o.n) (.int .i64 y.o.left) (.bool y.e)
  have q1 : Blk W2 w.heap.size 85 #[.int .i64 x.o.id, .int .i64 x.o.acc, .bool x.o.buy, .int .i64 x.o.price, .int .i64 x.o.n, .int .i64 x.o.left, .bool x.e] := by rw [hW2]; exact blk_drew (q5.blk (set7_blk HM.out.1 rfl (.int .i64 x.o.id) (.int .i64 x.o.acc) (.bool x.o.buy) (.int .i64 x.o.price) (.int .i64 x.o.n) (.int .i64 x.o.left) (.bool x.e)) n12)
  have q2 : Blk W2 g2 85 #[.int .i64 y.o.id, .int .i64 y.o.acc, .bool y.o.buy, .int .i64 y.o.price, .int .i64 y.o.n, .int .i64 y.o.left, .bool y.e] := by rw [hW2]; exact blk_drew (set7_blk (q0.blk HM.out.2 (Ne.symm n12)) rfl (.int .i64 y.o.id) (.int .i64 y.o.acc) (.bool y.o.buy) (.int .i64 y.o.price) (.int .i64 y.o.n) (.int .i64 y.o.left) (.bool y.e))
  have q3 : Mod (fun g => g = w.heap.size ∨ g = g2) W W2 := by rw [hW2]; exact ((q0.mono (fun b h => .inl (.inl h))).trans q5 (fun b h => .inl (.inr h))).drew
  have hfin : Below w.heap.size w W2 := q3.below HBW.out HBW.out.size (fun b hb => by rcases hb with h | h <;> omega)
  unfold set7 at hW2
  rw [← hW2]
  clear hW2 q0 q5 q3
  have r0 := q1.cell 0
  have r1 := q1.cell 1
  have r2 := q1.cell 2
  have r3 := q1.cell 3
  have r4 := q1.cell 4
  have r5 := q1.cell 5
  have r6 := q1.cell 6
  have s0 := q2.cell 0
  have s1 := q2.cell 1
  have s2 := q2.cell 2
  have s3 := q2.cell 3
  have s4 := q2.cell 4
  have s5 := q2.cell 5
  have s6 := q2.cell 6
  simp only [List.getElem?_toArray, List.getElem?_cons_zero, List.getElem?_cons_succ] at r0 r1 r2 r3 r4 r5 r6 s0 s1 s2 s3 s4 s5 s6
  exact bodyPost_ret (v := .tuple #[.agg #[.int .i64 x.o.id, .int .i64 x.o.acc, .bool x.o.buy, .int .i64 x.o.price, .int .i64 x.o.n, .int .i64 x.o.left, .bool x.e], .agg #[.int .i64 y.o.id, .int .i64 y.o.acc, .bool y.o.buy, .int .i64 y.o.price, .int .i64 y.o.n, .int .i64 y.o.left, .bool y.e], .bool true, .bool true]) (by simp [results, Try.results42, go_sem, r0, r1, r2, r3, r4, r5, r6, s0, s1, s2, s3, s4, s5, s6]) rfl ⟨⟨x, y, HXE.out, HYE.out, by rw [HSX.out, HSY.out]; rfl⟩, hfin⟩

set_option maxRecDepth 100000 in
set_option maxHeartbeats 4000000 in
theorem rBest_tf (B g n c : Nat) (A : Option Addr) (l : List ROrd) (b : BkS) (w : World) (ix : Nat) (tx : List Nat) (HK : Hid (RAt w B g A n c l b)) (hx : b.side true = ix :: tx) (hy : b.side false = []) :
    Calls Try.prog 42 #[.pointer (some ⟨g, 0, none⟩)] w (RBestPost b w) := by
  have HBT : Hid (rbestN l true n = headI (b.side true)) := Lib.hid (by rw [← HK.out.rb.len]; exact HK.out.rel.best HK.out.ok true)
  have HBF : Hid (rbestN l false n = headI (b.side false)) := Lib.hid (by rw [← HK.out.rb.len]; exact HK.out.rel.best HK.out.ok false)
  have hmx := HK.out.ok.mem true ix (by rw [hx]; exact List.mem_cons_self)
  obtain ⟨x, hxx⟩ : ∃ x, rAt l ix = x := ⟨_, rfl⟩
  have HXE : Hid (x.o = bestO b.os (b.side true)) := Lib.hid (by rw [hx, ← hxx, HK.out.rel.at_]; rfl)
  have hinx : ix < n := by have := HK.out.rel.len; have := HK.out.rb.len; have := hmx.1; omega
  have hiix : (ix : Int) < (n : Int) := by omega
  obtain ⟨y, hyx⟩ : ∃ y, y = rord0 := ⟨_, rfl⟩
  have HYE : Hid (y.o = bestO b.os (b.side false)) := Lib.hid (by rw [hy, hyx]; rfl)
  have HB1 : Hid (∀ w', Below w.heap.size w w' → Calls Try.prog 49 #[.pointer (some ⟨g, 0, none⟩), .bool true] w' fun e w'' => e = .returned (.int .i64 (ix : Int)) ∧ Below w'.heap.size w' w'') := Lib.hid (fun w' hb => by
    have := rbest_walk B g n c A l true w' (Lib.hid (HK.out.rb.all hb))
    rw [HBT.out, hx] at this
    exact this)
  have HB2 : Hid (∀ w', Below w.heap.size w w' → Calls Try.prog 49 #[.pointer (some ⟨g, 0, none⟩), .bool false] w' fun e w'' => e = .returned (.int .i64 (-1)) ∧ Below w'.heap.size w' w'') := Lib.hid (fun w' hb => by
    have := rbest_walk B g n c A l false w' (Lib.hid (HK.out.rb.all hb))
    rw [HBF.out, hy] at this
    exact this)
  obtain ⟨gr, hA, hgr, -⟩ := HK.out.rb.order hinx
  subst hA
  have HGRL := Lib.hid hgr
  have HRD : Hid (∀ w', Below w.heap.size w w' → RB w' B g (some ⟨gr, 0, none⟩) n c l) := Lib.hid (fun w' hb => HK.out.rb.all hb)
  have HHX := Lib.hid hxx
  have HHY := Lib.hid hyx
  have HSX := Lib.hid hx
  have HSY := Lib.hid hy
  clear hxx hyx hx hy
  clear hmx
  have hsz0 : Below w.heap.size w ((((w.alloc (.cells #[.int .i64 0, .int .i64 0, .bool false, .int .i64 0, .int .i64 0, .int .i64 0, .bool false] 85)).alloc (.cells #[.int .i64 0, .int .i64 0, .bool false, .int .i64 0, .int .i64 0, .int .i64 0, .bool false] 85)).alloc (.cells #[.int .i64 0, .int .i64 0, .bool false, .int .i64 0, .int .i64 0, .int .i64 0, .bool false] 85)).alloc (.cells #[.int .i64 0, .int .i64 0, .bool false, .int .i64 0, .int .i64 0, .int .i64 0, .bool false] 85)) := (((((Below.refl _ _).alloc (Nat.le_refl _) _).alloc (by simp) _).alloc (by first | (simp; done) | (simp; omega)) _).alloc (by first | (simp; done) | (simp; omega)) _)
  go_enter Try.func42, Try.ntmps42
  go_upto_region 2 with (fail)
  obtain ⟨w0, hw0⟩ : ∃ w0, w0 = ((((w.alloc (.cells #[.int .i64 0, .int .i64 0, .bool false, .int .i64 0, .int .i64 0, .int .i64 0, .bool false] 85)).alloc (.cells #[.int .i64 0, .int .i64 0, .bool false, .int .i64 0, .int .i64 0, .int .i64 0, .bool false] 85)).alloc (.cells #[.int .i64 0, .int .i64 0, .bool false, .int .i64 0, .int .i64 0, .int .i64 0, .bool false] 85)).alloc (.cells #[.int .i64 0, .int .i64 0, .bool false, .int .i64 0, .int .i64 0, .int .i64 0, .bool false] 85)) := ⟨_, rfl⟩
  have k1 : Blk w0 w.heap.size 85 #[.int .i64 0, .int .i64 0, .bool false, .int .i64 0, .int .i64 0, .int .i64 0, .bool false] := by rw [hw0]; exact (((Blk.new w _ _).alloc _).alloc _).alloc _
  have k2 : Blk w0 (w.heap.size + 1) 85 #[.int .i64 0, .int .i64 0, .bool false, .int .i64 0, .int .i64 0, .int .i64 0, .bool false] := by rw [hw0]; exact ((Blk.new' _ _ _ (by simp)).alloc _).alloc _
  have k3 : Blk w0 (w.heap.size + 1 + 1) 85 #[.int .i64 0, .int .i64 0, .bool false, .int .i64 0, .int .i64 0, .int .i64 0, .bool false] := by rw [hw0]; exact (Blk.new' _ _ _ (by simp)).alloc _
  have k4 : Blk w0 (w.heap.size + 1 + 1 + 1) 85 #[.int .i64 0, .int .i64 0, .bool false, .int .i64 0, .int .i64 0, .int .i64 0, .bool false] := by rw [hw0]; exact Blk.new' _ _ _ (by simp)
  rw [← hw0] at hsz0 ⊢
  clear hw0
  obtain ⟨g2, hg2⟩ : ∃ g2, w.heap.size + 1 = g2 := ⟨_, rfl⟩
  obtain ⟨g3, hg3⟩ : ∃ g3, w.heap.size + 1 + 1 = g3 := ⟨_, rfl⟩
  obtain ⟨g4, hg4⟩ : ∃ g4, w.heap.size + 1 + 1 + 1 = g4 := ⟨_, rfl⟩
  have n12 : w.heap.size ≠ g2 := by omega
  have n13 : w.heap.size ≠ g3 := by omega
  have n14 : w.heap.size ≠ g4 := by omega
  have n23 : g2 ≠ g3 := by omega
  have n24 : g2 ≠ g4 := by omega
  have n34 : g3 ≠ g4 := by omega
  have l2 : w.heap.size ≤ g2 := by omega
  have l3 : w.heap.size ≤ g3 := by omega
  have l4 : w.heap.size ≤ g4 := by omega
  rw [hg4] at k4 ⊢
  rw [hg3] at k3 ⊢
  rw [hg2] at k2 ⊢
  clear hg2 hg3 hg4
  have ng3 : gr ≠ g3 := by omega
  have ng4 : gr ≠ g4 := by omega
  have HGG3 : Hid (¬ RF g (some ⟨gr, 0, none⟩) n c g3) := Lib.hid (fun h => by have := (HK.out.rb.lt h).2; omega)
  have HGG4 : Hid (¬ RF g (some ⟨gr, 0, none⟩) n c g4) := Lib.hid (fun h => by have := (HK.out.rb.lt h).2; omega)
  go_upto_region 4 with (first
    | (go_at_call 49
       (with_reducible refine (HB1.out _ hsz0).mono ?_)
       rintro e w1 ⟨rfl, hb1⟩
       have k1' := Lib.hid (k1.all hb1)
       have k2' := Lib.hid (k2.all hb1)
       have k3' := Lib.hid (k3.all hb1)
       have k4' := Lib.hid (k4.all hb1)
       replace hb1 := bt hsz0 hb1
       clear k1 k2 k3 k4)
    | (go_at_call 49
       (with_reducible refine (HB2.out _ hb1).mono ?_)
       rintro e w2 ⟨rfl, hb2⟩
       have j1 := Lib.hid (k1'.out.all hb2)
       have j2 := Lib.hid (k2'.out.all hb2)
       have j3 := Lib.hid (k3'.out.all hb2)
       have j4 := Lib.hid (k4'.out.all hb2)
       replace hb2 := bt hb1 hb2
       have HQ := Lib.hid (HRD.out w2 hb2)
       have HB22 := Lib.hid hb2
       clear hb2))
  clear hsz0
  have q := HQ.out
  have u0 := q.cell0
  obtain ⟨g', hg', -, -, -, x0, x1, x2, x3, x4, x5, x6⟩ := q.order hinx
  injection hg' with hg'
  injection hg' with hg' hz1 hz2
  clear hz1 hz2
  subst hg'
  rw [HHX.out] at x0 x1 x2 x3 x4 x5 x6
  have d0 := j3.out.cell 0
  have f30 := j3.out.frozen 0
  have d1 := j3.out.cell 1
  have f31 := j3.out.frozen 1
  have d2 := j3.out.cell 2
  have f32 := j3.out.frozen 2
  have d3 := j3.out.cell 3
  have f33 := j3.out.frozen 3
  have d4 := j3.out.cell 4
  have f34 := j3.out.frozen 4
  have d5 := j3.out.cell 5
  have f35 := j3.out.frozen 5
  have d6 := j3.out.cell 6
  have f36 := j3.out.frozen 6
  simp only [List.getElem?_toArray, List.getElem?_cons_zero, List.getElem?_cons_succ] at d0 d1 d2 d3 d4 d5 d6
  clear q
  go_upto_region 6 with (fail)
  obtain ⟨w3, hw3⟩ : ∃ w3, w3 = set7 w2 g3 (.int .i64 x.o.id) (.int .i64 x.o.acc) (.bool x.o.buy) (.int .i64 x.o.price) (.int .i64 x.o.n) (.int .i64 x.o.left) (.bool x.e) := ⟨_, rfl⟩
  have mW : Mod (fun q => q = g3) w2 w3 := by rw [hw3]; exact set7_mod (F := fun q => q = g3) rfl (.int .i64 x.o.id) (.int .i64 x.o.acc) (.bool x.o.buy) (.int .i64 x.o.price) (.int .i64 x.o.n) (.int .i64 x.o.left) (.bool x.e)
  replace j1 := Lib.hid (mW.blk j1.out n13)
  replace j2 := Lib.hid (mW.blk j2.out n23)
  have ij3 : Blk w3 g3 85 #[.int .i64 x.o.id, .int .i64 x.o.acc, .bool x.o.buy, .int .i64 x.o.price, .int .i64 x.o.n, .int .i64 x.o.left, .bool x.e] := by rw [hw3]; exact set7_blk j3.out rfl (.int .i64 x.o.id) (.int .i64 x.o.acc) (.bool x.o.buy) (.int .i64 x.o.price) (.int .i64 x.o.n) (.int .i64 x.o.left) (.bool x.e)
  replace j3 := Lib.hid ij3
  replace j4 := Lib.hid (mW.blk j4.out (Ne.symm n34))
  replace HQ := Lib.hid (HQ.out.mod mW (fun q hq e => HGG3.out (by rw [← e]; exact hq)))
  replace HB22 := Lib.hid (mW.below HB22.out HB22.out.size (fun q h => by omega))
  unfold set7 at hw3
  rw [← hw3]
  clear hw3 mW ij3 u0 x0 x1 x2 x3 x4 x5 x6 d0 d1 d2 d3 d4 d5 d6 f30 f31 f32 f33 f34 f35 f36
  go_upto_region 8 with (fail)
  obtain ⟨W, hW⟩ : ∃ W, W = w3 := ⟨_, rfl⟩
  rw [← hW]
  rw [← hW] at j1 j2 j3 j4 HB22
  have m1 := j1.out
  have m2 := j2.out
  have m3 : Blk W g3 85 #[.int .i64 x.o.id, .int .i64 x.o.acc, .bool x.o.buy, .int .i64 x.o.price, .int .i64 x.o.n, .int .i64 x.o.left, .bool x.e] := by
    skip
    exact j3.out
  have m4 : Blk W g4 85 #[.int .i64 y.o.id, .int .i64 y.o.acc, .bool y.o.buy, .int .i64 y.o.price, .int .i64 y.o.n, .int .i64 y.o.left, .bool y.e] := by
    rw [HHY.out]
    exact j4.out
  have HBW := HB22
  clear hW j1 j2 j3 j4 HB22 HQ
  have HM := Lib.hid (And.intro m1 m2)
  have a0 := m1.cell 0
  have a1 := m1.cell 1
  have a2 := m1.cell 2
  have a3 := m1.cell 3
  have a4 := m1.cell 4
  have a5 := m1.cell 5
  have a6 := m1.cell 6
  have b0 := m2.cell 0
  have b1 := m2.cell 1
  have b2 := m2.cell 2
  have b3 := m2.cell 3
  have b4 := m2.cell 4
  have b5 := m2.cell 5
  have b6 := m2.cell 6
  have c0 := m3.cell 0
  have c1 := m3.cell 1
  have c2 := m3.cell 2
  have c3 := m3.cell 3
  have c4 := m3.cell 4
  have c5 := m3.cell 5
  have c6 := m3.cell 6
  have d0 := m4.cell 0
  have d1 := m4.cell 1
  have d2 := m4.cell 2
  have d3 := m4.cell 3
  have d4 := m4.cell 4
  have d5 := m4.cell 5
  have d6 := m4.cell 6
  have fm10 := m1.frozen 0
  have fm11 := m1.frozen 1
  have fm12 := m1.frozen 2
  have fm13 := m1.frozen 3
  have fm14 := m1.frozen 4
  have fm15 := m1.frozen 5
  have fm16 := m1.frozen 6
  have fm20 := m2.frozen 0
  have fm21 := m2.frozen 1
  have fm22 := m2.frozen 2
  have fm23 := m2.frozen 3
  have fm24 := m2.frozen 4
  have fm25 := m2.frozen 5
  have fm26 := m2.frozen 6
  simp only [List.getElem?_toArray, List.getElem?_cons_zero, List.getElem?_cons_succ] at a0 a1 a2 a3 a4 a5 a6 b0 b1 b2 b3 b4 b5 b6 c0 c1 c2 c3 c4 c5 c6 d0 d1 d2 d3 d4 d5 d6
  clear m1 m2 m3 m4
  go_region
  go_wp2
  obtain ⟨W2, hW2⟩ : ∃ W2, W2 = (set7 (set7 W w.heap.size (.int .i64 x.o.id) (.int .i64 x.o.acc) (.bool x.o.buy) (.int .i64 x.o.price) (.int .i64 x.o.n) (.int .i64 x.o.left) (.bool x.e)) g2 (.int .i64 y.o.id) (.int .i64 y.o.acc) (.bool y.o.buy) (.int .i64 y.o.price) (.int .i64 y.o.n) (.int .i64 y.o.left) (.bool y.e)).drew := ⟨_, rfl⟩
  have q0 := set7_mod (w := W) (F := fun g => g = w.heap.size) rfl (.int .i64 x.o.id) (.int .i64 x.o.acc) (.bool x.o.buy) (.int .i64 x.o.price) (.int .i64 x.o.n) (.int .i64 x.o.left) (.bool x.e)
  have q5 := set7_mod (w := set7 W w.heap.size (.int .i64 x.o.id) (.int .i64 x.o.acc) (.bool x.o.buy) (.int .i64 x.o.price) (.int .i64 x.o.n) (.int .i64 x.o.left) (.bool x.e)) (F := fun g => g = g2) rfl (.int .i64 y.o.id) (.int .i64 y.o.acc) (.bool y.o.buy) (.int .i64 y.o.price) (.int .i64 y.o.n) (.int .i64 y.o.left) (.bool y.e)
  have q1 : Blk W2 w.heap.size 85 #[.int .i64 x.o.id, .int .i64 x.o.acc, .bool x.o.buy, .int .i64 x.o.price, .int .i64 x.o.n, .int .i64 x.o.left, .bool x.e] := by rw [hW2]; exact blk_drew (q5.blk (set7_blk HM.out.1 rfl (.int .i64 x.o.id) (.int .i64 x.o.acc) (.bool x.o.buy) (.int .i64 x.o.price) (.int .i64 x.o.n) (.int .i64 x.o.left) (.bool x.e)) n12)
  have q2 : Blk W2 g2 85 #[.int .i64 y.o.id, .int .i64 y.o.acc, .bool y.o.buy, .int .i64 y.o.price, .int .i64 y.o.n, .int .i64 y.o.left, .bool y.e] := by rw [hW2]; exact blk_drew (set7_blk (q0.blk HM.out.2 (Ne.symm n12)) rfl (.int .i64 y.o.id) (.int .i64 y.o.acc) (.bool y.o.buy) (.int .i64 y.o.price) (.int .i64 y.o.n) (.int .i64 y.o.left) (.bool y.e))
  have q3 : Mod (fun g => g = w.heap.size ∨ g = g2) W W2 := by rw [hW2]; exact ((q0.mono (fun b h => .inl (.inl h))).trans q5 (fun b h => .inl (.inr h))).drew
  have hfin : Below w.heap.size w W2 := q3.below HBW.out HBW.out.size (fun b hb => by rcases hb with h | h <;> omega)
  unfold set7 at hW2
  rw [← hW2]
  clear hW2 q0 q5 q3
  have r0 := q1.cell 0
  have r1 := q1.cell 1
  have r2 := q1.cell 2
  have r3 := q1.cell 3
  have r4 := q1.cell 4
  have r5 := q1.cell 5
  have r6 := q1.cell 6
  have s0 := q2.cell 0
  have s1 := q2.cell 1
  have s2 := q2.cell 2
  have s3 := q2.cell 3
  have s4 := q2.cell 4
  have s5 := q2.cell 5
  have s6 := q2.cell 6
  simp only [List.getElem?_toArray, List.getElem?_cons_zero, List.getElem?_cons_succ] at r0 r1 r2 r3 r4 r5 r6 s0 s1 s2 s3 s4 s5 s6
  exact bodyPost_ret (v := .tuple #[.agg #[.int .i64 x.o.id, .int .i64 x.o.acc, .bool x.o.buy, .int .i64 x.o.price, .int .i64 x.o.n, .int .i64 x.o.left, .bool x.e], .agg #[.int .i64 y.o.id, .int .i64 y.o.acc, .bool y.o.buy, .int .i64 y.o.price, .int .i64 y.o.n, .int .i64 y.o.left, .bool y.e], .bool true, .bool false]) (by simp [results, Try.results42, go_sem, r0, r1, r2, r3, r4, r5, r6, s0, s1, s2, s3, s4, s5, s6]) rfl ⟨⟨x, y, HXE.out, HYE.out, by rw [HSX.out, HSY.out]; rfl⟩, hfin⟩

set_option maxRecDepth 100000 in
set_option maxHeartbeats 4000000 in
theorem rBest_ft (B g n c : Nat) (A : Option Addr) (l : List ROrd) (b : BkS) (w : World) (iy : Nat) (ty : List Nat) (HK : Hid (RAt w B g A n c l b)) (hx : b.side true = []) (hy : b.side false = iy :: ty) :
    Calls Try.prog 42 #[.pointer (some ⟨g, 0, none⟩)] w (RBestPost b w) := by
  have HBT : Hid (rbestN l true n = headI (b.side true)) := Lib.hid (by rw [← HK.out.rb.len]; exact HK.out.rel.best HK.out.ok true)
  have HBF : Hid (rbestN l false n = headI (b.side false)) := Lib.hid (by rw [← HK.out.rb.len]; exact HK.out.rel.best HK.out.ok false)
  obtain ⟨x, hxx⟩ : ∃ x, x = rord0 := ⟨_, rfl⟩
  have HXE : Hid (x.o = bestO b.os (b.side true)) := Lib.hid (by rw [hx, hxx]; rfl)
  have hmy := HK.out.ok.mem false iy (by rw [hy]; exact List.mem_cons_self)
  obtain ⟨y, hyx⟩ : ∃ y, rAt l iy = y := ⟨_, rfl⟩
  have HYE : Hid (y.o = bestO b.os (b.side false)) := Lib.hid (by rw [hy, ← hyx, HK.out.rel.at_]; rfl)
  have hiny : iy < n := by have := HK.out.rel.len; have := HK.out.rb.len; have := hmy.1; omega
  have hiiy : (iy : Int) < (n : Int) := by omega
  have HB1 : Hid (∀ w', Below w.heap.size w w' → Calls Try.prog 49 #[.pointer (some ⟨g, 0, none⟩), .bool true] w' fun e w'' => e = .returned (.int .i64 (-1)) ∧ Below w'.heap.size w' w'') := Lib.hid (fun w' hb => by
    have := rbest_walk B g n c A l true w' (Lib.hid (HK.out.rb.all hb))
    rw [HBT.out, hx] at this
    exact this)
  have HB2 : Hid (∀ w', Below w.heap.size w w' → Calls Try.prog 49 #[.pointer (some ⟨g, 0, none⟩), .bool false] w' fun e w'' => e = .returned (.int .i64 (iy : Int)) ∧ Below w'.heap.size w' w'') := Lib.hid (fun w' hb => by
    have := rbest_walk B g n c A l false w' (Lib.hid (HK.out.rb.all hb))
    rw [HBF.out, hy] at this
    exact this)
  obtain ⟨gr, hA, hgr, -⟩ := HK.out.rb.order hiny
  subst hA
  have HGRL := Lib.hid hgr
  have HRD : Hid (∀ w', Below w.heap.size w w' → RB w' B g (some ⟨gr, 0, none⟩) n c l) := Lib.hid (fun w' hb => HK.out.rb.all hb)
  have HHX := Lib.hid hxx
  have HHY := Lib.hid hyx
  have HSX := Lib.hid hx
  have HSY := Lib.hid hy
  clear hxx hyx hx hy
  clear hmy
  have hsz0 : Below w.heap.size w ((((w.alloc (.cells #[.int .i64 0, .int .i64 0, .bool false, .int .i64 0, .int .i64 0, .int .i64 0, .bool false] 85)).alloc (.cells #[.int .i64 0, .int .i64 0, .bool false, .int .i64 0, .int .i64 0, .int .i64 0, .bool false] 85)).alloc (.cells #[.int .i64 0, .int .i64 0, .bool false, .int .i64 0, .int .i64 0, .int .i64 0, .bool false] 85)).alloc (.cells #[.int .i64 0, .int .i64 0, .bool false, .int .i64 0, .int .i64 0, .int .i64 0, .bool false] 85)) := (((((Below.refl _ _).alloc (Nat.le_refl _) _).alloc (by simp) _).alloc (by first | (simp; done) | (simp; omega)) _).alloc (by first | (simp; done) | (simp; omega)) _)
  go_enter Try.func42, Try.ntmps42
  go_upto_region 2 with (fail)
  obtain ⟨w0, hw0⟩ : ∃ w0, w0 = ((((w.alloc (.cells #[.int .i64 0, .int .i64 0, .bool false, .int .i64 0, .int .i64 0, .int .i64 0, .bool false] 85)).alloc (.cells #[.int .i64 0, .int .i64 0, .bool false, .int .i64 0, .int .i64 0, .int .i64 0, .bool false] 85)).alloc (.cells #[.int .i64 0, .int .i64 0, .bool false, .int .i64 0, .int .i64 0, .int .i64 0, .bool false] 85)).alloc (.cells #[.int .i64 0, .int .i64 0, .bool false, .int .i64 0, .int .i64 0, .int .i64 0, .bool false] 85)) := ⟨_, rfl⟩
  have k1 : Blk w0 w.heap.size 85 #[.int .i64 0, .int .i64 0, .bool false, .int .i64 0, .int .i64 0, .int .i64 0, .bool false] := by rw [hw0]; exact (((Blk.new w _ _).alloc _).alloc _).alloc _
  have k2 : Blk w0 (w.heap.size + 1) 85 #[.int .i64 0, .int .i64 0, .bool false, .int .i64 0, .int .i64 0, .int .i64 0, .bool false] := by rw [hw0]; exact ((Blk.new' _ _ _ (by simp)).alloc _).alloc _
  have k3 : Blk w0 (w.heap.size + 1 + 1) 85 #[.int .i64 0, .int .i64 0, .bool false, .int .i64 0, .int .i64 0, .int .i64 0, .bool false] := by rw [hw0]; exact (Blk.new' _ _ _ (by simp)).alloc _
  have k4 : Blk w0 (w.heap.size + 1 + 1 + 1) 85 #[.int .i64 0, .int .i64 0, .bool false, .int .i64 0, .int .i64 0, .int .i64 0, .bool false] := by rw [hw0]; exact Blk.new' _ _ _ (by simp)
  rw [← hw0] at hsz0 ⊢
  clear hw0
  obtain ⟨g2, hg2⟩ : ∃ g2, w.heap.size + 1 = g2 := ⟨_, rfl⟩
  obtain ⟨g3, hg3⟩ : ∃ g3, w.heap.size + 1 + 1 = g3 := ⟨_, rfl⟩
  obtain ⟨g4, hg4⟩ : ∃ g4, w.heap.size + 1 + 1 + 1 = g4 := ⟨_, rfl⟩
  have n12 : w.heap.size ≠ g2 := by omega
  have n13 : w.heap.size ≠ g3 := by omega
  have n14 : w.heap.size ≠ g4 := by omega
  have n23 : g2 ≠ g3 := by omega
  have n24 : g2 ≠ g4 := by omega
  have n34 : g3 ≠ g4 := by omega
  have l2 : w.heap.size ≤ g2 := by omega
  have l3 : w.heap.size ≤ g3 := by omega
  have l4 : w.heap.size ≤ g4 := by omega
  rw [hg4] at k4 ⊢
  rw [hg3] at k3 ⊢
  rw [hg2] at k2 ⊢
  clear hg2 hg3 hg4
  have ng3 : gr ≠ g3 := by omega
  have ng4 : gr ≠ g4 := by omega
  have HGG3 : Hid (¬ RF g (some ⟨gr, 0, none⟩) n c g3) := Lib.hid (fun h => by have := (HK.out.rb.lt h).2; omega)
  have HGG4 : Hid (¬ RF g (some ⟨gr, 0, none⟩) n c g4) := Lib.hid (fun h => by have := (HK.out.rb.lt h).2; omega)
  go_upto_region 4 with (first
    | (go_at_call 49
       (with_reducible refine (HB1.out _ hsz0).mono ?_)
       rintro e w1 ⟨rfl, hb1⟩
       have k1' := Lib.hid (k1.all hb1)
       have k2' := Lib.hid (k2.all hb1)
       have k3' := Lib.hid (k3.all hb1)
       have k4' := Lib.hid (k4.all hb1)
       replace hb1 := bt hsz0 hb1
       clear k1 k2 k3 k4)
    | (go_at_call 49
       (with_reducible refine (HB2.out _ hb1).mono ?_)
       rintro e w2 ⟨rfl, hb2⟩
       have j1 := Lib.hid (k1'.out.all hb2)
       have j2 := Lib.hid (k2'.out.all hb2)
       have j3 := Lib.hid (k3'.out.all hb2)
       have j4 := Lib.hid (k4'.out.all hb2)
       replace hb2 := bt hb1 hb2
       have HQ := Lib.hid (HRD.out w2 hb2)
       have HB22 := Lib.hid hb2
       clear hb2))
  clear hsz0
  go_upto_region 6 with (fail)
  have q := HQ.out
  have u0 := q.cell0
  obtain ⟨g', hg', -, -, -, y0, y1, y2, y3, y4, y5, y6⟩ := q.order hiny
  injection hg' with hg'
  injection hg' with hg' hz1 hz2
  clear hz1 hz2
  subst hg'
  rw [HHY.out] at y0 y1 y2 y3 y4 y5 y6
  have e0 := j4.out.cell 0
  have f40 := j4.out.frozen 0
  have e1 := j4.out.cell 1
  have f41 := j4.out.frozen 1
  have e2 := j4.out.cell 2
  have f42 := j4.out.frozen 2
  have e3 := j4.out.cell 3
  have f43 := j4.out.frozen 3
  have e4 := j4.out.cell 4
  have f44 := j4.out.frozen 4
  have e5 := j4.out.cell 5
  have f45 := j4.out.frozen 5
  have e6 := j4.out.cell 6
  have f46 := j4.out.frozen 6
  simp only [List.getElem?_toArray, List.getElem?_cons_zero, List.getElem?_cons_succ] at e0 e1 e2 e3 e4 e5 e6
  clear q
  go_upto_region 8 with (fail)
  obtain ⟨w4, hw4⟩ : ∃ w4, w4 = set7 w2 g4 (.int .i64 y.o.id) (.int .i64 y.o.acc) (.bool y.o.buy) (.int .i64 y.o.price) (.int .i64 y.o.n) (.int .i64 y.o.left) (.bool y.e) := ⟨_, rfl⟩
  have mW : Mod (fun q => q = g4) w2 w4 := by rw [hw4]; exact set7_mod (F := fun q => q = g4) rfl (.int .i64 y.o.id) (.int .i64 y.o.acc) (.bool y.o.buy) (.int .i64 y.o.price) (.int .i64 y.o.n) (.int .i64 y.o.left) (.bool y.e)
  replace j1 := Lib.hid (mW.blk j1.out n14)
  replace j2 := Lib.hid (mW.blk j2.out n24)
  have ij4 : Blk w4 g4 85 #[.int .i64 y.o.id, .int .i64 y.o.acc, .bool y.o.buy, .int .i64 y.o.price, .int .i64 y.o.n, .int .i64 y.o.left, .bool y.e] := by rw [hw4]; exact set7_blk j4.out rfl (.int .i64 y.o.id) (.int .i64 y.o.acc) (.bool y.o.buy) (.int .i64 y.o.price) (.int .i64 y.o.n) (.int .i64 y.o.left) (.bool y.e)
  replace j4 := Lib.hid ij4
  replace j3 := Lib.hid (mW.blk j3.out n34)
  replace HQ := Lib.hid (HQ.out.mod mW (fun q hq e => HGG4.out (by rw [← e]; exact hq)))
  replace HB22 := Lib.hid (mW.below HB22.out HB22.out.size (fun q h => by omega))
  unfold set7 at hw4
  rw [← hw4]
  clear hw4 mW ij4 u0 y0 y1 y2 y3 y4 y5 y6 e0 e1 e2 e3 e4 e5 e6 f40 f41 f42 f43 f44 f45 f46
  obtain ⟨W, hW⟩ : ∃ W, W = w4 := ⟨_, rfl⟩
  rw [← hW]
  rw [← hW] at j1 j2 j3 j4 HB22
  have m1 := j1.out
  have m2 := j2.out
  have m3 : Blk W g3 85 #[.int .i64 x.o.id, .int .i64 x.o.acc, .bool x.o.buy, .int .i64 x.o.price, .int .i64 x.o.n, .int .i64 x.o.left, .bool x.e] := by
    rw [HHX.out]
    exact j3.out
  have m4 : Blk W g4 85 #[.int .i64 y.o.id, .int .i64 y.o.acc, .bool y.o.buy, .int .i64 y.o.price, .int .i64 y.o.n, .int .i64 y.o.left, .bool y.e] := by
    skip
    exact j4.out
  have HBW := HB22
  clear hW j1 j2 j3 j4 HB22 HQ
  have HM := Lib.hid (And.intro m1 m2)
  have a0 := m1.cell 0
  have a1 := m1.cell 1
  have a2 := m1.cell 2
  have a3 := m1.cell 3
  have a4 := m1.cell 4
  have a5 := m1.cell 5
  have a6 := m1.cell 6
  have b0 := m2.cell 0
  have b1 := m2.cell 1
  have b2 := m2.cell 2
  have b3 := m2.cell 3
  have b4 := m2.cell 4
  have b5 := m2.cell 5
  have b6 := m2.cell 6
  have c0 := m3.cell 0
  have c1 := m3.cell 1
  have c2 := m3.cell 2
  have c3 := m3.cell 3
  have c4 := m3.cell 4
  have c5 := m3.cell 5
  have c6 := m3.cell 6
  have d0 := m4.cell 0
  have d1 := m4.cell 1
  have d2 := m4.cell 2
  have d3 := m4.cell 3
  have d4 := m4.cell 4
  have d5 := m4.cell 5
  have d6 := m4.cell 6
  have fm10 := m1.frozen 0
  have fm11 := m1.frozen 1
  have fm12 := m1.frozen 2
  have fm13 := m1.frozen 3
  have fm14 := m1.frozen 4
  have fm15 := m1.frozen 5
  have fm16 := m1.frozen 6
  have fm20 := m2.frozen 0
  have fm21 := m2.frozen 1
  have fm22 := m2.frozen 2
  have fm23 := m2.frozen 3
  have fm24 := m2.frozen 4
  have fm25 := m2.frozen 5
  have fm26 := m2.frozen 6
  simp only [List.getElem?_toArray, List.getElem?_cons_zero, List.getElem?_cons_succ] at a0 a1 a2 a3 a4 a5 a6 b0 b1 b2 b3 b4 b5 b6 c0 c1 c2 c3 c4 c5 c6 d0 d1 d2 d3 d4 d5 d6
  clear m1 m2 m3 m4
  go_region
  go_wp2
  obtain ⟨W2, hW2⟩ : ∃ W2, W2 = (set7 (set7 W w.heap.size (.int .i64 x.o.id) (.int .i64 x.o.acc) (.bool x.o.buy) (.int .i64 x.o.price) (.int .i64 x.o.n) (.int .i64 x.o.left) (.bool x.e)) g2 (.int .i64 y.o.id) (.int .i64 y.o.acc) (.bool y.o.buy) (.int .i64 y.o.price) (.int .i64 y.o.n) (.int .i64 y.o.left) (.bool y.e)).drew := ⟨_, rfl⟩
  have q0 := set7_mod (w := W) (F := fun g => g = w.heap.size) rfl (.int .i64 x.o.id) (.int .i64 x.o.acc) (.bool x.o.buy) (.int .i64 x.o.price) (.int .i64 x.o.n) (.int .i64 x.o.left) (.bool x.e)
  have q5 := set7_mod (w := set7 W w.heap.size (.int .i64 x.o.id) (.int .i64 x.o.acc) (.bool x.o.buy) (.int .i64 x.o.price) (.int .i64 x.o.n) (.int .i64 x.o.left) (.bool x.e)) (F := fun g => g = g2) rfl (.int .i64 y.o.id) (.int .i64 y.o.acc) (.bool y.o.buy) (.int .i64 y.o.price) (.int .i64 y.o.n) (.int .i64 y.o.left) (.bool y.e)
  have q1 : Blk W2 w.heap.size 85 #[.int .i64 x.o.id, .int .i64 x.o.acc, .bool x.o.buy, .int .i64 x.o.price, .int .i64 x.o.n, .int .i64 x.o.left, .bool x.e] := by rw [hW2]; exact blk_drew (q5.blk (set7_blk HM.out.1 rfl (.int .i64 x.o.id) (.int .i64 x.o.acc) (.bool x.o.buy) (.int .i64 x.o.price) (.int .i64 x.o.n) (.int .i64 x.o.left) (.bool x.e)) n12)
  have q2 : Blk W2 g2 85 #[.int .i64 y.o.id, .int .i64 y.o.acc, .bool y.o.buy, .int .i64 y.o.price, .int .i64 y.o.n, .int .i64 y.o.left, .bool y.e] := by rw [hW2]; exact blk_drew (set7_blk (q0.blk HM.out.2 (Ne.symm n12)) rfl (.int .i64 y.o.id) (.int .i64 y.o.acc) (.bool y.o.buy) (.int .i64 y.o.price) (.int .i64 y.o.n) (.int .i64 y.o.left) (.bool y.e))
  have q3 : Mod (fun g => g = w.heap.size ∨ g = g2) W W2 := by rw [hW2]; exact ((q0.mono (fun b h => .inl (.inl h))).trans q5 (fun b h => .inl (.inr h))).drew
  have hfin : Below w.heap.size w W2 := q3.below HBW.out HBW.out.size (fun b hb => by rcases hb with h | h <;> omega)
  unfold set7 at hW2
  rw [← hW2]
  clear hW2 q0 q5 q3
  have r0 := q1.cell 0
  have r1 := q1.cell 1
  have r2 := q1.cell 2
  have r3 := q1.cell 3
  have r4 := q1.cell 4
  have r5 := q1.cell 5
  have r6 := q1.cell 6
  have s0 := q2.cell 0
  have s1 := q2.cell 1
  have s2 := q2.cell 2
  have s3 := q2.cell 3
  have s4 := q2.cell 4
  have s5 := q2.cell 5
  have s6 := q2.cell 6
  simp only [List.getElem?_toArray, List.getElem?_cons_zero, List.getElem?_cons_succ] at r0 r1 r2 r3 r4 r5 r6 s0 s1 s2 s3 s4 s5 s6
  exact bodyPost_ret (v := .tuple #[.agg #[.int .i64 x.o.id, .int .i64 x.o.acc, .bool x.o.buy, .int .i64 x.o.price, .int .i64 x.o.n, .int .i64 x.o.left, .bool x.e], .agg #[.int .i64 y.o.id, .int .i64 y.o.acc, .bool y.o.buy, .int .i64 y.o.price, .int .i64 y.o.n, .int .i64 y.o.left, .bool y.e], .bool false, .bool true]) (by simp [results, Try.results42, go_sem, r0, r1, r2, r3, r4, r5, r6, s0, s1, s2, s3, s4, s5, s6]) rfl ⟨⟨x, y, HXE.out, HYE.out, by rw [HSX.out, HSY.out]; rfl⟩, hfin⟩

set_option maxRecDepth 100000 in
set_option maxHeartbeats 4000000 in
theorem rBest_ff (B g n c : Nat) (A : Option Addr) (l : List ROrd) (b : BkS) (w : World) (HK : Hid (RAt w B g A n c l b)) (hx : b.side true = []) (hy : b.side false = []) :
    Calls Try.prog 42 #[.pointer (some ⟨g, 0, none⟩)] w (RBestPost b w) := by
  have HBT : Hid (rbestN l true n = headI (b.side true)) := Lib.hid (by rw [← HK.out.rb.len]; exact HK.out.rel.best HK.out.ok true)
  have HBF : Hid (rbestN l false n = headI (b.side false)) := Lib.hid (by rw [← HK.out.rb.len]; exact HK.out.rel.best HK.out.ok false)
  obtain ⟨x, hxx⟩ : ∃ x, x = rord0 := ⟨_, rfl⟩
  have HXE : Hid (x.o = bestO b.os (b.side true)) := Lib.hid (by rw [hx, hxx]; rfl)
  obtain ⟨y, hyx⟩ : ∃ y, y = rord0 := ⟨_, rfl⟩
  have HYE : Hid (y.o = bestO b.os (b.side false)) := Lib.hid (by rw [hy, hyx]; rfl)
  have HB1 : Hid (∀ w', Below w.heap.size w w' → Calls Try.prog 49 #[.pointer (some ⟨g, 0, none⟩), .bool true] w' fun e w'' => e = .returned (.int .i64 (-1)) ∧ Below w'.heap.size w' w'') := Lib.hid (fun w' hb => by
    have := rbest_walk B g n c A l true w' (Lib.hid (HK.out.rb.all hb))
    rw [HBT.out, hx] at this
    exact this)
  have HB2 : Hid (∀ w', Below w.heap.size w w' → Calls Try.prog 49 #[.pointer (some ⟨g, 0, none⟩), .bool false] w' fun e w'' => e = .returned (.int .i64 (-1)) ∧ Below w'.heap.size w' w'') := Lib.hid (fun w' hb => by
    have := rbest_walk B g n c A l false w' (Lib.hid (HK.out.rb.all hb))
    rw [HBF.out, hy] at this
    exact this)
  have HRD : Hid (∀ w', Below w.heap.size w w' → RB w' B g A n c l) := Lib.hid (fun w' hb => HK.out.rb.all hb)
  have HHX := Lib.hid hxx
  have HHY := Lib.hid hyx
  have HSX := Lib.hid hx
  have HSY := Lib.hid hy
  clear hxx hyx hx hy
  have hsz0 : Below w.heap.size w ((((w.alloc (.cells #[.int .i64 0, .int .i64 0, .bool false, .int .i64 0, .int .i64 0, .int .i64 0, .bool false] 85)).alloc (.cells #[.int .i64 0, .int .i64 0, .bool false, .int .i64 0, .int .i64 0, .int .i64 0, .bool false] 85)).alloc (.cells #[.int .i64 0, .int .i64 0, .bool false, .int .i64 0, .int .i64 0, .int .i64 0, .bool false] 85)).alloc (.cells #[.int .i64 0, .int .i64 0, .bool false, .int .i64 0, .int .i64 0, .int .i64 0, .bool false] 85)) := (((((Below.refl _ _).alloc (Nat.le_refl _) _).alloc (by simp) _).alloc (by first | (simp; done) | (simp; omega)) _).alloc (by first | (simp; done) | (simp; omega)) _)
  go_enter Try.func42, Try.ntmps42
  go_upto_region 2 with (fail)
  obtain ⟨w0, hw0⟩ : ∃ w0, w0 = ((((w.alloc (.cells #[.int .i64 0, .int .i64 0, .bool false, .int .i64 0, .int .i64 0, .int .i64 0, .bool false] 85)).alloc (.cells #[.int .i64 0, .int .i64 0, .bool false, .int .i64 0, .int .i64 0, .int .i64 0, .bool false] 85)).alloc (.cells #[.int .i64 0, .int .i64 0, .bool false, .int .i64 0, .int .i64 0, .int .i64 0, .bool false] 85)).alloc (.cells #[.int .i64 0, .int .i64 0, .bool false, .int .i64 0, .int .i64 0, .int .i64 0, .bool false] 85)) := ⟨_, rfl⟩
  have k1 : Blk w0 w.heap.size 85 #[.int .i64 0, .int .i64 0, .bool false, .int .i64 0, .int .i64 0, .int .i64 0, .bool false] := by rw [hw0]; exact (((Blk.new w _ _).alloc _).alloc _).alloc _
  have k2 : Blk w0 (w.heap.size + 1) 85 #[.int .i64 0, .int .i64 0, .bool false, .int .i64 0, .int .i64 0, .int .i64 0, .bool false] := by rw [hw0]; exact ((Blk.new' _ _ _ (by simp)).alloc _).alloc _
  have k3 : Blk w0 (w.heap.size + 1 + 1) 85 #[.int .i64 0, .int .i64 0, .bool false, .int .i64 0, .int .i64 0, .int .i64 0, .bool false] := by rw [hw0]; exact (Blk.new' _ _ _ (by simp)).alloc _
  have k4 : Blk w0 (w.heap.size + 1 + 1 + 1) 85 #[.int .i64 0, .int .i64 0, .bool false, .int .i64 0, .int .i64 0, .int .i64 0, .bool false] := by rw [hw0]; exact Blk.new' _ _ _ (by simp)
  rw [← hw0] at hsz0 ⊢
  clear hw0
  obtain ⟨g2, hg2⟩ : ∃ g2, w.heap.size + 1 = g2 := ⟨_, rfl⟩
  obtain ⟨g3, hg3⟩ : ∃ g3, w.heap.size + 1 + 1 = g3 := ⟨_, rfl⟩
  obtain ⟨g4, hg4⟩ : ∃ g4, w.heap.size + 1 + 1 + 1 = g4 := ⟨_, rfl⟩
  have n12 : w.heap.size ≠ g2 := by omega
  have n13 : w.heap.size ≠ g3 := by omega
  have n14 : w.heap.size ≠ g4 := by omega
  have n23 : g2 ≠ g3 := by omega
  have n24 : g2 ≠ g4 := by omega
  have n34 : g3 ≠ g4 := by omega
  have l2 : w.heap.size ≤ g2 := by omega
  have l3 : w.heap.size ≤ g3 := by omega
  have l4 : w.heap.size ≤ g4 := by omega
  rw [hg4] at k4 ⊢
  rw [hg3] at k3 ⊢
  rw [hg2] at k2 ⊢
  clear hg2 hg3 hg4
  have HGG3 : Hid (¬ RF g A n c g3) := Lib.hid (fun h => by have := (HK.out.rb.lt h).2; omega)
  have HGG4 : Hid (¬ RF g A n c g4) := Lib.hid (fun h => by have := (HK.out.rb.lt h).2; omega)
  go_upto_region 4 with (first
    | (go_at_call 49
       (with_reducible refine (HB1.out _ hsz0).mono ?_)
       rintro e w1 ⟨rfl, hb1⟩
       have k1' := Lib.hid (k1.all hb1)
       have k2' := Lib.hid (k2.all hb1)
       have k3' := Lib.hid (k3.all hb1)
       have k4' := Lib.hid (k4.all hb1)
       replace hb1 := bt hsz0 hb1
       clear k1 k2 k3 k4)
    | (go_at_call 49
       (with_reducible refine (HB2.out _ hb1).mono ?_)
       rintro e w2 ⟨rfl, hb2⟩
       have j1 := Lib.hid (k1'.out.all hb2)
       have j2 := Lib.hid (k2'.out.all hb2)
       have j3 := Lib.hid (k3'.out.all hb2)
       have j4 := Lib.hid (k4'.out.all hb2)
       replace hb2 := bt hb1 hb2
       have HQ := Lib.hid (HRD.out w2 hb2)
       have HB22 := Lib.hid hb2
       clear hb2))
  clear hsz0
  go_upto_region 6 with (fail)
  go_upto_region 8 with (fail)
  obtain ⟨W, hW⟩ : ∃ W, W = w2 := ⟨_, rfl⟩
  rw [← hW]
  rw [← hW] at j1 j2 j3 j4 HB22
  have m1 := j1.out
  have m2 := j2.out
  have m3 : Blk W g3 85 #[.int .i64 x.o.id, .int .i64 x.o.acc, .bool x.o.buy, .int .i64 x.o.price, .int .i64 x.o.n, .int .i64 x.o.left, .bool x.e] := by
    rw [HHX.out]
    exact j3.out
  have m4 : Blk W g4 85 #[.int .i64 y.o.id, .int .i64 y.o.acc, .bool y.o.buy, .int .i64 y.o.price, .int .i64 y.o.n, .int .i64 y.o.left, .bool y.e] := by
    rw [HHY.out]
    exact j4.out
  have HBW := HB22
  clear hW j1 j2 j3 j4 HB22 HQ
  have HM := Lib.hid (And.intro m1 m2)
  have a0 := m1.cell 0
  have a1 := m1.cell 1
  have a2 := m1.cell 2
  have a3 := m1.cell 3
  have a4 := m1.cell 4
  have a5 := m1.cell 5
  have a6 := m1.cell 6
  have b0 := m2.cell 0
  have b1 := m2.cell 1
  have b2 := m2.cell 2
  have b3 := m2.cell 3
  have b4 := m2.cell 4
  have b5 := m2.cell 5
  have b6 := m2.cell 6
  have c0 := m3.cell 0
  have c1 := m3.cell 1
  have c2 := m3.cell 2
  have c3 := m3.cell 3
  have c4 := m3.cell 4
  have c5 := m3.cell 5
  have c6 := m3.cell 6
  have d0 := m4.cell 0
  have d1 := m4.cell 1
  have d2 := m4.cell 2
  have d3 := m4.cell 3
  have d4 := m4.cell 4
  have d5 := m4.cell 5
  have d6 := m4.cell 6
  have fm10 := m1.frozen 0
  have fm11 := m1.frozen 1
  have fm12 := m1.frozen 2
  have fm13 := m1.frozen 3
  have fm14 := m1.frozen 4
  have fm15 := m1.frozen 5
  have fm16 := m1.frozen 6
  have fm20 := m2.frozen 0
  have fm21 := m2.frozen 1
  have fm22 := m2.frozen 2
  have fm23 := m2.frozen 3
  have fm24 := m2.frozen 4
  have fm25 := m2.frozen 5
  have fm26 := m2.frozen 6
  simp only [List.getElem?_toArray, List.getElem?_cons_zero, List.getElem?_cons_succ] at a0 a1 a2 a3 a4 a5 a6 b0 b1 b2 b3 b4 b5 b6 c0 c1 c2 c3 c4 c5 c6 d0 d1 d2 d3 d4 d5 d6
  clear m1 m2 m3 m4
  go_region
  go_wp2
  obtain ⟨W2, hW2⟩ : ∃ W2, W2 = (set7 (set7 W w.heap.size (.int .i64 x.o.id) (.int .i64 x.o.acc) (.bool x.o.buy) (.int .i64 x.o.price) (.int .i64 x.o.n) (.int .i64 x.o.left) (.bool x.e)) g2 (.int .i64 y.o.id) (.int .i64 y.o.acc) (.bool y.o.buy) (.int .i64 y.o.price) (.int .i64 y.o.n) (.int .i64 y.o.left) (.bool y.e)).drew := ⟨_, rfl⟩
  have q0 := set7_mod (w := W) (F := fun g => g = w.heap.size) rfl (.int .i64 x.o.id) (.int .i64 x.o.acc) (.bool x.o.buy) (.int .i64 x.o.price) (.int .i64 x.o.n) (.int .i64 x.o.left) (.bool x.e)
  have q5 := set7_mod (w := set7 W w.heap.size (.int .i64 x.o.id) (.int .i64 x.o.acc) (.bool x.o.buy) (.int .i64 x.o.price) (.int .i64 x.o.n) (.int .i64 x.o.left) (.bool x.e)) (F := fun g => g = g2) rfl (.int .i64 y.o.id) (.int .i64 y.o.acc) (.bool y.o.buy) (.int .i64 y.o.price) (.int .i64 y.o.n) (.int .i64 y.o.left) (.bool y.e)
  have q1 : Blk W2 w.heap.size 85 #[.int .i64 x.o.id, .int .i64 x.o.acc, .bool x.o.buy, .int .i64 x.o.price, .int .i64 x.o.n, .int .i64 x.o.left, .bool x.e] := by rw [hW2]; exact blk_drew (q5.blk (set7_blk HM.out.1 rfl (.int .i64 x.o.id) (.int .i64 x.o.acc) (.bool x.o.buy) (.int .i64 x.o.price) (.int .i64 x.o.n) (.int .i64 x.o.left) (.bool x.e)) n12)
  have q2 : Blk W2 g2 85 #[.int .i64 y.o.id, .int .i64 y.o.acc, .bool y.o.buy, .int .i64 y.o.price, .int .i64 y.o.n, .int .i64 y.o.left, .bool y.e] := by rw [hW2]; exact blk_drew (set7_blk (q0.blk HM.out.2 (Ne.symm n12)) rfl (.int .i64 y.o.id) (.int .i64 y.o.acc) (.bool y.o.buy) (.int .i64 y.o.price) (.int .i64 y.o.n) (.int .i64 y.o.left) (.bool y.e))
  have q3 : Mod (fun g => g = w.heap.size ∨ g = g2) W W2 := by rw [hW2]; exact ((q0.mono (fun b h => .inl (.inl h))).trans q5 (fun b h => .inl (.inr h))).drew
  have hfin : Below w.heap.size w W2 := q3.below HBW.out HBW.out.size (fun b hb => by rcases hb with h | h <;> omega)
  unfold set7 at hW2
  rw [← hW2]
  clear hW2 q0 q5 q3
  have r0 := q1.cell 0
  have r1 := q1.cell 1
  have r2 := q1.cell 2
  have r3 := q1.cell 3
  have r4 := q1.cell 4
  have r5 := q1.cell 5
  have r6 := q1.cell 6
  have s0 := q2.cell 0
  have s1 := q2.cell 1
  have s2 := q2.cell 2
  have s3 := q2.cell 3
  have s4 := q2.cell 4
  have s5 := q2.cell 5
  have s6 := q2.cell 6
  simp only [List.getElem?_toArray, List.getElem?_cons_zero, List.getElem?_cons_succ] at r0 r1 r2 r3 r4 r5 r6 s0 s1 s2 s3 s4 s5 s6
  exact bodyPost_ret (v := .tuple #[.agg #[.int .i64 x.o.id, .int .i64 x.o.acc, .bool x.o.buy, .int .i64 x.o.price, .int .i64 x.o.n, .int .i64 x.o.left, .bool x.e], .agg #[.int .i64 y.o.id, .int .i64 y.o.acc, .bool y.o.buy, .int .i64 y.o.price, .int .i64 y.o.n, .int .i64 y.o.left, .bool y.e], .bool false, .bool false]) (by simp [results, Try.results42, go_sem, r0, r1, r2, r3, r4, r5, r6, s0, s1, s2, s3, s4, s5, s6]) rfl ⟨⟨x, y, HXE.out, HYE.out, by rw [HSX.out, HSY.out]; rfl⟩, hfin⟩

theorem rBest_any (B g n c : Nat) (A : Option Addr) (l : List ROrd) (b : BkS) (w : World) (HK : Hid (RAt w B g A n c l b)) : Calls Try.prog 42 #[.pointer (some ⟨g, 0, none⟩)] w (RBestPost b w) := by
  rcases hx : b.side true with _ | ⟨ix, tx⟩ <;> rcases hy : b.side false with _ | ⟨iy, ty⟩
  · exact rBest_ff B g n c A l b w HK hx hy
  · exact rBest_ft B g n c A l b w iy ty HK hx hy
  · exact rBest_tf B g n c A l b w ix tx HK hx hy
  · exact rBest_tt B g n c A l b w ix tx iy ty HK hx hy
end Go.Proofs.Ytkandhpnenmleaa
