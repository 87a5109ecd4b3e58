/- The walk of (*worldmintref02.Reader).Read. -/
import Derived.Test.YtahajgmmoefpjaaWireRefR
namespace Go.Proofs.Ytahajgmmoefpjaa
open Go.RowKit

theorem own_nil {w : World} {base e size n m c : Nat} {A : Option Addr} {xs : List Value} (h : w.ownsRow base e size (.slice A m c) n xs) : A = none → c = 0 := by
  rintro rfl
  rcases h.2 with ⟨h, _⟩ | ⟨g, cap, cur, h, _⟩
  · injection h
  · injection h with h; cases h
theorem row_far {w : World} {B g n m c : Nat} {A A' : Option Addr} {bs : List UInt8} {T : TypeId} {err : Int} (hR : Rd w B A n (vByte bs)) (hD : Blk w g T #[.slice A' m c, .int .i64 err]) (hn : 0 < n) : ∃ b off, A = some ⟨b, off, none⟩ ∧ b < B ∧ b ≠ g ∧ ∀ j, j < n → w.cell? ⟨b, off + j, none⟩ = some (vByte bs j) := by
  obtain ⟨b, off, e', hb, hc⟩ := hR hn
  refine ⟨b, off, e', hb, ?_, hc⟩
  rintro rfl
  have h0 := hc 0 hn
  rw [Nat.add_zero, Blk.cell hD off] at h0
  rcases off with _ | _ | off <;> simp [vByte] at h0
theorem RRdr.other {w w' : World} {B gd B1 g1 : Nat} {rest rest1 : List UInt8} {err err1 : Int} (h : RRdr w B gd rest err) (h1 : Rdr w B1 g1 rest1 err1) (hne : gd ≠ g1) (hg : w.grownBy w' (some g1)) : RRdr w' B gd rest err := by
  obtain ⟨k1, k2, A, n, c, p1, p2, p3, p4⟩ := h
  obtain ⟨_, _, A1, n1, c1, q1, _⟩ := h1
  refine ⟨k1, Nat.le_trans k2 hg.size, A, n, c, p1.grown hg (by simpa using hne), p2, p3, fun e => ⟨(p4 e).1, (p4 e).2.1, ?_, (p4 e).2.2.2⟩⟩
  intro hn
  obtain ⟨b, off, e', hb, hne', hc⟩ := row_far (p4 e).2.2.1 q1 hn
  exact ⟨b, off, e', hb, fun j hj => (World.cell?_of_block (w := w) (hg.block b (by omega) (by simpa using hne'))).trans (hc j hj)⟩
theorem Rdr.otherQ {w w' : World} {B gd B1 g1 : Nat} {rest rest1 : List UInt8} {err err1 : Int} (h : Rdr w B gd rest err) (h1 : RRdr w B1 g1 rest1 err1) (hne : gd ≠ g1) (hg : w.grownBy w' (some g1)) : Rdr w' B gd rest err := by
  obtain ⟨k1, k2, A, n, c, p1, p2, p3, p4⟩ := h
  obtain ⟨_, _, A1, n1, c1, q1, _⟩ := h1
  refine ⟨k1, Nat.le_trans k2 hg.size, A, n, c, p1.grown hg (by simpa using hne), p2, p3, fun e => ⟨(p4 e).1, (p4 e).2.1, ?_⟩⟩
  intro hn
  obtain ⟨b, off, e', hb, hne', hc⟩ := row_far (p4 e).2.2 q1 hn
  exact ⟨b, off, e', hb, fun j hj => (World.cell?_of_block (w := w) (hg.block b (by omega) (by simpa using hne'))).trans (hc j hj)⟩
theorem Keep2.rrdr {b1 b2 B gd : Nat} {rest : List UInt8} {err : Int} {w1 w' : World} (h : Keep2 b1 b2 w1 w') (hR : RRdr w1 B gd rest err) (h1 : B ≤ b1) (h2 : B ≤ b2) : RRdr w' B gd rest err := by
  obtain ⟨k1, k2, A, n, c, p1, p2, p3, p4⟩ := hR
  exact ⟨k1, by rw [h.size]; exact k2, A, n, c, (h.block gd (by omega) (by omega)).trans p1, p2, p3, fun e => ⟨(p4 e).1, (p4 e).2.1, (p4 e).2.2.1.keep fun b hb => h.block b (by omega) (by omega), (p4 e).2.2.2⟩⟩
theorem Keep2.binl {b1 b2 B : Nat} {s : Sl} {bs : List UInt8} {w1 w' : World} (h : Keep2 b1 b2 w1 w') (hB : BIn w1 B s bs) (h1 : B ≤ b1) (h2 : B ≤ b2) (h3 : B ≤ w1.heap.size) : BIn w' w'.heap.size s bs := by
  have := hB.keep (w' := w') (fun b hb => h.block b (by omega) (by omega))
  exact this.more (by rw [h.size]; exact h3)
theorem qread_start (w : World) (kind : Int) {B gd : Nat} {rest : List UInt8} {err : Int} (h : RRdr w B gd rest err) :
    RRdr ((w.alloc (.cells #[.int .i64 0, .int .u64 0, .int .i64 0, .slice none 0 0, .slice none 0 0] 47)).alloc (.cells #[.int .i64 kind, .int .u64 0, .int .i64 0, .slice none 0 0, .slice none 0 0] 47)) B gd rest err ∧
    ∀ w1, ((w.alloc (.cells #[.int .i64 0, .int .u64 0, .int .i64 0, .slice none 0 0, .slice none 0 0] 47)).alloc (.cells #[.int .i64 kind, .int .u64 0, .int .i64 0, .slice none 0 0, .slice none 0 0] 47)).grownBy w1 (some gd) →
      Blk w1 w.heap.size 47 #[.int .i64 0, .int .u64 0, .int .i64 0, .slice none 0 0, .slice none 0 0] ∧ Blk w1 (w.heap.size + 1) 47 #[.int .i64 kind, .int .u64 0, .int .i64 0, .slice none 0 0, .slice none 0 0] ∧ w.grownBy w1 (some gd) := by
  have hl := h.lt
  refine ⟨(h.all ((Below.refl _ w).alloc (Nat.le_refl _) _)).all ((Below.refl _ _).alloc (Nat.le_refl _) _), fun w1 hg => ⟨?_, ?_, ?_⟩⟩
  · exact (Blk.alloc (Blk.new w _ _) _).grown hg (by simp; omega)
  · have := Blk.new (w.alloc (.cells #[.int .i64 0, .int .u64 0, .int .i64 0, .slice none 0 0, .slice none 0 0] 47)) 47 #[.int .i64 kind, .int .u64 0, .int .i64 0, .slice none 0 0, .slice none 0 0]
    rw [World.size_alloc] at this
    exact this.grown hg (by simp; omega)
  · exact (only_new (only_new (only_refl _ _) _) _).trans hg

set_option maxRecDepth 100000 in
set_option maxHeartbeats 2000000 in
theorem qread_any (B gd : Nat) (kind : Int) (rest : List UInt8) (err : Int) (w : World) (HR : Hid (RRdr w B gd rest err)) (hbig : rest.length ≤ 17592186044416) :
    Calls Try.prog 24 #[.pointer (some ⟨gd, 0, none⟩), .int .i64 kind] w fun e w' => ∃ s t, e = .returned (.agg (vCells (readV kind rest err).2.1 s t)) ∧ BIn w' w'.heap.size s (readV kind rest err).2.1.b ∧ NIn w' w'.heap.size t (readV kind rest err).2.1.l ∧
      RRdr w' B gd (readV kind rest err).2.2 (readV kind rest err).1 ∧ w.grownBy w' (some gd) := by
  by_cases h0 : kind = 0
  · subst h0
    have HE := Lib.hid (show readV 0 rest err = ((readU rest err).1, ⟨0, (readU rest err).2.1, 0, [], []⟩, (readU rest err).2.2) from rfl)
    go_enter Try.func24, Try.ntmps24
    go_wp2_with fail
    have HRa := Lib.hid (qread_start w 0 HR.out)
    refine (quint_any _ _ _ _ _ (Lib.hid HRa.out.1)).mono ?_
    rintro e w1 ⟨rfl, hR1, ho1⟩
    obtain ⟨hB1, hB2, hoo⟩ := HRa.out.2 w1 ho1
    obtain ⟨p0, p1, p2, p3, p4, pf0, pf1, pf2, pf3, pf4⟩ := blk5 hB1
    obtain ⟨q0, q1, q2, q3, q4, qf0, qf1, qf2, qf3, qf4⟩ := blk5 hB2
    go_wp2
    have hk : ∀ w', Keep2 w.heap.size (w.heap.size + 1) w1 w' → RRdr w' B gd (readU rest err).2.2 (readU rest err).1 ∧ w.grownBy w' (some gd) := fun w' hk => ⟨hk.rrdr hR1 (by have := HR.out.lt; omega) (by have := HR.out.lt; omega), hk.grown hoo (by omega) (by omega)⟩
    refine bodyPost_ret (v := .agg #[.int .i64 0, .int .u64 ((readU rest err).2.1 : Int), .int .i64 0, .slice none 0 0, .slice none 0 0]) (by simp [results, Try.results24, go_sem, p0, p1, p2, p3, p4]) rfl ⟨(none, 0, 0), (none, 0, 0), by rw [HE.out]; rfl, ?_, ?_, ?_⟩
    all_goals rw [HE.out]
    · exact BIn.nil _ _
    · exact NIn.nil _ _
    · refine hk _ ?_
      repeat (refine Keep2.set ?_ (by simp))
      exact Keep2.refl _ _ _
  by_cases h1 : kind = 1
  · subst h1
    have HE := Lib.hid (show readV 1 rest err = ((readU rest err).1, ⟨1, 0, unzigI (readU rest err).2.1, [], []⟩, (readU rest err).2.2) from rfl)
    go_enter Try.func24, Try.ntmps24
    go_wp2_with fail
    have HRa := Lib.hid (qread_start w 1 HR.out)
    refine (qint_any _ _ _ _ _ (Lib.hid HRa.out.1)).mono ?_
    rintro e w1 ⟨rfl, hR1, ho1⟩
    obtain ⟨hB1, hB2, hoo⟩ := HRa.out.2 w1 ho1
    obtain ⟨p0, p1, p2, p3, p4, pf0, pf1, pf2, pf3, pf4⟩ := blk5 hB1
    obtain ⟨q0, q1, q2, q3, q4, qf0, qf1, qf2, qf3, qf4⟩ := blk5 hB2
    go_wp2
    have hk : ∀ w', Keep2 w.heap.size (w.heap.size + 1) w1 w' → RRdr w' B gd (readU rest err).2.2 (readU rest err).1 ∧ w.grownBy w' (some gd) := fun w' hk => ⟨hk.rrdr hR1 (by have := HR.out.lt; omega) (by have := HR.out.lt; omega), hk.grown hoo (by omega) (by omega)⟩
    refine bodyPost_ret (v := .agg #[.int .i64 1, .int .u64 0, .int .i64 (unzigI (readU rest err).2.1), .slice none 0 0, .slice none 0 0]) (by simp [results, Try.results24, go_sem, p0, p1, p2, p3, p4]) rfl ⟨(none, 0, 0), (none, 0, 0), by rw [HE.out]; rfl, ?_, ?_, ?_⟩
    all_goals rw [HE.out]
    · exact BIn.nil _ _
    · exact NIn.nil _ _
    · refine hk _ ?_
      repeat (refine Keep2.set ?_ (by simp))
      exact Keep2.refl _ _ _
  by_cases h2 : kind = 2
  · subst h2
    cases hbo : (readB rest err).2.1
    · have HE := Lib.hid (show readV 2 rest err = ((readB rest err).1, ⟨2, 0, 0, [], []⟩, (readB rest err).2.2) by unfold readV; rw [hbo]; rfl)
      go_enter Try.func24, Try.ntmps24
      go_wp2_with fail
      have HRa := Lib.hid (qread_start w 2 HR.out)
      refine (qbool_any _ _ _ _ _ (Lib.hid HRa.out.1)).mono ?_
      rintro e w1 ⟨rfl, hR1, ho1⟩
      rw [hbo]
      obtain ⟨hB1, hB2, hoo⟩ := HRa.out.2 w1 ho1
      obtain ⟨p0, p1, p2, p3, p4, pf0, pf1, pf2, pf3, pf4⟩ := blk5 hB1
      obtain ⟨q0, q1, q2, q3, q4, qf0, qf1, qf2, qf3, qf4⟩ := blk5 hB2
      go_wp2
      have hk : ∀ w', Keep2 w.heap.size (w.heap.size + 1) w1 w' → RRdr w' B gd (readB rest err).2.2 (readB rest err).1 ∧ w.grownBy w' (some gd) := fun w' hk => ⟨hk.rrdr hR1 (by have := HR.out.lt; omega) (by have := HR.out.lt; omega), hk.grown hoo (by omega) (by omega)⟩
      refine bodyPost_ret (v := .agg #[.int .i64 2, .int .u64 0, .int .i64 0, .slice none 0 0, .slice none 0 0]) (by simp [results, Try.results24, go_sem, p0, p1, p2, p3, p4]) rfl ⟨(none, 0, 0), (none, 0, 0), by rw [HE.out]; rfl, ?_, ?_, ?_⟩
      all_goals rw [HE.out]
      · exact BIn.nil _ _
      · exact NIn.nil _ _
      · refine hk _ ?_
        repeat (refine Keep2.set ?_ (by simp))
        exact Keep2.refl _ _ _
    · have HE := Lib.hid (show readV 2 rest err = ((readB rest err).1, ⟨2, 0, 1, [], []⟩, (readB rest err).2.2) by unfold readV; rw [hbo]; rfl)
      go_enter Try.func24, Try.ntmps24
      go_wp2_with fail
      have HRa := Lib.hid (qread_start w 2 HR.out)
      refine (qbool_any _ _ _ _ _ (Lib.hid HRa.out.1)).mono ?_
      rintro e w1 ⟨rfl, hR1, ho1⟩
      rw [hbo]
      obtain ⟨hB1, hB2, hoo⟩ := HRa.out.2 w1 ho1
      obtain ⟨p0, p1, p2, p3, p4, pf0, pf1, pf2, pf3, pf4⟩ := blk5 hB1
      obtain ⟨q0, q1, q2, q3, q4, qf0, qf1, qf2, qf3, qf4⟩ := blk5 hB2
      go_wp2
      have hk : ∀ w', Keep2 w.heap.size (w.heap.size + 1) w1 w' → RRdr w' B gd (readB rest err).2.2 (readB rest err).1 ∧ w.grownBy w' (some gd) := fun w' hk => ⟨hk.rrdr hR1 (by have := HR.out.lt; omega) (by have := HR.out.lt; omega), hk.grown hoo (by omega) (by omega)⟩
      refine bodyPost_ret (v := .agg #[.int .i64 2, .int .u64 0, .int .i64 1, .slice none 0 0, .slice none 0 0]) (by simp [results, Try.results24, go_sem, p0, p1, p2, p3, p4]) rfl ⟨(none, 0, 0), (none, 0, 0), by rw [HE.out]; rfl, ?_, ?_, ?_⟩
      all_goals rw [HE.out]
      · exact BIn.nil _ _
      · exact NIn.nil _ _
      · refine hk _ ?_
        repeat (refine Keep2.set ?_ (by simp))
        exact Keep2.refl _ _ _
  by_cases h3 : kind = 3
  · subst h3
    have HE := Lib.hid (show readV 3 rest err = ((readRaw rest err).1, ⟨3, 0, 0, (readRaw rest err).2.1, []⟩, (readRaw rest err).2.2) from rfl)
    go_enter Try.func24, Try.ntmps24
    go_wp2_with fail
    have HRa := Lib.hid (qread_start w 3 HR.out)
    refine (qraw_any _ _ _ _ _ (Lib.hid HRa.out.1)).mono ?_
    rintro e w1 ⟨A1, n1, c1, rfl, hin, hR1, ho1⟩
    obtain ⟨hB1, hB2, hoo⟩ := HRa.out.2 w1 ho1
    obtain ⟨p0, p1, p2, p3, p4, pf0, pf1, pf2, pf3, pf4⟩ := blk5 hB1
    obtain ⟨q0, q1, q2, q3, q4, qf0, qf1, qf2, qf3, qf4⟩ := blk5 hB2
    go_wp2
    have hk : ∀ w', Keep2 w.heap.size (w.heap.size + 1) w1 w' → RRdr w' B gd (readRaw rest err).2.2 (readRaw rest err).1 ∧ w.grownBy w' (some gd) := fun w' hk => ⟨hk.rrdr hR1 (by have := HR.out.lt; omega) (by have := HR.out.lt; omega), hk.grown hoo (by omega) (by omega)⟩
    refine bodyPost_ret (v := .agg #[.int .i64 3, .int .u64 0, .int .i64 0, .slice A1 n1 c1, .slice none 0 0]) (by simp [results, Try.results24, go_sem, p0, p1, p2, p3, p4]) rfl ⟨(A1, n1, c1), (none, 0, 0), by rw [HE.out]; rfl, ?_, ?_, ?_⟩
    all_goals rw [HE.out]
    · refine Keep2.binl (b1 := w.heap.size) (b2 := w.heap.size + 1) ?_ hin (by have := HR.out.lt; omega) (by have := HR.out.lt; omega) (by have := HR.out.lt; have := hoo.size; omega)
      repeat (refine Keep2.set ?_ (by simp))
      exact Keep2.refl _ _ _
    · exact NIn.nil _ _
    · refine hk _ ?_
      repeat (refine Keep2.set ?_ (by simp))
      exact Keep2.refl _ _ _
  by_cases h4 : kind = 4
  · subst h4
    have HE := Lib.hid (show readV 4 rest err = ((readRaw rest err).1, ⟨4, 0, 0, (readRaw rest err).2.1, []⟩, (readRaw rest err).2.2) from rfl)
    go_enter Try.func24, Try.ntmps24
    go_wp2_with fail
    have HRa := Lib.hid (qread_start w 4 HR.out)
    refine (qraw_any _ _ _ _ _ (Lib.hid HRa.out.1)).mono ?_
    rintro e w1 ⟨A1, n1, c1, rfl, hin, hR1, ho1⟩
    obtain ⟨hB1, hB2, hoo⟩ := HRa.out.2 w1 ho1
    obtain ⟨p0, p1, p2, p3, p4, pf0, pf1, pf2, pf3, pf4⟩ := blk5 hB1
    obtain ⟨q0, q1, q2, q3, q4, qf0, qf1, qf2, qf3, qf4⟩ := blk5 hB2
    go_wp2
    have hk : ∀ w', Keep2 w.heap.size (w.heap.size + 1) w1 w' → RRdr w' B gd (readRaw rest err).2.2 (readRaw rest err).1 ∧ w.grownBy w' (some gd) := fun w' hk => ⟨hk.rrdr hR1 (by have := HR.out.lt; omega) (by have := HR.out.lt; omega), hk.grown hoo (by omega) (by omega)⟩
    refine bodyPost_ret (v := .agg #[.int .i64 4, .int .u64 0, .int .i64 0, .slice A1 n1 c1, .slice none 0 0]) (by simp [results, Try.results24, go_sem, p0, p1, p2, p3, p4]) rfl ⟨(A1, n1, c1), (none, 0, 0), by rw [HE.out]; rfl, ?_, ?_, ?_⟩
    all_goals rw [HE.out]
    · refine Keep2.binl (b1 := w.heap.size) (b2 := w.heap.size + 1) ?_ hin (by have := HR.out.lt; omega) (by have := HR.out.lt; omega) (by have := HR.out.lt; have := hoo.size; omega)
      repeat (refine Keep2.set ?_ (by simp))
      exact Keep2.refl _ _ _
    · exact NIn.nil _ _
    · refine hk _ ?_
      repeat (refine Keep2.set ?_ (by simp))
      exact Keep2.refl _ _ _
  · have q0 : (kind == 0) = false := by simpa using h0
    have q1 : (kind == 1) = false := by simpa using h1
    have q2 : (kind == 2) = false := by simpa using h2
    have q3 : (kind == 3) = false := by simpa using h3
    have q4 : (kind == 4) = false := by simpa using h4
    have HE := Lib.hid (show readV kind rest err = ((readInts rest err).1, ⟨kind, 0, 0, [], (readInts rest err).2.1⟩, (readInts rest err).2.2) by unfold readV; rw [if_neg h0, if_neg h1, if_neg h2, if_neg (by omega)])
    go_enter Try.func24, Try.ntmps24
    go_wp2_with fail
    have HRa := Lib.hid (qread_start w kind HR.out)
    refine (qints_any _ _ _ _ _ (Lib.hid HRa.out.1) hbig).mono ?_
    rintro e w1 ⟨A1, n1, c1, rfl, hown1, hR1, ho1⟩
    have hin := NIn.own hown1
    have hfar := Far.own hown1
    rw [World.size_alloc, World.size_alloc] at hfar
    clear h0 h1 h2 h3 h4
    obtain ⟨hB1, hB2, hoo⟩ := HRa.out.2 w1 ho1
    obtain ⟨p0, p1, p2, p3, p4, pf0, pf1, pf2, pf3, pf4⟩ := blk5 hB1
    obtain ⟨r0, r1, r2, r3, r4, rf0, rf1, rf2, rf3, rf4⟩ := blk5 hB2
    go_wp2
    have hk : ∀ w', Keep2 w.heap.size (w.heap.size + 1) w1 w' → RRdr w' B gd (readInts rest err).2.2 (readInts rest err).1 ∧ w.grownBy w' (some gd) := fun w' hk => ⟨hk.rrdr hR1 (by have := HR.out.lt; omega) (by have := HR.out.lt; omega), hk.grown hoo (by omega) (by omega)⟩
    refine bodyPost_ret (v := .agg #[.int .i64 kind, .int .u64 0, .int .i64 0, .slice none 0 0, .slice A1 n1 c1]) (by simp [results, Try.results24, go_sem, p0, p1, p2, p3, p4]) rfl ⟨(none, 0, 0), (A1, n1, c1), by rw [HE.out]; rfl, ?_, ?_, ?_⟩
    all_goals rw [HE.out]
    · exact BIn.nil _ _
    · refine Keep2.nin (b1 := w.heap.size) (b2 := w.heap.size + 1) (lo := w.heap.size + 2) ?_ hin hfar (by omega) (by omega)
      repeat (refine Keep2.set ?_ (by simp))
      exact Keep2.refl _ _ _
    · refine hk _ ?_
      repeat (refine Keep2.set ?_ (by simp))
      exact Keep2.refl _ _ _
end Go.Proofs.Ytahajgmmoefpjaa
