/- The walk of worldmintlaw02.read. -/
import Derived.Test.YtahajgmmoefpjaaWireVal
namespace Go.Proofs.Ytahajgmmoefpjaa
open Go.RowKit

/-- Reading a value of a kind: the error, the value, the rest. -/
def readV (kind : Int) (rest : List UInt8) (err : Int) : Int × V × List UInt8 :=
  if kind = 0 then ((readU rest err).1, ⟨kind, (readU rest err).2.1, 0, [], []⟩, (readU rest err).2.2)
  else if kind = 1 then ((readU rest err).1, ⟨kind, 0, unzigI (readU rest err).2.1, [], []⟩, (readU rest err).2.2)
  else if kind = 2 then ((readB rest err).1, ⟨kind, 0, if (readB rest err).2.1 then 1 else 0, [], []⟩, (readB rest err).2.2)
  else if kind = 3 ∨ kind = 4 then ((readRaw rest err).1, ⟨kind, 0, 0, (readRaw rest err).2.1, []⟩, (readRaw rest err).2.2)
  else ((readInts rest err).1, ⟨kind, 0, 0, [], (readInts rest err).2.1⟩, (readInts rest err).2.2)
/-- The slice lies in blocks from lo on. -/
def Far (lo : Nat) (s : Sl) : Prop := ∀ b off, 0 < s.2.1 → s.1 = some ⟨b, off, none⟩ → lo ≤ b
theorem Far.nil (lo : Nat) : Far lo (none, 0, 0) := fun _ _ h => absurd h (by simp)
theorem Far.own {w : World} {base e size n c : Nat} {A : Option Addr} {xs : List Value} (h : w.ownsRow base e size (.slice A n c) n xs) : Far base (A, n, c) := by
  intro b off hn he
  obtain ⟨g, e1, e2, _⟩ := own_some h hn
  simp only at he
  rw [e1] at he
  cases he
  exact e2

/-- Only the blocks b1 and b2 have turned, and nothing is new. -/
structure Keep2 (b1 b2 : Nat) (w w' : World) : Prop where
  os : w'.os = w.os
  tape : w'.tape = w.tape
  output : w'.output = w.output
  size : w'.heap.size = w.heap.size
  block : ∀ b, b ≠ b1 → b ≠ b2 → w'.heap[b]? = w.heap[b]?
theorem Keep2.refl (b1 b2 : Nat) (w : World) : Keep2 b1 b2 w w := ⟨rfl, rfl, rfl, rfl, fun _ _ _ => rfl⟩
theorem Keep2.set {b1 b2 : Nat} {w w' : World} {p : Addr} {v : Value} (h : Keep2 b1 b2 w w') (hp : p.block = b1 ∨ p.block = b2) : Keep2 b1 b2 w (w'.setCell p v) :=
  ⟨h.os, h.tape, h.output, by simpa [World.setCell] using h.size, fun b h1 h2 => (Below.heap_setCell w' p v b (by rcases hp with hp | hp <;> omega)).trans (h.block b h1 h2)⟩
theorem Keep2.grown {b1 b2 gd : Nat} {w w1 w' : World} (h : Keep2 b1 b2 w1 w') (hg : w.grownBy w1 (some gd)) (h1 : w.heap.size ≤ b1) (h2 : w.heap.size ≤ b2) : w.grownBy w' (some gd) :=
  ⟨h.os.trans hg.os, h.tape.trans hg.tape, h.output.trans hg.output, by rw [h.size]; exact hg.size, fun i hi hne => (h.block i (by omega) (by omega)).trans (hg.block i hi hne)⟩
theorem Keep2.rdr {b1 b2 B gd : Nat} {rest : List UInt8} {err : Int} {w1 w' : World} (h : Keep2 b1 b2 w1 w') (hR : Rdr w1 B gd rest err) (h1 : B ≤ b1) (h2 : B ≤ b2) : Rdr w' B gd rest err := by
  obtain ⟨k1, k2, A, n, c, p1, p2, p3, p4⟩ := hR
  exact ⟨k1, by rw [h.size]; exact k2, A, n, c, (h.block gd (by omega) (by omega)).trans p1, p2, p3, fun e => ⟨(p4 e).1, (p4 e).2.1, (p4 e).2.2.keep fun b hb => h.block b (by omega) (by omega)⟩⟩
theorem Keep2.bin {b1 b2 lo : Nat} {s : Sl} {bs : List UInt8} {w1 w' : World} (h : Keep2 b1 b2 w1 w') (hB : BIn w1 w1.heap.size s bs) (hF : Far lo s) (h1 : b1 < lo) (h2 : b2 < lo) : BIn w' w'.heap.size s bs := by
  refine ⟨hB.len, hB.cap, hB.max, fun hn => ?_⟩
  obtain ⟨b, off, e, hb, hc⟩ := hB.rd hn
  have := hF b off hn e
  exact ⟨b, off, e, by rw [h.size]; exact hb, fun j hj => (World.cell?_of_block (w := w1) (h.block b (by omega) (by omega))).trans (hc j hj)⟩
theorem Keep2.nin {b1 b2 lo : Nat} {s : Sl} {bs : List Int} {w1 w' : World} (h : Keep2 b1 b2 w1 w') (hB : NIn w1 w1.heap.size s bs) (hF : Far lo s) (h1 : b1 < lo) (h2 : b2 < lo) : NIn w' w'.heap.size s bs := by
  refine ⟨hB.len, hB.cap, hB.max, fun hn => ?_⟩
  obtain ⟨b, off, e, hb, hc⟩ := hB.rd hn
  have := hF b off hn e
  exact ⟨b, off, e, by rw [h.size]; exact hb, fun j hj => (World.cell?_of_block (w := w1) (h.block b (by omega) (by omega))).trans (hc j hj)⟩
theorem Far.more {lo lo' : Nat} {s : Sl} (h : Far lo s) (hl : lo' ≤ lo) : Far lo' s := fun b off hn e => Nat.le_trans hl (h b off hn e)

theorem blk5 {w : World} {g : Nat} {T : TypeId} {a b c d e : Value} (h : Blk w g T #[a, b, c, d, e]) :
    w.cell? ⟨g, 0, none⟩ = some a ∧ w.cell? ⟨g, 1, none⟩ = some b ∧ w.cell? ⟨g, 2, none⟩ = some c ∧ w.cell? ⟨g, 3, none⟩ = some d ∧ w.cell? ⟨g, 4, none⟩ = some e ∧
    w.frozen? ⟨g, 0, none⟩ = false ∧ w.frozen? ⟨g, 1, none⟩ = false ∧ w.frozen? ⟨g, 2, none⟩ = false ∧ w.frozen? ⟨g, 3, none⟩ = false ∧ w.frozen? ⟨g, 4, none⟩ = false :=
  ⟨by simpa using h.cell 0, by simpa using h.cell 1, by simpa using h.cell 2, by simpa using h.cell 3, by simpa using h.cell 4, h.frozen 0, h.frozen 1, h.frozen 2, h.frozen 3, h.frozen 4⟩
/-- The two boxes of 'read'. -/
theorem read_start (w : World) (kind : Int) {B gd : Nat} {rest : List UInt8} {err : Int} (h : Rdr w B gd rest err) :
    Rdr ((w.alloc (.cells #[.int .i64 0, .int .u64 0, .int .i64 0, .slice none 0 0, .slice none 0 0] 47)).alloc (.cells #[.int .i64 kind, .int .u64 0, .int .i64 0, .slice none 0 0, .slice none 0 0] 47)) B gd rest err ∧
    ∀ w1, ((w.alloc (.cells #[.int .i64 0, .int .u64 0, .int .i64 0, .slice none 0 0, .slice none 0 0] 47)).alloc (.cells #[.int .i64 kind, .int .u64 0, .int .i64 0, .slice none 0 0, .slice none 0 0] 47)).grownBy w1 (some gd) →
      Blk w1 w.heap.size 47 #[.int .i64 0, .int .u64 0, .int .i64 0, .slice none 0 0, .slice none 0 0] ∧ Blk w1 (w.heap.size + 1) 47 #[.int .i64 kind, .int .u64 0, .int .i64 0, .slice none 0 0, .slice none 0 0] ∧ w.grownBy w1 (some gd) := by
  have hl := h.lt
  refine ⟨(h.all ((Below.refl _ w).alloc (Nat.le_refl _) _)).all ((Below.refl _ _).alloc (Nat.le_refl _) _), fun w1 hg => ⟨?_, ?_, ?_⟩⟩
  · exact (Blk.alloc (Blk.new w _ _) _).grown hg (by simp; omega)
  · have := Blk.new (w.alloc (.cells #[.int .i64 0, .int .u64 0, .int .i64 0, .slice none 0 0, .slice none 0 0] 47)) 47 #[.int .i64 kind, .int .u64 0, .int .i64 0, .slice none 0 0, .slice none 0 0]
    rw [World.size_alloc] at this
    exact this.grown hg (by simp; omega)
  · exact (only_new (only_new (only_refl _ _) _) _).trans hg

set_option maxRecDepth 100000 in
set_option maxHeartbeats 1000000 in
theorem readv_any (B gd : Nat) (kind : Int) (rest : List UInt8) (err : Int) (w : World) (HR : Hid (Rdr w B gd rest err)) (hbig : rest.length ≤ 17592186044416) :
    Calls Try.prog 23 #[.pointer (some ⟨gd, 0, none⟩), .int .i64 kind] w fun e w' => ∃ s t, e = .returned (.agg (vCells (readV kind rest err).2.1 s t)) ∧ Far w.heap.size s ∧ Far w.heap.size t ∧ BIn w' w'.heap.size s (readV kind rest err).2.1.b ∧ NIn w' w'.heap.size t (readV kind rest err).2.1.l ∧
      Rdr w' B gd (readV kind rest err).2.2 (readV kind rest err).1 ∧ w.grownBy w' (some gd) := by
  by_cases h0 : kind = 0
  · subst h0
    have HE := Lib.hid (show readV 0 rest err = ((readU rest err).1, ⟨0, (readU rest err).2.1, 0, [], []⟩, (readU rest err).2.2) from rfl)
    go_enter Try.func23, Try.ntmps23
    go_wp2_with fail
    have HRa := Lib.hid (read_start w 0 HR.out)
    refine (ruint_any _ _ _ _ _ (Lib.hid HRa.out.1)).mono ?_
    rintro e w1 ⟨rfl, hR1, ho1⟩
    obtain ⟨hB1, hB2, hoo⟩ := HRa.out.2 w1 ho1
    obtain ⟨p0, p1, p2, p3, p4, pf0, pf1, pf2, pf3, pf4⟩ := blk5 hB1
    obtain ⟨q0, q1, q2, q3, q4, qf0, qf1, qf2, qf3, qf4⟩ := blk5 hB2
    go_wp2
    have hk : ∀ w', Keep2 w.heap.size (w.heap.size + 1) w1 w' → Rdr w' B gd (readU rest err).2.2 (readU rest err).1 ∧ w.grownBy w' (some gd) := fun w' hk => ⟨hk.rdr hR1 (by have := HR.out.lt; omega) (by have := HR.out.lt; omega), hk.grown hoo (by omega) (by omega)⟩
    refine bodyPost_ret (v := .agg #[.int .i64 0, .int .u64 ((readU rest err).2.1 : Int), .int .i64 0, .slice none 0 0, .slice none 0 0]) (by simp [results, Try.results23, go_sem, p0, p1, p2, p3, p4]) rfl ⟨(none, 0, 0), (none, 0, 0), by rw [HE.out]; rfl, Far.nil _, Far.nil _, ?_, ?_, ?_⟩
    all_goals rw [HE.out]
    · exact BIn.nil _ _
    · exact NIn.nil _ _
    · refine hk _ ?_
      repeat (refine Keep2.set ?_ (by simp))
      exact Keep2.refl _ _ _
  by_cases h1 : kind = 1
  · subst h1
    have HE := Lib.hid (show readV 1 rest err = ((readU rest err).1, ⟨1, 0, unzigI (readU rest err).2.1, [], []⟩, (readU rest err).2.2) from rfl)
    go_enter Try.func23, Try.ntmps23
    go_wp2_with fail
    have HRa := Lib.hid (read_start w 1 HR.out)
    refine (rint_any _ _ _ _ _ (Lib.hid HRa.out.1)).mono ?_
    rintro e w1 ⟨rfl, hR1, ho1⟩
    obtain ⟨hB1, hB2, hoo⟩ := HRa.out.2 w1 ho1
    obtain ⟨p0, p1, p2, p3, p4, pf0, pf1, pf2, pf3, pf4⟩ := blk5 hB1
    obtain ⟨q0, q1, q2, q3, q4, qf0, qf1, qf2, qf3, qf4⟩ := blk5 hB2
    go_wp2
    have hk : ∀ w', Keep2 w.heap.size (w.heap.size + 1) w1 w' → Rdr w' B gd (readU rest err).2.2 (readU rest err).1 ∧ w.grownBy w' (some gd) := fun w' hk => ⟨hk.rdr hR1 (by have := HR.out.lt; omega) (by have := HR.out.lt; omega), hk.grown hoo (by omega) (by omega)⟩
    refine bodyPost_ret (v := .agg #[.int .i64 1, .int .u64 0, .int .i64 (unzigI (readU rest err).2.1), .slice none 0 0, .slice none 0 0]) (by simp [results, Try.results23, go_sem, p0, p1, p2, p3, p4]) rfl ⟨(none, 0, 0), (none, 0, 0), by rw [HE.out]; rfl, Far.nil _, Far.nil _, ?_, ?_, ?_⟩
    all_goals rw [HE.out]
    · exact BIn.nil _ _
    · exact NIn.nil _ _
    · refine hk _ ?_
      repeat (refine Keep2.set ?_ (by simp))
      exact Keep2.refl _ _ _
  by_cases h2 : kind = 2
  · subst h2
    cases hbo : (readB rest err).2.1
    · have HE := Lib.hid (show readV 2 rest err = ((readB rest err).1, ⟨2, 0, 0, [], []⟩, (readB rest err).2.2) by unfold readV; rw [hbo]; rfl)
      go_enter Try.func23, Try.ntmps23
      go_wp2_with fail
      have HRa := Lib.hid (read_start w 2 HR.out)
      refine (rbool_any _ _ _ _ _ (Lib.hid HRa.out.1)).mono ?_
      rintro e w1 ⟨rfl, hR1, ho1⟩
      rw [hbo]
      obtain ⟨hB1, hB2, hoo⟩ := HRa.out.2 w1 ho1
      obtain ⟨p0, p1, p2, p3, p4, pf0, pf1, pf2, pf3, pf4⟩ := blk5 hB1
      obtain ⟨q0, q1, q2, q3, q4, qf0, qf1, qf2, qf3, qf4⟩ := blk5 hB2
      go_wp2
      have hk : ∀ w', Keep2 w.heap.size (w.heap.size + 1) w1 w' → Rdr w' B gd (readB rest err).2.2 (readB rest err).1 ∧ w.grownBy w' (some gd) := fun w' hk => ⟨hk.rdr hR1 (by have := HR.out.lt; omega) (by have := HR.out.lt; omega), hk.grown hoo (by omega) (by omega)⟩
      refine bodyPost_ret (v := .agg #[.int .i64 2, .int .u64 0, .int .i64 0, .slice none 0 0, .slice none 0 0]) (by simp [results, Try.results23, go_sem, p0, p1, p2, p3, p4]) rfl ⟨(none, 0, 0), (none, 0, 0), by rw [HE.out]; rfl, Far.nil _, Far.nil _, ?_, ?_, ?_⟩
      all_goals rw [HE.out]
      · exact BIn.nil _ _
      · exact NIn.nil _ _
      · refine hk _ ?_
        repeat (refine Keep2.set ?_ (by simp))
        exact Keep2.refl _ _ _
    · have HE := Lib.hid (show readV 2 rest err = ((readB rest err).1, ⟨2, 0, 1, [], []⟩, (readB rest err).2.2) by unfold readV; rw [hbo]; rfl)
      go_enter Try.func23, Try.ntmps23
      go_wp2_with fail
      have HRa := Lib.hid (read_start w 2 HR.out)
      refine (rbool_any _ _ _ _ _ (Lib.hid HRa.out.1)).mono ?_
      rintro e w1 ⟨rfl, hR1, ho1⟩
      rw [hbo]
      obtain ⟨hB1, hB2, hoo⟩ := HRa.out.2 w1 ho1
      obtain ⟨p0, p1, p2, p3, p4, pf0, pf1, pf2, pf3, pf4⟩ := blk5 hB1
      obtain ⟨q0, q1, q2, q3, q4, qf0, qf1, qf2, qf3, qf4⟩ := blk5 hB2
      go_wp2
      have hk : ∀ w', Keep2 w.heap.size (w.heap.size + 1) w1 w' → Rdr w' B gd (readB rest err).2.2 (readB rest err).1 ∧ w.grownBy w' (some gd) := fun w' hk => ⟨hk.rdr hR1 (by have := HR.out.lt; omega) (by have := HR.out.lt; omega), hk.grown hoo (by omega) (by omega)⟩
      refine bodyPost_ret (v := .agg #[.int .i64 2, .int .u64 0, .int .i64 1, .slice none 0 0, .slice none 0 0]) (by simp [results, Try.results23, go_sem, p0, p1, p2, p3, p4]) rfl ⟨(none, 0, 0), (none, 0, 0), by rw [HE.out]; rfl, Far.nil _, Far.nil _, ?_, ?_, ?_⟩
      all_goals rw [HE.out]
      · exact BIn.nil _ _
      · exact NIn.nil _ _
      · refine hk _ ?_
        repeat (refine Keep2.set ?_ (by simp))
        exact Keep2.refl _ _ _
  by_cases h3 : kind = 3
  · subst h3
    have HE := Lib.hid (show readV 3 rest err = ((readRaw rest err).1, ⟨3, 0, 0, (readRaw rest err).2.1, []⟩, (readRaw rest err).2.2) from rfl)
    go_enter Try.func23, Try.ntmps23
    go_wp2_with fail
    have HRa := Lib.hid (read_start w 3 HR.out)
    refine (rtext_any _ _ _ _ _ (Lib.hid HRa.out.1)).mono ?_
    rintro e w0 ⟨rfl, hln, hR1, ho1⟩
    obtain ⟨hB1, hB2, hoo⟩ := HRa.out.2 w0 ho1
    have h0s := ho1.size
    rw [World.size_alloc, World.size_alloc] at h0s
    obtain ⟨cap, w1, hcv, hcc, hcm, hsz, hbl, hrd⟩ := conv_bytes_cap (P := Try.prog) w0 9 24 5 ⟨(readRaw rest err).2.1.toArray⟩ Try.underlying9 Try.underlying24 Try.underlying5 (by simp [ByteArray.size]; omega)
    replace hB1 := hB1.all hbl
    replace hB2 := hB2.all hbl
    replace hoo := only_below hoo hbl
    replace hR1 := hR1.all hbl
    have hin : BIn w1 w1.heap.size (some ⟨w0.heap.size, 0, none⟩, (readRaw rest err).2.1.length, cap) (readRaw rest err).2.1 := ⟨rfl, hcc, hcm, by rw [hsz]; exact hrd⟩
    have hfar : Far (w.heap.size + 2) (some ⟨w0.heap.size, 0, none⟩, (readRaw rest err).2.1.length, cap) := fun b off _ e => by cases e; omega
    have hcv' : (convert 9 24 (.string ⟨(readRaw rest err).2.1.toArray⟩)).run Try.prog w0 = .ok (.slice (some ⟨w0.heap.size, 0, none⟩) (readRaw rest err).2.1.length cap) w1 := hcv
    clear hcv hbl hrd
    obtain ⟨p0, p1, p2, p3, p4, pf0, pf1, pf2, pf3, pf4⟩ := blk5 hB1
    obtain ⟨q0, q1, q2, q3, q4, qf0, qf1, qf2, qf3, qf4⟩ := blk5 hB2
    go_wp2
    have hk : ∀ w', Keep2 w.heap.size (w.heap.size + 1) w1 w' → Rdr w' B gd (readRaw rest err).2.2 (readRaw rest err).1 ∧ w.grownBy w' (some gd) := fun w' hk => ⟨hk.rdr hR1 (by have := HR.out.lt; omega) (by have := HR.out.lt; omega), hk.grown hoo (by omega) (by omega)⟩
    refine bodyPost_ret (v := .agg #[.int .i64 3, .int .u64 0, .int .i64 0, .slice (some ⟨w0.heap.size, 0, none⟩) (readRaw rest err).2.1.length cap, .slice none 0 0]) (by simp [results, Try.results23, go_sem, p0, p1, p2, p3, p4]) rfl ⟨(some ⟨w0.heap.size, 0, none⟩, (readRaw rest err).2.1.length, cap), (none, 0, 0), by rw [HE.out]; rfl, hfar.more (by omega), Far.nil _, ?_, ?_, ?_⟩
    all_goals rw [HE.out]
    · refine Keep2.bin (b1 := w.heap.size) (b2 := w.heap.size + 1) (lo := w.heap.size + 2) ?_ hin hfar (by omega) (by omega)
      repeat (refine Keep2.set ?_ (by simp))
      exact Keep2.refl _ _ _
    · exact NIn.nil _ _
    · refine hk _ ?_
      repeat (refine Keep2.set ?_ (by simp))
      exact Keep2.refl _ _ _
  by_cases h4 : kind = 4
  · subst h4
    have HE := Lib.hid (show readV 4 rest err = ((readRaw rest err).1, ⟨4, 0, 0, (readRaw rest err).2.1, []⟩, (readRaw rest err).2.2) from rfl)
    go_enter Try.func23, Try.ntmps23
    go_wp2_with fail
    have HRa := Lib.hid (read_start w 4 HR.out)
    refine (rraw_any _ _ _ _ _ (Lib.hid HRa.out.1)).mono ?_
    rintro e w1 ⟨A1, n1, c1, rfl, hnc, hcm, hn1, HX1, hown1, hR1, ho1⟩
    have hin := BIn.own hown1
    have hfar := Far.own hown1
    rw [World.size_alloc, World.size_alloc] at hfar
    obtain ⟨hB1, hB2, hoo⟩ := HRa.out.2 w1 ho1
    obtain ⟨p0, p1, p2, p3, p4, pf0, pf1, pf2, pf3, pf4⟩ := blk5 hB1
    obtain ⟨q0, q1, q2, q3, q4, qf0, qf1, qf2, qf3, qf4⟩ := blk5 hB2
    go_wp2
    have hk : ∀ w', Keep2 w.heap.size (w.heap.size + 1) w1 w' → Rdr w' B gd (readRaw rest err).2.2 (readRaw rest err).1 ∧ w.grownBy w' (some gd) := fun w' hk => ⟨hk.rdr hR1 (by have := HR.out.lt; omega) (by have := HR.out.lt; omega), hk.grown hoo (by omega) (by omega)⟩
    refine bodyPost_ret (v := .agg #[.int .i64 4, .int .u64 0, .int .i64 0, .slice A1 n1 c1, .slice none 0 0]) (by simp [results, Try.results23, go_sem, p0, p1, p2, p3, p4]) rfl ⟨(A1, n1, c1), (none, 0, 0), by rw [HE.out]; rfl, hfar.more (by omega), Far.nil _, ?_, ?_, ?_⟩
    all_goals rw [HE.out]
    · refine Keep2.bin (b1 := w.heap.size) (b2 := w.heap.size + 1) (lo := w.heap.size + 2) ?_ hin hfar (by omega) (by omega)
      repeat (refine Keep2.set ?_ (by simp))
      exact Keep2.refl _ _ _
    · exact NIn.nil _ _
    · refine hk _ ?_
      repeat (refine Keep2.set ?_ (by simp))
      exact Keep2.refl _ _ _
  · have q0 : (kind == 0) = false := by simpa using h0
    have q1 : (kind == 1) = false := by simpa using h1
    have q2 : (kind == 2) = false := by simpa using h2
    have q3 : (kind == 3) = false := by simpa using h3
    have q4 : (kind == 4) = false := by simpa using h4
    have HE := Lib.hid (show readV kind rest err = ((readInts rest err).1, ⟨kind, 0, 0, [], (readInts rest err).2.1⟩, (readInts rest err).2.2) by unfold readV; rw [if_neg h0, if_neg h1, if_neg h2, if_neg (by omega)])
    go_enter Try.func23, Try.ntmps23
    go_wp2_with fail
    have HRa := Lib.hid (read_start w kind HR.out)
    refine (rints_any _ _ _ _ _ (Lib.hid HRa.out.1) hbig).mono ?_
    rintro e w1 ⟨A1, n1, c1, rfl, hnc, hcm, hn1, HX1, hown1, hR1, ho1⟩
    have hin := NIn.own hown1
    have hfar := Far.own hown1
    rw [World.size_alloc, World.size_alloc] at hfar
    clear h0 h1 h2 h3 h4
    obtain ⟨hB1, hB2, hoo⟩ := HRa.out.2 w1 ho1
    obtain ⟨p0, p1, p2, p3, p4, pf0, pf1, pf2, pf3, pf4⟩ := blk5 hB1
    obtain ⟨r0, r1, r2, r3, r4, rf0, rf1, rf2, rf3, rf4⟩ := blk5 hB2
    go_wp2
    have hk : ∀ w', Keep2 w.heap.size (w.heap.size + 1) w1 w' → Rdr w' B gd (readInts rest err).2.2 (readInts rest err).1 ∧ w.grownBy w' (some gd) := fun w' hk => ⟨hk.rdr hR1 (by have := HR.out.lt; omega) (by have := HR.out.lt; omega), hk.grown hoo (by omega) (by omega)⟩
    refine bodyPost_ret (v := .agg #[.int .i64 kind, .int .u64 0, .int .i64 0, .slice none 0 0, .slice A1 n1 c1]) (by simp [results, Try.results23, go_sem, p0, p1, p2, p3, p4]) rfl ⟨(none, 0, 0), (A1, n1, c1), by rw [HE.out]; rfl, Far.nil _, hfar.more (by omega), ?_, ?_, ?_⟩
    all_goals rw [HE.out]
    · exact BIn.nil _ _
    · refine Keep2.nin (b1 := w.heap.size) (b2 := w.heap.size + 1) (lo := w.heap.size + 2) ?_ hin hfar (by omega) (by omega)
      repeat (refine Keep2.set ?_ (by simp))
      exact Keep2.refl _ _ _
    · refine hk _ ?_
      repeat (refine Keep2.set ?_ (by simp))
      exact Keep2.refl _ _ _
end Go.Proofs.Ytahajgmmoefpjaa
