/- journal: Append of the log, where the power fails. -/
import Derived.Test.YtldmokjpfnakkaaGreatHG24
import Derived.Test.YtldmokjpfnakkaaGreatHRLog

namespace Go.Proofs.YtldmokjpfnakkaaGreat
open Go.RowKit

set_option maxRecDepth 100000 in
set_option maxHeartbeats 4000000 in
theorem logAppend_fail1 (gl g mb room : Nat) (num : Int) (len : Nat) (plan : Int) (fs : List Fl) (st : List (Int × List UInt8 × Nat)) (A : Option Addr) (n c : Nat) (bs : List UInt8) (w : World) (HL : Hid (LogAt w gl g num len true)) (HD : Hid (DskAt w g mb room false plan fs)) (hgl : ¬ DskF g mb fs gl) (hn : n ≤ 65536) (HX : Hid (bs.length = n)) (HR : Hid (Rd w w.heap.size A n (vByte bs))) (hlen : len ≤ 1099511627776) (h1 : 0 ≤ num) (h2 : num < 64) (hroom : sumL fs + (frameB (len : Int) bs).length ≤ room)
    (HS : Hid (AppSt fs num (frameB (len : Int) bs) st)) (HO1 : Hid (failOff false plan = true)) :
    Calls Tryz.prog 15 #[.pointer (some ⟨gl, 0, none⟩), .slice A n c] w fun e w' => e = .returned (.int .i64 23) ∧ LogNext gl g mb room num true (failPlan plan) len false fs st w w' := by
  obtain ⟨l0, l1, l2, l3, -, -⟩ := HL.out.cells
  have hlt := Blk.lt HL.out
  have HF := Lib.hid HD.out.ltF
  have HB := Lib.hid (((Below.refl w.heap.size w).alloc (Nat.le_refl _) (.cells #[.pointer (some ⟨gl, 0, none⟩)] 28)).alloc (by simp) (.cells #[.int .i64 0] 30))
  have HE := Lib.hid (Blk.new (w.alloc (.cells #[.pointer (some ⟨gl, 0, none⟩)] 28)) 30 #[.int .i64 0])
  have HC := Lib.hid (show LCells gl g w.heap.size num len ((w.alloc (.cells #[.pointer (some ⟨gl, 0, none⟩)] 28)).alloc (.cells #[.int .i64 0] 30)) from ⟨Blk.alloc (Blk.new w 28 #[.pointer (some ⟨gl, 0, none⟩)]) _, Blk.alloc (Blk.alloc HL.out _) _⟩)
  rw [World.size_alloc] at HE
  have HRz := Lib.hid (HR.out.all HB.out)
  have HDz := Lib.hid (HD.out.all HB.out)
  have hfl := frameB_len (k := (len : Int)) (bs := bs) ⟨by omega, by omega⟩ (by rw [HX.out]; omega)
  have hfp := frameB_pos (len : Int) bs
  rw [HX.out] at hfl
  have hbl : ¬ DskF g mb fs w.heap.size := fun h => by have := HF.out _ h; omega
  have hel : ¬ DskF g mb fs (w.heap.size + 1) := fun h => by have := HF.out _ h; omega
  have HGL := Lib.hid hgl
  have HBL := Lib.hid hbl
  have HEL := Lib.hid hel
  clear hgl hbl hel
  go_enter_defers Tryz.func15, Tryz.ntmps15
  go_wp2
  obtain ⟨k0, k1, k2, k3⟩ := HC.out.keep
  generalize (w.alloc (.cells #[.pointer (some ⟨gl, 0, none⟩)] 28)).alloc (.cells #[.int .i64 0] 30) = wz at *
  clear l0 l1 l2 l3
  have hwz := HB.out.size
  go_region_held3 (fun w' => w'.cell? ⟨w.heap.size, 0, none⟩ = some (.pointer (some ⟨gl, 0, none⟩)) ∧ w'.cell? ⟨gl, 0, none⟩ = some (.pointer (some ⟨g, 0, none⟩)) ∧ w'.cell? ⟨gl, 1, none⟩ = some (.int .i64 num) ∧ w'.cell? ⟨gl, 2, none⟩ = some (.int .i64 (len : Int)))
    (first | exact ⟨k0, k1, k2, k3⟩ | with_reducible exact ((HC.out.all hS5).mod m6 HBL.out HGL.out).keep | with_reducible exact (HC.out.all hS5).keep | with_reducible exact (HC.out.all hS4).keep)
    (first
      | (go_at_call 36; ((with_reducible refine (clone_any _ _ _ bs _ HX HRz.out.drew (by omega)).mono ?_); rintro e w4 ⟨A4, c4, rfl, -, -, -, hr4, hb4⟩; have hS4 := undrewB hb4; clear hb4))
      | (go_at_call 35; revert hr4; intro hr4; ((with_reducible refine (frame_any _ _ _ _ bs _ HX (by omega) (by omega) (by omega) hr4).mono ?_); rintro e w5 ⟨A5, n5, c5, rfl, HN5, hown5, hb5⟩; have hS5 := bt hS4 hb5; have hz4 := hS4.size; clear hb5 hr4))
      | (go_at_call 34; revert hown5; intro hown5; ((with_reducible refine (appendD_any _ _ _ _ _ st _ _ _ _ (frameB (len : Int) bs) true _ (Lib.hid (HDz.out.all hS5)) HS HO1 h1 h2 HN5 (by rw [← HN5.out]; exact hfp) (by rw [← HN5.out]; exact hroom) (Lib.hid (rd_bytes hown5).2.2) (Lib.hid (away_own hown5 (by rw [← HN5.out]; exact hfp) HF.out (by omega)))).mono ?_); rintro e w6 ⟨rfl, fs6, hst6, hD6, m6, hF6⟩)))
  have hC6 := (HC.out.all hS5).mod m6 HBL.out HGL.out
  have hE6 : Blk w6 (w.heap.size + 1) 30 #[.int .i64 0] := m6.blk (Blk.all HE.out hS5) HEL.out
  have M6 : Mod (fun b => DskF g mb fs b ∨ b = gl) w w6 := (Mod.of_below (fun b => DskF g mb fs b ∨ b = gl) (bt HB.out hS5)).trans m6 (fun b hb => .inl (.inl hb))
  have HF6 : Hid (∀ b, DskF g mb fs6 b → DskF g mb fs b ∨ w.heap.size + 2 ≤ b) := Lib.hid (fun b hb => (hF6 b hb).imp id (fun h => by
    have h1 := hS5.size
    have h2 := Blk.lt HE.out
    omega))
  have e0 : w6.cell? ⟨w.heap.size + 1, 0, none⟩ = some (.int .i64 0) := hE6.cell 0
  have e1 : w6.frozen? ⟨w.heap.size + 1, 0, none⟩ = false := hE6.frozen 0
  have hgl6 : ¬ DskF g mb fs6 gl := fun h => (HF6.out _ h).elim HGL.out (by omega)
  have hel6 : ¬ DskF g mb fs6 (w.heap.size + 1) := fun h => (HF6.out _ h).elim HEL.out (by omega)
  have hE9 := Blk.set_ hE6 0 (.int .i64 23)
  have hC9 := hC6.mod ((Mod.refl (fun b => b = w.heap.size + 1) w6).set (p := ⟨w.heap.size + 1, 0, none⟩) (.inl rfl) (.int .i64 23)) (by omega) (by omega)
  have ma : Mod (fun b => b = gl ∨ b = w.heap.size + 1) w6 ((w6.setCell ⟨w.heap.size + 1, 0, none⟩ (.int .i64 23)).setCell ⟨gl, 3, none⟩ (.bool false)) := ((Mod.refl (fun b => b = gl ∨ b = w.heap.size + 1) w6).set (p := ⟨w.heap.size + 1, 0, none⟩) (.inl (.inr rfl)) _).set (p := ⟨gl, 3, none⟩) (.inl (.inl rfl)) _
  have HNX : Hid (LogNext gl g mb room num true (failPlan plan) len false fs st w ((w6.setCell ⟨w.heap.size + 1, 0, none⟩ (.int .i64 23)).setCell ⟨gl, 3, none⟩ (.bool false))) := Lib.hid ⟨fs6, hst6, hD6.mod ma (by
    rintro b hb (rfl | rfl)
    · exact (HF6.out _ hb).elim HGL.out (by omega)
    · exact (HF6.out _ hb).elim HEL.out (by omega)), by simpa [LogAt] using Blk.set_ hC9.log 3 (.bool false), M6.trans ma (by
    rintro b (rfl | rfl)
    · exact .inl (.inr rfl)
    · exact .inr (by omega)), fun b hb => (HF6.out b hb).imp id (fun h => by omega)⟩
  have HC9 := Lib.hid hC9
  have HE9 := Lib.hid hE9
  have HER := Lib.hid (Blk.far (p := ⟨gl, 3, none⟩) hE9 (by simp; omega) (.bool false))
  clear hC6 hE6 M6 hD6 hst6 m6 hF6 hgl6 hel6 hS5 hS4 hown5 hz4 ma hC9 hE9
  go_wp2
  refine leaves_cons (f := 33) (args := #[.pointer (some ⟨w.heap.size + 1, 0, none⟩), .pointer (some ⟨w.heap.size, 0, none⟩)]) (by simp) (by simp [go_sem]) ?_
  obtain ⟨-, -, -, g3, -, g4⟩ := HC9.out.log.cells
  refine (door_yes (w.heap.size + 1) w.heap.size gl .returning _ _ (HE9.out.cell 0) (Blk.cell HC9.out.box 0) g3 g4).mono ?_
  rintro e u' w'' ⟨rfl, rfl, rfl⟩
  have hc := HER.out.cell 0
  simp at hc
  refine ⟨.int .i64 23, ?_, rfl, HNX.out⟩
  simp [results, Tryz.results15, go_sem, hc]
set_option maxRecDepth 100000 in
set_option maxHeartbeats 4000000 in
theorem logAppend_fail2 (gl g mb room : Nat) (num : Int) (len : Nat) (plan : Int) (fs : List Fl) (st : List (Int × List UInt8 × Nat)) (A : Option Addr) (n c : Nat) (bs : List UInt8) (w : World) (HL : Hid (LogAt w gl g num len true)) (HD : Hid (DskAt w g mb room false plan fs)) (hgl : ¬ DskF g mb fs gl) (hn : n ≤ 65536) (HX : Hid (bs.length = n)) (HR : Hid (Rd w w.heap.size A n (vByte bs))) (hlen : len ≤ 1099511627776) (h1 : 0 ≤ num) (h2 : num < 64) (hroom : sumL fs + (frameB (len : Int) bs).length ≤ room)
    (HS : Hid (AppSt fs num (frameB (len : Int) bs) st)) (HO1 : Hid (failOff false plan = false)) (HO2 : Hid (failOff false (failPlan plan) = true)) :
    Calls Tryz.prog 15 #[.pointer (some ⟨gl, 0, none⟩), .slice A n c] w fun e w' => e = .returned (.int .i64 23) ∧ LogNext gl g mb room num true (failPlan (failPlan plan)) len false fs st w w' := by
  obtain ⟨l0, l1, l2, l3, -, -⟩ := HL.out.cells
  have hlt := Blk.lt HL.out
  have HF := Lib.hid HD.out.ltF
  have HB := Lib.hid (((Below.refl w.heap.size w).alloc (Nat.le_refl _) (.cells #[.pointer (some ⟨gl, 0, none⟩)] 28)).alloc (by simp) (.cells #[.int .i64 0] 30))
  have HE := Lib.hid (Blk.new (w.alloc (.cells #[.pointer (some ⟨gl, 0, none⟩)] 28)) 30 #[.int .i64 0])
  have HC := Lib.hid (show LCells gl g w.heap.size num len ((w.alloc (.cells #[.pointer (some ⟨gl, 0, none⟩)] 28)).alloc (.cells #[.int .i64 0] 30)) from ⟨Blk.alloc (Blk.new w 28 #[.pointer (some ⟨gl, 0, none⟩)]) _, Blk.alloc (Blk.alloc HL.out _) _⟩)
  rw [World.size_alloc] at HE
  have HRz := Lib.hid (HR.out.all HB.out)
  have HDz := Lib.hid (HD.out.all HB.out)
  have hfl := frameB_len (k := (len : Int)) (bs := bs) ⟨by omega, by omega⟩ (by rw [HX.out]; omega)
  have hfp := frameB_pos (len : Int) bs
  rw [HX.out] at hfl
  have hbl : ¬ DskF g mb fs w.heap.size := fun h => by have := HF.out _ h; omega
  have hel : ¬ DskF g mb fs (w.heap.size + 1) := fun h => by have := HF.out _ h; omega
  have HGL := Lib.hid hgl
  have HBL := Lib.hid hbl
  have HEL := Lib.hid hel
  clear hgl hbl hel
  go_enter_defers Tryz.func15, Tryz.ntmps15
  go_wp2
  obtain ⟨k0, k1, k2, k3⟩ := HC.out.keep
  generalize (w.alloc (.cells #[.pointer (some ⟨gl, 0, none⟩)] 28)).alloc (.cells #[.int .i64 0] 30) = wz at *
  clear l0 l1 l2 l3
  have hwz := HB.out.size
  go_region_held3 (fun w' => w'.cell? ⟨w.heap.size, 0, none⟩ = some (.pointer (some ⟨gl, 0, none⟩)) ∧ w'.cell? ⟨gl, 0, none⟩ = some (.pointer (some ⟨g, 0, none⟩)) ∧ w'.cell? ⟨gl, 1, none⟩ = some (.int .i64 num) ∧ w'.cell? ⟨gl, 2, none⟩ = some (.int .i64 (len : Int)))
    (first | exact ⟨k0, k1, k2, k3⟩ | with_reducible exact ((HC.out.all hS5).mod m6 HBL.out HGL.out).keep | with_reducible exact (HC.out.all hS5).keep | with_reducible exact (HC.out.all hS4).keep)
    (first
      | (go_at_call 36; ((with_reducible refine (clone_any _ _ _ bs _ HX HRz.out.drew (by omega)).mono ?_); rintro e w4 ⟨A4, c4, rfl, -, -, -, hr4, hb4⟩; have hS4 := undrewB hb4; clear hb4))
      | (go_at_call 35; revert hr4; intro hr4; ((with_reducible refine (frame_any _ _ _ _ bs _ HX (by omega) (by omega) (by omega) hr4).mono ?_); rintro e w5 ⟨A5, n5, c5, rfl, HN5, hown5, hb5⟩; have hS5 := bt hS4 hb5; have hz4 := hS4.size; clear hb5 hr4))
      | (go_at_call 34; revert hown5; intro hown5; ((with_reducible refine (appendD_any _ _ _ _ _ st _ _ _ _ (frameB (len : Int) bs) false _ (Lib.hid (HDz.out.all hS5)) HS HO1 h1 h2 HN5 (by rw [← HN5.out]; exact hfp) (by rw [← HN5.out]; exact hroom) (Lib.hid (rd_bytes hown5).2.2) (Lib.hid (away_own hown5 (by rw [← HN5.out]; exact hfp) HF.out (by omega)))).mono ?_); rintro e w6 ⟨rfl, fs6, hst6, hD6, m6, hF6⟩)))
  have hC6 := (HC.out.all hS5).mod m6 HBL.out HGL.out
  have hE6 : Blk w6 (w.heap.size + 1) 30 #[.int .i64 0] := m6.blk (Blk.all HE.out hS5) HEL.out
  have M6 : Mod (fun b => DskF g mb fs b ∨ b = gl) w w6 := (Mod.of_below (fun b => DskF g mb fs b ∨ b = gl) (bt HB.out hS5)).trans m6 (fun b hb => .inl (.inl hb))
  have hw5 := (bt HB.out hS5).size
  have HF6 : Hid (∀ b, DskF g mb fs6 b → DskF g mb fs b ∨ w.heap.size + 2 ≤ b) := Lib.hid (fun b hb => (hF6 b hb).imp id (fun h => by
    have h1 := hS5.size
    have h2 := Blk.lt HE.out
    omega))
  obtain ⟨k0, k1, k2, k3⟩ := hC6.keep
  clear hown5 hS4 hS5 m6 hF6 hz4
  go_wp2_with fail
  refine (sync_any _ _ _ _ _ _ (Lib.hid hD6)).mono ?_
  rintro e w7 ⟨rfl, fs7, hst7, hD7, m7, hF7⟩
  rw [HO2.out] at hst7 hD7 ⊢
  have hgl6 : ¬ DskF g mb fs6 gl := fun h => (HF6.out _ h).elim HGL.out (by omega)
  have hbl6 : ¬ DskF g mb fs6 w.heap.size := fun h => (HF6.out _ h).elim HBL.out (by omega)
  have hel6 : ¬ DskF g mb fs6 (w.heap.size + 1) := fun h => (HF6.out _ h).elim HEL.out (by omega)
  have hC7 := hC6.mod m7 hbl6 hgl6
  have hE7 := m7.blk hE6 hel6
  have M7 : Mod (fun b => DskF g mb fs b ∨ b = gl) w w7 := M6.trans m7 (fun b hb => (HF6.out b hb).imp .inl (fun h => by omega))
  have HF7 : Hid (∀ b, DskF g mb fs7 b → DskF g mb fs b ∨ w.heap.size + 2 ≤ b) := Lib.hid (fun b hb => (hF7 b hb).elim (HF6.out b) (fun h => .inr (by
    have := M6.size
    have := Blk.lt hE6
    omega)))
  have hst : fs7.map Fl.log = st := by rw [hst7, ← hst6]; rfl
  have e0 : w7.cell? ⟨w.heap.size + 1, 0, none⟩ = some (.int .i64 0) := hE7.cell 0
  have e1 : w7.frozen? ⟨w.heap.size + 1, 0, none⟩ = false := hE7.frozen 0
  have hE9 := Blk.set_ hE7 0 (.int .i64 23)
  have hC9 := hC7.mod ((Mod.refl (fun b => b = w.heap.size + 1) w7).set (p := ⟨w.heap.size + 1, 0, none⟩) (.inl rfl) (.int .i64 23)) (by omega) (by omega)
  have ma : Mod (fun b => b = gl ∨ b = w.heap.size + 1) w7 ((w7.setCell ⟨w.heap.size + 1, 0, none⟩ (.int .i64 23)).setCell ⟨gl, 3, none⟩ (.bool false)) := ((Mod.refl (fun b => b = gl ∨ b = w.heap.size + 1) w7).set (p := ⟨w.heap.size + 1, 0, none⟩) (.inl (.inr rfl)) _).set (p := ⟨gl, 3, none⟩) (.inl (.inl rfl)) _
  have HNX : Hid (LogNext gl g mb room num true (failPlan (failPlan plan)) len false fs st w ((w7.setCell ⟨w.heap.size + 1, 0, none⟩ (.int .i64 23)).setCell ⟨gl, 3, none⟩ (.bool false))) := Lib.hid ⟨fs7, hst, hD7.mod ma (by
    rintro b hb (rfl | rfl)
    · exact (HF7.out _ hb).elim HGL.out (by omega)
    · exact (HF7.out _ hb).elim HEL.out (by omega)), by simpa [LogAt] using Blk.set_ hC9.log 3 (.bool false), M7.trans ma (by
    rintro b (rfl | rfl)
    · exact .inl (.inr rfl)
    · exact .inr (by omega)), fun b hb => (HF7.out b hb).imp id (fun h => by omega)⟩
  have HC9 := Lib.hid hC9
  have HE9 := Lib.hid hE9
  have HER := Lib.hid (Blk.far (p := ⟨gl, 3, none⟩) hE9 (by simp; omega) (.bool false))
  clear hC6 hE6 M6 hD6 hst6 hD7 m7 hF7 hst7 hC7 hE7 M7 hst ma k0 k1 k2 k3 hgl6 hbl6 hel6 hC9 hE9
  go_wp2
  refine leaves_cons (f := 33) (args := #[.pointer (some ⟨w.heap.size + 1, 0, none⟩), .pointer (some ⟨w.heap.size, 0, none⟩)]) (by simp) (by simp [go_sem]) ?_
  obtain ⟨-, -, -, g3, -, g4⟩ := HC9.out.log.cells
  refine (door_yes (w.heap.size + 1) w.heap.size gl .returning _ _ (HE9.out.cell 0) (Blk.cell HC9.out.box 0) g3 g4).mono ?_
  rintro e u' w'' ⟨rfl, rfl, rfl⟩
  have hc := HER.out.cell 0
  simp at hc
  refine ⟨.int .i64 23, ?_, rfl, HNX.out⟩
  simp [results, Tryz.results15, go_sem, hc]
end Go.Proofs.YtldmokjpfnakkaaGreat

/- journal: the package's Open on a disk of one file, told by opn. -/
namespace Go.Proofs.YtldmokjpfnakkaaGreat
open Go.RowKit

/-- The files of a disk of which only number 2 may have bytes. -/
def stOf (bs : List UInt8) (dur : Nat) : List (Int × List UInt8 × Nat) := if bs = [] then [] else [(2, bs, dur)]
def POpenPost (g mb room : Nat) (fs : List Fl) (R : Int × Bool × Int × List UInt8 × Nat) (rs : List (List UInt8)) (w : World) (e : Ending) (w' : World) : Prop :=
  (R.1 = 0 ∧ R.2.1 = false ∧ OpenPost g mb room 2 R.2.2.1 fs rs (stOf R.2.2.2.1 R.2.2.2.2) w e w') ∨ (R.1 = 23 ∧ R.2.1 = true ∧ OpenFail g mb room R.2.2.1 fs (stOf R.2.2.2.1 R.2.2.2.2) w e w')
theorem stOf_cut {f : Fl} {m : Nat} (hf : f.bs ≠ []) (hn : f.num = 2) : cutLogs [] f [] m = stOf (f.bs.take m) (min f.dur m) := by
  unfold cutLogs stOf
  by_cases h : m = 0
  · subst h
    simp
  · rw [if_neg h, if_neg (by
      intro e
      have := congrArg List.length e
      rw [List.length_take] at this
      have h2 := List.length_pos_iff.2 hf
      simp only [List.length_nil] at this
      omega), hn]
    rfl
theorem stOf_sync (bs : List UInt8) (dur : Nat) : syncLog (stOf bs dur) = stOf bs bs.length := by
  unfold stOf
  split <;> rfl
theorem popen_any (g mb room : Nat) (plan : Int) (fs : List Fl) (bs : List UInt8) (dur m : Nat) (rs : List (List UInt8)) (w : World) (HD : Hid (DskAt w g mb room false plan fs)) (HS : Hid (fs.map Fl.log = stOf bs dur)) (HSC : Hid (ScanIs bs rs m)) :
    Calls Tryz.prog 7 #[.pointer (some ⟨g, 0, none⟩), .int .i64 2] w (POpenPost g mb room fs (opn plan bs dur m) rs w) := by
  obtain ⟨h4, rest, h5, -⟩ := HSC.out
  have hst := HS.out
  have hlen : bs.length = (framesB 0 rs).length + rest.length := by rw [h5, List.length_append]
  have hfile : fileBs fs 2 = bs ∧ (bs ≠ [] → ∃ f, fs = [f] ∧ f.num = 2 ∧ f.bs = bs ∧ f.dur = dur ∧ findF [f] 2 = some f) := by
    unfold stOf at hst
    by_cases hb : bs = []
    · rw [if_pos hb] at hst
      have : fs = [] := by simpa using hst
      subst this hb
      exact ⟨rfl, fun h => absurd rfl h⟩
    · rw [if_neg hb] at hst
      obtain ⟨f, rfl⟩ : ∃ f, fs = [f] := List.length_eq_one_iff.1 (by have := congrArg List.length hst; simpa using this)
      simp only [List.map_cons, List.map_nil, List.cons.injEq, and_true, Fl.log, Prod.mk.injEq] at hst
      obtain ⟨e1, e2, e3⟩ := hst
      have hfi : findF [f] 2 = some f := by unfold findF; simp [e1]
      exact ⟨by unfold fileBs; rw [hfi]; exact e2, fun _ => ⟨f, rfl, e1, e2, e3, hfi⟩⟩
  obtain ⟨hfb, hone⟩ := hfile
  rcases Nat.lt_or_ge m bs.length with hlt | hge
  · obtain ⟨f, rfl, e1, e2, e3, hfi⟩ := hone (by intro e; rw [e] at hlt; simp at hlt)
    have hc := stOf_cut (f := f) (m := m) (by rw [e2]; intro e; rw [e] at hlt; simp at hlt) e1
    rw [e2, e3] at hc
    have HFN : Hid (findF ([] ++ f :: []) 2 = some f) := Lib.hid hfi
    have HSC' : Hid (ScanIs f.bs rs m) := Lib.hid (by rw [e2]; exact HSC.out)
    cases ho : failOff false plan
    · cases ho2 : failOff false (failPlan plan)
      · have hR : opn plan bs dur m = (0, false, failPlan (failPlan plan), bs.take m, (bs.take m).length) := by unfold opn; rw [if_pos hlt, if_neg (by rw [ho]; decide), if_neg (by rw [ho2]; decide)]
        rw [hR]
        refine (open_trunc g mb room plan [] [] f 2 rs m w HD HFN (by decide) (by decide) HSC' (by rw [e2]; exact hlt) (Lib.hid ho) (Lib.hid ho2)).mono ?_
        intro e w' h
        refine .inl ⟨rfl, rfl, ?_⟩
        rw [hc, stOf_sync] at h
        exact h
      · have hR : opn plan bs dur m = (23, true, failPlan (failPlan plan), bs.take m, min dur m) := by unfold opn; rw [if_pos hlt, if_neg (by rw [ho]; decide), if_pos ho2]
        rw [hR]
        refine (open_fail3 g mb room plan [] [] f 2 rs m w HD HFN (by decide) (by decide) HSC' (by rw [e2]; exact hlt) (Lib.hid ho) (Lib.hid ho2)).mono ?_
        intro e w' h
        refine .inr ⟨rfl, rfl, ?_⟩
        rw [hc] at h
        exact h
    · have hR : opn plan bs dur m = (23, true, failPlan plan, bs, dur) := by unfold opn; rw [if_pos hlt, if_pos ho]
      rw [hR]
      refine (open_fail2 g mb room plan [] [] f 2 rs m w HD HFN (by decide) (by decide) HSC' (by rw [e2]; exact hlt) (Lib.hid ho)).mono ?_
      intro e w' h
      refine .inr ⟨rfl, rfl, ?_⟩
      have h2 : List.map Fl.log ([] ++ f :: []) = stOf bs dur := HS.out
      rw [h2] at h
      exact h
  · have hr : rest = [] := List.eq_nil_of_length_eq_zero (by omega)
    have hm : m = bs.length := by omega
    have hB : bs = framesB 0 rs := by rw [h5, hr, List.append_nil]
    cases ho : failOff false plan
    · have hR : opn plan bs dur m = (0, false, failPlan plan, bs, bs.length) := by unfold opn; rw [if_neg (by omega), if_neg (by rw [ho]; decide)]
      rw [hR]
      refine (open_clean g mb room plan fs 2 rs w HD (by decide) (by decide) (Lib.hid (hfb.trans hB)) (Lib.hid ho)).mono ?_
      intro e w' h
      refine .inl ⟨rfl, rfl, ?_⟩
      rw [HS.out, stOf_sync] at h
      exact h
    · have hR : opn plan bs dur m = (23, true, failPlan plan, bs, dur) := by unfold opn; rw [if_neg (by omega), if_pos ho]
      rw [hR]
      refine (open_fail1 g mb room plan fs 2 rs m w HD (by decide) (by decide) (Lib.hid (by rw [hfb]; exact HSC.out)) (by rw [hfb]; exact hm) (Lib.hid ho)).mono ?_
      intro e w' h
      refine .inr ⟨rfl, rfl, ?_⟩
      rw [HS.out] at h
      exact h
end Go.Proofs.YtldmokjpfnakkaaGreat
