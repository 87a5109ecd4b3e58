/- journal: the log. -/
import Derived.Test.YtldmokjpfnakkaaGreatHDskSync
import Derived.Defers

namespace Go.Proofs.YtldmokjpfnakkaaGreat
open Go.RowKit

/-- A log at block gl. -/
def LogAt (w : World) (gl g : Nat) (num : Int) (len : Nat) (up : Bool) : Prop := Blk w gl 59 #[.pointer (some ⟨g, 0, none⟩), .int .i64 num, .int .i64 (len : Int), .bool up]
theorem LogAt.cells {w : World} {gl g : Nat} {num : Int} {len : Nat} {up : Bool} (h : LogAt w gl g num len up) : w.cell? ⟨gl, 0, none⟩ = some (.pointer (some ⟨g, 0, none⟩)) ∧ w.cell? ⟨gl, 1, none⟩ = some (.int .i64 num) ∧ w.cell? ⟨gl, 2, none⟩ = some (.int .i64 (len : Int)) ∧ w.cell? ⟨gl, 3, none⟩ = some (.bool up) ∧ w.frozen? ⟨gl, 2, none⟩ = false ∧ w.frozen? ⟨gl, 3, none⟩ = false :=
  ⟨Blk.cell h 0, Blk.cell h 1, Blk.cell h 2, Blk.cell h 3, Blk.frozen h 2, Blk.frozen h 3⟩
/-- The deferred closure of Append: the error is no ErrDown. -/
theorem door_no (be bl : Nat) (err : Int) (u : FrameMode) (w : World) (h0 : w.cell? ⟨be, 0, none⟩ = some (.int .i64 err)) (he : (err == 23) = false) :
    CallsD Tryz.prog 33 #[.pointer (some ⟨be, 0, none⟩), .pointer (some ⟨bl, 0, none⟩)] u w fun e u' w' => u' = u ∧ (e = .returned (.tuple #[]) ∧ w' = w) := by
  go_enter_d Tryz.func33, Tryz.ntmps33
  go_wp2
  go_end0
  exact ⟨rfl, rfl⟩
theorem door_yes (be bl gl : Nat) (u : FrameMode) (w : World) (v : Value) (h0 : w.cell? ⟨be, 0, none⟩ = some (.int .i64 23)) (h1 : w.cell? ⟨bl, 0, none⟩ = some (.pointer (some ⟨gl, 0, none⟩))) (h2 : w.cell? ⟨gl, 3, none⟩ = some v) (h3 : w.frozen? ⟨gl, 3, none⟩ = false) :
    CallsD Tryz.prog 33 #[.pointer (some ⟨be, 0, none⟩), .pointer (some ⟨bl, 0, none⟩)] u w fun e u' w' => u' = u ∧ (e = .returned (.tuple #[]) ∧ w' = w.setCell ⟨gl, 3, none⟩ (.bool false)) := by
  go_enter_d Tryz.func33, Tryz.ntmps33
  go_wp2
  go_end0
  exact ⟨rfl, rfl⟩
set_option maxRecDepth 100000 in
set_option maxHeartbeats 2000000 in
theorem logAppend_limit (gl : Nat) (A : Option Addr) (n c : Nat) (w : World) (hn : 65536 < n) :
    Calls Tryz.prog 15 #[.pointer (some ⟨gl, 0, none⟩), .slice A n c] w fun e w' => e = .returned (.int .i64 4) ∧ Below w.heap.size w w' := by
  go_enter_defers Tryz.func15, Tryz.ntmps15
  go_wp2
  refine leaves_cons (f := 33) (args := #[.pointer (some ⟨w.heap.size + 1, 0, none⟩), .pointer (some ⟨w.heap.size, 0, none⟩)]) (by simp) (by simp [go_sem]) ?_
  have hB := Blk.new (w.alloc (.cells #[.pointer (some ⟨gl, 0, none⟩)] 28)) 30 #[.int .i64 4]
  rw [World.size_alloc] at hB
  refine (door_no (w.heap.size + 1) w.heap.size 4 .returning _ (hB.cell 0) rfl).mono ?_
  rintro e u' w'' ⟨rfl, rfl, rfl⟩
  refine ⟨.int .i64 4, ?_, rfl, ((Below.refl _ w).alloc (Nat.le_refl _) _).alloc (by simp) _⟩
  simp [results, Tryz.results15, go_sem]
set_option maxRecDepth 100000 in
set_option maxHeartbeats 2000000 in
theorem logAppend_down (gl g : Nat) (num : Int) (len : Nat) (A : Option Addr) (n c : Nat) (w : World) (HL : Hid (LogAt w gl g num len false)) (hn : n ≤ 65536) :
    Calls Tryz.prog 15 #[.pointer (some ⟨gl, 0, none⟩), .slice A n c] w fun e w' => e = .returned (.int .i64 23) ∧ LogAt w' gl g num len false ∧ Mod (fun b => b = gl) w w' := by
  obtain ⟨l0, l1, l2, l3, -, -⟩ := HL.out.cells
  have hlt := Blk.lt HL.out
  go_enter_defers Tryz.func15, Tryz.ntmps15
  go_wp2
  refine leaves_cons (f := 33) (args := #[.pointer (some ⟨w.heap.size + 1, 0, none⟩), .pointer (some ⟨w.heap.size, 0, none⟩)]) (by simp) (by simp [go_sem]) ?_
  have hB := Blk.new (w.alloc (.cells #[.pointer (some ⟨gl, 0, none⟩)] 28)) 30 #[.int .i64 23]
  rw [World.size_alloc] at hB
  have hL := Blk.alloc (Blk.new w 28 #[.pointer (some ⟨gl, 0, none⟩)]) (.cells #[.int .i64 23] 30)
  have hG : LogAt ((w.alloc (.cells #[.pointer (some ⟨gl, 0, none⟩)] 28)).alloc (.cells #[.int .i64 23] 30)) gl g num len false := Blk.alloc (Blk.alloc HL.out _) _
  obtain ⟨-, -, -, g3, -, g4⟩ := hG.cells
  refine (door_yes (w.heap.size + 1) w.heap.size gl .returning _ _ (hB.cell 0) (hL.cell 0) g3 g4).mono ?_
  rintro e u' w'' ⟨rfl, rfl, rfl⟩
  have hB2 := Blk.far (p := ⟨gl, 3, none⟩) hB (by simp; omega) (.bool false)
  have hc := hB2.cell 0
  refine ⟨.int .i64 23, ?_, rfl, Blk.set_ hG 3 (.bool false), (((Mod.refl (fun b => b = gl) w).alloc _).alloc _).set (p := ⟨gl, 3, none⟩) (.inl rfl) _⟩
  simp [results, Tryz.results15, go_sem, hc]
/-- The cells that the region of Append loads. -/
structure LCells (gl g bl : Nat) (num : Int) (len : Nat) (w : World) : Prop where
  box : Blk w bl 28 #[.pointer (some ⟨gl, 0, none⟩)]
  log : LogAt w gl g num len true
theorem LCells.keep {gl g bl : Nat} {num : Int} {len : Nat} {w : World} (h : LCells gl g bl num len w) : w.cell? ⟨bl, 0, none⟩ = some (.pointer (some ⟨gl, 0, none⟩)) ∧ w.cell? ⟨gl, 0, none⟩ = some (.pointer (some ⟨g, 0, none⟩)) ∧ w.cell? ⟨gl, 1, none⟩ = some (.int .i64 num) ∧ w.cell? ⟨gl, 2, none⟩ = some (.int .i64 (len : Int)) :=
  ⟨Blk.cell h.box 0, h.log.cells.1, h.log.cells.2.1, h.log.cells.2.2.1⟩
theorem LCells.all {gl g bl : Nat} {num : Int} {len : Nat} {w w' : World} (h : LCells gl g bl num len w) (hb : Below w.heap.size w w') : LCells gl g bl num len w' := ⟨Blk.all h.box hb, Blk.all h.log hb⟩
theorem LCells.mod {gl g bl : Nat} {num : Int} {len : Nat} {w w' : World} {F : Nat → Prop} (h : LCells gl g bl num len w) (m : Mod F w w') (h1 : ¬ F bl) (h2 : ¬ F gl) : LCells gl g bl num len w' := ⟨m.blk h.box h1, m.blk h.log h2⟩
theorem undrewB {w w' : World} (h : Below w.drew.heap.size w.drew w') : Below w.heap.size w w' := ⟨h.os, h.tape, h.output, h.size, h.block⟩
set_option maxRecDepth 100000 in
set_option maxHeartbeats 2000000 in
theorem logAppend_full (gl g mb room : Nat) (num : Int) (len : Nat) (plan : Int) (fs : List Fl) (A : Option Addr) (n c : Nat) (bs : List UInt8) (w : World) (HL : Hid (LogAt w gl g num len true)) (HD : Hid (DskAt w g mb room false plan fs)) (hn : n ≤ 65536) (HX : Hid (bs.length = n)) (HR : Hid (Rd w w.heap.size A n (vByte bs))) (hlen : len ≤ 1099511627776) (h1 : 0 ≤ num) (h2 : num < 64) (hfull : room < sumL fs + (frameB (len : Int) bs).length) :
    Calls Tryz.prog 15 #[.pointer (some ⟨gl, 0, none⟩), .slice A n c] w fun e w' => e = .returned (.int .i64 22) ∧ Below w.heap.size w w' := by
  obtain ⟨l0, l1, l2, l3, -, -⟩ := HL.out.cells
  have hlt := Blk.lt HL.out
  have HB := Lib.hid (((Below.refl w.heap.size w).alloc (Nat.le_refl _) (.cells #[.pointer (some ⟨gl, 0, none⟩)] 28)).alloc (by simp) (.cells #[.int .i64 0] 30))
  have HE := Lib.hid (Blk.new (w.alloc (.cells #[.pointer (some ⟨gl, 0, none⟩)] 28)) 30 #[.int .i64 0])
  have HC := Lib.hid (show LCells gl g w.heap.size num len ((w.alloc (.cells #[.pointer (some ⟨gl, 0, none⟩)] 28)).alloc (.cells #[.int .i64 0] 30)) from ⟨Blk.alloc (Blk.new w 28 #[.pointer (some ⟨gl, 0, none⟩)]) _, Blk.alloc (Blk.alloc HL.out _) _⟩)
  rw [World.size_alloc] at HE
  have HRz := Lib.hid (HR.out.all HB.out)
  have HDz := Lib.hid (HD.out.all HB.out)
  have hfl := frameB_len (k := (len : Int)) (bs := bs) ⟨by omega, by omega⟩ (by rw [HX.out]; omega)
  rw [HX.out] at hfl
  go_enter_defers Tryz.func15, Tryz.ntmps15
  go_wp2
  obtain ⟨k0, k1, k2, k3⟩ := HC.out.keep
  generalize (w.alloc (.cells #[.pointer (some ⟨gl, 0, none⟩)] 28)).alloc (.cells #[.int .i64 0] 30) = wz at *
  clear l0 l1 l2 l3
  go_region_held3 (fun w' => w'.cell? ⟨w.heap.size, 0, none⟩ = some (.pointer (some ⟨gl, 0, none⟩)) ∧ w'.cell? ⟨gl, 0, none⟩ = some (.pointer (some ⟨g, 0, none⟩)) ∧ w'.cell? ⟨gl, 1, none⟩ = some (.int .i64 num) ∧ w'.cell? ⟨gl, 2, none⟩ = some (.int .i64 (len : Int)))
    (first | exact ⟨k0, k1, k2, k3⟩ | with_reducible exact (HC.out.all hS6).keep | with_reducible exact (HC.out.all hS5).keep | with_reducible exact (HC.out.all hS4).keep)
    (first
      | (go_at_call 36; ((with_reducible refine (clone_any _ _ _ bs _ HX HRz.out.drew (by omega)).mono ?_); rintro e w4 ⟨A4, c4, rfl, -, -, -, hr4, hb4⟩; have hS4 := undrewB hb4; clear hb4))
      | (go_at_call 35; revert hr4; intro hr4; ((with_reducible refine (frame_any _ _ _ _ bs _ HX (by omega) (by omega) (by omega) hr4).mono ?_); rintro e w5 ⟨A5, n5, c5, rfl, HN5, hown5, hb5⟩; have hS5 := bt hS4 hb5; clear hb5 hr4))
      | (go_at_call 34; revert hown5; intro hown5; ((with_reducible refine (appendD_full _ _ _ _ _ _ _ _ _ _ (Lib.hid (HDz.out.all hS5)) h1 h2 (by rw [← HN5.out]; exact hfull) (by rw [← HN5.out]; omega)).mono ?_); rintro e w6 ⟨rfl, hb6⟩; have hS6 := bt hS5 hb6; clear hb6)))
  have hE6 := Blk.all HE.out hS6
  have e0 : w6.cell? ⟨w.heap.size + 1, 0, none⟩ = some (.int .i64 0) := hE6.cell 0
  have e1 : w6.frozen? ⟨w.heap.size + 1, 0, none⟩ = false := hE6.frozen 0
  have hB6 := bt HB.out hS6
  have hE7 := Blk.set_ hE6 0 (.int .i64 22)
  have HE7 := Lib.hid hE7
  have HB7 := Lib.hid (hB6.setCell (p := ⟨w.heap.size + 1, 0, none⟩) (by simp) (.int .i64 22))
  clear hE6 hE7 hB6 hS6 hS5 hS4 hown5 k0 k1 k2 k3
  go_wp2
  refine leaves_cons (f := 33) (args := #[.pointer (some ⟨w.heap.size + 1, 0, none⟩), .pointer (some ⟨w.heap.size, 0, none⟩)]) (by simp) (by simp [go_sem]) ?_
  have hc := HE7.out.cell 0
  refine (door_no (w.heap.size + 1) w.heap.size 22 .returning _ hc rfl).mono ?_
  rintro e u' w'' ⟨rfl, rfl, rfl⟩
  refine ⟨.int .i64 22, ?_, rfl, HB7.out⟩
  simp at hc
  simp [results, Tryz.results15, go_sem, e0]
end Go.Proofs.YtldmokjpfnakkaaGreat

/- journal: Append of the log, where the disk takes the frame. -/
namespace Go.Proofs.YtldmokjpfnakkaaGreat
open Go.RowKit

/-- The files after a disk's Append. -/
def AppSt (fs : List Fl) (num : Int) (xs : List UInt8) (st : List (Int × List UInt8 × Nat)) : Prop :=
  (findF fs num = none ∧ st = fs.map Fl.log ++ [(num, xs, 0)]) ∨ ∃ l1 f l2, fs = l1 ++ f :: l2 ∧ findF fs num = some f ∧ st = l1.map Fl.log ++ (f.num, f.bs ++ xs, f.dur) :: l2.map Fl.log
theorem appendD_any (g mb room : Nat) (plan : Int) (fs : List Fl) (st : List (Int × List UInt8 × Nat)) (num : Int) (A : Option Addr) (n c : Nat) (xs : List UInt8) (o : Bool) (w : World) (HD : Hid (DskAt w g mb room false plan fs)) (HS : Hid (AppSt fs num xs st)) (HO : Hid (failOff false plan = o)) (h1 : 0 ≤ num) (h2 : num < 64) (HX : Hid (xs.length = n)) (hn0 : 0 < n) (hroom : sumL fs + n ≤ room)
    (HR : Hid (Rd w w.heap.size A n (vByte xs))) (HA : Hid (∀ b off, A = some ⟨b, off, none⟩ → ¬ DskF g mb fs b)) :
    Calls Tryz.prog 34 #[.pointer (some ⟨g, 0, none⟩), .int .i64 num, .slice A n c] w fun e w' => e = .returned (.int .i64 (if o then 23 else 0)) ∧ DskNext g mb room o (failPlan plan) fs st w w' := by
  rw [← HO.out]
  rcases HS.out with ⟨h3, rfl⟩ | ⟨l1, f, l2, rfl, h3, rfl⟩
  · exact appendD_new g mb room plan fs num A n c xs w HD (Lib.hid h3) h1 h2 HX hn0 hroom HR HA
  · exact appendD_old g mb room plan l1 l2 f num A n c xs w HD (Lib.hid h3) h1 h2 HX hn0 hroom HR HA
theorem away_own {w : World} {B N n c : Nat} {A : Option Addr} {xs : List Value} {P : Nat → Prop} (h : w.ownsRow B 5 1 (.slice A n c) n xs) (hp : 0 < n) (hP : ∀ b, P b → b < N) (hN : N ≤ B) : ∀ b off, A = some ⟨b, off, none⟩ → ¬ P b := by
  intro b off eb hf
  have h3 := hP b hf
  obtain ⟨gq, eg, hgq, _⟩ := own_some h hp
  rw [eb] at eg
  injection eg with eg
  injection eg with eg _ _
  omega
/-- The log and its disk after Append. -/
def LogNext (gl g mb room : Nat) (num : Int) (off' : Bool) (plan' : Int) (len' : Nat) (up' : Bool) (fs : List Fl) (st : List (Int × List UInt8 × Nat)) (w w' : World) : Prop :=
  ∃ fs', fs'.map Fl.log = st ∧ DskAt w' g mb room off' plan' fs' ∧ LogAt w' gl g num len' up' ∧ Mod (fun b => DskF g mb fs b ∨ b = gl) w w' ∧ ∀ b, DskF g mb fs' b → DskF g mb fs b ∨ w.heap.size ≤ b
set_option maxRecDepth 100000 in
set_option maxHeartbeats 4000000 in
theorem logAppend_ok (gl g mb room : Nat) (num : Int) (len : Nat) (plan : Int) (fs : List Fl) (st : List (Int × List UInt8 × Nat)) (A : Option Addr) (n c : Nat) (bs : List UInt8) (w : World) (HL : Hid (LogAt w gl g num len true)) (HD : Hid (DskAt w g mb room false plan fs)) (hgl : ¬ DskF g mb fs gl) (hn : n ≤ 65536) (HX : Hid (bs.length = n)) (HR : Hid (Rd w w.heap.size A n (vByte bs))) (hlen : len ≤ 1099511627776) (h1 : 0 ≤ num) (h2 : num < 64) (hroom : sumL fs + (frameB (len : Int) bs).length ≤ room)
    (HS : Hid (AppSt fs num (frameB (len : Int) bs) st)) (HO1 : Hid (failOff false plan = false)) (HO2 : Hid (failOff false (failPlan plan) = false)) :
    Calls Tryz.prog 15 #[.pointer (some ⟨gl, 0, none⟩), .slice A n c] w fun e w' => e = .returned (.int .i64 0) ∧ LogNext gl g mb room num false (failPlan (failPlan plan)) (len + 1) true fs (syncLog st) w w' := by
  obtain ⟨l0, l1, l2, l3, -, -⟩ := HL.out.cells
  have hlt := Blk.lt HL.out
  have HF := Lib.hid HD.out.ltF
  have HB := Lib.hid (((Below.refl w.heap.size w).alloc (Nat.le_refl _) (.cells #[.pointer (some ⟨gl, 0, none⟩)] 28)).alloc (by simp) (.cells #[.int .i64 0] 30))
  have HE := Lib.hid (Blk.new (w.alloc (.cells #[.pointer (some ⟨gl, 0, none⟩)] 28)) 30 #[.int .i64 0])
  have HC := Lib.hid (show LCells gl g w.heap.size num len ((w.alloc (.cells #[.pointer (some ⟨gl, 0, none⟩)] 28)).alloc (.cells #[.int .i64 0] 30)) from ⟨Blk.alloc (Blk.new w 28 #[.pointer (some ⟨gl, 0, none⟩)]) _, Blk.alloc (Blk.alloc HL.out _) _⟩)
  rw [World.size_alloc] at HE
  have HRz := Lib.hid (HR.out.all HB.out)
  have HDz := Lib.hid (HD.out.all HB.out)
  have hfl := frameB_len (k := (len : Int)) (bs := bs) ⟨by omega, by omega⟩ (by rw [HX.out]; omega)
  have hfp := frameB_pos (len : Int) bs
  rw [HX.out] at hfl
  have hbl : ¬ DskF g mb fs w.heap.size := fun h => by have := HF.out _ h; omega
  have hel : ¬ DskF g mb fs (w.heap.size + 1) := fun h => by have := HF.out _ h; omega
  have HGL := Lib.hid hgl
  have HBL := Lib.hid hbl
  have HEL := Lib.hid hel
  clear hgl hbl hel
  go_enter_defers Tryz.func15, Tryz.ntmps15
  go_wp2
  obtain ⟨k0, k1, k2, k3⟩ := HC.out.keep
  generalize (w.alloc (.cells #[.pointer (some ⟨gl, 0, none⟩)] 28)).alloc (.cells #[.int .i64 0] 30) = wz at *
  clear l0 l1 l2 l3
  have hwz := HB.out.size
  go_region_held3 (fun w' => w'.cell? ⟨w.heap.size, 0, none⟩ = some (.pointer (some ⟨gl, 0, none⟩)) ∧ w'.cell? ⟨gl, 0, none⟩ = some (.pointer (some ⟨g, 0, none⟩)) ∧ w'.cell? ⟨gl, 1, none⟩ = some (.int .i64 num) ∧ w'.cell? ⟨gl, 2, none⟩ = some (.int .i64 (len : Int)))
    (first | exact ⟨k0, k1, k2, k3⟩ | with_reducible exact ((HC.out.all hS5).mod m6 HBL.out HGL.out).keep | with_reducible exact (HC.out.all hS5).keep | with_reducible exact (HC.out.all hS4).keep)
    (first
      | (go_at_call 36; ((with_reducible refine (clone_any _ _ _ bs _ HX HRz.out.drew (by omega)).mono ?_); rintro e w4 ⟨A4, c4, rfl, -, -, -, hr4, hb4⟩; have hS4 := undrewB hb4; clear hb4))
      | (go_at_call 35; revert hr4; intro hr4; ((with_reducible refine (frame_any _ _ _ _ bs _ HX (by omega) (by omega) (by omega) hr4).mono ?_); rintro e w5 ⟨A5, n5, c5, rfl, HN5, hown5, hb5⟩; have hS5 := bt hS4 hb5; have hz4 := hS4.size; clear hb5 hr4))
      | (go_at_call 34; revert hown5; intro hown5; ((with_reducible refine (appendD_any _ _ _ _ _ st _ _ _ _ (frameB (len : Int) bs) false _ (Lib.hid (HDz.out.all hS5)) HS HO1 h1 h2 HN5 (by rw [← HN5.out]; exact hfp) (by rw [← HN5.out]; exact hroom) (Lib.hid (rd_bytes hown5).2.2) (Lib.hid (away_own hown5 (by rw [← HN5.out]; exact hfp) HF.out (by omega)))).mono ?_); rintro e w6 ⟨rfl, fs6, hst6, hD6, m6, hF6⟩)))
  have hC6 := (HC.out.all hS5).mod m6 HBL.out HGL.out
  have hE6 : Blk w6 (w.heap.size + 1) 30 #[.int .i64 0] := m6.blk (Blk.all HE.out hS5) HEL.out
  have M6 : Mod (fun b => DskF g mb fs b ∨ b = gl) w w6 := (Mod.of_below (fun b => DskF g mb fs b ∨ b = gl) (bt HB.out hS5)).trans m6 (fun b hb => .inl (.inl hb))
  have hw5 := (bt HB.out hS5).size
  have HF6 : Hid (∀ b, DskF g mb fs6 b → DskF g mb fs b ∨ w.heap.size + 2 ≤ b) := Lib.hid (fun b hb => (hF6 b hb).imp id (fun h => by
    have h1 := hS5.size
    have h2 := Blk.lt HE.out
    omega))
  obtain ⟨k0, k1, k2, k3⟩ := hC6.keep
  clear hown5 hS4 hS5 m6 hF6 hz4
  go_wp2_with fail
  refine (sync_any _ _ _ _ _ _ (Lib.hid hD6)).mono ?_
  rintro e w7 ⟨rfl, fs7, hst7, hD7, m7, hF7⟩
  rw [HO2.out] at hst7 hD7 ⊢
  have hgl6 : ¬ DskF g mb fs6 gl := fun h => (HF6.out _ h).elim HGL.out (by omega)
  have hbl6 : ¬ DskF g mb fs6 w.heap.size := fun h => (HF6.out _ h).elim HBL.out (by omega)
  have hel6 : ¬ DskF g mb fs6 (w.heap.size + 1) := fun h => (HF6.out _ h).elim HEL.out (by omega)
  have hC7 := hC6.mod m7 hbl6 hgl6
  have hE7 := m7.blk hE6 hel6
  have M7 : Mod (fun b => DskF g mb fs b ∨ b = gl) w w7 := M6.trans m7 (fun b hb => (HF6.out b hb).imp .inl (fun h => by omega))
  have HF7 : Hid (∀ b, DskF g mb fs7 b → DskF g mb fs b ∨ w.heap.size + 2 ≤ b) := Lib.hid (fun b hb => (hF7 b hb).elim (HF6.out b) (fun h => .inr (by
    have := M6.size
    have := Blk.lt hE6
    omega)))
  have hst : fs7.map Fl.log = syncLog st := by rw [hst7, ← hst6]; rfl
  obtain ⟨l0, l1, l2, l3, l4, l5⟩ := hC7.log.cells
  have b0 : w7.cell? ⟨w.heap.size, 0, none⟩ = some (.pointer (some ⟨gl, 0, none⟩)) := Blk.cell hC7.box 0
  have e0 : w7.cell? ⟨w.heap.size + 1, 0, none⟩ = some (.int .i64 0) := hE7.cell 0
  have e1 : w7.frozen? ⟨w.heap.size + 1, 0, none⟩ = false := hE7.frozen 0
  have ma : Mod (fun b => b = gl ∨ b = w.heap.size + 1) w7 ((w7.setCell ⟨gl, 2, none⟩ (.int .i64 ((len : Int) + 1))).setCell ⟨w.heap.size + 1, 0, none⟩ (.int .i64 0)) := ((Mod.refl (fun b => b = gl ∨ b = w.heap.size + 1) w7).set (p := ⟨gl, 2, none⟩) (.inl (.inl rfl)) _).set (p := ⟨w.heap.size + 1, 0, none⟩) (.inl (.inr rfl)) _
  have HLG : Hid (LogAt ((w7.setCell ⟨gl, 2, none⟩ (.int .i64 ((len : Int) + 1))).setCell ⟨w.heap.size + 1, 0, none⟩ (.int .i64 0)) gl g num (len + 1) true) := Lib.hid (Blk.far (by simpa [LogAt] using Blk.set_ hC7.log 2 (.int .i64 ((len : Int) + 1))) (by simp; omega) _)
  have HER := Lib.hid (Blk.set_ (Blk.far (p := ⟨gl, 2, none⟩) hE7 (by simp; omega) (.int .i64 ((len : Int) + 1))) 0 (.int .i64 0))
  have HNX : Hid (LogNext gl g mb room num false (failPlan (failPlan plan)) (len + 1) true fs (syncLog st) w ((w7.setCell ⟨gl, 2, none⟩ (.int .i64 ((len : Int) + 1))).setCell ⟨w.heap.size + 1, 0, none⟩ (.int .i64 0))) := Lib.hid ⟨fs7, hst, hD7.mod ma (by
    rintro b hb (rfl | rfl)
    · exact (HF7.out _ hb).elim HGL.out (by omega)
    · exact (HF7.out _ hb).elim HEL.out (by omega)), HLG.out, M7.trans ma (by
    rintro b (rfl | rfl)
    · exact .inl (.inr rfl)
    · exact .inr (by omega)), fun b hb => (HF7.out b hb).imp id (fun h => by omega)⟩
  clear hC6 hE6 M6 hD6 hst6 hD7 m7 hF7 hst7 hC7 hE7 M7 hst ma k0 k1 k2 k3 hgl6 hbl6 hel6 HLG
  go_wp2
  refine leaves_cons (f := 33) (args := #[.pointer (some ⟨w.heap.size + 1, 0, none⟩), .pointer (some ⟨w.heap.size, 0, none⟩)]) (by simp) (by simp [go_sem]) ?_
  have hc := HER.out.cell 0
  refine (door_no (w.heap.size + 1) w.heap.size 0 .returning _ hc rfl).mono ?_
  rintro e u' w'' ⟨rfl, rfl, rfl⟩
  refine ⟨.int .i64 0, ?_, rfl, HNX.out⟩
  simp [results, Tryz.results15, go_sem, hc]
end Go.Proofs.YtldmokjpfnakkaaGreat
