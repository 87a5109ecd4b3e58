/- journal: Append of the log, where the disk takes the frame. -/
import Derived.Test.YtgjbbobphfejoaaGreatDoorHG42
import Derived.Shelf.SlIterI.Nil
import Derived.Shelf.SortM.Plain
import Derived.Shelf.SortM.SortNone
import Derived.Test.YtgjbbobphfejoaaGreatDoorProg

namespace Go.Proofs.YtgjbbobphfejoaaGreatDoor
open Go.RowKit

/-- The files after a disk's Append. -/
def AppSt (fs : List Fl) (num : Int) (xs : List UInt8) (st : List (Int × List UInt8 × Nat)) : Prop :=
  (findF fs num = none ∧ st = fs.map Fl.log ++ [(num, xs, 0)]) ∨ ∃ l1 f l2, fs = l1 ++ f :: l2 ∧ findF fs num = some f ∧ st = l1.map Fl.log ++ (f.num, f.bs ++ xs, f.dur) :: l2.map Fl.log
theorem appendD_any (g mb room : Nat) (plan : Int) (fs : List Fl) (st : List (Int × List UInt8 × Nat)) (num : Int) (A : Option Addr) (n c : Nat) (xs : List UInt8) (o : Bool) (w : World) (HD : Hid (DskAt w g mb room false plan fs)) (HS : Hid (AppSt fs num xs st)) (HO : Hid (failOff false plan = o)) (h1 : 0 ≤ num) (h2 : num < 64) (HX : Hid (xs.length = n)) (hn0 : 0 < n) (hroom : sumL fs + n ≤ room)
    (HR : Hid (Rd w w.heap.size A n (vByte xs))) (HA : Hid (∀ b off, A = some ⟨b, off, none⟩ → ¬ DskF g mb fs b)) :
    Calls Tryz.prog 39 #[.pointer (some ⟨g, 0, none⟩), .int .i64 num, .slice A n c] w fun e w' => e = .returned (.int .i64 (if o then 23 else 0)) ∧ DskNext g mb room o (failPlan plan) fs st w w' := by
  rw [← HO.out]
  rcases HS.out with ⟨h3, rfl⟩ | ⟨l1, f, l2, rfl, h3, rfl⟩
  · exact appendD_new g mb room plan fs num A n c xs w HD (Lib.hid h3) h1 h2 HX hn0 hroom HR HA
  · exact appendD_old g mb room plan l1 l2 f num A n c xs w HD (Lib.hid h3) h1 h2 HX hn0 hroom HR HA
theorem away_own {w : World} {B N n c : Nat} {A : Option Addr} {xs : List Value} {P : Nat → Prop} (h : w.ownsRow B 5 1 (.slice A n c) n xs) (hp : 0 < n) (hP : ∀ b, P b → b < N) (hN : N ≤ B) : ∀ b off, A = some ⟨b, off, none⟩ → ¬ P b := by
  intro b off eb hf
  have h3 := hP b hf
  obtain ⟨gq, eg, hgq, _⟩ := own_some h hp
  rw [eb] at eg
  injection eg with eg
  injection eg with eg _ _
  omega
/-- The log and its disk after Append. -/
def LogNext (gl g mb room : Nat) (num : Int) (off' : Bool) (plan' : Int) (len' : Nat) (up' : Bool) (fs : List Fl) (st : List (Int × List UInt8 × Nat)) (w w' : World) : Prop :=
  ∃ fs', fs'.map Fl.log = st ∧ DskAt w' g mb room off' plan' fs' ∧ LogAt w' gl g num len' up' ∧ Mod (fun b => DskF g mb fs b ∨ b = gl) w w' ∧ ∀ b, DskF g mb fs' b → DskF g mb fs b ∨ w.heap.size ≤ b
set_option maxRecDepth 100000 in
set_option maxHeartbeats 4000000 in
theorem logAppend_ok (gl g mb room : Nat) (num : Int) (len : Nat) (plan : Int) (fs : List Fl) (st : List (Int × List UInt8 × Nat)) (A : Option Addr) (n c : Nat) (bs : List UInt8) (w : World) (HL : Hid (LogAt w gl g num len true)) (HD : Hid (DskAt w g mb room false plan fs)) (hgl : ¬ DskF g mb fs gl) (hn : n ≤ 65536) (HX : Hid (bs.length = n)) (HR : Hid (Rd w w.heap.size A n (vByte bs))) (hlen : len ≤ 1099511627776) (h1 : 0 ≤ num) (h2 : num < 64) (hroom : sumL fs + (frameB (len : Int) bs).length ≤ room)
    (HS : Hid (AppSt fs num (frameB (len : Int) bs) st)) (HO1 : Hid (failOff false plan = false)) (HO2 : Hid (failOff false (failPlan plan) = false)) :
    Calls Tryz.prog 15 #[.pointer (some ⟨gl, 0, none⟩), .slice A n c] w fun e w' => e = .returned (.int .i64 0) ∧ LogNext gl g mb room num false (failPlan (failPlan plan)) (len + 1) true fs (syncLog st) w w' := by
  obtain ⟨l0, l1, l2, l3, -, -⟩ := HL.out.cells
  have hlt := Blk.lt HL.out
  have HF := Lib.hid HD.out.ltF
  have HB := Lib.hid (((Below.refl w.heap.size w).alloc (Nat.le_refl _) (.cells #[.pointer (some ⟨gl, 0, none⟩)] 25)).alloc (by simp) (.cells #[.int .i64 0] 27))
  have HE := Lib.hid (Blk.new (w.alloc (.cells #[.pointer (some ⟨gl, 0, none⟩)] 25)) 27 #[.int .i64 0])
  have HC := Lib.hid (show LCells gl g w.heap.size num len ((w.alloc (.cells #[.pointer (some ⟨gl, 0, none⟩)] 25)).alloc (.cells #[.int .i64 0] 27)) from ⟨Blk.alloc (Blk.new w 25 #[.pointer (some ⟨gl, 0, none⟩)]) _, Blk.alloc (Blk.alloc HL.out _) _⟩)
  rw [World.size_alloc] at HE
  have HRz := Lib.hid (HR.out.all HB.out)
  have HDz := Lib.hid (HD.out.all HB.out)
  have hfl := frameB_len (k := (len : Int)) (bs := bs) ⟨by omega, by omega⟩ (by rw [HX.out]; omega)
  have hfp := frameB_pos (len : Int) bs
  rw [HX.out] at hfl
  have hbl : ¬ DskF g mb fs w.heap.size := fun h => by have := HF.out _ h; omega
  have hel : ¬ DskF g mb fs (w.heap.size + 1) := fun h => by have := HF.out _ h; omega
  have HGL := Lib.hid hgl
  have HBL := Lib.hid hbl
  have HEL := Lib.hid hel
  clear hgl hbl hel
  go_enter_defers Tryz.func15, Tryz.ntmps15
  go_wp2
  obtain ⟨k0, k1, k2, k3⟩ := HC.out.keep
  generalize (w.alloc (.cells #[.pointer (some ⟨gl, 0, none⟩)] 25)).alloc (.cells #[.int .i64 0] 27) = wz at *
  clear l0 l1 l2 l3
  have hwz := HB.out.size
  go_region_held3 (fun w' => w'.cell? ⟨w.heap.size, 0, none⟩ = some (.pointer (some ⟨gl, 0, none⟩)) ∧ w'.cell? ⟨gl, 0, none⟩ = some (.pointer (some ⟨g, 0, none⟩)) ∧ w'.cell? ⟨gl, 1, none⟩ = some (.int .i64 num) ∧ w'.cell? ⟨gl, 2, none⟩ = some (.int .i64 (len : Int)))
    (first | exact ⟨k0, k1, k2, k3⟩ | with_reducible exact ((HC.out.all hS5).mod m6 HBL.out HGL.out).keep | with_reducible exact (HC.out.all hS5).keep | with_reducible exact (HC.out.all hS4).keep)
    (first
      | (go_at_call 41; ((with_reducible refine (clone_any _ _ _ bs _ HX HRz.out.drew (by omega)).mono ?_); rintro e w4 ⟨A4, c4, rfl, -, -, -, hr4, hb4⟩; have hS4 := undrewB hb4; clear hb4))
      | (go_at_call 40; revert hr4; intro hr4; ((with_reducible refine (frame_any _ _ _ _ bs _ HX (by omega) (by omega) (by omega) hr4).mono ?_); rintro e w5 ⟨A5, n5, c5, rfl, HN5, hown5, hb5⟩; have hS5 := bt hS4 hb5; have hz4 := hS4.size; clear hb5 hr4))
      | (go_at_call 39; revert hown5; intro hown5; ((with_reducible refine (appendD_any _ _ _ _ _ st _ _ _ _ (frameB (len : Int) bs) false _ (Lib.hid (HDz.out.all hS5)) HS HO1 h1 h2 HN5 (by rw [← HN5.out]; exact hfp) (by rw [← HN5.out]; exact hroom) (Lib.hid (rd_bytes hown5).2.2) (Lib.hid (away_own hown5 (by rw [← HN5.out]; exact hfp) HF.out (by omega)))).mono ?_); rintro e w6 ⟨rfl, fs6, hst6, hD6, m6, hF6⟩)))
  have hC6 := (HC.out.all hS5).mod m6 HBL.out HGL.out
  have hE6 : Blk w6 (w.heap.size + 1) 27 #[.int .i64 0] := m6.blk (Blk.all HE.out hS5) HEL.out
  have M6 : Mod (fun b => DskF g mb fs b ∨ b = gl) w w6 := (Mod.of_below (fun b => DskF g mb fs b ∨ b = gl) (bt HB.out hS5)).trans m6 (fun b hb => .inl (.inl hb))
  have hw5 := (bt HB.out hS5).size
  have HF6 : Hid (∀ b, DskF g mb fs6 b → DskF g mb fs b ∨ w.heap.size + 2 ≤ b) := Lib.hid (fun b hb => (hF6 b hb).imp id (fun h => by
    have h1 := hS5.size
    have h2 := Blk.lt HE.out
    omega))
  obtain ⟨k0, k1, k2, k3⟩ := hC6.keep
  clear hown5 hS4 hS5 m6 hF6 hz4
  go_wp2_with fail
  refine (sync_any _ _ _ _ _ _ (Lib.hid hD6)).mono ?_
  rintro e w7 ⟨rfl, fs7, hst7, hD7, m7, hF7⟩
  rw [HO2.out] at hst7 hD7 ⊢
  have hgl6 : ¬ DskF g mb fs6 gl := fun h => (HF6.out _ h).elim HGL.out (by omega)
  have hbl6 : ¬ DskF g mb fs6 w.heap.size := fun h => (HF6.out _ h).elim HBL.out (by omega)
  have hel6 : ¬ DskF g mb fs6 (w.heap.size + 1) := fun h => (HF6.out _ h).elim HEL.out (by omega)
  have hC7 := hC6.mod m7 hbl6 hgl6
  have hE7 := m7.blk hE6 hel6
  have M7 : Mod (fun b => DskF g mb fs b ∨ b = gl) w w7 := M6.trans m7 (fun b hb => (HF6.out b hb).imp .inl (fun h => by omega))
  have HF7 : Hid (∀ b, DskF g mb fs7 b → DskF g mb fs b ∨ w.heap.size + 2 ≤ b) := Lib.hid (fun b hb => (hF7 b hb).elim (HF6.out b) (fun h => .inr (by
    have := M6.size
    have := Blk.lt hE6
    omega)))
  have hst : fs7.map Fl.log = syncLog st := by rw [hst7, ← hst6]; rfl
  obtain ⟨l0, l1, l2, l3, l4, l5⟩ := hC7.log.cells
  have b0 : w7.cell? ⟨w.heap.size, 0, none⟩ = some (.pointer (some ⟨gl, 0, none⟩)) := Blk.cell hC7.box 0
  have e0 : w7.cell? ⟨w.heap.size + 1, 0, none⟩ = some (.int .i64 0) := hE7.cell 0
  have e1 : w7.frozen? ⟨w.heap.size + 1, 0, none⟩ = false := hE7.frozen 0
  have ma : Mod (fun b => b = gl ∨ b = w.heap.size + 1) w7 ((w7.setCell ⟨gl, 2, none⟩ (.int .i64 ((len : Int) + 1))).setCell ⟨w.heap.size + 1, 0, none⟩ (.int .i64 0)) := ((Mod.refl (fun b => b = gl ∨ b = w.heap.size + 1) w7).set (p := ⟨gl, 2, none⟩) (.inl (.inl rfl)) _).set (p := ⟨w.heap.size + 1, 0, none⟩) (.inl (.inr rfl)) _
  have HLG : Hid (LogAt ((w7.setCell ⟨gl, 2, none⟩ (.int .i64 ((len : Int) + 1))).setCell ⟨w.heap.size + 1, 0, none⟩ (.int .i64 0)) gl g num (len + 1) true) := Lib.hid (Blk.far (by simpa [LogAt] using Blk.set_ hC7.log 2 (.int .i64 ((len : Int) + 1))) (by simp; omega) _)
  have HER := Lib.hid (Blk.set_ (Blk.far (p := ⟨gl, 2, none⟩) hE7 (by simp; omega) (.int .i64 ((len : Int) + 1))) 0 (.int .i64 0))
  have HNX : Hid (LogNext gl g mb room num false (failPlan (failPlan plan)) (len + 1) true fs (syncLog st) w ((w7.setCell ⟨gl, 2, none⟩ (.int .i64 ((len : Int) + 1))).setCell ⟨w.heap.size + 1, 0, none⟩ (.int .i64 0))) := Lib.hid ⟨fs7, hst, hD7.mod ma (by
    rintro b hb (rfl | rfl)
    · exact (HF7.out _ hb).elim HGL.out (by omega)
    · exact (HF7.out _ hb).elim HEL.out (by omega)), HLG.out, M7.trans ma (by
    rintro b (rfl | rfl)
    · exact .inl (.inr rfl)
    · exact .inr (by omega)), fun b hb => (HF7.out b hb).imp id (fun h => by omega)⟩
  clear hC6 hE6 M6 hD6 hst6 hD7 m7 hF7 hst7 hC7 hE7 M7 hst ma k0 k1 k2 k3 hgl6 hbl6 hel6 HLG
  go_wp2
  refine leaves_cons (f := 38) (args := #[.pointer (some ⟨w.heap.size + 1, 0, none⟩), .pointer (some ⟨w.heap.size, 0, none⟩)]) (by simp) (by simp [go_sem]) ?_
  have hc := HER.out.cell 0
  refine (door_no (w.heap.size + 1) w.heap.size 0 .returning _ hc rfl).mono ?_
  rintro e u' w'' ⟨rfl, rfl, rfl⟩
  refine ⟨.int .i64 0, ?_, rfl, HNX.out⟩
  simp [results, Tryz.results15, go_sem, hc]
end Go.Proofs.YtgjbbobphfejoaaGreatDoor

/- journal: Open. -/
namespace Go.Proofs.YtgjbbobphfejoaaGreatDoor
open Go.RowKit

/-- What Open returns where all goes well. -/
def OpenPost (g mb room : Nat) (num : Int) (plan' : Int) (fs : List Fl) (rs : List (List UInt8)) (st : List (Int × List UInt8 × Nat)) (w : World) (e : Ending) (w' : World) : Prop :=
  ∃ gl v L fs', e = .returned (.tuple #[.pointer (some ⟨gl, 0, none⟩), v, .int .i64 0]) ∧ w.heap.size ≤ gl ∧ LogAt w' gl g num rs.length true ∧ LsOwn w' w.heap.size v L ∧ bsOf L = rs ∧ (∀ z ∈ L, z.low w.heap.size) ∧ fs'.map Fl.log = st ∧ DskAt w' g mb room false plan' fs' ∧ Mod (DskF g mb fs) w w' ∧ (∀ b, DskF g mb fs' b → DskF g mb fs b ∨ w.heap.size ≤ b) ∧ ¬ DskF g mb fs' gl
/-- The bytes of a file. -/
def fileBs (fs : List Fl) (num : Int) : List UInt8 := ((findF fs num).map Fl.bs).getD []
/-- Read, with or without a file. -/
theorem readD_any (g mb room : Nat) (plan : Int) (fs : List Fl) (num : Int) (w : World) (HD : Hid (DskAt w g mb room false plan fs)) (h1 : 0 ≤ num) (h2 : num < 64) :
    Calls Tryz.prog 24 #[.pointer (some ⟨g, 0, none⟩), .int .i64 num] w (ReadPost (fileBs fs num) w) := by
  cases hf : findF fs num with
  | none =>
    have e : fileBs fs num = [] := by unfold fileBs; rw [hf]; rfl
    rw [e]
    refine (readD_none g mb room plan fs num w HD (Lib.hid hf) h1 h2).mono ?_
    rintro e w' ⟨rfl, rfl⟩
    exact ⟨none, 0, 0, rfl, World.ownsRow_nil _ _ _ _, Below.refl _ _⟩
  | some f =>
    have e : fileBs fs num = f.bs := by unfold fileBs; rw [hf]; rfl
    rw [e]
    exact readD_some g mb room plan fs f num w HD (Lib.hid hf) h1 h2
set_option maxRecDepth 100000 in
set_option maxHeartbeats 2000000 in
theorem open_clean (g mb room : Nat) (plan : Int) (fs : List Fl) (num : Int) (rs : List (List UInt8)) (w : World) (HD : Hid (DskAt w g mb room false plan fs)) (h1 : 0 ≤ num) (h2 : num < 64) (HB : Hid (fileBs fs num = framesB 0 rs)) (HO : Hid (failOff false plan = false)) :
    Calls Tryz.prog 5 #[.pointer (some ⟨g, 0, none⟩), .int .i64 num] w (OpenPost g mb room num (failPlan plan) fs rs (syncLog (fs.map Fl.log)) w) := by
  have hlen : (framesB 0 rs).length ≤ 16777216 := by
    rw [← HB.out]
    unfold fileBs
    cases hf : findF fs num with
    | none => simp
    | some f =>
      obtain ⟨l1, l2, hfs, -⟩ := findF_split hf
      have h1 := HD.out.room_le
      have h2 := HD.out.used_le
      rw [hfs, sumL_append, sumL_cons] at h2
      simp only [Option.map_some, Option.getD_some]
      omega
  have HF := Lib.hid HD.out.ltF
  have HSC : Hid (ScanIs (framesB 0 rs) rs (framesB 0 rs).length) := Lib.hid ⟨rfl, [], (List.append_nil _).symm, fun x r h => by
    have h1 := congrArg List.length h
    rw [List.length_append] at h1
    have h2 := frameB_pos ((rs.length : Nat) : Int) x
    simp only [List.length_nil] at h1
    omega⟩
  go_enter Tryz.func5, Tryz.ntmps5
  go_wp2_with fail
  refine (readD_any _ _ _ _ _ _ _ HD h1 h2).mono ?_
  rintro e w1 ⟨A1, n1, c1, rfl, hown1, hb1⟩
  rw [HB.out] at hown1
  have hS1 := Sb.own hown1
  have hD1 := HD.out.all hb1
  have HN1 := Lib.hid hS1.1
  have hn1 : n1 ≤ 16777216 := by rw [← HN1.out]; exact hlen
  clear hown1
  go_wp2_with fail
  refine (scan2_any _ _ _ _ _ (Lib.hid hS1) (by omega)).mono ?_
  rintro e w2 ⟨v2, L2, m2, rfl, hL2, hs2, hb2, hlow2⟩
  obtain ⟨e1, e2⟩ := ScanIs.unique (by omega) hs2 HSC.out
  rw [HN1.out] at e2
  subst e2
  obtain ⟨A2, c2, rfl⟩ := hL2.slice
  have HE1 := Lib.hid e1
  have hD2 := hD1.all hb2
  have hB2 := bt hb1 hb2
  have hll : L2.length = rs.length := by rw [← bsOf_length, e1]
  rw [hll] at hL2 ⊢
  have hrl : rs.length ≤ 16777216 := by
    have := framesB_len rs 0
    omega
  have hz1 := hb1.size
  have HLW : Hid (∀ z ∈ L2, z.low w.heap.size) := Lib.hid (fun z hz => (hlow2 z hz).mono hz1)
  have HL2 := Lib.hid (hL2.lower hz1)
  clear hs2 e1 hll hL2 hlow2 hb1 hb2 hD1 hS1 hz1
  go_wp2_with fail
  refine (sync_any _ _ _ _ _ _ (Lib.hid hD2)).mono ?_
  rintro e w3 ⟨rfl, fs3, hst3, hD3, m3, hF3⟩
  rw [HO.out] at hst3 hD3 ⊢
  have hL3 : LsOwn w3 w.heap.size (.slice A2 rs.length c2) L2 := HL2.out.modL HLW.out m3 (fun b hb hf => by have := HF.out b hf; omega) (Nat.le_refl _)
  have M3 : Mod (DskF g mb fs) w w3 := (Mod.of_below (DskF g mb fs) hB2).trans m3 (fun b hb => .inl hb)
  have hz2 := hB2.size
  have HF3 : Hid (∀ b, DskF g mb fs3 b → DskF g mb fs b ∨ w.heap.size ≤ b) := Lib.hid (fun b hb => (hF3 b hb).imp id (fun h => by omega))
  have hb4 := (Below.refl w3.heap.size w3).alloc (Nat.le_refl _) (.cells #[.pointer (some ⟨g, 0, none⟩), .int .i64 num, .int .i64 ((rs.length : Nat) : Int), .bool true] 80)
  have HLG : Hid (LogAt (w3.alloc (.cells #[.pointer (some ⟨g, 0, none⟩), .int .i64 num, .int .i64 ((rs.length : Nat) : Int), .bool true] 80)) w3.heap.size g num rs.length true) := Lib.hid (Blk.new w3 80 _)
  have HFIN : Hid (OpenPost g mb room num (failPlan plan) fs rs (syncLog (fs.map Fl.log)) w (.returned (.tuple #[.pointer (some ⟨w3.heap.size, 0, none⟩), .slice A2 rs.length c2, .int .i64 0])) (w3.alloc (.cells #[.pointer (some ⟨g, 0, none⟩), .int .i64 num, .int .i64 ((rs.length : Nat) : Int), .bool true] 80))) := Lib.hid
    ⟨w3.heap.size, _, L2, fs3, rfl, M3.size, HLG.out, hL3.all hb4, HE1.out, HLW.out, hst3, hD3.all hb4, M3.then_below hb4, HF3.out, fun h => by have := hD3.ltF _ h; omega⟩
  clear hL3 M3 hb4 hD3 hst3 m3 hF3 hD2 hB2 HL2 HLG
  go_wp2
  go_ret3
  exact HFIN.out
end Go.Proofs.YtgjbbobphfejoaaGreatDoor

/- disk: the library's contracts for maps.Keys, slices.Sorted and slices.Sort at this program (laid by the kit's tool, in plain words). -/
namespace Go.Proofs
open Go.Shelf
def Tryz.keysA_ren : Go.Shelf.Ren := ⟨fun | 7 => 76 | 10 => 148 | n => n, fun | 23 => 91 | 26 => 3 | 3 => 113 | 28 => 158 | 0 => 0 | 27 => 157 | 33 => 125 | 4 => 4 | n => n, fun | n => n⟩
theorem Tryz.keysA : Go.Proofs.SlLaysZI.n7 Tryz.prog Tryz.keysA_ren := {
  mixed := by kernel_rfl
  f7 := ⟨Tryz.f76.name, by decide, Tryz.func76.trans (congrArg some (by kernel_rfl))⟩
  f10 := ⟨Tryz.f148.name, by decide, Tryz.func148.trans (congrArg some (by kernel_rfl))⟩
  t0 := Tryz.underlying0
  a0 := Tryz.isAgg0
  z0 := Tryz.sizeOf0
  v0 := Tryz.zeroValue0
  t4 := Tryz.underlying4
  a4 := Tryz.isAgg4
  z4 := Tryz.sizeOf4
  v4 := Tryz.zeroValue4
  t23 := Tryz.underlying91
  a23 := Tryz.isAgg91
  z23 := Tryz.sizeOf91
  v23 := Tryz.zeroValue91
  t26 := Tryz.underlying3
  a26 := Tryz.isAgg3
  z26 := Tryz.sizeOf3
  v26 := Tryz.zeroValue3
  t27 := Tryz.underlying157
  a27 := Tryz.isAgg157
  z27 := Tryz.sizeOf157
  v27 := Tryz.zeroValue157
  t28 := Tryz.underlying158
  a28 := Tryz.isAgg158
  z28 := Tryz.sizeOf158
  v28 := Tryz.zeroValue158
  t33 := Tryz.underlying125
  a33 := Tryz.isAgg125
  z33 := Tryz.sizeOf125
  v33 := Tryz.zeroValue125 }
def Tryz.sortedA_ren : Go.Shelf.Ren := ⟨fun | 6 => 75 | 8 => 146 | 9 => 147 | 11 => 178 | 13 => 69 | 12 => 179 | 23 => 134 | 24 => 135 | 14 => 194 | 15 => 195 | 16 => 196 | 17 => 197 | 18 => 198 | 19 => 199 | 20 => 200 | 21 => 201 | 22 => 202 | 25 => 214 | 26 => 159 | 27 => 160 | 28 => 215 | 29 => 216 | 30 => 70 | 31 => 237 | n => n, fun | 26 => 3 | 28 => 158 | 24 => 22 | 0 => 0 | 3 => 3 | 37 => 151 | 48 => 211 | 50 => 105 | 4 => 4 | 40 => 204 | 39 => 203 | 45 => 208 | 5 => 5 | 9 => 9 | 51 => 238 | 55 => 241 | 57 => 253 | 58 => 254 | 33 => 125 | n => n, fun | n => n⟩
theorem Tryz.sortedA : Go.Proofs.SlLaysZI.n6 Tryz.prog Tryz.sortedA_ren := {
  mixed := by kernel_rfl
  f6 := ⟨Tryz.f75.name, by decide, Tryz.func75.trans (congrArg some (by kernel_rfl))⟩
  f8 := ⟨Tryz.f146.name, by decide, Tryz.func146.trans (congrArg some (by kernel_rfl))⟩
  f11 := ⟨Tryz.f178.name, by decide, Tryz.func178.trans (congrArg some (by kernel_rfl))⟩
  t0 := Tryz.underlying0
  a0 := Tryz.isAgg0
  z0 := Tryz.sizeOf0
  v0 := Tryz.zeroValue0
  t24 := Tryz.underlying22
  a24 := Tryz.isAgg22
  z24 := Tryz.sizeOf22
  v24 := Tryz.zeroValue22
  t26 := Tryz.underlying3
  a26 := Tryz.isAgg3
  z26 := Tryz.sizeOf3
  v26 := Tryz.zeroValue3
  t28 := Tryz.underlying158
  a28 := Tryz.isAgg158
  z28 := Tryz.sizeOf158
  v28 := Tryz.zeroValue158
  i26 := by kernel_rfl }
def Tryz.sortA_ren : Go.Shelf.Ren := ⟨fun | 5 => 147 | 8 => 69 | 7 => 179 | 19 => 134 | 20 => 135 | 10 => 194 | 11 => 195 | 12 => 196 | 13 => 197 | 14 => 198 | 15 => 199 | 16 => 200 | 17 => 201 | 18 => 202 | 30 => 214 | 31 => 159 | 32 => 160 | 33 => 215 | 34 => 216 | 35 => 70 | 40 => 237 | n => n, fun | 23 => 22 | 25 => 3 | 3 => 3 | 32 => 151 | 22 => 22 | 0 => 0 | 44 => 211 | 46 => 105 | 4 => 4 | 36 => 204 | 35 => 203 | 41 => 208 | 5 => 5 | 9 => 9 | 53 => 238 | 57 => 241 | 63 => 253 | 64 => 254 | n => n, fun | n => n⟩
theorem Tryz.sortA : Go.Proofs.SlLaysM.n5 Tryz.prog Tryz.sortA_ren := {
  mixed := by kernel_rfl
  f5 := ⟨Tryz.f147.name, by decide, Tryz.func147.trans (congrArg some (by kernel_rfl))⟩
  f7 := ⟨Tryz.f179.name, by decide, Tryz.func179.trans (congrArg some (by kernel_rfl))⟩
  f8 := Tryz.func69.trans (congrArg some (by kernel_rfl))
  f10 := ⟨Tryz.f194.name, by decide, Tryz.func194.trans (congrArg some (by kernel_rfl))⟩
  f11 := ⟨Tryz.f195.name, by decide, Tryz.func195.trans (congrArg some (by kernel_rfl))⟩
  f12 := ⟨Tryz.f196.name, by decide, Tryz.func196.trans (congrArg some (by kernel_rfl))⟩
  f13 := ⟨Tryz.f197.name, by decide, Tryz.func197.trans (congrArg some (by kernel_rfl))⟩
  f14 := ⟨Tryz.f198.name, by decide, Tryz.func198.trans (congrArg some (by kernel_rfl))⟩
  f15 := ⟨Tryz.f199.name, by decide, Tryz.func199.trans (congrArg some (by kernel_rfl))⟩
  f16 := ⟨Tryz.f200.name, by decide, Tryz.func200.trans (congrArg some (by kernel_rfl))⟩
  f17 := ⟨Tryz.f201.name, by decide, Tryz.func201.trans (congrArg some (by kernel_rfl))⟩
  f18 := ⟨Tryz.f202.name, by decide, Tryz.func202.trans (congrArg some (by kernel_rfl))⟩
  f19 := Tryz.func134.trans (congrArg some (by kernel_rfl))
  f20 := Tryz.func135.trans (congrArg some (by kernel_rfl))
  f30 := ⟨Tryz.f214.name, by decide, Tryz.func214.trans (congrArg some (by kernel_rfl))⟩
  f31 := Tryz.func159.trans (congrArg some (by kernel_rfl))
  f32 := Tryz.func160.trans (congrArg some (by kernel_rfl))
  f33 := ⟨Tryz.f215.name, by decide, Tryz.func215.trans (congrArg some (by kernel_rfl))⟩
  f34 := ⟨Tryz.f216.name, by decide, Tryz.func216.trans (congrArg some (by kernel_rfl))⟩
  f35 := ⟨Tryz.f70.name, by decide, Tryz.func70.trans (congrArg some (by kernel_rfl))⟩
  f40 := ⟨Tryz.f237.name, by decide, Tryz.func237.trans (congrArg some (by kernel_rfl))⟩
  t0 := Tryz.underlying0
  a0 := Tryz.isAgg0
  z0 := Tryz.sizeOf0
  v0 := Tryz.zeroValue0
  t3 := Tryz.underlying3
  a3 := Tryz.isAgg3
  z3 := Tryz.sizeOf3
  v3 := Tryz.zeroValue3
  t4 := Tryz.underlying4
  a4 := Tryz.isAgg4
  z4 := Tryz.sizeOf4
  v4 := Tryz.zeroValue4
  t5 := Tryz.underlying5
  a5 := Tryz.isAgg5
  z5 := Tryz.sizeOf5
  v5 := Tryz.zeroValue5
  t9 := Tryz.underlying9
  a9 := Tryz.isAgg9
  z9 := Tryz.sizeOf9
  v9 := Tryz.zeroValue9
  t22 := Tryz.underlying22
  a22 := Tryz.isAgg22
  z22 := Tryz.sizeOf22
  v22 := Tryz.zeroValue22
  t23 := Tryz.underlying22
  a23 := Tryz.isAgg22
  z23 := Tryz.sizeOf22
  v23 := Tryz.zeroValue22
  t25 := Tryz.underlying3
  a25 := Tryz.isAgg3
  z25 := Tryz.sizeOf3
  v25 := Tryz.zeroValue3
  t32 := Tryz.underlying151
  a32 := Tryz.isAgg151
  z32 := Tryz.sizeOf151
  v32 := Tryz.zeroValue151
  t35 := Tryz.underlying203
  a35 := Tryz.isAgg203
  z35 := Tryz.sizeOf203
  v35 := Tryz.zeroValue203
  t36 := Tryz.underlying204
  a36 := Tryz.isAgg204
  z36 := Tryz.sizeOf204
  v36 := Tryz.zeroValue204
  t41 := Tryz.underlying208
  a41 := Tryz.isAgg208
  z41 := Tryz.sizeOf208
  v41 := Tryz.zeroValue208
  t44 := Tryz.underlying211
  a44 := Tryz.isAgg211
  z44 := Tryz.sizeOf211
  v44 := Tryz.zeroValue211
  t46 := Tryz.underlying105
  a46 := Tryz.isAgg105
  z46 := Tryz.sizeOf105
  v46 := Tryz.zeroValue105
  t53 := Tryz.underlying238
  a53 := Tryz.isAgg238
  z53 := Tryz.sizeOf238
  v53 := Tryz.zeroValue238
  t57 := Tryz.underlying241
  a57 := Tryz.isAgg241
  z57 := Tryz.sizeOf241
  v57 := Tryz.zeroValue241
  t63 := Tryz.underlying253
  a63 := Tryz.isAgg253
  z63 := Tryz.sizeOf253
  v63 := Tryz.zeroValue253
  t64 := Tryz.underlying254
  a64 := Tryz.isAgg254
  z64 := Tryz.sizeOf254
  v64 := Tryz.zeroValue254 }
end Go.Proofs
