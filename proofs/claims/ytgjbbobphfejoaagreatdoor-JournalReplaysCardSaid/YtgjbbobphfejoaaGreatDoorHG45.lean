/- journal: Append of the log, where the power fails. -/
import Derived.Test.YtgjbbobphfejoaaGreatDoorHG43
import Derived.Test.YtgjbbobphfejoaaGreatDoorHG44
import Derived.Test.YtgjbbobphfejoaaGreatDoorHLaw

namespace Go.Proofs.YtgjbbobphfejoaaGreatDoor
open Go.RowKit

set_option maxRecDepth 100000 in
set_option maxHeartbeats 4000000 in
theorem logAppend_fail1 (gl g mb room : Nat) (num : Int) (len : Nat) (plan : Int) (fs : List Fl) (st : List (Int × List UInt8 × Nat)) (A : Option Addr) (n c : Nat) (bs : List UInt8) (w : World) (HL : Hid (LogAt w gl g num len true)) (HD : Hid (DskAt w g mb room false plan fs)) (hgl : ¬ DskF g mb fs gl) (hn : n ≤ 65536) (HX : Hid (bs.length = n)) (HR : Hid (Rd w w.heap.size A n (vByte bs))) (hlen : len ≤ 1099511627776) (h1 : 0 ≤ num) (h2 : num < 64) (hroom : sumL fs + (frameB (len : Int) bs).length ≤ room)
    (HS : Hid (AppSt fs num (frameB (len : Int) bs) st)) (HO1 : Hid (failOff false plan = true)) :
    Calls Tryz.prog 15 #[.pointer (some ⟨gl, 0, none⟩), .slice A n c] w fun e w' => e = .returned (.int .i64 23) ∧ LogNext gl g mb room num true (failPlan plan) len false fs st w w' := by
  obtain ⟨l0, l1, l2, l3, -, -⟩ := HL.out.cells
  have hlt := Blk.lt HL.out
  have HF := Lib.hid HD.out.ltF
  have HB := Lib.hid (((Below.refl w.heap.size w).alloc (Nat.le_refl _) (.cells #[.pointer (some ⟨gl, 0, none⟩)] 25)).alloc (by simp) (.cells #[.int .i64 0] 27))
  have HE := Lib.hid (Blk.new (w.alloc (.cells #[.pointer (some ⟨gl, 0, none⟩)] 25)) 27 #[.int .i64 0])
  have HC := Lib.hid (show LCells gl g w.heap.size num len ((w.alloc (.cells #[.pointer (some ⟨gl, 0, none⟩)] 25)).alloc (.cells #[.int .i64 0] 27)) from ⟨Blk.alloc (Blk.new w 25 #[.pointer (some ⟨gl, 0, none⟩)]) _, Blk.alloc (Blk.alloc HL.out _) _⟩)
  rw [World.size_alloc] at HE
  have HRz := Lib.hid (HR.out.all HB.out)
  have HDz := Lib.hid (HD.out.all HB.out)
  have hfl := frameB_len (k := (len : Int)) (bs := bs) ⟨by omega, by omega⟩ (by rw [HX.out]; omega)
  have hfp := frameB_pos (len : Int) bs
  rw [HX.out] at hfl
  have hbl : ¬ DskF g mb fs w.heap.size := fun h => by have := HF.out _ h; omega
  have hel : ¬ DskF g mb fs (w.heap.size + 1) := fun h => by have := HF.out _ h; omega
  have HGL := Lib.hid hgl
  have HBL := Lib.hid hbl
  have HEL := Lib.hid hel
  clear hgl hbl hel
  go_enter_defers Tryz.func15, Tryz.ntmps15
  go_wp2
  obtain ⟨k0, k1, k2, k3⟩ := HC.out.keep
  generalize (w.alloc (.cells #[.pointer (some ⟨gl, 0, none⟩)] 25)).alloc (.cells #[.int .i64 0] 27) = wz at *
  clear l0 l1 l2 l3
  have hwz := HB.out.size
  go_region_held3 (fun w' => w'.cell? ⟨w.heap.size, 0, none⟩ = some (.pointer (some ⟨gl, 0, none⟩)) ∧ w'.cell? ⟨gl, 0, none⟩ = some (.pointer (some ⟨g, 0, none⟩)) ∧ w'.cell? ⟨gl, 1, none⟩ = some (.int .i64 num) ∧ w'.cell? ⟨gl, 2, none⟩ = some (.int .i64 (len : Int)))
    (first | exact ⟨k0, k1, k2, k3⟩ | with_reducible exact ((HC.out.all hS5).mod m6 HBL.out HGL.out).keep | with_reducible exact (HC.out.all hS5).keep | with_reducible exact (HC.out.all hS4).keep)
    (first
      | (go_at_call 41; ((with_reducible refine (clone_any _ _ _ bs _ HX HRz.out.drew (by omega)).mono ?_); rintro e w4 ⟨A4, c4, rfl, -, -, -, hr4, hb4⟩; have hS4 := undrewB hb4; clear hb4))
      | (go_at_call 40; revert hr4; intro hr4; ((with_reducible refine (frame_any _ _ _ _ bs _ HX (by omega) (by omega) (by omega) hr4).mono ?_); rintro e w5 ⟨A5, n5, c5, rfl, HN5, hown5, hb5⟩; have hS5 := bt hS4 hb5; have hz4 := hS4.size; clear hb5 hr4))
      | (go_at_call 39; revert hown5; intro hown5; ((with_reducible refine (appendD_any _ _ _ _ _ st _ _ _ _ (frameB (len : Int) bs) true _ (Lib.hid (HDz.out.all hS5)) HS HO1 h1 h2 HN5 (by rw [← HN5.out]; exact hfp) (by rw [← HN5.out]; exact hroom) (Lib.hid (rd_bytes hown5).2.2) (Lib.hid (away_own hown5 (by rw [← HN5.out]; exact hfp) HF.out (by omega)))).mono ?_); rintro e w6 ⟨rfl, fs6, hst6, hD6, m6, hF6⟩)))
  have hC6 := (HC.out.all hS5).mod m6 HBL.out HGL.out
  have hE6 : Blk w6 (w.heap.size + 1) 27 #[.int .i64 0] := m6.blk (Blk.all HE.out hS5) HEL.out
  have M6 : Mod (fun b => DskF g mb fs b ∨ b = gl) w w6 := (Mod.of_below (fun b => DskF g mb fs b ∨ b = gl) (bt HB.out hS5)).trans m6 (fun b hb => .inl (.inl hb))
  have HF6 : Hid (∀ b, DskF g mb fs6 b → DskF g mb fs b ∨ w.heap.size + 2 ≤ b) := Lib.hid (fun b hb => (hF6 b hb).imp id (fun h => by
    have h1 := hS5.size
    have h2 := Blk.lt HE.out
    omega))
  have e0 : w6.cell? ⟨w.heap.size + 1, 0, none⟩ = some (.int .i64 0) := hE6.cell 0
  have e1 : w6.frozen? ⟨w.heap.size + 1, 0, none⟩ = false := hE6.frozen 0
  have hgl6 : ¬ DskF g mb fs6 gl := fun h => (HF6.out _ h).elim HGL.out (by omega)
  have hel6 : ¬ DskF g mb fs6 (w.heap.size + 1) := fun h => (HF6.out _ h).elim HEL.out (by omega)
  have hE9 := Blk.set_ hE6 0 (.int .i64 23)
  have hC9 := hC6.mod ((Mod.refl (fun b => b = w.heap.size + 1) w6).set (p := ⟨w.heap.size + 1, 0, none⟩) (.inl rfl) (.int .i64 23)) (by omega) (by omega)
  have ma : Mod (fun b => b = gl ∨ b = w.heap.size + 1) w6 ((w6.setCell ⟨w.heap.size + 1, 0, none⟩ (.int .i64 23)).setCell ⟨gl, 3, none⟩ (.bool false)) := ((Mod.refl (fun b => b = gl ∨ b = w.heap.size + 1) w6).set (p := ⟨w.heap.size + 1, 0, none⟩) (.inl (.inr rfl)) _).set (p := ⟨gl, 3, none⟩) (.inl (.inl rfl)) _
  have HNX : Hid (LogNext gl g mb room num true (failPlan plan) len false fs st w ((w6.setCell ⟨w.heap.size + 1, 0, none⟩ (.int .i64 23)).setCell ⟨gl, 3, none⟩ (.bool false))) := Lib.hid ⟨fs6, hst6, hD6.mod ma (by
    rintro b hb (rfl | rfl)
    · exact (HF6.out _ hb).elim HGL.out (by omega)
    · exact (HF6.out _ hb).elim HEL.out (by omega)), by simpa [LogAt] using Blk.set_ hC9.log 3 (.bool false), M6.trans ma (by
    rintro b (rfl | rfl)
    · exact .inl (.inr rfl)
    · exact .inr (by omega)), fun b hb => (HF6.out b hb).imp id (fun h => by omega)⟩
  have HC9 := Lib.hid hC9
  have HE9 := Lib.hid hE9
  have HER := Lib.hid (Blk.far (p := ⟨gl, 3, none⟩) hE9 (by simp; omega) (.bool false))
  clear hC6 hE6 M6 hD6 hst6 m6 hF6 hgl6 hel6 hS5 hS4 hown5 hz4 ma hC9 hE9
  go_wp2
  refine leaves_cons (f := 38) (args := #[.pointer (some ⟨w.heap.size + 1, 0, none⟩), .pointer (some ⟨w.heap.size, 0, none⟩)]) (by simp) (by simp [go_sem]) ?_
  obtain ⟨-, -, -, g3, -, g4⟩ := HC9.out.log.cells
  refine (door_yes (w.heap.size + 1) w.heap.size gl .returning _ _ (HE9.out.cell 0) (Blk.cell HC9.out.box 0) g3 g4).mono ?_
  rintro e u' w'' ⟨rfl, rfl, rfl⟩
  have hc := HER.out.cell 0
  simp at hc
  refine ⟨.int .i64 23, ?_, rfl, HNX.out⟩
  simp [results, Tryz.results15, go_sem, hc]
set_option maxRecDepth 100000 in
set_option maxHeartbeats 4000000 in
theorem logAppend_fail2 (gl g mb room : Nat) (num : Int) (len : Nat) (plan : Int) (fs : List Fl) (st : List (Int × List UInt8 × Nat)) (A : Option Addr) (n c : Nat) (bs : List UInt8) (w : World) (HL : Hid (LogAt w gl g num len true)) (HD : Hid (DskAt w g mb room false plan fs)) (hgl : ¬ DskF g mb fs gl) (hn : n ≤ 65536) (HX : Hid (bs.length = n)) (HR : Hid (Rd w w.heap.size A n (vByte bs))) (hlen : len ≤ 1099511627776) (h1 : 0 ≤ num) (h2 : num < 64) (hroom : sumL fs + (frameB (len : Int) bs).length ≤ room)
    (HS : Hid (AppSt fs num (frameB (len : Int) bs) st)) (HO1 : Hid (failOff false plan = false)) (HO2 : Hid (failOff false (failPlan plan) = true)) :
    Calls Tryz.prog 15 #[.pointer (some ⟨gl, 0, none⟩), .slice A n c] w fun e w' => e = .returned (.int .i64 23) ∧ LogNext gl g mb room num true (failPlan (failPlan plan)) len false fs st w w' := by
  obtain ⟨l0, l1, l2, l3, -, -⟩ := HL.out.cells
  have hlt := Blk.lt HL.out
  have HF := Lib.hid HD.out.ltF
  have HB := Lib.hid (((Below.refl w.heap.size w).alloc (Nat.le_refl _) (.cells #[.pointer (some ⟨gl, 0, none⟩)] 25)).alloc (by simp) (.cells #[.int .i64 0] 27))
  have HE := Lib.hid (Blk.new (w.alloc (.cells #[.pointer (some ⟨gl, 0, none⟩)] 25)) 27 #[.int .i64 0])
  have HC := Lib.hid (show LCells gl g w.heap.size num len ((w.alloc (.cells #[.pointer (some ⟨gl, 0, none⟩)] 25)).alloc (.cells #[.int .i64 0] 27)) from ⟨Blk.alloc (Blk.new w 25 #[.pointer (some ⟨gl, 0, none⟩)]) _, Blk.alloc (Blk.alloc HL.out _) _⟩)
  rw [World.size_alloc] at HE
  have HRz := Lib.hid (HR.out.all HB.out)
  have HDz := Lib.hid (HD.out.all HB.out)
  have hfl := frameB_len (k := (len : Int)) (bs := bs) ⟨by omega, by omega⟩ (by rw [HX.out]; omega)
  have hfp := frameB_pos (len : Int) bs
  rw [HX.out] at hfl
  have hbl : ¬ DskF g mb fs w.heap.size := fun h => by have := HF.out _ h; omega
  have hel : ¬ DskF g mb fs (w.heap.size + 1) := fun h => by have := HF.out _ h; omega
  have HGL := Lib.hid hgl
  have HBL := Lib.hid hbl
  have HEL := Lib.hid hel
  clear hgl hbl hel
  go_enter_defers Tryz.func15, Tryz.ntmps15
  go_wp2
  obtain ⟨k0, k1, k2, k3⟩ := HC.out.keep
  generalize (w.alloc (.cells #[.pointer (some ⟨gl, 0, none⟩)] 25)).alloc (.cells #[.int .i64 0] 27) = wz at *
  clear l0 l1 l2 l3
  have hwz := HB.out.size
  go_region_held3 (fun w' => w'.cell? ⟨w.heap.size, 0, none⟩ = some (.pointer (some ⟨gl, 0, none⟩)) ∧ w'.cell? ⟨gl, 0, none⟩ = some (.pointer (some ⟨g, 0, none⟩)) ∧ w'.cell? ⟨gl, 1, none⟩ = some (.int .i64 num) ∧ w'.cell? ⟨gl, 2, none⟩ = some (.int .i64 (len : Int)))
    (first | exact ⟨k0, k1, k2, k3⟩ | with_reducible exact ((HC.out.all hS5).mod m6 HBL.out HGL.out).keep | with_reducible exact (HC.out.all hS5).keep | with_reducible exact (HC.out.all hS4).keep)
    (first
      | (go_at_call 41; ((with_reducible refine (clone_any _ _ _ bs _ HX HRz.out.drew (by omega)).mono ?_); rintro e w4 ⟨A4, c4, rfl, -, -, -, hr4, hb4⟩; have hS4 := undrewB hb4; clear hb4))
      | (go_at_call 40; revert hr4; intro hr4; ((with_reducible refine (frame_any _ _ _ _ bs _ HX (by omega) (by omega) (by omega) hr4).mono ?_); rintro e w5 ⟨A5, n5, c5, rfl, HN5, hown5, hb5⟩; have hS5 := bt hS4 hb5; have hz4 := hS4.size; clear hb5 hr4))
      | (go_at_call 39; revert hown5; intro hown5; ((with_reducible refine (appendD_any _ _ _ _ _ st _ _ _ _ (frameB (len : Int) bs) false _ (Lib.hid (HDz.out.all hS5)) HS HO1 h1 h2 HN5 (by rw [← HN5.out]; exact hfp) (by rw [← HN5.out]; exact hroom) (Lib.hid (rd_bytes hown5).2.2) (Lib.hid (away_own hown5 (by rw [← HN5.out]; exact hfp) HF.out (by omega)))).mono ?_); rintro e w6 ⟨rfl, fs6, hst6, hD6, m6, hF6⟩)))
  have hC6 := (HC.out.all hS5).mod m6 HBL.out HGL.out
  have hE6 : Blk w6 (w.heap.size + 1) 27 #[.int .i64 0] := m6.blk (Blk.all HE.out hS5) HEL.out
  have M6 : Mod (fun b => DskF g mb fs b ∨ b = gl) w w6 := (Mod.of_below (fun b => DskF g mb fs b ∨ b = gl) (bt HB.out hS5)).trans m6 (fun b hb => .inl (.inl hb))
  have hw5 := (bt HB.out hS5).size
  have HF6 : Hid (∀ b, DskF g mb fs6 b → DskF g mb fs b ∨ w.heap.size + 2 ≤ b) := Lib.hid (fun b hb => (hF6 b hb).imp id (fun h => by
    have h1 := hS5.size
    have h2 := Blk.lt HE.out
    omega))
  obtain ⟨k0, k1, k2, k3⟩ := hC6.keep
  clear hown5 hS4 hS5 m6 hF6 hz4
  go_wp2_with fail
  refine (sync_any _ _ _ _ _ _ (Lib.hid hD6)).mono ?_
  rintro e w7 ⟨rfl, fs7, hst7, hD7, m7, hF7⟩
  rw [HO2.out] at hst7 hD7 ⊢
  have hgl6 : ¬ DskF g mb fs6 gl := fun h => (HF6.out _ h).elim HGL.out (by omega)
  have hbl6 : ¬ DskF g mb fs6 w.heap.size := fun h => (HF6.out _ h).elim HBL.out (by omega)
  have hel6 : ¬ DskF g mb fs6 (w.heap.size + 1) := fun h => (HF6.out _ h).elim HEL.out (by omega)
  have hC7 := hC6.mod m7 hbl6 hgl6
  have hE7 := m7.blk hE6 hel6
  have M7 : Mod (fun b => DskF g mb fs b ∨ b = gl) w w7 := M6.trans m7 (fun b hb => (HF6.out b hb).imp .inl (fun h => by omega))
  have HF7 : Hid (∀ b, DskF g mb fs7 b → DskF g mb fs b ∨ w.heap.size + 2 ≤ b) := Lib.hid (fun b hb => (hF7 b hb).elim (HF6.out b) (fun h => .inr (by
    have := M6.size
    have := Blk.lt hE6
    omega)))
  have hst : fs7.map Fl.log = st := by rw [hst7, ← hst6]; rfl
  have e0 : w7.cell? ⟨w.heap.size + 1, 0, none⟩ = some (.int .i64 0) := hE7.cell 0
  have e1 : w7.frozen? ⟨w.heap.size + 1, 0, none⟩ = false := hE7.frozen 0
  have hE9 := Blk.set_ hE7 0 (.int .i64 23)
  have hC9 := hC7.mod ((Mod.refl (fun b => b = w.heap.size + 1) w7).set (p := ⟨w.heap.size + 1, 0, none⟩) (.inl rfl) (.int .i64 23)) (by omega) (by omega)
  have ma : Mod (fun b => b = gl ∨ b = w.heap.size + 1) w7 ((w7.setCell ⟨w.heap.size + 1, 0, none⟩ (.int .i64 23)).setCell ⟨gl, 3, none⟩ (.bool false)) := ((Mod.refl (fun b => b = gl ∨ b = w.heap.size + 1) w7).set (p := ⟨w.heap.size + 1, 0, none⟩) (.inl (.inr rfl)) _).set (p := ⟨gl, 3, none⟩) (.inl (.inl rfl)) _
  have HNX : Hid (LogNext gl g mb room num true (failPlan (failPlan plan)) len false fs st w ((w7.setCell ⟨w.heap.size + 1, 0, none⟩ (.int .i64 23)).setCell ⟨gl, 3, none⟩ (.bool false))) := Lib.hid ⟨fs7, hst, hD7.mod ma (by
    rintro b hb (rfl | rfl)
    · exact (HF7.out _ hb).elim HGL.out (by omega)
    · exact (HF7.out _ hb).elim HEL.out (by omega)), by simpa [LogAt] using Blk.set_ hC9.log 3 (.bool false), M7.trans ma (by
    rintro b (rfl | rfl)
    · exact .inl (.inr rfl)
    · exact .inr (by omega)), fun b hb => (HF7.out b hb).imp id (fun h => by omega)⟩
  have HC9 := Lib.hid hC9
  have HE9 := Lib.hid hE9
  have HER := Lib.hid (Blk.far (p := ⟨gl, 3, none⟩) hE9 (by simp; omega) (.bool false))
  clear hC6 hE6 M6 hD6 hst6 hD7 m7 hF7 hst7 hC7 hE7 M7 hst ma k0 k1 k2 k3 hgl6 hbl6 hel6 hC9 hE9
  go_wp2
  refine leaves_cons (f := 38) (args := #[.pointer (some ⟨w.heap.size + 1, 0, none⟩), .pointer (some ⟨w.heap.size, 0, none⟩)]) (by simp) (by simp [go_sem]) ?_
  obtain ⟨-, -, -, g3, -, g4⟩ := HC9.out.log.cells
  refine (door_yes (w.heap.size + 1) w.heap.size gl .returning _ _ (HE9.out.cell 0) (Blk.cell HC9.out.box 0) g3 g4).mono ?_
  rintro e u' w'' ⟨rfl, rfl, rfl⟩
  have hc := HER.out.cell 0
  simp at hc
  refine ⟨.int .i64 23, ?_, rfl, HNX.out⟩
  simp [results, Tryz.results15, go_sem, hc]
end Go.Proofs.YtgjbbobphfejoaaGreatDoor

/- disk: Files. -/
namespace Go.Proofs.YtgjbbobphfejoaaGreatDoor
open Go.RowKit Go.Maps Go.Sort Go.Shelf Go.WideElems Go.ChangeShapes Go.WideShapes Go.MapKept

theorem insert_perm {H : Type} (x : Lit × DataW H) (l : List (Lit × DataW H)) : (DataW.insert x l).Perm (x :: l) := by
  induction l with
  | nil => exact List.Perm.refl _
  | cons y r ih =>
    unfold DataW.insert
    split
    · exact List.Perm.refl _
    · exact (ih.cons y).trans (List.Perm.swap x y r)
theorem fold_perm {H : Type} (l : List (Lit × DataW H)) : (l.foldr DataW.insert []).Perm l := by
  induction l with
  | nil => exact List.Perm.refl _
  | cons x l ih => exact (insert_perm x _).trans (ih.cons x)
/-- How a value reads of which nothing is asked. -/
def anyElem (_ : Value) : Option (DataW Unit × List MemPlace) := some (.lit (.bool true), [])
theorem IMap.owns {P : Program} {w : World} {b : Nat} {es : List (Int × Value)} {k : TypeId} (h : IMap w b es) (hk : P.underlying k = some (.int .i64)) (hw : ∀ p ∈ es, -9223372036854775808 ≤ p.1 ∧ p.1 ≤ 9223372036854775807) (hs : es.length ≤ 1000000) :
    ∃ D0 : DataW Unit, w.ownsMap P k anyElem b es.length D0 ∧ (intKeys D0).Perm (es.map Prod.fst) ∧ Maps.size D0 = es.length := by
  obtain ⟨l, c, hb, hl, hn, hbn, hbc⟩ := h
  have hlen : l.length = es.length := by have := congrArg List.length hl; simpa using this
  have hrd : ∀ x ∈ l, ∃ n : Int, (n ∈ es.map Prod.fst) ∧ x.key = .int .i64 n ∧ WideElems.rd P k anyElem x = some (.int .i64 n, .lit (.bool true)) := by
    intro x hx
    have hm : (x.key, x.val) ∈ l.map (fun e => (e.key, e.val)) := List.mem_map.2 ⟨x, hx, rfl⟩
    rw [hl] at hm
    obtain ⟨p, hp, he⟩ := List.mem_map.1 hm
    injection he with he1 he2
    have hq := hw p hp
    have hwf : (Lit.int .i64 p.1).wf = true := by
      simp [Lit.wf, IntKind.min, IntKind.max, IntKind.signed, IntKind.bits]
      omega
    refine ⟨p.1, List.mem_map.2 ⟨p, hp, rfl⟩, he1.symm, ?_⟩
    unfold WideElems.rd
    rw [← he1, keyOf_int_mk hk hwf]
    rfl
  have hkeys : l.map (·.key) = (es.map Prod.fst).map (Value.int .i64) := by
    have := congrArg (List.map Prod.fst) hl
    simpa [List.map_map, Function.comp_def] using this
  refine ⟨.map ((l.map (rg P k anyElem)).foldr DataW.insert []), ⟨l.toArray, c, hb, ⟨by simp [maxLen]; omega, ⟨by simpa using hbc, by simpa using hbn, ?_⟩, ?_⟩, by simp [hlen], by simp⟩, ?_, ?_⟩
  · simp only []
    rw [hkeys]
    exact List.Pairwise.map _ (fun a b (hab : a ≠ b) e => hab (by injection e)) hn
  · intro x hx
    obtain ⟨n, -, -, h⟩ := hrd x (by simpa using hx)
    exact ⟨_, h⟩
  · have h1 : (intKeys (DataW.map ((l.map (rg P k anyElem)).foldr DataW.insert []))).Perm ((l.map (rg P k anyElem)).map fun p => Go.intOf p.1) := (fold_perm _).map _
    refine h1.trans ?_
    have h2 : (l.map (rg P k anyElem)).map (fun p => Go.intOf p.1) = es.map Prod.fst := by
      have h3 : l.map (fun x => RowKit.intOf x.key) = es.map Prod.fst := by
        have := congrArg (List.map RowKit.intOf) hkeys
        simpa [List.map_map, Function.comp_def, RowKit.intOf] using this
      rw [← h3, List.map_map]
      apply List.map_congr_left
      intro x hx
      obtain ⟨n, -, h4, h5⟩ := hrd x hx
      simp only [Function.comp]
      unfold rg
      rw [h5, h4]
      rfl
    rw [h2]
  · rw [Maps.size_eq, (fold_perm _).length_eq, List.length_map, hlen]
/-- slices.Sort's two contracts. -/
theorem sortsA (m : Nat) : AnyZI.SortsIn Tryz.prog Tryz.sortedA_ren Fence.wide m :=
  ⟨fun blk off cap ss W hH hblk hsz => callsIn_wide.2 (AnyM.slices_Sort_int Tryz.sortA blk off cap ss W hH hblk hsz),
   fun p cap W => callsIn_wide.2 (AnyM.slices_Sort_int_none Tryz.sortA p cap W)⟩
/-- The numbers of the files. -/
def FilesPost (fs : List Fl) (w : World) (e : Ending) (w' : World) : Prop := ∃ (A : Option Addr) (c : Nat) (ns : List Int), e = .returned (.slice A ns.length c) ∧ ns.Perm (fs.map Fl.num) ∧ w'.ownsRow w.heap.size 3 1 (.slice A ns.length c) ns.length (ns.map (Value.int .i64)) ∧ Below w.heap.size w w'
set_option maxHeartbeats 1000000 in
theorem files_any (g mb room : Nat) (off : Bool) (plan : Int) (fs : List Fl) (w : World) (HD : Hid (DskAt w g mb room off plan fs)) (hl : fs.length ≤ 12) (hn : ∀ f ∈ fs, 0 ≤ f.num ∧ f.num < 64) :
    Calls Tryz.prog 44 #[.pointer (some ⟨g, 0, none⟩)] w (FilesPost fs w) := by
  obtain ⟨-, -, c2, -⟩ := HD.out.dcells
  obtain ⟨D0, hown, hperm, hsz⟩ := IMap.owns HD.out.map Tryz.underlying3 (fun p hp => by
    obtain ⟨f, hf, rfl⟩ := List.mem_map.1 hp
    have := hn f hf
    exact ⟨by omega, by omega⟩) (by simp; omega)
  rw [List.length_map] at hsz
  have hbl := HD.out.map.lt
  refine (callsIn_wide (n := 6)).1 ?_
  have hseq : SeqGives Fence.wide 2 Tryz.prog 148 #[.pointer (some ⟨w.heap.size, 0, none⟩)] encZ (fun ss => ss.Perm (intKeys D0)) (Maps.size D0) (w.alloc (.cells #[.map (some mb)] 91)) :=
    AnyZI.keys_gives (ρ := Tryz.keysA_ren) { Tryz.keysA with } Fence.wide _ trivial rfl (by omega) w.heap.size mb _ D0 _ (by simp) (by simp) (by
      obtain ⟨es, clock, hb, Ft, hs, hD⟩ := hown
      exact ⟨es, clock, (Below.heap_alloc _ _ mb hbl).trans hb, Ft, hs, hD⟩)
  have cK : ∀ mb W, CallsIn Fence.wide 5 Tryz.prog 76 #[.map mb] W fun e w' => e = .returned (.func (.func 148) #[] #[.pointer (some ⟨W.heap.size, 0, none⟩)]) ∧ w' = W.alloc (.cells #[.map mb] 91) := fun mb W => AnyZI.keys_in Tryz.keysA Fence.wide 5 trivial rfl mb W
  have cS := AnyZI.sorted_in Tryz.sortedA Fence.wide 5 trivial trivial trivial trivial rfl (by omega) (sortsA _) (enters_of Tryz.func147 (by kernel_rfl) rfl) 148 #[.pointer (some ⟨w.heap.size, 0, none⟩)] trivial (enters_of Tryz.func148 (by kernel_rfl) rfl) _ _ (by rw [hsz]; unfold maxLen; omega) (by rw [hsz]; omega) _ hseq
  change CallsIn _ _ Tryz.prog 75 _ _ _ at cS
  have hfK : Fence.wide.fn 76 := trivial
  have hfS : Fence.wide.fn 75 := trivial
  clear hown hbl hsz
  refine callsIn_of_wp Tryz.func44 rfl trivial ?_ rfl
  simp only [Tryz.ntmps44, List.size_toArray, List.length_cons, List.length_nil, Nat.reduceAdd, Nat.reduceSub, Array.replicate_succ, Array.replicate_zero, List.push_toArray, List.append_toArray, List.nil_append, List.cons_append]
  gi_wp2_with (first
    | (gi_at_call 76; refine (cK _ _).mono ?_; rintro e w' ⟨rfl, rfl⟩)
    | (gi_at_call 75; refine cS.mono ?_; rintro e w' ⟨v, ss, rfl, hS, hrow, hnil, hb⟩))
  go_ret
  obtain ⟨A, c, rfl⟩ := own_slice hrow
  have hl2 : (ss.mergeSort fun x y => decide (x ≤ y)).length = ss.length := List.length_mergeSort _
  refine ⟨A, c, ss.mergeSort (fun x y => decide (x ≤ y)), by rw [hl2]; rfl, (List.mergeSort_perm _ _).trans ((hS.trans hperm).trans (List.Perm.of_eq (by simp))), ?_, ((Below.refl _ w).alloc (Nat.le_refl _) _).trans (hb.mono (by simp))⟩
  rw [hl2]
  exact ownsRow_base_a hrow (by simp)
end Go.Proofs.YtgjbbobphfejoaaGreatDoor

/- disk: Arm, invert. -/
namespace Go.Proofs.YtgjbbobphfejoaaGreatDoor
open Go.RowKit

theorem arm_any (g mb room : Nat) (plan n : Int) (fs : List Fl) (w : World) (HD : Hid (DskAt w g mb room false plan fs)) (hn : n ≤ 4611686018427387904) :
    Calls Tryz.prog 8 #[.pointer (some ⟨g, 0, none⟩), .int .i64 n] w fun e w' => e = .returned (.tuple #[]) ∧ DskNext g mb room false (max n (-1)) fs (fs.map Fl.log) w w' := by
  obtain ⟨c0, c1, c2, c3, c4, hf⟩ := HD.out.dcells
  have hf4 := hf 4
  have hm := (Mod.refl (fun b => b = g) w).set (p := ⟨g, 4, none⟩) (.inl rfl) (.int .i64 (max n (-1)))
  have hB := Blk.set_ HD.out.blk 4 (.int .i64 (max n (-1)))
  have HF : Hid (DskNext g mb room false (max n (-1)) fs (fs.map Fl.log) w (w.setCell ⟨g, 4, none⟩ (.int .i64 (max n (-1))))) := Lib.hid ⟨fs, rfl, HD.out.cells (off' := false) (plan' := max n (-1)) hm hB (by omega), hm.mono (fun b hb => .inl (.inl hb)), fun b hb => .inl hb⟩
  clear hf hm hB
  go_enter Tryz.func8, Tryz.ntmps8
  go_wp2
  go_end0
  exact ⟨rfl, HF.out⟩
/-- A bit of the loose bytes turned. -/
def flipAt (bs : List UInt8) (dur bit : Nat) : List UInt8 := bs.set (dur + bit / 8) (xorB (bs[dur + bit / 8]?.getD 0) (UInt8.ofNat (128 / 2 ^ (bit % 8))))
theorem one_cell {w : World} {base c : Nat} {A : Option Addr} {x : Int} (h : w.ownsRow base 3 1 (.slice A 1 c) 1 ([x].map (Value.int .i64))) : ∃ ga, A = some ⟨ga, 0, none⟩ ∧ base ≤ ga ∧ ga < w.heap.size ∧ w.cell? ⟨ga, 0, none⟩ = some (.int .i64 x) ∧ Ty w ga 3 := by
  obtain ⟨ga, rfl, h1, h2⟩ := own_some h (by decide)
  exact ⟨ga, rfl, h1, h2, (own_int h (j := 0) (by decide)).1, Ty.of_own h rfl⟩
theorem DskAt.flip {w : World} {g mb room : Nat} {off : Bool} {plan : Int} {f : Fl} (h : DskAt w g mb room off plan [f]) (fr cc : Nat) (hrv : f.rv = .slice (some ⟨fr, 0, none⟩) f.bs.length cc) (bit : Nat) :
    DskNext g mb room off plan [f] [(f.num, flipAt f.bs f.dur bit, f.dur)] w (w.setCell ⟨fr, f.dur + bit / 8, none⟩ (.int .u8 (((xorB (f.bs[f.dur + bit / 8]?.getD 0) (UInt8.ofNat (128 / 2 ^ (bit % 8)))).toNat : Nat) : Int))) := by
  have hok := h.ok f (by simp)
  have hown := hok.2.1
  rw [hrv] at hown
  have hset := own_byte_set hown (f.dur + bit / 8) (xorB (f.bs[f.dur + bit / 8]?.getD 0) (UInt8.ofNat (128 / 2 ^ (bit % 8))))
  have hFf : f.F fr := .inr (by rw [hrv]; rfl)
  have hne := h.F_ne (f := f) (by simp) fr hFf
  have hff : f.fb ≠ fr := by
    rintro rfl
    exact own_ne (by decide) hok.1 hok.2.1 (by rw [hrv]; rfl)
  have m := (Mod.refl (fun b => f.F b ∨ b = g) w).set (p := ⟨fr, f.dur + bit / 8, none⟩) (.inl (.inl hFf)) (.int .u8 (((xorB (f.bs[f.dur + bit / 8]?.getD 0) (UInt8.ofNat (128 / 2 ^ (bit % 8)))).toNat : Nat) : Int))
  obtain ⟨r1, r2, r3⟩ := DskAt.upd (l1 := []) (l2 := []) (f' := ⟨f.num, f.fb, f.rv, flipAt f.bs f.dur bit, f.dur⟩) (off' := off) (plan' := plan) h m (by
      have e : sumL ([] ++ (⟨f.num, f.fb, f.rv, flipAt f.bs f.dur bit, f.dur⟩ : Fl) :: []) = sumL [f] := by simp [sumL, flipAt]
      rw [e]
      exact Blk.far h.blk (fun e => hne.1 e.symm) _) rfl rfl ⟨Blk.far hok.1 hff _, by
        unfold flipAt
        rw [List.length_set, hrv]
        exact hset, by
        show f.dur ≤ (flipAt f.bs f.dur bit).length
        unfold flipAt
        rw [List.length_set]
        exact hok.2.2⟩ (.inl rfl) (by simpa [sumL, flipAt] using h.used_le) h.plan_le
  exact ⟨_, rfl, r1, r2, r3⟩
theorem shr_byte : ∀ r : Fin 8, ((((UInt8.ofNat (128 / 2 ^ r.val)).toNat : Nat) : Int)) = 128 / 2 ^ r.val := by decide
set_option maxRecDepth 100000 in
set_option maxHeartbeats 1000000 in
theorem invert_one (g mb room : Nat) (off : Bool) (plan : Int) (f : Fl) (bit : Nat) (bi : Int) (hbi : bi = (bit : Int)) (w : World) (HD : Hid (DskAt w g mb room off plan [f])) (h1 : 0 ≤ f.num) (h2 : f.num < 64) (hb : bit < 8 * (f.bs.length - f.dur)) :
    Calls Tryz.prog 46 #[.pointer (some ⟨g, 0, none⟩), .int .i64 bi] w fun e w' => e = .returned (.tuple #[]) ∧ DskNext g mb room off plan [f] [(f.num, flipAt f.bs f.dur bit, f.dur)] w w' := by
  subst hbi
  go_enter Tryz.func46, Tryz.ntmps46
  go_wp2_with fail
  refine (files_any _ _ _ _ _ _ _ HD (by simp) (fun d hd => by simp at hd; subst hd; exact ⟨h1, h2⟩)).mono ?_
  rintro e w1 ⟨A, c, ns, rfl, hp, hown, hb1⟩
  obtain rfl : ns = [f.num] := List.perm_singleton.1 hp
  obtain ⟨ga, rfl, hga, hga2, k0, hty⟩ := one_cell hown
  have hD1 := HD.out.all hb1
  obtain ⟨c0, c1, c2, c3, c4, -⟩ := hD1.dcells
  have hrm := hD1.room_le
  have hul := hD1.used_le
  have hlk := DskAt.look hD1 f.num
  have hfnd : findF [f] f.num = some f := by simp [findF]
  rw [hfnd] at hlk
  replace hlk : (Instr.lookup 91 (.map (some mb)) (.int .i64 f.num) false).run Tryz.prog w1 = .ok (.pointer (some ⟨f.fb, 0, none⟩)) w1 := hlk
  obtain ⟨A0, cc, hrv, hne, q0, q1, q2, q3, hlc, hcc, -, -⟩ := DskAt.short (l1 := []) (l2 := []) hD1 0 (Nat.zero_le _)
  have hdl := (hD1.ok f (by simp)).2.2
  have hown := (hD1.ok f (by simp)).2.1
  rw [hrv] at hown
  obtain ⟨fr, rfl, -, hfr2⟩ := own_some hown (by omega)
  have hfl : f.bs.length ≤ sumL [f] := by simp [sumL]
  obtain ⟨hc1, hc2⟩ := own_byte hown (j := f.dur + bit / 8) (by omega)
  have hfin : ∀ k, DskNext g mb room off plan [f] [(f.num, flipAt f.bs f.dur bit, f.dur)] w ((w1.drewN k).setCell ⟨fr, f.dur + bit / 8, none⟩ (.int .u8 (bits BinOp.xor IntKind.u8 (((f.bs[f.dur + bit / 8]?.getD 0).toNat : Nat) : Int) (128 / 2 ^ (bit % 8))))) := by
    intro k
    have hx : bits BinOp.xor IntKind.u8 (((f.bs[f.dur + bit / 8]?.getD 0).toNat : Nat) : Int) (128 / 2 ^ (bit % 8)) = (((xorB (f.bs[f.dur + bit / 8]?.getD 0) (UInt8.ofNat (128 / 2 ^ (bit % 8)))).toNat : Nat) : Int) := by
      rw [← xor_u8]
      congr 1
      exact (shr_byte ⟨bit % 8, Nat.mod_lt _ (by decide)⟩).symm
    rw [hx]
    have hbk : Below w1.heap.size w1 (w1.drewN k) := below_drewN (Below.refl _ _) k
    exact ((hD1.all hbk).flip fr cc hrv bit).from (F := fun _ => False) (Mod.of_below _ (bt hb1 hbk)) (fun _ hf => hf.elim)
  have HFIN := Lib.hid hfin
  clear hfin
  generalize sumL [f] = u at *
  generalize hy : f.bs[f.dur + bit / 8]?.getD 0 = y at *
  clear hy
  clear hfnd hp
  go_wp2
  refine wp_loop_rounds 1 ?_
  rw [rounds_succ]
  go_wp2
  have hw1 := Below.refl w1.heap.size w1
  obtain ⟨n, hn⟩ : ∃ n, f.bs.length = n := ⟨_, rfl⟩
  obtain ⟨du, hdu⟩ : ∃ du, f.dur = du := ⟨_, rfl⟩
  rw [hn] at hlc hdl q0 hfl hb
  rw [hdu] at hdl q1 hc1 hc2 hb
  rw [hdu] at HFIN
  have i1 : IntKind.i64.wrap ((n : Int) - (du : Int)) = (n : Int) - (du : Int) := IntWalk.i64_in _ (by omega)
  have i2 : IntKind.i64.wrap (8 * ((n : Int) - (du : Int))) = 8 * ((n : Int) - (du : Int)) := IntWalk.i64_in _ (by omega)
  have HDU := Lib.hid hdu
  clear hn hdu hrv hown hb1
  go_quiet (fail)
  clear i1 i2
  have b1 : (bit : Int) < 8 * ((n : Int) - (du : Int)) := by omega
  go_wp2
  have b2 : (bit : Int) / 8 < (n : Int) - (du : Int) := by omega
  have i3 : IntKind.i64.wrap ((du : Int) + (bit : Int) / 8) = (du : Int) + (bit : Int) / 8 := IntWalk.i64_in _ (by omega)
  go_region
  clear i3
  go_wp2
  refine bodyPost_ret (results_none rfl _ _ _) rfl ?_
  rw [HDU.out]
  exact ⟨rfl, HFIN.out _⟩
end Go.Proofs.YtgjbbobphfejoaaGreatDoor
