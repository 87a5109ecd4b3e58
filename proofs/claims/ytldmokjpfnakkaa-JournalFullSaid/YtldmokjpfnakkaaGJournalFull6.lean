/- Part 6 of the texts that JournalFull needs: Dsk DskOps DskApp DskRead DskSync JrnLog JrnLog2 JrnOpen JrnMore JrnFullI. -/
import Derived.Deep.QuietTactic
import Derived.BigQuiet
import Derived.Defers
import Derived.Test.YtldmokjpfnakkaaGJournalFull5

/- disk: a disk in memory. -/
namespace Go.Proofs.Ytldmokjpfnakkaa
open Go.RowKit

/-- A file: its number, its block, its slice, its bytes, how many are durable. -/
structure Fl where
  num : Int
  fb : Nat
  rv : Value
  bs : List UInt8
  dur : Nat
def Fl.ok (w : World) (f : Fl) : Prop :=
  Blk w f.fb 94 #[f.rv, .int .i64 (f.dur : Int)] ∧ w.ownsRow 0 5 1 f.rv f.bs.length (f.bs.map fun b => Value.int .u8 ((b.toNat : Nat) : Int)) ∧ f.dur ≤ f.bs.length
def Fl.F (f : Fl) (b : Nat) : Prop := b = f.fb ∨ f.rv.ownBlock = some b
def Fl.ptr (f : Fl) : Value := .pointer (some ⟨f.fb, 0, none⟩)
def Fl.log (f : Fl) : Int × List UInt8 × Nat := (f.num, f.bs, f.dur)
def FApart (c d : Fl) : Prop := ∀ b, c.F b → ¬ d.F b
def sumL (fs : List Fl) : Nat := (fs.map fun f => f.bs.length).sum
def diskCells (room used mb : Nat) (off : Bool) (plan : Int) : Array Value := #[.int .i64 (room : Int), .int .i64 (used : Int), .map (some mb), .bool off, .int .i64 plan]
structure DskAt (w : World) (g mb room : Nat) (off : Bool) (plan : Int) (fs : List Fl) : Prop where
  blk : Blk w g 90 (diskCells room (sumL fs) mb off plan)
  map : IMap w mb (fs.map fun f => (f.num, f.ptr))
  ok : ∀ f ∈ fs, f.ok w
  apart : fs.Pairwise FApart
  room_le : room ≤ 16777216
  used_le : sumL fs ≤ room
  plan_le : -1 ≤ plan ∧ plan ≤ 4611686018427387904
def DskF (g mb : Nat) (fs : List Fl) (b : Nat) : Prop := b = g ∨ b = mb ∨ ∃ f ∈ fs, f.F b
section
variable {w w' : World} {g mb room : Nat} {off : Bool} {plan : Int} {fs : List Fl} {F : Nat → Prop} {f : Fl}
theorem sumL_append (a b : List Fl) : sumL (a ++ b) = sumL a + sumL b := by simp [sumL]
theorem sumL_cons (a : Fl) (b : List Fl) : sumL (a :: b) = a.bs.length + sumL b := by simp [sumL]
theorem Fl.ok.mod (h : f.ok w) (m : Mod F w w') (hF : ∀ b, f.F b → ¬ F b) : f.ok w' := ⟨m.blk h.1 (hF _ (.inl rfl)), m.own h.2.1 (fun b hb => hF b (.inr hb)), h.2.2⟩
theorem Fl.ok.ltF (h : f.ok w) : ∀ b, f.F b → b < w.heap.size := by
  rintro b (rfl | hb)
  · exact h.1.lt
  · exact (h.2.1.lt b hb).2
theorem DskAt.mod (h : DskAt w g mb room off plan fs) (m : Mod F w w') (hF : ∀ b, DskF g mb fs b → ¬ F b) : DskAt w' g mb room off plan fs :=
  ⟨m.blk h.blk (hF _ (.inl rfl)), h.map.mod m (hF _ (.inr (.inl rfl))), fun c hc => (h.ok c hc).mod m (fun b hb => hF b (.inr (.inr ⟨c, hc, hb⟩))), h.apart, h.room_le, h.used_le, h.plan_le⟩
theorem DskAt.all (h : DskAt w g mb room off plan fs) (m : Below w.heap.size w w') : DskAt w' g mb room off plan fs := h.mod (F := fun _ => False) (Mod.of_below _ m) (fun _ _ hf => hf)
theorem DskAt.ltF (h : DskAt w g mb room off plan fs) : ∀ b, DskF g mb fs b → b < w.heap.size := by
  rintro b (rfl | rfl | ⟨c, hc, hb⟩)
  · exact h.blk.lt
  · exact h.map.lt
  · exact (h.ok c hc).ltF b hb
theorem DskAt.F_ne (h : DskAt w g mb room off plan fs) (hc : f ∈ fs) : ∀ b, f.F b → b ≠ g ∧ b ≠ mb := by
  rintro b hb
  refine ⟨?_, ?_⟩
  · rintro rfl
    rcases hb with e | e
    · have := (h.ok f hc).1.ty
      rw [← e] at this
      exact absurd (Ty.unique h.blk.ty this) (by decide)
    · exact absurd (Ty.unique h.blk.ty (Ty.of_own (h.ok f hc).2.1 e)) (by decide)
  · rintro rfl
    rcases hb with e | e
    · have := (h.ok f hc).1.ty
      rw [← e] at this
      exact h.map.not_ty this
    · exact h.map.not_ty (Ty.of_own (h.ok f hc).2.1 e)
theorem DskAt.gm (h : DskAt w g mb room off plan fs) : g ≠ mb := by
  rintro rfl
  exact h.map.not_ty h.blk.ty
/-- The disk's own cells turn. -/
theorem DskAt.cells {off' : Bool} {plan' : Int} (h : DskAt w g mb room off plan fs) (m : Mod (fun b => b = g) w w') (hblk : Blk w' g 90 (diskCells room (sumL fs) mb off' plan')) (hp : -1 ≤ plan' ∧ plan' ≤ 4611686018427387904) : DskAt w' g mb room off' plan' fs :=
  ⟨hblk, h.map.mod m (fun e => h.gm e.symm), fun c hc => (h.ok c hc).mod m (fun b hb e => (h.F_ne hc b hb).1 e), h.apart, h.room_le, h.used_le, hp⟩
/-- One file turns, and the disk's own cells. -/
theorem DskAt.upd {l1 l2 : List Fl} {f' : Fl} {off' : Bool} {plan' : Int} (h : DskAt w g mb room off plan (l1 ++ f :: l2)) (m : Mod (fun b => f.F b ∨ b = g) w w') (hblk : Blk w' g 90 (diskCells room (sumL (l1 ++ f' :: l2)) mb off' plan'))
    (hid : f'.num = f.num) (hfb : f'.fb = f.fb) (hok : f'.ok w') (hrv : f'.rv.ownBlock = f.rv.ownBlock ∨ ∀ b, f'.rv.ownBlock = some b → w.heap.size ≤ b) (hu : sumL (l1 ++ f' :: l2) ≤ room) (hp : -1 ≤ plan' ∧ plan' ≤ 4611686018427387904) :
    DskAt w' g mb room off' plan' (l1 ++ f' :: l2) ∧ Mod (DskF g mb (l1 ++ f :: l2)) w w' ∧ ∀ b, DskF g mb (l1 ++ f' :: l2) b → DskF g mb (l1 ++ f :: l2) b ∨ w.heap.size ≤ b := by
  have hcm : f ∈ l1 ++ f :: l2 := by simp
  have hF' : ∀ b, f'.F b → f.F b ∨ w.heap.size ≤ b := by
    rintro b (e | e)
    · exact .inl (.inl (e.trans hfb))
    · rcases hrv with hr | hr
      · exact .inl (.inr (hr ▸ e))
      · exact .inr (hr b e)
  have hap := h.apart
  rw [List.pairwise_append, List.pairwise_cons] at hap
  obtain ⟨p1, ⟨p2, p3⟩, p4⟩ := hap
  have hmem : ∀ d ∈ l1 ++ l2, d ∈ l1 ++ f :: l2 := by
    intro d hd
    rcases List.mem_append.1 hd with hd | hd <;> simp [hd]
  have far : ∀ d ∈ l1 ++ l2, ∀ b, d.F b → ¬ f.F b := by
    intro d hd b hb hc
    rcases List.mem_append.1 hd with hd | hd
    · exact p4 d hd f (by simp) b hb hc
    · exact p2 d hd b hc hb
  have far2 : ∀ d ∈ l1 ++ l2, ∀ b, d.F b → ¬ (f.F b ∨ b = g) := by
    intro d hd b hb hc
    rcases hc with hc | hc
    · exact far d hd b hb hc
    · exact (h.F_ne (hmem d hd) b hb).1 hc
  have far' : ∀ d ∈ l1 ++ l2, ∀ b, d.F b → ¬ f'.F b := by
    intro d hd b hb hc
    rcases hF' b hc with e | e
    · exact far d hd b hb e
    · have := (h.ok d (hmem d hd)).ltF b hb
      omega
  refine ⟨⟨hblk, ?_, ?_, ?_, h.room_le, hu, hp⟩, m.mono (fun b hb => hb.elim (fun hb => .inl (.inr (.inr ⟨f, hcm, hb⟩))) (fun hb => .inl (.inl hb))), ?_⟩
  · have hm := h.map.mod m (fun hf => hf.elim (fun hf => (h.F_ne hcm _ hf).2 rfl) (fun hf => h.gm hf.symm))
    have e : (l1 ++ f' :: l2).map (fun c => (c.num, c.ptr)) = (l1 ++ f :: l2).map (fun c => (c.num, c.ptr)) := by simp [Fl.ptr, hid, hfb]
    rw [e]
    exact hm
  · intro d hd
    rw [List.mem_append, List.mem_cons] at hd
    rcases hd with hd | rfl | hd
    · exact (h.ok d (hmem d (by simp [hd]))).mod m (far2 d (by simp [hd]))
    · exact hok
    · exact (h.ok d (hmem d (by simp [hd]))).mod m (far2 d (by simp [hd]))
  · rw [List.pairwise_append, List.pairwise_cons]
    refine ⟨p1, ⟨fun d hd b hb hc => far' d (by simp [hd]) b hc hb, p3⟩, fun d hd e he => ?_⟩
    rw [List.mem_cons] at he
    rcases he with rfl | he
    · exact fun b hb hc => far' d (by simp [hd]) b hb hc
    · exact p4 d hd e (by simp [he])
  · rintro b (e | e | ⟨d, hd, hb⟩)
    · exact .inl (.inl e)
    · exact .inl (.inr (.inl e))
    · rw [List.mem_append, List.mem_cons] at hd
      rcases hd with hd | rfl | hd
      · exact .inl (.inr (.inr ⟨d, by simp [hd], hb⟩))
      · rcases hF' b hb with e | e
        · exact .inl (.inr (.inr ⟨f, hcm, e⟩))
        · exact .inr e
      · exact .inl (.inr (.inr ⟨d, by simp [hd], hb⟩))
/-- A file is added. -/
theorem DskAt.add {w1 : World} (h : DskAt w g mb room off plan fs) (m : Mod (fun b => b = mb) w w1) (hmap : IMap w1 mb ((fs ++ [f]).map fun c => (c.num, c.ptr))) (hok : f.ok w1) (hnew : ∀ b, f.F b → w.heap.size ≤ b) (h0 : f.bs = []) :
    DskAt w1 g mb room off plan (fs ++ [f]) := by
  have hs : sumL (fs ++ [f]) = sumL fs := by simp [sumL, h0]
  refine ⟨by rw [hs]; exact m.blk h.blk h.gm, hmap, ?_, ?_, h.room_le, by rw [hs]; exact h.used_le, h.plan_le⟩
  · intro d hd
    rcases List.mem_append.1 hd with hd | hd
    · exact (h.ok d hd).mod m (fun b hb e => (h.F_ne hd b hb).2 e)
    · simp at hd
      subst hd
      exact hok
  · rw [List.pairwise_append]
    refine ⟨h.apart, by simp, fun d hd e he b hb hc => ?_⟩
    simp at he
    subst he
    have := hnew b hc
    have := (h.ok d hd).ltF b hb
    omega
end
def findF (fs : List Fl) (num : Int) : Option Fl := fs.find? fun f => f.num == num
theorem lookup_findF (fs : List Fl) (num : Int) : (fs.map fun f => (f.num, f.ptr)).lookup num = (findF fs num).map Fl.ptr := by
  induction fs with
  | nil => rfl
  | cons c fs ih =>
    unfold findF at ih ⊢
    by_cases h : num = c.num
    · simp [h]
    · have h' : ¬ c.num = num := fun e => h e.symm
      simp [List.lookup, beq_false_of_ne h, beq_false_of_ne h', ih]
theorem findF_split {fs : List Fl} {num : Int} {f : Fl} (h : findF fs num = some f) : ∃ l1 l2, fs = l1 ++ f :: l2 ∧ f.num = num := by
  unfold findF at h
  have h1 := List.find?_some h
  obtain ⟨l1, l2, h2⟩ := List.append_of_mem (List.mem_of_find?_eq_some h)
  exact ⟨l1, l2, h2, by simpa using h1⟩
theorem infoFile : ∃ i, Try.prog.info? 92 = some i ∧ i.zero = some (.pointer none) := by
  have h : (Try.prog.info? 92).map (fun i => i.zero) = some (some (.pointer none)) := by kernel_rfl
  obtain ⟨i, hi, hz⟩ := Option.map_eq_some_iff.1 h
  exact ⟨i, hi, hz⟩
theorem DskAt.look {w : World} {g mb room : Nat} {off : Bool} {plan : Int} {fs : List Fl} (h : DskAt w g mb room off plan fs) (num : Int) : (Instr.lookup 88 (.map (some mb)) (.int .i64 num) false).run Try.prog w = .ok (((findF fs num).map Fl.ptr).getD (.pointer none)) w := by
  obtain ⟨i, hi, hz⟩ := infoFile
  rw [IMap.look h.map Try.underlying88 Try.underlying3 hi hz num, lookup_findF]
theorem DskAt.look2 {w : World} {g mb room : Nat} {off : Bool} {plan : Int} {fs : List Fl} (h : DskAt w g mb room off plan fs) (num : Int) : (Instr.lookup 88 (.map (some mb)) (.int .i64 num) true).run Try.prog w = .ok (.tuple #[((findF fs num).map Fl.ptr).getD (.pointer none), .bool (findF fs num).isSome]) w := by
  obtain ⟨i, hi, hz⟩ := infoFile
  rw [IMap.look2 h.map Try.underlying88 Try.underlying3 hi hz num, lookup_findF, Option.isSome_map]
theorem dblk5 {w : World} {g : Nat} {t : TypeId} {a b c d e : Value} (h : Blk w g t #[a, b, c, d, e]) : w.cell? ⟨g, 0, none⟩ = some a ∧ w.cell? ⟨g, 1, none⟩ = some b ∧ w.cell? ⟨g, 2, none⟩ = some c ∧ w.cell? ⟨g, 3, none⟩ = some d ∧ w.cell? ⟨g, 4, none⟩ = some e ∧ ∀ i, w.frozen? ⟨g, i, none⟩ = false :=
  ⟨h.cell 0, h.cell 1, h.cell 2, h.cell 3, h.cell 4, h.frozen⟩
end Go.Proofs.Ytldmokjpfnakkaa

/- disk: New, isFile, Used, fails, Append, Read. -/
namespace Go.Proofs.Ytldmokjpfnakkaa
open Go.RowKit

theorem DskAt.dcells {w : World} {g mb room : Nat} {off : Bool} {plan : Int} {fs : List Fl} (h : DskAt w g mb room off plan fs) : w.cell? ⟨g, 0, none⟩ = some (.int .i64 (room : Int)) ∧ w.cell? ⟨g, 1, none⟩ = some (.int .i64 ((sumL fs : Nat) : Int)) ∧ w.cell? ⟨g, 2, none⟩ = some (.map (some mb)) ∧ w.cell? ⟨g, 3, none⟩ = some (.bool off) ∧ w.cell? ⟨g, 4, none⟩ = some (.int .i64 plan) ∧ ∀ i, w.frozen? ⟨g, i, none⟩ = false :=
  dblk5 h.blk
theorem isFile_yes (n : Int) (w : World) (h1 : 0 ≤ n) (h2 : n < 64) : Calls Try.prog 55 #[.int .i64 n] w fun e w' => e = .returned (.bool true) ∧ w = w' := by
  go_enter Try.func55, Try.ntmps55
  go_wp2
  go_ret
  exact ⟨rfl, rfl⟩
theorem isFile_no (n : Int) (w : World) (h : n < 0 ∨ 64 ≤ n) : Calls Try.prog 55 #[.int .i64 n] w fun e w' => e = .returned (.bool false) ∧ w = w' := by
  by_cases h1 : 0 ≤ n
  · have h2 : 64 ≤ n := by omega
    have h3 : decide (n < 64) = false := by simpa using h2
    go_enter Try.func55, Try.ntmps55
    go_wp2
    go_ret
    exact ⟨rfl, rfl⟩
  · have h2 : n < 0 := by omega
    have h3 : decide (0 ≤ n) = false := by simpa using h2
    go_enter Try.func55, Try.ntmps55
    go_wp2
    go_ret
    exact ⟨rfl, rfl⟩
theorem used_any (g mb room : Nat) (off : Bool) (plan : Int) (fs : List Fl) (w : World) (HD : Hid (DskAt w g mb room off plan fs)) :
    Calls Try.prog 31 #[.pointer (some ⟨g, 0, none⟩)] w fun e w' => e = .returned (.int .i64 ((sumL fs : Nat) : Int)) ∧ w = w' := by
  obtain ⟨-, h1, -⟩ := HD.out.dcells
  go_enter Try.func31, Try.ntmps31
  go_wp2
  go_ret
  exact ⟨rfl, rfl⟩
def NewPost (room : Nat) (w : World) (e : Ending) (w' : World) : Prop := ∃ g mb, e = .returned (.tuple #[.pointer (some ⟨g, 0, none⟩), .int .i64 0]) ∧ w.heap.size ≤ g ∧ w.heap.size ≤ mb ∧ DskAt w' g mb room false (-1) [] ∧ Below w.heap.size w w'
/-- A new disk. -/
theorem newDisk_any (room : Nat) (ri : Int) (hri : ri = (room : Int)) (w : World) (hr : room ≤ 16777216) :
    Calls Try.prog 50 #[.int .i64 ri] w (NewPost room w) := by
  subst hri
  have hmm := @run_makeMap Try.prog
  go_enter Try.func50, Try.ntmps50
  have h1 : ¬ ((room : Int) < 0) := by omega
  have h2 : ¬ ((16777216 : Int) < (room : Int)) := by omega
  go_wp2
  go_ret2
  have hB := Blk.new (w.alloc (.map #[] 0)) 90 (diskCells room 0 w.heap.size false (-1))
  rw [World.size_alloc] at hB
  have hM := (IMap.new w).all ((Below.refl _ (w.alloc (.map #[] 0))).alloc (Nat.le_refl _) (.cells (diskCells room 0 w.heap.size false (-1)) 90))
  exact ⟨w.heap.size + 1, w.heap.size, rfl, by omega, Nat.le_refl _, ⟨hB, hM, fun _ h => absurd h (by simp), by simp, hr, Nat.zero_le _, by omega⟩, ((Below.refl _ w).alloc (Nat.le_refl _) _).alloc (by simp) _⟩
/-- What a step leaves: whether the power is off, and the plan. -/
def failOff (off : Bool) (plan : Int) : Bool := off || plan == 0
def failPlan (plan : Int) : Int := if 0 ≤ plan then plan - 1 else plan
theorem fails_any (g mb room : Nat) (off : Bool) (plan : Int) (fs : List Fl) (w : World) (HD : Hid (DskAt w g mb room off plan fs)) :
    Calls Try.prog 56 #[.pointer (some ⟨g, 0, none⟩)] w fun e w' => e = .returned (.bool (failOff off plan)) ∧ DskAt w' g mb room (failOff off plan) (failPlan plan) fs ∧ Mod (fun b => b = g) w w' := by
  obtain ⟨c0, c1, c2, c3, c4, hf⟩ := HD.out.dcells
  have hf3 := hf 3
  have hf4 := hf 4
  have hp := HD.out.plan_le
  clear hf
  by_cases h0 : plan = 0
  · subst h0
    have HO := Lib.hid (show failOff off 0 = true by simp [failOff])
    have HP := Lib.hid (show failPlan 0 = -1 by simp [failPlan])
    have hm := ((Mod.refl (fun b => b = g) w).set (p := ⟨g, 3, none⟩) (.inl rfl) (.bool true)).set (p := ⟨g, 4, none⟩) (.inl rfl) (.int .i64 (-1))
    have hB := Blk.set_ (Blk.set_ HD.out.blk 3 (.bool true)) 4 (.int .i64 (-1))
    have HF := Lib.hid (HD.out.cells (off' := true) (plan' := -1) hm hB (by omega))
    have HM := Lib.hid hm
    clear hm hB
    go_enter Try.func56, Try.ntmps56
    go_wp2
    go_ret
    rw [HO.out, HP.out]
    exact ⟨rfl, HF.out, HM.out⟩
  · have h0' : (plan == 0) = false := by simpa using h0
    have HO := Lib.hid (show failOff off plan = off by simp [failOff, h0'])
    by_cases h1 : 0 ≤ plan
    · have HP := Lib.hid (show failPlan plan = plan - 1 by simp [failPlan, h1])
      have hm := (Mod.refl (fun b => b = g) w).set (p := ⟨g, 4, none⟩) (.inl rfl) (.int .i64 (plan - 1))
      have hB := Blk.set_ HD.out.blk 4 (.int .i64 (plan - 1))
      have HF := Lib.hid (HD.out.cells (off' := off) (plan' := plan - 1) hm hB (by omega))
      have HM := Lib.hid hm
      obtain ⟨hp1, hp2⟩ := hp
      clear hm hB h0
      go_enter Try.func56, Try.ntmps56
      go_wp2
      go_ret
      rw [HO.out, HP.out]
      exact ⟨rfl, HF.out, HM.out⟩
    · have HP := Lib.hid (show failPlan plan = plan by simp [failPlan, h1])
      have h2 : plan < 0 := by omega
      clear h0 h1
      go_enter Try.func56, Try.ntmps56
      go_wp2
      go_ret
      rw [HO.out, HP.out]
      exact ⟨rfl, HD.out, Mod.refl _ _⟩
end Go.Proofs.Ytldmokjpfnakkaa

/- disk: Append, Read. -/
namespace Go.Proofs.Ytldmokjpfnakkaa
open Go.RowKit

/-- The disk after a call: its files read as st. -/
def DskNext (g mb room : Nat) (off' : Bool) (plan' : Int) (fs : List Fl) (st : List (Int × List UInt8 × Nat)) (w w' : World) : Prop :=
  ∃ fs', fs'.map Fl.log = st ∧ DskAt w' g mb room off' plan' fs' ∧ Mod (DskF g mb fs) w w' ∧ ∀ b, DskF g mb fs' b → DskF g mb fs b ∨ w.heap.size ≤ b
theorem DskAt.grow {w : World} {g mb room : Nat} {off : Bool} {plan : Int} {l1 l2 : List Fl} {f : Fl} (h : DskAt w g mb room off plan (l1 ++ f :: l2)) (A : Option Addr) (n c : Nat) (xs : List UInt8) (hx : xs.length = n) (hR : Rd w w.heap.size A n (vByte xs)) (hroom : sumL (l1 ++ f :: l2) + n ≤ room) :
    ∃ A0 n0 c0 A3 n3 c3 w3, f.rv = .slice A0 n0 c0 ∧ w.cell? ⟨f.fb, 0, none⟩ = some (.slice A0 n0 c0) ∧ Hid ((Builtin.append_ #[23, 23] 23 #[.slice A0 n0 c0, .slice A n c]).run Try.prog w = .ok (.slice A3 n3 c3) w3) ∧
      w3.cell? ⟨f.fb, 0, none⟩ = some (.slice A0 n0 c0) ∧ w3.frozen? ⟨f.fb, 0, none⟩ = false ∧
      (w3.setCell ⟨f.fb, 0, none⟩ (.slice A3 n3 c3)).cell? ⟨g, 1, none⟩ = some (.int .i64 ((sumL (l1 ++ f :: l2) : Nat) : Int)) ∧ (w3.setCell ⟨f.fb, 0, none⟩ (.slice A3 n3 c3)).frozen? ⟨g, 1, none⟩ = false ∧
      Hid (DskNext g mb room off plan (l1 ++ f :: l2) (l1.map Fl.log ++ (f.num, f.bs ++ xs, f.dur) :: l2.map Fl.log) w ((w3.setCell ⟨f.fb, 0, none⟩ (.slice A3 n3 c3)).setCell ⟨g, 1, none⟩ (.int .i64 ((sumL (l1 ++ f :: l2) : Nat) + (n : Int))))) := by
  have hfm : f ∈ l1 ++ f :: l2 := by simp
  have hok := h.ok f hfm
  obtain ⟨A0, c0, hrv⟩ := own_slice hok.2.1
  have hown := hok.2.1
  have hrm := h.room_le
  have hul := h.used_le
  have hfl : f.bs.length ≤ sumL (l1 ++ f :: l2) := by rw [sumL_append, sumL_cons]; omega
  obtain ⟨i0, hi, hz0, hz1, hz2⟩ := info_parts info_u8
  obtain ⟨v', w3, hap, hown3, hg, ho⟩ := run_append_rd (P := Try.prog) w 0 23 23 5 i0 _ 1 Try.underlying23 hi hz0 hz1 hz2 rfl _ _ _ hown w.heap.size A n c (vByte xs) hR hR.none_ (fun _ _ => rfl) (by unfold maxLen; omega) (by omega) (Nat.zero_le _)
  obtain ⟨A3, c3, rfl⟩ := own_slice hown3
  have e : (List.range n).map (vByte xs) = xs.map fun b => Value.int .u8 ((b.toNat : Nat) : Int) := by
    subst hx
    refine List.ext_getElem (by simp) fun i h1 h2 => ?_
    have hi : i < xs.length := by simpa using h2
    simp [vByte, hi]
  rw [e, ← List.map_append] at hown3
  have hT : f.rv.ownBlock ≠ some f.fb := own_ne (by decide) hok.1 hown
  have m3 : Mod (fun b => f.rv.ownBlock = some b) w w3 := Mod.of_grown hg (fun b e => .inl e)
  have hfb3 : Blk w3 f.fb 94 #[f.rv, .int .i64 (f.dur : Int)] := m3.blk hok.1 hT
  have hgne : ∀ b, f.F b → b ≠ g := fun b hb => (h.F_ne hfm b hb).1
  have hg3 : Blk w3 g 90 (diskCells room (sumL (l1 ++ f :: l2)) mb off plan) := m3.blk h.blk (fun e => hgne g (.inr e) rfl)
  have hg4 := Blk.far (p := ⟨f.fb, 0, none⟩) hg3 (fun e => hgne f.fb (.inl rfl) e.symm) (.slice A3 (f.bs.length + n) c3)
  have hfb4 : Blk (w3.setCell ⟨f.fb, 0, none⟩ (.slice A3 (f.bs.length + n) c3)) f.fb 94 #[.slice A3 (f.bs.length + n) c3, .int .i64 (f.dur : Int)] := by simpa using hfb3.set_ 0 (.slice A3 (f.bs.length + n) c3)
  refine ⟨A0, f.bs.length, c0, A3, f.bs.length + n, c3, w3, hrv, by rw [← hrv]; simpa using hok.1.cell 0, Lib.hid (by rw [← hrv]; exact hap), by rw [← hrv]; simpa using hfb3.cell 0, hfb3.frozen 0, by simpa [diskCells] using hg4.cell 1, hg4.frozen 1, Lib.hid ?_⟩
  have ma : Mod (fun b => f.F b ∨ b = g) w ((w3.setCell ⟨f.fb, 0, none⟩ (.slice A3 (f.bs.length + n) c3)).setCell ⟨g, 1, none⟩ (.int .i64 ((sumL (l1 ++ f :: l2) : Nat) + (n : Int)))) :=
    ((m3.mono (G := fun b => f.F b ∨ b = g) (fun b e => .inl (.inl (.inr e)))).set (p := ⟨f.fb, 0, none⟩) (.inl (.inl (.inl rfl))) _).set (p := ⟨g, 1, none⟩) (.inl (.inr rfl)) _
  have hs : sumL (l1 ++ (⟨f.num, f.fb, .slice A3 (f.bs.length + n) c3, f.bs ++ xs, f.dur⟩ : Fl) :: l2) = sumL (l1 ++ f :: l2) + n := by
    rw [sumL_append, sumL_cons, sumL_append, sumL_cons]
    simp only [List.length_append]
    omega
  have hown4 := hown3.kept (only_set (p := ⟨f.fb, 0, none⟩) (only_refl w3 (some f.fb)) (.inl rfl) (.slice A3 (f.bs.length + n) c3)) (.inr (own_ne (by decide) hfb3 hown3))
  have hown5 := hown4.kept (only_set (p := ⟨g, 1, none⟩) (only_refl _ (some g)) (.inl rfl) (.int .i64 ((sumL (l1 ++ f :: l2) : Nat) + (n : Int)))) (.inr (own_ne (by decide) hg4 hown4))
  obtain ⟨r1, r2, r3⟩ := h.upd (f' := ⟨f.num, f.fb, .slice A3 (f.bs.length + n) c3, f.bs ++ xs, f.dur⟩) (off' := off) (plan' := plan) ma (by
      have := Blk.set_ hg4 1 (.int .i64 ((sumL (l1 ++ f :: l2) : Nat) + (n : Int)))
      rw [hs]
      simpa [diskCells] using this) rfl rfl ⟨Blk.far hfb4 (fun e => hgne f.fb (.inl rfl) e) _, by rw [List.length_append, hx]; exact hown5, by simp only [List.length_append]; have := hok.2.2; omega⟩
    (ho.imp (fun e => e) (fun e b eb => by rw [e] at eb; injection eb with eb; omega)) (by rw [hs]; exact hroom) h.plan_le
  exact ⟨_, by simp [Fl.log], r1, r2, r3⟩

theorem appendD_off (g mb room : Nat) (plan : Int) (fs : List Fl) (num : Int) (A : Option Addr) (n c : Nat) (w : World) (HD : Hid (DskAt w g mb room true plan fs)) (h1 : 0 ≤ num) (h2 : num < 64) :
    Calls Try.prog 35 #[.pointer (some ⟨g, 0, none⟩), .int .i64 num, .slice A n c] w fun e w' => e = .returned (.int .i64 23) ∧ w = w' := by
  obtain ⟨c0, c1, c2, c3, c4, hf⟩ := HD.out.dcells
  clear hf
  go_enter Try.func35, Try.ntmps35
  go_wp2_with (go_at_call 55; ((with_reducible refine (isFile_yes _ _ h1 h2).mono ?_); rintro e w1 ⟨rfl, rfl⟩))
  go_ret
  exact ⟨rfl, rfl⟩
theorem below_drew {w w' : World} {n : Nat} (h : Below (w.drewN n).heap.size (w.drewN n) w') : Below w.heap.size w w' := ⟨h.os, h.tape, h.output, h.size, h.block⟩
set_option maxRecDepth 100000 in
set_option maxHeartbeats 1000000 in
theorem appendD_full (g mb room : Nat) (plan : Int) (fs : List Fl) (num : Int) (A : Option Addr) (n c : Nat) (w : World) (HD : Hid (DskAt w g mb room false plan fs)) (h1 : 0 ≤ num) (h2 : num < 64) (hfull : room < sumL fs + n) (hn : n ≤ 1099511627776) :
    Calls Try.prog 35 #[.pointer (some ⟨g, 0, none⟩), .int .i64 num, .slice A n c] w fun e w' => e = .returned (.int .i64 22) ∧ Below w.heap.size w w' := by
  obtain ⟨c0, c1, c2, c3, c4, hf⟩ := HD.out.dcells
  have hrm := HD.out.room_le
  have hul := HD.out.used_le
  obtain ⟨u, hu⟩ : ∃ u, sumL fs = u := ⟨_, rfl⟩
  rw [hu] at c1 hul hfull
  clear hf hu
  go_enter Try.func35, Try.ntmps35
  go_wp2_with (go_at_call 55; ((with_reducible refine (isFile_yes _ _ h1 h2).mono ?_); rintro e w1 ⟨rfl, rfl⟩))
  have i1 : IntKind.i64.wrap ((room : Int) - (u : Int)) = (room : Int) - (u : Int) := IntWalk.i64_in _ (by omega)
  have i2 : decide ((room : Int) - (u : Int) < (n : Int)) = true := by rw [decide_eq_true_iff]; omega
  go_quiet (fail)
  clear i1 i2
  go_wp2
  go_ret
  exact ⟨rfl, below_drewN (Below.refl _ _) _⟩
theorem DskNext.from {g mb room : Nat} {off' : Bool} {plan' : Int} {fs : List Fl} {st : List (Int × List UInt8 × Nat)} {w w1 w2 : World} {F : Nat → Prop} (h : DskNext g mb room off' plan' fs st w1 w2) (m : Mod F w w1) (hF : ∀ b, F b → DskF g mb fs b ∨ w.heap.size ≤ b) : DskNext g mb room off' plan' fs st w w2 := by
  obtain ⟨fs', h1, h2, h3, h4⟩ := h
  exact ⟨fs', h1, h2, (m.mono hF).trans h3 (fun b hb => .inl hb), fun b hb => (h4 b hb).imp id (fun h => Nat.le_trans m.size h)⟩
theorem DskNext.from2 {g mb room : Nat} {off' : Bool} {plan' : Int} {fs fs1 : List Fl} {st : List (Int × List UInt8 × Nat)} {w w1 w2 : World} (h : DskNext g mb room off' plan' fs1 st w1 w2) (m : Mod (DskF g mb fs) w w1) (hF : ∀ b, DskF g mb fs1 b → DskF g mb fs b ∨ w.heap.size ≤ b) : DskNext g mb room off' plan' fs st w w2 := by
  obtain ⟨fs', h1, h2, h3, h4⟩ := h
  refine ⟨fs', h1, h2, m.trans h3 (fun b hb => hF b hb), fun b hb => ?_⟩
  rcases h4 b hb with h | h
  · exact hF b h
  · exact .inr (Nat.le_trans m.size h)
set_option maxRecDepth 100000 in
set_option maxHeartbeats 2000000 in
theorem appendD_old (g mb room : Nat) (plan : Int) (l1 l2 : List Fl) (f : Fl) (num : Int) (A : Option Addr) (n c : Nat) (xs : List UInt8) (w : World) (HD : Hid (DskAt w g mb room false plan (l1 ++ f :: l2))) (HN : Hid (findF (l1 ++ f :: l2) num = some f)) (h1 : 0 ≤ num) (h2 : num < 64) (HX : Hid (xs.length = n)) (hn0 : 0 < n) (hroom : sumL (l1 ++ f :: l2) + n ≤ room)
    (HR : Hid (Rd w w.heap.size A n (vByte xs))) (HA : Hid (∀ b off, A = some ⟨b, off, none⟩ → ¬ DskF g mb (l1 ++ f :: l2) b)) :
    Calls Try.prog 35 #[.pointer (some ⟨g, 0, none⟩), .int .i64 num, .slice A n c] w fun e w' => e = .returned (.int .i64 (if failOff false plan then 23 else 0)) ∧ DskNext g mb room (failOff false plan) (failPlan plan) (l1 ++ f :: l2) (l1.map Fl.log ++ (f.num, f.bs ++ xs, f.dur) :: l2.map Fl.log) w w' := by
  obtain ⟨c0, c1, c2, c3, c4, hf⟩ := HD.out.dcells
  have hrm := HD.out.room_le
  have hul := HD.out.used_le
  obtain ⟨u, hu⟩ : ∃ u, sumL (l1 ++ f :: l2) = u := ⟨_, rfl⟩
  rw [hu] at c1 hul hroom
  have HU := Lib.hid hu
  obtain ⟨o, ho⟩ : ∃ o, failOff false plan = o := ⟨_, rfl⟩
  rw [ho]
  have HO := Lib.hid ho
  clear hf hu ho
  go_enter Try.func35, Try.ntmps35
  go_wp2_with (go_at_call 55; ((with_reducible refine (isFile_yes _ _ h1 h2).mono ?_); rintro e w1 ⟨rfl, rfl⟩))
  have i1 : IntKind.i64.wrap ((room : Int) - (u : Int)) = (room : Int) - (u : Int) := IntWalk.i64_in _ (by omega)
  have i2 : decide ((room : Int) - (u : Int) < (n : Int)) = false := by rw [decide_eq_false_iff_not]; omega
  go_quiet (fail)
  clear i1 i2
  have hD1 := HD.out.all (below_drewN (Below.refl _ w) nq)
  have hR1 : Rd (w.drewN nq) (w.drewN nq).heap.size A n (vByte xs) := HR.out
  have hB1 : Below w.heap.size w (w.drewN nq) := below_drewN (Below.refl _ w) nq
  go_wp2_with fail
  generalize w.drewN nq = w1 at *
  refine (fails_any _ _ _ _ _ _ _ (Lib.hid hD1)).mono ?_
  rintro e w2 ⟨rfl, hD2, m2⟩
  rw [HO.out] at hD2 ⊢
  have hR2 : Rd w2 w2.heap.size A n (vByte xs) := by
    have := m2.rd hR1 (Nat.le_refl _) (fun b off e hp hf => HA.out b off e (.inl hf))
    exact this.more m2.size
  have M2 : Mod (DskF g mb (l1 ++ f :: l2)) w w2 := (Mod.of_below (DskF g mb (l1 ++ f :: l2)) hB1).trans m2 (fun b hb => .inl (.inl hb))
  have hlk := DskAt.look hD2 num
  rw [HN.out] at hlk
  replace hlk : (Instr.lookup 88 (.map (some mb)) (.int .i64 num) false).run Try.prog w2 = .ok (.pointer (some ⟨f.fb, 0, none⟩)) w2 := hlk
  obtain ⟨d0, d1, d2, d3, d4, -⟩ := hD2.dcells
  obtain ⟨A0, n0, c0', A3, n3, c3', w3, hrv, hcl, HRUN, hcl3, hfr3, hcg, hfg, HNX⟩ := hD2.grow A n c xs HX.out hR2 (by rw [HU.out]; exact hroom)
  rw [HU.out] at hcg HNX d1
  have HFIN := Lib.hid (HNX.out.from2 M2 (fun b hb => .inl hb))
  clear hD1 hR1 hB1 m2 M2 hD2 hR2 c0 c1 c2 c3 c4 HNX hrv
  cases o with
  | true =>
    go_wp2_with (at_builtin; refine wpList_append_run HRUN.out rfl rfl rfl rfl ?_)
    all_goals (go_ret; exact ⟨rfl, HFIN.out⟩)
  | false =>
    go_wp2_with (at_builtin; refine wpList_append_run HRUN.out rfl rfl rfl rfl ?_)
    all_goals (go_ret; exact ⟨rfl, HFIN.out⟩)
theorem put_none {es : List (Int × Value)} {k : Int} {v : Value} (h : es.lookup k = none) : put es k v = es ++ [(k, v)] := by
  induction es with
  | nil => rfl
  | cons p es ih =>
    have hne : ¬ p.1 = k := by
      intro e
      rw [List.lookup_eq_none_iff] at h
      have := h p (by simp)
      simp [e] at this
    unfold put
    rw [if_neg hne, ih (by
      rw [List.lookup_eq_none_iff] at h ⊢
      exact fun q hq => h q (by simp [hq]))]
    rfl
/-- A file is laid into the map. -/
theorem DskAt.lay {w : World} {g mb room : Nat} {off : Bool} {plan : Int} {fs : List Fl} (h : DskAt w g mb room off plan fs) (num : Int) (hno : findF fs num = none) :
    ∃ w3, Hid ((Instr.mapUpdate 88 (.map (some mb)) (.int .i64 num) (.pointer (some ⟨w.heap.size, 0, none⟩))).run Try.prog (w.alloc (.cells #[.slice none 0 0, .int .i64 0] 94)) = .ok () w3) ∧
      DskAt w3 g mb room off plan (fs ++ [⟨num, w.heap.size, .slice none 0 0, [], 0⟩]) ∧ Mod (fun b => b = mb) w w3 := by
  have hb := (Below.refl w.heap.size w).alloc (Nat.le_refl _) (.cells #[.slice none 0 0, .int .i64 0] 94)
  obtain ⟨w3, hrun, hmap, hg, -⟩ := IMap.store (h.map.all hb) Try.underlying88 Try.underlying3 num (.pointer (some ⟨w.heap.size, 0, none⟩))
  have m : Mod (fun b => b = mb) w w3 := (Mod.of_below (fun b => b = mb) hb).then_grown (r := some mb) hg (fun g e => .inl (Option.some.inj e).symm)
  have hlk : (fs.map fun f => (f.num, f.ptr)).lookup num = none := by rw [lookup_findF, hno]; rfl
  rw [put_none hlk] at hmap
  have hmb := h.map.lt
  have hB := (Blk.new w 94 #[.slice none 0 0, .int .i64 0]).grown hg (fun e => by injection e with e; omega)
  refine ⟨w3, Lib.hid hrun, h.add m (by simpa [Fl.ptr] using hmap) ⟨hB, World.ownsRow_nil _ _ _ _, Nat.le_refl _⟩ ?_ rfl, m⟩
  rintro b (e | e)
  · simp only at e
    omega
  · cases e
theorem findF_new {fs : List Fl} {num : Int} {f : Fl} (hno : findF fs num = none) (hf : f.num = num) : findF (fs ++ [f]) num = some f := by
  unfold findF at hno ⊢
  rw [List.find?_append, hno]
  simp [hf]
set_option maxRecDepth 100000 in
set_option maxHeartbeats 2000000 in
theorem appendD_new (g mb room : Nat) (plan : Int) (fs : List Fl) (num : Int) (A : Option Addr) (n c : Nat) (xs : List UInt8) (w : World) (HD : Hid (DskAt w g mb room false plan fs)) (HN : Hid (findF fs num = none)) (h1 : 0 ≤ num) (h2 : num < 64) (HX : Hid (xs.length = n)) (hn0 : 0 < n) (hroom : sumL fs + n ≤ room)
    (HR : Hid (Rd w w.heap.size A n (vByte xs))) (HA : Hid (∀ b off, A = some ⟨b, off, none⟩ → ¬ DskF g mb fs b)) :
    Calls Try.prog 35 #[.pointer (some ⟨g, 0, none⟩), .int .i64 num, .slice A n c] w fun e w' => e = .returned (.int .i64 (if failOff false plan then 23 else 0)) ∧ DskNext g mb room (failOff false plan) (failPlan plan) fs (fs.map Fl.log ++ [(num, xs, 0)]) w w' := by
  obtain ⟨c0, c1, c2, c3, c4, hf⟩ := HD.out.dcells
  have hrm := HD.out.room_le
  have hul := HD.out.used_le
  obtain ⟨u, hu⟩ : ∃ u, sumL fs = u := ⟨_, rfl⟩
  rw [hu] at c1 hul hroom
  have HU := Lib.hid hu
  obtain ⟨o, ho⟩ : ∃ o, failOff false plan = o := ⟨_, rfl⟩
  rw [ho]
  have HO := Lib.hid ho
  clear hf hu ho
  go_enter Try.func35, Try.ntmps35
  go_wp2_with (go_at_call 55; ((with_reducible refine (isFile_yes _ _ h1 h2).mono ?_); rintro e w1 ⟨rfl, rfl⟩))
  have i1 : IntKind.i64.wrap ((room : Int) - (u : Int)) = (room : Int) - (u : Int) := IntWalk.i64_in _ (by omega)
  have i2 : decide ((room : Int) - (u : Int) < (n : Int)) = false := by rw [decide_eq_false_iff_not]; omega
  go_quiet (fail)
  clear i1 i2
  have hD1 := HD.out.all (below_drewN (Below.refl _ w) nq)
  have hR1 : Rd (w.drewN nq) (w.drewN nq).heap.size A n (vByte xs) := HR.out
  have hB1 : Below w.heap.size w (w.drewN nq) := below_drewN (Below.refl _ w) nq
  go_wp2_with fail
  generalize w.drewN nq = w1 at *
  refine (fails_any _ _ _ _ _ _ _ (Lib.hid hD1)).mono ?_
  rintro e w2 ⟨rfl, hD2, m2⟩
  rw [HO.out] at hD2 ⊢
  have hR2 : Rd w2 w2.heap.size A n (vByte xs) := by
    have := m2.rd hR1 (Nat.le_refl _) (fun b off e hp hf => HA.out b off e (.inl hf))
    exact this.more m2.size
  have M2 : Mod (DskF g mb fs) w w2 := (Mod.of_below (DskF g mb fs) hB1).trans m2 (fun b hb => .inl (.inl hb))
  have hlk := DskAt.look hD2 num
  rw [HN.out] at hlk
  replace hlk : (Instr.lookup 88 (.map (some mb)) (.int .i64 num) false).run Try.prog w2 = .ok (.pointer none) w2 := hlk
  obtain ⟨d0, d1, d2, d3, d4, -⟩ := hD2.dcells
  obtain ⟨w3, hmu, hD3, m3⟩ := hD2.lay num HN.out
  replace hmu := hmu.out
  have hR3 : Rd w3 w3.heap.size A n (vByte xs) := by
    have := m3.rd hR2 (Nat.le_refl _) (fun b off e hp hf => HA.out b off e (.inr (.inl hf)))
    exact this.more m3.size
  have M3 := M2.trans m3 (fun b hb => .inl (.inr (.inl hb)))
  have hlk3 := DskAt.look hD3 num
  rw [findF_new HN.out rfl] at hlk3
  replace hlk3 : (Instr.lookup 88 (.map (some mb)) (.int .i64 num) false).run Try.prog w3 = .ok (.pointer (some ⟨w2.heap.size, 0, none⟩)) w3 := hlk3
  obtain ⟨e0, e1, e2, e3, e4, -⟩ := hD3.dcells
  have hs3 : sumL (fs ++ [⟨num, w2.heap.size, .slice none 0 0, [], 0⟩]) = u := by rw [sumL_append, HU.out]; simp [sumL]
  obtain ⟨A0, n0, c0', A3, n3, c3', w4, hrv, hcl, HRUN, hcl3, hfr3, hcg, hfg, HNX⟩ := hD3.grow (l2 := []) A n c xs HX.out hR3 (by rw [hs3]; exact hroom)
  rw [hs3] at hcg HNX e1
  rw [HU.out] at d1
  have HFIN := Lib.hid (HNX.out.from2 M3 (fun b hb => by
    rcases hb with e | e | ⟨d, hd, hb⟩
    · exact .inl (.inl e)
    · exact .inl (.inr (.inl e))
    · rcases List.mem_append.1 hd with hd | hd
      · exact .inl (.inr (.inr ⟨d, hd, hb⟩))
      · simp at hd
        subst hd
        rcases hb with e | e
        · simp only at e
          have := M2.size
          exact .inr (by omega)
        · cases e))
  replace HFIN : Hid (DskNext g mb room o (failPlan plan) fs (fs.map Fl.log ++ [(num, xs, 0)]) w _) := HFIN
  clear hD1 hR1 hB1 m2 M2 hD2 hR2 c0 c1 c2 c3 c4 HNX hrv hD3 m3 hR3 M3 hs3
  cases o with
  | true =>
    go_wp2_with (at_builtin; refine wpList_append_run HRUN.out rfl rfl rfl rfl ?_)
    all_goals (go_ret; exact ⟨rfl, HFIN.out⟩)
  | false =>
    go_wp2_with (at_builtin; refine wpList_append_run HRUN.out rfl rfl rfl rfl ?_)
    all_goals (go_ret; exact ⟨rfl, HFIN.out⟩)
end Go.Proofs.Ytldmokjpfnakkaa

/- disk: Read, Sync. -/
namespace Go.Proofs.Ytldmokjpfnakkaa
open Go.RowKit

theorem readD_arg (g mb room : Nat) (off : Bool) (plan : Int) (fs : List Fl) (num : Int) (w : World) (_HD : Hid (DskAt w g mb room off plan fs)) (h : num < 0 ∨ 64 ≤ num) :
    Calls Try.prog 51 #[.pointer (some ⟨g, 0, none⟩), .int .i64 num] w fun e w' => e = .returned (.tuple #[.slice none 0 0, .int .i64 1]) ∧ w = w' := by
  go_enter Try.func51, Try.ntmps51
  go_wp2_with (go_at_call 55; ((with_reducible refine (isFile_no _ _ h).mono ?_); rintro e w1 ⟨rfl, rfl⟩))
  go_ret2
  exact ⟨rfl, rfl⟩
theorem readD_off (g mb room : Nat) (plan : Int) (fs : List Fl) (num : Int) (w : World) (HD : Hid (DskAt w g mb room true plan fs)) (h1 : 0 ≤ num) (h2 : num < 64) :
    Calls Try.prog 51 #[.pointer (some ⟨g, 0, none⟩), .int .i64 num] w fun e w' => e = .returned (.tuple #[.slice none 0 0, .int .i64 23]) ∧ w = w' := by
  obtain ⟨c0, c1, c2, c3, c4, -⟩ := HD.out.dcells
  go_enter Try.func51, Try.ntmps51
  go_wp2_with (go_at_call 55; ((with_reducible refine (isFile_yes _ _ h1 h2).mono ?_); rintro e w1 ⟨rfl, rfl⟩))
  go_ret2
  exact ⟨rfl, rfl⟩
theorem readD_none (g mb room : Nat) (plan : Int) (fs : List Fl) (num : Int) (w : World) (HD : Hid (DskAt w g mb room false plan fs)) (HN : Hid (findF fs num = none)) (h1 : 0 ≤ num) (h2 : num < 64) :
    Calls Try.prog 51 #[.pointer (some ⟨g, 0, none⟩), .int .i64 num] w fun e w' => e = .returned (.tuple #[.slice none 0 0, .int .i64 0]) ∧ w = w' := by
  obtain ⟨c0, c1, c2, c3, c4, -⟩ := HD.out.dcells
  have hlk := DskAt.look2 HD.out num
  rw [HN.out] at hlk
  replace hlk : (Instr.lookup 88 (.map (some mb)) (.int .i64 num) true).run Try.prog w = .ok (.tuple #[.pointer none, .bool false]) w := hlk
  go_enter Try.func51, Try.ntmps51
  go_wp2_with (go_at_call 55; ((with_reducible refine (isFile_yes _ _ h1 h2).mono ?_); rintro e w1 ⟨rfl, rfl⟩))
  go_ret2
  exact ⟨rfl, rfl⟩
def ReadPost (bs : List UInt8) (w : World) (e : Ending) (w' : World) : Prop := ∃ A n c, e = .returned (.tuple #[.slice A n c, .int .i64 0]) ∧ w'.ownsRow w.heap.size 5 1 (.slice A n c) n (bs.map fun b => Value.int .u8 ((b.toNat : Nat) : Int)) ∧ Below w.heap.size w w'
theorem readD_some (g mb room : Nat) (plan : Int) (fs : List Fl) (f : Fl) (num : Int) (w : World) (HD : Hid (DskAt w g mb room false plan fs)) (HN : Hid (findF fs num = some f)) (h1 : 0 ≤ num) (h2 : num < 64) :
    Calls Try.prog 51 #[.pointer (some ⟨g, 0, none⟩), .int .i64 num] w (ReadPost f.bs w) := by
  obtain ⟨c0, c1, c2, c3, c4, -⟩ := HD.out.dcells
  have hlk := DskAt.look2 HD.out num
  rw [HN.out] at hlk
  replace hlk : (Instr.lookup 88 (.map (some mb)) (.int .i64 num) true).run Try.prog w = .ok (.tuple #[.pointer (some ⟨f.fb, 0, none⟩), .bool true]) w := hlk
  obtain ⟨l1, l2, hfs, -⟩ := findF_split HN.out
  have hok := HD.out.ok f (by rw [hfs]; simp)
  obtain ⟨A0, k0, hrv⟩ := own_slice hok.2.1
  have hcl : w.cell? ⟨f.fb, 0, none⟩ = some (.slice A0 f.bs.length k0) := by rw [← hrv]; simpa using hok.1.cell 0
  have hown := hok.2.1
  rw [hrv] at hown
  have hrd := (rd_bytes hown).2.2
  have hlen : f.bs.length ≤ 16777216 := by
    have h1 := HD.out.room_le
    have h2 := HD.out.used_le
    rw [hfs, sumL_append, sumL_cons] at h2
    omega
  obtain ⟨k, hk⟩ : ∃ k, f.bs.length = k := ⟨_, rfl⟩
  rw [hk] at hcl hrd hlen
  have HK := Lib.hid hk
  clear hk hfs hok hrv hown
  go_enter Try.func51, Try.ntmps51
  go_wp2_with (first
    | (go_at_call 55; ((with_reducible refine (isFile_yes _ _ h1 h2).mono ?_); rintro e w1 ⟨rfl, rfl⟩))
    | (go_at_call 45; ((with_reducible refine (clone_any _ _ _ f.bs _ HK hrd (by omega)).mono ?_); rintro e w2 ⟨A', c', rfl, q1, q2, q3, q4, q5⟩)))
  go_ret2
  exact ⟨A', k, c', rfl, q3, q5⟩
/-- Files whose bytes are all durable, but for those that are left. -/
def syncF (left : Int → Bool) (f : Fl) : Fl := if left f.num then f else { f with dur := f.bs.length }
theorem syncF_num (left : Int → Bool) (f : Fl) : (syncF left f).num = f.num := by unfold syncF; split <;> rfl
theorem syncF_bs (left : Int → Bool) (f : Fl) : (syncF left f).bs = f.bs := by unfold syncF; split <;> rfl
theorem syncF_fb (left : Int → Bool) (f : Fl) : (syncF left f).fb = f.fb := by unfold syncF; split <;> rfl
theorem syncF_rv (left : Int → Bool) (f : Fl) : (syncF left f).rv = f.rv := by unfold syncF; split <;> rfl
theorem syncF_all (f : Fl) : syncF (fun _ => true) f = f := by simp [syncF]
def syncLog (st : List (Int × List UInt8 × Nat)) : List (Int × List UInt8 × Nat) := st.map fun p => (p.1, p.2.1, p.2.1.length)
theorem syncF_done {fs : List Fl} {left : Int → Bool} (h : ∀ f ∈ fs, left f.num = false) : (fs.map (syncF left)).map Fl.log = syncLog (fs.map Fl.log) := by
  rw [syncLog, List.map_map, List.map_map]
  apply List.map_congr_left
  intro f hf
  simp [Function.comp, syncF, h f hf, Fl.log]
theorem sumL_sync (fs : List Fl) (left : Int → Bool) : sumL (fs.map (syncF left)) = sumL fs := by
  unfold sumL
  rw [List.map_map]
  congr 1
  apply List.map_congr_left
  intro f _
  simp [Function.comp, syncF_bs]
theorem keys_sync (fs : List Fl) (left : Int → Bool) : (fs.map (syncF left)).map (fun f => (f.num, f.ptr)) = fs.map fun f => (f.num, f.ptr) := by
  rw [List.map_map]
  apply List.map_congr_left
  intro f _
  simp [Function.comp, syncF_num, Fl.ptr, syncF_fb]
theorem IMap.nodup {w : World} {b : Nat} {es : List (Int × Value)} (h : IMap w b es) : (es.map Prod.fst).Nodup := by
  obtain ⟨l, c, -, -, h3, -⟩ := h
  exact h3
theorem DskAt.syncOne {w : World} {g mb room : Nat} {off : Bool} {plan : Int} {fs : List Fl} {left : Int → Bool} {f : Fl} (h : DskAt w g mb room off plan (fs.map (syncF left))) (hf : f ∈ fs) (hl : left f.num = true) :
    ∃ A c, f.rv = .slice A f.bs.length c ∧ w.cell? ⟨f.fb, 0, none⟩ = some (.slice A f.bs.length c) ∧ w.cell? ⟨f.fb, 1, none⟩ = some (.int .i64 (f.dur : Int)) ∧ w.frozen? ⟨f.fb, 1, none⟩ = false ∧
      DskAt (w.setCell ⟨f.fb, 1, none⟩ (.int .i64 (f.bs.length : Int))) g mb room off plan (fs.map (syncF fun j => left j && !(j == f.num))) ∧ Mod (fun b => b = f.fb) w (w.setCell ⟨f.fb, 1, none⟩ (.int .i64 (f.bs.length : Int))) := by
  obtain ⟨l1, l2, rfl⟩ := List.append_of_mem hf
  have hn := h.map.nodup
  rw [keys_sync] at hn
  have hsf : syncF left f = f := by simp [syncF, hl]
  rw [List.map_append, List.map_cons, hsf] at h
  have hne : ∀ d ∈ l1 ++ l2, d.num ≠ f.num := by
    intro d hd e
    simp only [List.map_append, List.map_cons, List.map_map, Function.comp_def] at hn
    rw [List.nodup_append] at hn
    obtain ⟨-, h2, h3⟩ := hn
    rw [List.nodup_cons] at h2
    rcases List.mem_append.1 hd with hd | hd
    · exact h3 d.num (List.mem_map.2 ⟨d, hd, rfl⟩) f.num (by simp) e
    · exact h2.1 (List.mem_map.2 ⟨d, hd, e⟩)
  have hsame : ∀ l : List Fl, (∀ d ∈ l, d ∈ l1 ++ l2) → l.map (syncF fun j => left j && !(j == f.num)) = l.map (syncF left) := by
    intro l hl'
    apply List.map_congr_left
    intro d hd
    have : (d.num == f.num) = false := beq_false_of_ne (hne d (hl' d hd))
    simp [syncF, this]
  have hnew : (l1 ++ f :: l2).map (syncF fun j => left j && !(j == f.num)) = l1.map (syncF left) ++ ({ f with dur := f.bs.length } : Fl) :: l2.map (syncF left) := by
    rw [List.map_append, List.map_cons, hsame l1 (fun d hd => by simp [hd]), hsame l2 (fun d hd => by simp [hd])]
    simp [syncF]
  have hfm : f ∈ l1.map (syncF left) ++ f :: l2.map (syncF left) := by simp
  have hok := h.ok f hfm
  obtain ⟨A, c, hrv⟩ := own_slice hok.2.1
  have hgne : f.fb ≠ g := (h.F_ne hfm _ (.inl rfl)).1
  have m : Mod (fun b => b = f.fb) w (w.setCell ⟨f.fb, 1, none⟩ (.int .i64 (f.bs.length : Int))) := (Mod.refl (fun b => b = f.fb) w).set (p := ⟨f.fb, 1, none⟩) (.inl rfl) _
  have hs : sumL (l1.map (syncF left) ++ ({ f with dur := f.bs.length } : Fl) :: l2.map (syncF left)) = sumL (l1.map (syncF left) ++ f :: l2.map (syncF left)) := by simp [sumL]
  refine ⟨A, c, hrv, by rw [← hrv]; simpa using hok.1.cell 0, by simpa using hok.1.cell 1, hok.1.frozen 1, ?_, m⟩
  rw [hnew]
  refine (h.upd (f' := { f with dur := f.bs.length }) (off' := off) (plan' := plan) (m.mono (fun b hb => .inl (.inl (.inl hb)))) (by rw [hs]; exact m.blk h.blk (fun e => hgne e.symm)) rfl rfl ⟨?_, ?_, Nat.le_refl _⟩ (.inl rfl) (by rw [hs]; exact h.used_le) h.plan_le).1
  · simpa using hok.1.set_ 1 (.int .i64 (f.bs.length : Int))
  · exact m.own hok.2.1 (fun b e hb => own_ne (by decide) hok.1 hok.2.1 (by rw [e, hb]))
end Go.Proofs.Ytldmokjpfnakkaa

/- disk: Sync. -/
namespace Go.Proofs.Ytldmokjpfnakkaa
open Go.RowKit

theorem DskAt.not_iter {w : World} {g mb room r : Nat} {off : Bool} {plan : Int} {fs : List Fl} {es : List (Int × Value)} {left : Int → Bool} (h : DskAt w g mb room off plan fs) (hi : IIter w mb r es left) : ∀ b, DskF g mb fs b → b ≠ r := by
  rintro b (rfl | rfl | ⟨f, hf, (rfl | e)⟩) he
  · subst he
    exact hi.not_ty h.blk.ty
  · exact hi.ne he.symm
  · subst he
    exact hi.not_ty (h.ok f hf).1.ty
  · subst he
    exact hi.not_ty (Ty.of_own (h.ok f hf).2.1 e)
theorem DskF_sync (g mb : Nat) (fs : List Fl) (left : Int → Bool) (b : Nat) : DskF g mb (fs.map (syncF left)) b ↔ DskF g mb fs b := by
  unfold DskF
  refine or_congr Iff.rfl (or_congr Iff.rfl ⟨?_, ?_⟩)
  · rintro ⟨f, hf, hb⟩
    obtain ⟨d, hd, rfl⟩ := List.mem_map.1 hf
    refine ⟨d, hd, ?_⟩
    unfold Fl.F at hb ⊢
    rw [syncF_fb, syncF_rv] at hb
    exact hb
  · rintro ⟨f, hf, hb⟩
    refine ⟨syncF left f, List.mem_map.2 ⟨f, hf, rfl⟩, ?_⟩
    unfold Fl.F at hb ⊢
    rw [syncF_fb, syncF_rv]
    exact hb
theorem sync_off (g mb room : Nat) (plan : Int) (fs : List Fl) (w : World) (HD : Hid (DskAt w g mb room true plan fs)) :
    Calls Try.prog 53 #[.pointer (some ⟨g, 0, none⟩)] w fun e w' => e = .returned (.int .i64 23) ∧ w = w' := by
  obtain ⟨c0, c1, c2, c3, c4, -⟩ := HD.out.dcells
  go_enter Try.func53, Try.ntmps53
  go_wp2
  go_ret
  exact ⟨rfl, rfl⟩
set_option maxRecDepth 100000 in
set_option maxHeartbeats 2000000 in
theorem sync_any (g mb room : Nat) (plan : Int) (fs : List Fl) (w : World) (HD : Hid (DskAt w g mb room false plan fs)) :
    Calls Try.prog 53 #[.pointer (some ⟨g, 0, none⟩)] w fun e w' => e = .returned (.int .i64 (if failOff false plan then 23 else 0)) ∧ DskNext g mb room (failOff false plan) (failPlan plan) fs (if failOff false plan then fs.map Fl.log else syncLog (fs.map Fl.log)) w w' := by
  obtain ⟨c0, c1, c2, c3, c4, -⟩ := HD.out.dcells
  obtain ⟨o, ho⟩ : ∃ o, failOff false plan = o := ⟨_, rfl⟩
  rw [ho]
  have HO := Lib.hid ho
  clear ho
  go_enter Try.func53, Try.ntmps53
  go_wp2_with fail
  refine (fails_any _ _ _ _ _ _ _ HD).mono ?_
  rintro e w2 ⟨rfl, hD2, m2⟩
  rw [HO.out] at hD2 ⊢
  have M2 : Mod (DskF g mb fs) w w2 := m2.mono (fun b hb => .inl (.inl hb))
  clear m2 c0 c1 c2 c3 c4
  cases o with
  | true =>
    go_wp2
    go_ret
    exact ⟨rfl, fs, rfl, hD2, M2, fun b hb => .inl hb⟩
  | false =>
    obtain ⟨d0, d1, d2, d3, d4, -⟩ := hD2.dcells
    obtain ⟨w3, hrg, hi3, hb3⟩ := IMap.iter (P := Try.prog) hD2.map Try.underlying88
    have hD3 := hD2.all hb3
    have M3 := M2.then_below hb3
    obtain ⟨r, hr⟩ : ∃ r, w2.heap.size = r := ⟨_, rfl⟩
    rw [hr] at hrg hi3
    have hrw : w.heap.size ≤ r := by rw [← hr]; exact M2.size
    have HD3 : Hid (DskAt w3 g mb room false (failPlan plan) (fs.map (syncF fun _ => true))) := Lib.hid (by
      have : fs.map (syncF fun _ => true) = fs := by
        conv => rhs; rw [← List.map_id fs]
        exact List.map_congr_left (fun f _ => syncF_all f)
      rw [this]
      exact hD3)
    have HI3 := Lib.hid hi3
    have HM3 := Lib.hid M3
    clear hD2 hD3 hi3 M3 M2 hb3 hr
    go_wp2
    go_loopw [4] (fun _ wr => ∃ left, Hid (IIter wr mb r (fs.map fun f => (f.num, f.ptr)) left) ∧ Hid (DskAt wr g mb room false (failPlan plan) (fs.map (syncF left))) ∧ Hid (Mod (DskF g mb fs) w wr)) (fun _ wr => iterLeft wr mb r)
    case atStart => exact ⟨_, HI3, HD3, HM3⟩
    case round =>
      obtain ⟨left, HI, HDr, HMr⟩ := hrel
      rcases HI.out.next (P := Try.prog) with ⟨hno, hnx⟩ | ⟨k, v, w', hkv, hlk, hnx, hen, hI', hg', -, hlt⟩
      · have HNO := Lib.hid (show ∀ f ∈ fs, left f.num = false from fun f hf => hno (f.num, f.ptr) (List.mem_map.2 ⟨f, hf, rfl⟩))
        clear hno
        go_wp2
        go_ret
        exact ⟨rfl, _, syncF_done HNO.out, HDr.out, HMr.out, fun b hb => .inl ((DskF_sync _ _ _ _ _).1 hb)⟩
      · obtain ⟨f, hf, he⟩ := List.mem_map.1 hkv
        injection he with he1 he2
        subst he1 he2
        have hnr := HDr.out.not_iter HI.out
        have hD' := HDr.out.mod (Mod.of_grown (F := fun b => b = r) hg' (fun b e => .inl (by injection e with e; exact e.symm))) (fun b hb e => hnr b hb e)
        obtain ⟨A, c, hrv, q1, q2, q3, hD'', m''⟩ := hD'.syncOne hf hlk
        have HD'' := Lib.hid hD''
        have hfr : f.fb ≠ r := hnr _ ((DskF_sync _ _ _ _ _).2 (.inr (.inr ⟨f, hf, .inl rfl⟩)))
        have hfm : f.fb ≠ mb := by
          have := (HDr.out.F_ne (f := syncF left f) (List.mem_map.2 ⟨f, hf, rfl⟩) f.fb (by unfold Fl.F; rw [syncF_fb]; exact .inl rfl)).2
          exact this
        have HI'' := Lib.hid (hI'.mod m'' (fun e => hfm e.symm) (fun e => hfr e.symm))
        have HM'' : Hid (Mod (DskF g mb fs) w (w'.setCell ⟨f.fb, 1, none⟩ (.int .i64 (f.bs.length : Int)))) := Lib.hid ((HMr.out.then_grown hg' (fun b e => .inr (by injection e with e; omega))).trans m'' (fun b hb => .inl (.inr (.inr ⟨f, hf, .inl hb⟩))))
        have HLT : Hid (iterLeft (w'.setCell ⟨f.fb, 1, none⟩ (.int .i64 (f.bs.length : Int))) mb r < iterLeft wr mb r) := Lib.hid (by
          have e : iterLeft (w'.setCell ⟨f.fb, 1, none⟩ (.int .i64 (f.bs.length : Int))) mb r = iterLeft w' mb r := by
            unfold iterLeft
            rw [Below.heap_setCell w' ⟨f.fb, 1, none⟩ _ mb (fun e => hfm e.symm), Below.heap_setCell w' ⟨f.fb, 1, none⟩ _ r (fun e => hfr e.symm)]
          rw [e]
          exact hlt)
        replace hnx : ∀ ty, (Instr.next (.pointer (some ⟨r, 0, none⟩)) false ty).run Try.prog wr = .ok (.tuple #[.bool true, .int .i64 f.num, .pointer (some ⟨f.fb, 0, none⟩)]) w' := hnx
        replace hen : (Instr.entry (.pointer (some ⟨r, 0, none⟩))).run Try.prog w' = .ok (.tuple #[.int .i64 f.num, .pointer (some ⟨f.fb, 0, none⟩)]) w' := hen
        clear hkv hlk hI' hg' hlt hnr hD' hD'' m'' hfr hfm hrv
        go_wp2
        exact ⟨⟨_, HI'', HD'', HM''⟩, HLT.out⟩
end Go.Proofs.Ytldmokjpfnakkaa

/- journal: the log. -/
namespace Go.Proofs.Ytldmokjpfnakkaa
open Go.RowKit

/-- A log at block gl. -/
def LogAt (w : World) (gl g : Nat) (num : Int) (len : Nat) (up : Bool) : Prop := Blk w gl 87 #[.pointer (some ⟨g, 0, none⟩), .int .i64 num, .int .i64 (len : Int), .bool up]
theorem LogAt.cells {w : World} {gl g : Nat} {num : Int} {len : Nat} {up : Bool} (h : LogAt w gl g num len up) : w.cell? ⟨gl, 0, none⟩ = some (.pointer (some ⟨g, 0, none⟩)) ∧ w.cell? ⟨gl, 1, none⟩ = some (.int .i64 num) ∧ w.cell? ⟨gl, 2, none⟩ = some (.int .i64 (len : Int)) ∧ w.cell? ⟨gl, 3, none⟩ = some (.bool up) ∧ w.frozen? ⟨gl, 2, none⟩ = false ∧ w.frozen? ⟨gl, 3, none⟩ = false :=
  ⟨Blk.cell h 0, Blk.cell h 1, Blk.cell h 2, Blk.cell h 3, Blk.frozen h 2, Blk.frozen h 3⟩
/-- The deferred closure of Append: the error is no ErrDown. -/
theorem door_no (be bl : Nat) (err : Int) (u : FrameMode) (w : World) (h0 : w.cell? ⟨be, 0, none⟩ = some (.int .i64 err)) (he : (err == 23) = false) :
    CallsD Try.prog 54 #[.pointer (some ⟨be, 0, none⟩), .pointer (some ⟨bl, 0, none⟩)] u w fun e u' w' => u' = u ∧ (e = .returned (.tuple #[]) ∧ w' = w) := by
  go_enter_d Try.func54, Try.ntmps54
  go_wp2
  go_end0
  exact ⟨rfl, rfl⟩
theorem door_yes (be bl gl : Nat) (u : FrameMode) (w : World) (v : Value) (h0 : w.cell? ⟨be, 0, none⟩ = some (.int .i64 23)) (h1 : w.cell? ⟨bl, 0, none⟩ = some (.pointer (some ⟨gl, 0, none⟩))) (h2 : w.cell? ⟨gl, 3, none⟩ = some v) (h3 : w.frozen? ⟨gl, 3, none⟩ = false) :
    CallsD Try.prog 54 #[.pointer (some ⟨be, 0, none⟩), .pointer (some ⟨bl, 0, none⟩)] u w fun e u' w' => u' = u ∧ (e = .returned (.tuple #[]) ∧ w' = w.setCell ⟨gl, 3, none⟩ (.bool false)) := by
  go_enter_d Try.func54, Try.ntmps54
  go_wp2
  go_end0
  exact ⟨rfl, rfl⟩
set_option maxRecDepth 100000 in
set_option maxHeartbeats 2000000 in
theorem logAppend_limit (gl : Nat) (A : Option Addr) (n c : Nat) (w : World) (hn : 65536 < n) :
    Calls Try.prog 32 #[.pointer (some ⟨gl, 0, none⟩), .slice A n c] w fun e w' => e = .returned (.int .i64 4) ∧ Below w.heap.size w w' := by
  go_enter_defers Try.func32, Try.ntmps32
  go_wp2
  refine leaves_cons (f := 54) (args := #[.pointer (some ⟨w.heap.size + 1, 0, none⟩), .pointer (some ⟨w.heap.size, 0, none⟩)]) (by simp) (by simp [go_sem]) ?_
  have hB := Blk.new (w.alloc (.cells #[.pointer (some ⟨gl, 0, none⟩)] 53)) 47 #[.int .i64 4]
  rw [World.size_alloc] at hB
  refine (door_no (w.heap.size + 1) w.heap.size 4 .returning _ (hB.cell 0) rfl).mono ?_
  rintro e u' w'' ⟨rfl, rfl, rfl⟩
  refine ⟨.int .i64 4, ?_, rfl, ((Below.refl _ w).alloc (Nat.le_refl _) _).alloc (by simp) _⟩
  simp [results, Try.results32, go_sem]
set_option maxRecDepth 100000 in
set_option maxHeartbeats 2000000 in
theorem logAppend_down (gl g : Nat) (num : Int) (len : Nat) (A : Option Addr) (n c : Nat) (w : World) (HL : Hid (LogAt w gl g num len false)) (hn : n ≤ 65536) :
    Calls Try.prog 32 #[.pointer (some ⟨gl, 0, none⟩), .slice A n c] w fun e w' => e = .returned (.int .i64 23) ∧ LogAt w' gl g num len false ∧ Mod (fun b => b = gl) w w' := by
  obtain ⟨l0, l1, l2, l3, -, -⟩ := HL.out.cells
  have hlt := Blk.lt HL.out
  go_enter_defers Try.func32, Try.ntmps32
  go_wp2
  refine leaves_cons (f := 54) (args := #[.pointer (some ⟨w.heap.size + 1, 0, none⟩), .pointer (some ⟨w.heap.size, 0, none⟩)]) (by simp) (by simp [go_sem]) ?_
  have hB := Blk.new (w.alloc (.cells #[.pointer (some ⟨gl, 0, none⟩)] 53)) 47 #[.int .i64 23]
  rw [World.size_alloc] at hB
  have hL := Blk.alloc (Blk.new w 53 #[.pointer (some ⟨gl, 0, none⟩)]) (.cells #[.int .i64 23] 47)
  have hG : LogAt ((w.alloc (.cells #[.pointer (some ⟨gl, 0, none⟩)] 53)).alloc (.cells #[.int .i64 23] 47)) gl g num len false := Blk.alloc (Blk.alloc HL.out _) _
  obtain ⟨-, -, -, g3, -, g4⟩ := hG.cells
  refine (door_yes (w.heap.size + 1) w.heap.size gl .returning _ _ (hB.cell 0) (hL.cell 0) g3 g4).mono ?_
  rintro e u' w'' ⟨rfl, rfl, rfl⟩
  have hB2 := Blk.far (p := ⟨gl, 3, none⟩) hB (by simp; omega) (.bool false)
  have hc := hB2.cell 0
  refine ⟨.int .i64 23, ?_, rfl, Blk.set_ hG 3 (.bool false), (((Mod.refl (fun b => b = gl) w).alloc _).alloc _).set (p := ⟨gl, 3, none⟩) (.inl rfl) _⟩
  simp [results, Try.results32, go_sem, hc]
/-- The cells that the region of Append loads. -/
structure LCells (gl g bl : Nat) (num : Int) (len : Nat) (w : World) : Prop where
  box : Blk w bl 53 #[.pointer (some ⟨gl, 0, none⟩)]
  log : LogAt w gl g num len true
theorem LCells.keep {gl g bl : Nat} {num : Int} {len : Nat} {w : World} (h : LCells gl g bl num len w) : w.cell? ⟨bl, 0, none⟩ = some (.pointer (some ⟨gl, 0, none⟩)) ∧ w.cell? ⟨gl, 0, none⟩ = some (.pointer (some ⟨g, 0, none⟩)) ∧ w.cell? ⟨gl, 1, none⟩ = some (.int .i64 num) ∧ w.cell? ⟨gl, 2, none⟩ = some (.int .i64 (len : Int)) :=
  ⟨Blk.cell h.box 0, h.log.cells.1, h.log.cells.2.1, h.log.cells.2.2.1⟩
theorem LCells.all {gl g bl : Nat} {num : Int} {len : Nat} {w w' : World} (h : LCells gl g bl num len w) (hb : Below w.heap.size w w') : LCells gl g bl num len w' := ⟨Blk.all h.box hb, Blk.all h.log hb⟩
theorem LCells.mod {gl g bl : Nat} {num : Int} {len : Nat} {w w' : World} {F : Nat → Prop} (h : LCells gl g bl num len w) (m : Mod F w w') (h1 : ¬ F bl) (h2 : ¬ F gl) : LCells gl g bl num len w' := ⟨m.blk h.box h1, m.blk h.log h2⟩
theorem undrewB {w w' : World} (h : Below w.drew.heap.size w.drew w') : Below w.heap.size w w' := ⟨h.os, h.tape, h.output, h.size, h.block⟩
set_option maxRecDepth 100000 in
set_option maxHeartbeats 2000000 in
theorem logAppend_full (gl g mb room : Nat) (num : Int) (len : Nat) (plan : Int) (fs : List Fl) (A : Option Addr) (n c : Nat) (bs : List UInt8) (w : World) (HL : Hid (LogAt w gl g num len true)) (HD : Hid (DskAt w g mb room false plan fs)) (hn : n ≤ 65536) (HX : Hid (bs.length = n)) (HR : Hid (Rd w w.heap.size A n (vByte bs))) (hlen : len ≤ 1099511627776) (h1 : 0 ≤ num) (h2 : num < 64) (hfull : room < sumL fs + (frameB (len : Int) bs).length) :
    Calls Try.prog 32 #[.pointer (some ⟨gl, 0, none⟩), .slice A n c] w fun e w' => e = .returned (.int .i64 22) ∧ Below w.heap.size w w' := by
  obtain ⟨l0, l1, l2, l3, -, -⟩ := HL.out.cells
  have hlt := Blk.lt HL.out
  have HB := Lib.hid (((Below.refl w.heap.size w).alloc (Nat.le_refl _) (.cells #[.pointer (some ⟨gl, 0, none⟩)] 53)).alloc (by simp) (.cells #[.int .i64 0] 47))
  have HE := Lib.hid (Blk.new (w.alloc (.cells #[.pointer (some ⟨gl, 0, none⟩)] 53)) 47 #[.int .i64 0])
  have HC := Lib.hid (show LCells gl g w.heap.size num len ((w.alloc (.cells #[.pointer (some ⟨gl, 0, none⟩)] 53)).alloc (.cells #[.int .i64 0] 47)) from ⟨Blk.alloc (Blk.new w 53 #[.pointer (some ⟨gl, 0, none⟩)]) _, Blk.alloc (Blk.alloc HL.out _) _⟩)
  rw [World.size_alloc] at HE
  have HRz := Lib.hid (HR.out.all HB.out)
  have HDz := Lib.hid (HD.out.all HB.out)
  have hfl := frameB_len (k := (len : Int)) (bs := bs) ⟨by omega, by omega⟩ (by rw [HX.out]; omega)
  rw [HX.out] at hfl
  go_enter_defers Try.func32, Try.ntmps32
  go_wp2
  obtain ⟨k0, k1, k2, k3⟩ := HC.out.keep
  generalize (w.alloc (.cells #[.pointer (some ⟨gl, 0, none⟩)] 53)).alloc (.cells #[.int .i64 0] 47) = wz at *
  clear l0 l1 l2 l3
  go_region_held3 (fun w' => w'.cell? ⟨w.heap.size, 0, none⟩ = some (.pointer (some ⟨gl, 0, none⟩)) ∧ w'.cell? ⟨gl, 0, none⟩ = some (.pointer (some ⟨g, 0, none⟩)) ∧ w'.cell? ⟨gl, 1, none⟩ = some (.int .i64 num) ∧ w'.cell? ⟨gl, 2, none⟩ = some (.int .i64 (len : Int)))
    (first | exact ⟨k0, k1, k2, k3⟩ | with_reducible exact (HC.out.all hS6).keep | with_reducible exact (HC.out.all hS5).keep | with_reducible exact (HC.out.all hS4).keep)
    (first
      | (go_at_call 45; ((with_reducible refine (clone_any _ _ _ bs _ HX HRz.out.drew (by omega)).mono ?_); rintro e w4 ⟨A4, c4, rfl, -, -, -, hr4, hb4⟩; have hS4 := undrewB hb4; clear hb4))
      | (go_at_call 12; revert hr4; intro hr4; ((with_reducible refine (frame_any _ _ _ _ bs _ HX (by omega) (by omega) (by omega) hr4).mono ?_); rintro e w5 ⟨A5, n5, c5, rfl, HN5, hown5, hb5⟩; have hS5 := bt hS4 hb5; clear hb5 hr4))
      | (go_at_call 35; revert hown5; intro hown5; ((with_reducible refine (appendD_full _ _ _ _ _ _ _ _ _ _ (Lib.hid (HDz.out.all hS5)) h1 h2 (by rw [← HN5.out]; exact hfull) (by rw [← HN5.out]; omega)).mono ?_); rintro e w6 ⟨rfl, hb6⟩; have hS6 := bt hS5 hb6; clear hb6)))
  have hE6 := Blk.all HE.out hS6
  have e0 : w6.cell? ⟨w.heap.size + 1, 0, none⟩ = some (.int .i64 0) := hE6.cell 0
  have e1 : w6.frozen? ⟨w.heap.size + 1, 0, none⟩ = false := hE6.frozen 0
  have hB6 := bt HB.out hS6
  have hE7 := Blk.set_ hE6 0 (.int .i64 22)
  have HE7 := Lib.hid hE7
  have HB7 := Lib.hid (hB6.setCell (p := ⟨w.heap.size + 1, 0, none⟩) (by simp) (.int .i64 22))
  clear hE6 hE7 hB6 hS6 hS5 hS4 hown5 k0 k1 k2 k3
  go_wp2
  refine leaves_cons (f := 54) (args := #[.pointer (some ⟨w.heap.size + 1, 0, none⟩), .pointer (some ⟨w.heap.size, 0, none⟩)]) (by simp) (by simp [go_sem]) ?_
  have hc := HE7.out.cell 0
  refine (door_no (w.heap.size + 1) w.heap.size 22 .returning _ hc rfl).mono ?_
  rintro e u' w'' ⟨rfl, rfl, rfl⟩
  refine ⟨.int .i64 22, ?_, rfl, HB7.out⟩
  simp at hc
  simp [results, Try.results32, go_sem, e0]
end Go.Proofs.Ytldmokjpfnakkaa

/- journal: Append of the log, where the disk takes the frame. -/
namespace Go.Proofs.Ytldmokjpfnakkaa
open Go.RowKit

/-- The files after a disk's Append. -/
def AppSt (fs : List Fl) (num : Int) (xs : List UInt8) (st : List (Int × List UInt8 × Nat)) : Prop :=
  (findF fs num = none ∧ st = fs.map Fl.log ++ [(num, xs, 0)]) ∨ ∃ l1 f l2, fs = l1 ++ f :: l2 ∧ findF fs num = some f ∧ st = l1.map Fl.log ++ (f.num, f.bs ++ xs, f.dur) :: l2.map Fl.log
theorem appendD_any (g mb room : Nat) (plan : Int) (fs : List Fl) (st : List (Int × List UInt8 × Nat)) (num : Int) (A : Option Addr) (n c : Nat) (xs : List UInt8) (o : Bool) (w : World) (HD : Hid (DskAt w g mb room false plan fs)) (HS : Hid (AppSt fs num xs st)) (HO : Hid (failOff false plan = o)) (h1 : 0 ≤ num) (h2 : num < 64) (HX : Hid (xs.length = n)) (hn0 : 0 < n) (hroom : sumL fs + n ≤ room)
    (HR : Hid (Rd w w.heap.size A n (vByte xs))) (HA : Hid (∀ b off, A = some ⟨b, off, none⟩ → ¬ DskF g mb fs b)) :
    Calls Try.prog 35 #[.pointer (some ⟨g, 0, none⟩), .int .i64 num, .slice A n c] w fun e w' => e = .returned (.int .i64 (if o then 23 else 0)) ∧ DskNext g mb room o (failPlan plan) fs st w w' := by
  rw [← HO.out]
  rcases HS.out with ⟨h3, rfl⟩ | ⟨l1, f, l2, rfl, h3, rfl⟩
  · exact appendD_new g mb room plan fs num A n c xs w HD (Lib.hid h3) h1 h2 HX hn0 hroom HR HA
  · exact appendD_old g mb room plan l1 l2 f num A n c xs w HD (Lib.hid h3) h1 h2 HX hn0 hroom HR HA
theorem away_own {w : World} {B N n c : Nat} {A : Option Addr} {xs : List Value} {P : Nat → Prop} (h : w.ownsRow B 5 1 (.slice A n c) n xs) (hp : 0 < n) (hP : ∀ b, P b → b < N) (hN : N ≤ B) : ∀ b off, A = some ⟨b, off, none⟩ → ¬ P b := by
  intro b off eb hf
  have h3 := hP b hf
  obtain ⟨gq, eg, hgq, _⟩ := own_some h hp
  rw [eb] at eg
  injection eg with eg
  injection eg with eg _ _
  omega
/-- The log and its disk after Append. -/
def LogNext (gl g mb room : Nat) (num : Int) (off' : Bool) (plan' : Int) (len' : Nat) (up' : Bool) (fs : List Fl) (st : List (Int × List UInt8 × Nat)) (w w' : World) : Prop :=
  ∃ fs', fs'.map Fl.log = st ∧ DskAt w' g mb room off' plan' fs' ∧ LogAt w' gl g num len' up' ∧ Mod (fun b => DskF g mb fs b ∨ b = gl) w w' ∧ ∀ b, DskF g mb fs' b → DskF g mb fs b ∨ w.heap.size ≤ b
set_option maxRecDepth 100000 in
set_option maxHeartbeats 4000000 in
theorem logAppend_ok (gl g mb room : Nat) (num : Int) (len : Nat) (plan : Int) (fs : List Fl) (st : List (Int × List UInt8 × Nat)) (A : Option Addr) (n c : Nat) (bs : List UInt8) (w : World) (HL : Hid (LogAt w gl g num len true)) (HD : Hid (DskAt w g mb room false plan fs)) (hgl : ¬ DskF g mb fs gl) (hn : n ≤ 65536) (HX : Hid (bs.length = n)) (HR : Hid (Rd w w.heap.size A n (vByte bs))) (hlen : len ≤ 1099511627776) (h1 : 0 ≤ num) (h2 : num < 64) (hroom : sumL fs + (frameB (len : Int) bs).length ≤ room)
    (HS : Hid (AppSt fs num (frameB (len : Int) bs) st)) (HO1 : Hid (failOff false plan = false)) (HO2 : Hid (failOff false (failPlan plan) = false)) :
    Calls Try.prog 32 #[.pointer (some ⟨gl, 0, none⟩), .slice A n c] w fun e w' => e = .returned (.int .i64 0) ∧ LogNext gl g mb room num false (failPlan (failPlan plan)) (len + 1) true fs (syncLog st) w w' := by
  obtain ⟨l0, l1, l2, l3, -, -⟩ := HL.out.cells
  have hlt := Blk.lt HL.out
  have HF := Lib.hid HD.out.ltF
  have HB := Lib.hid (((Below.refl w.heap.size w).alloc (Nat.le_refl _) (.cells #[.pointer (some ⟨gl, 0, none⟩)] 53)).alloc (by simp) (.cells #[.int .i64 0] 47))
  have HE := Lib.hid (Blk.new (w.alloc (.cells #[.pointer (some ⟨gl, 0, none⟩)] 53)) 47 #[.int .i64 0])
  have HC := Lib.hid (show LCells gl g w.heap.size num len ((w.alloc (.cells #[.pointer (some ⟨gl, 0, none⟩)] 53)).alloc (.cells #[.int .i64 0] 47)) from ⟨Blk.alloc (Blk.new w 53 #[.pointer (some ⟨gl, 0, none⟩)]) _, Blk.alloc (Blk.alloc HL.out _) _⟩)
  rw [World.size_alloc] at HE
  have HRz := Lib.hid (HR.out.all HB.out)
  have HDz := Lib.hid (HD.out.all HB.out)
  have hfl := frameB_len (k := (len : Int)) (bs := bs) ⟨by omega, by omega⟩ (by rw [HX.out]; omega)
  have hfp := frameB_pos (len : Int) bs
  rw [HX.out] at hfl
  have hbl : ¬ DskF g mb fs w.heap.size := fun h => by have := HF.out _ h; omega
  have hel : ¬ DskF g mb fs (w.heap.size + 1) := fun h => by have := HF.out _ h; omega
  have HGL := Lib.hid hgl
  have HBL := Lib.hid hbl
  have HEL := Lib.hid hel
  clear hgl hbl hel
  go_enter_defers Try.func32, Try.ntmps32
  go_wp2
  obtain ⟨k0, k1, k2, k3⟩ := HC.out.keep
  generalize (w.alloc (.cells #[.pointer (some ⟨gl, 0, none⟩)] 53)).alloc (.cells #[.int .i64 0] 47) = wz at *
  clear l0 l1 l2 l3
  have hwz := HB.out.size
  go_region_held3 (fun w' => w'.cell? ⟨w.heap.size, 0, none⟩ = some (.pointer (some ⟨gl, 0, none⟩)) ∧ w'.cell? ⟨gl, 0, none⟩ = some (.pointer (some ⟨g, 0, none⟩)) ∧ w'.cell? ⟨gl, 1, none⟩ = some (.int .i64 num) ∧ w'.cell? ⟨gl, 2, none⟩ = some (.int .i64 (len : Int)))
    (first | exact ⟨k0, k1, k2, k3⟩ | with_reducible exact ((HC.out.all hS5).mod m6 HBL.out HGL.out).keep | with_reducible exact (HC.out.all hS5).keep | with_reducible exact (HC.out.all hS4).keep)
    (first
      | (go_at_call 45; ((with_reducible refine (clone_any _ _ _ bs _ HX HRz.out.drew (by omega)).mono ?_); rintro e w4 ⟨A4, c4, rfl, -, -, -, hr4, hb4⟩; have hS4 := undrewB hb4; clear hb4))
      | (go_at_call 12; revert hr4; intro hr4; ((with_reducible refine (frame_any _ _ _ _ bs _ HX (by omega) (by omega) (by omega) hr4).mono ?_); rintro e w5 ⟨A5, n5, c5, rfl, HN5, hown5, hb5⟩; have hS5 := bt hS4 hb5; have hz4 := hS4.size; clear hb5 hr4))
      | (go_at_call 35; revert hown5; intro hown5; ((with_reducible refine (appendD_any _ _ _ _ _ st _ _ _ _ (frameB (len : Int) bs) false _ (Lib.hid (HDz.out.all hS5)) HS HO1 h1 h2 HN5 (by rw [← HN5.out]; exact hfp) (by rw [← HN5.out]; exact hroom) (Lib.hid (rd_bytes hown5).2.2) (Lib.hid (away_own hown5 (by rw [← HN5.out]; exact hfp) HF.out (by omega)))).mono ?_); rintro e w6 ⟨rfl, fs6, hst6, hD6, m6, hF6⟩)))
  have hC6 := (HC.out.all hS5).mod m6 HBL.out HGL.out
  have hE6 : Blk w6 (w.heap.size + 1) 47 #[.int .i64 0] := m6.blk (Blk.all HE.out hS5) HEL.out
  have M6 : Mod (fun b => DskF g mb fs b ∨ b = gl) w w6 := (Mod.of_below (fun b => DskF g mb fs b ∨ b = gl) (bt HB.out hS5)).trans m6 (fun b hb => .inl (.inl hb))
  have hw5 := (bt HB.out hS5).size
  have HF6 : Hid (∀ b, DskF g mb fs6 b → DskF g mb fs b ∨ w.heap.size + 2 ≤ b) := Lib.hid (fun b hb => (hF6 b hb).imp id (fun h => by
    have h1 := hS5.size
    have h2 := Blk.lt HE.out
    omega))
  obtain ⟨k0, k1, k2, k3⟩ := hC6.keep
  clear hown5 hS4 hS5 m6 hF6 hz4
  go_wp2_with fail
  refine (sync_any _ _ _ _ _ _ (Lib.hid hD6)).mono ?_
  rintro e w7 ⟨rfl, fs7, hst7, hD7, m7, hF7⟩
  rw [HO2.out] at hst7 hD7 ⊢
  have hgl6 : ¬ DskF g mb fs6 gl := fun h => (HF6.out _ h).elim HGL.out (by omega)
  have hbl6 : ¬ DskF g mb fs6 w.heap.size := fun h => (HF6.out _ h).elim HBL.out (by omega)
  have hel6 : ¬ DskF g mb fs6 (w.heap.size + 1) := fun h => (HF6.out _ h).elim HEL.out (by omega)
  have hC7 := hC6.mod m7 hbl6 hgl6
  have hE7 := m7.blk hE6 hel6
  have M7 : Mod (fun b => DskF g mb fs b ∨ b = gl) w w7 := M6.trans m7 (fun b hb => (HF6.out b hb).imp .inl (fun h => by omega))
  have HF7 : Hid (∀ b, DskF g mb fs7 b → DskF g mb fs b ∨ w.heap.size + 2 ≤ b) := Lib.hid (fun b hb => (hF7 b hb).elim (HF6.out b) (fun h => .inr (by
    have := M6.size
    have := Blk.lt hE6
    omega)))
  have hst : fs7.map Fl.log = syncLog st := by rw [hst7, ← hst6]; rfl
  obtain ⟨l0, l1, l2, l3, l4, l5⟩ := hC7.log.cells
  have b0 : w7.cell? ⟨w.heap.size, 0, none⟩ = some (.pointer (some ⟨gl, 0, none⟩)) := Blk.cell hC7.box 0
  have e0 : w7.cell? ⟨w.heap.size + 1, 0, none⟩ = some (.int .i64 0) := hE7.cell 0
  have e1 : w7.frozen? ⟨w.heap.size + 1, 0, none⟩ = false := hE7.frozen 0
  have ma : Mod (fun b => b = gl ∨ b = w.heap.size + 1) w7 ((w7.setCell ⟨gl, 2, none⟩ (.int .i64 ((len : Int) + 1))).setCell ⟨w.heap.size + 1, 0, none⟩ (.int .i64 0)) := ((Mod.refl (fun b => b = gl ∨ b = w.heap.size + 1) w7).set (p := ⟨gl, 2, none⟩) (.inl (.inl rfl)) _).set (p := ⟨w.heap.size + 1, 0, none⟩) (.inl (.inr rfl)) _
  have HLG : Hid (LogAt ((w7.setCell ⟨gl, 2, none⟩ (.int .i64 ((len : Int) + 1))).setCell ⟨w.heap.size + 1, 0, none⟩ (.int .i64 0)) gl g num (len + 1) true) := Lib.hid (Blk.far (by simpa [LogAt] using Blk.set_ hC7.log 2 (.int .i64 ((len : Int) + 1))) (by simp; omega) _)
  have HER := Lib.hid (Blk.set_ (Blk.far (p := ⟨gl, 2, none⟩) hE7 (by simp; omega) (.int .i64 ((len : Int) + 1))) 0 (.int .i64 0))
  have HNX : Hid (LogNext gl g mb room num false (failPlan (failPlan plan)) (len + 1) true fs (syncLog st) w ((w7.setCell ⟨gl, 2, none⟩ (.int .i64 ((len : Int) + 1))).setCell ⟨w.heap.size + 1, 0, none⟩ (.int .i64 0))) := Lib.hid ⟨fs7, hst, hD7.mod ma (by
    rintro b hb (rfl | rfl)
    · exact (HF7.out _ hb).elim HGL.out (by omega)
    · exact (HF7.out _ hb).elim HEL.out (by omega)), HLG.out, M7.trans ma (by
    rintro b (rfl | rfl)
    · exact .inl (.inr rfl)
    · exact .inr (by omega)), fun b hb => (HF7.out b hb).imp id (fun h => by omega)⟩
  clear hC6 hE6 M6 hD6 hst6 hD7 m7 hF7 hst7 hC7 hE7 M7 hst ma k0 k1 k2 k3 hgl6 hbl6 hel6 HLG
  go_wp2
  refine leaves_cons (f := 54) (args := #[.pointer (some ⟨w.heap.size + 1, 0, none⟩), .pointer (some ⟨w.heap.size, 0, none⟩)]) (by simp) (by simp [go_sem]) ?_
  have hc := HER.out.cell 0
  refine (door_no (w.heap.size + 1) w.heap.size 0 .returning _ hc rfl).mono ?_
  rintro e u' w'' ⟨rfl, rfl, rfl⟩
  refine ⟨.int .i64 0, ?_, rfl, HNX.out⟩
  simp [results, Try.results32, go_sem, hc]
end Go.Proofs.Ytldmokjpfnakkaa

/- journal: Open. -/
namespace Go.Proofs.Ytldmokjpfnakkaa
open Go.RowKit

/-- What Open returns where all goes well. -/
def OpenPost (g mb room : Nat) (num : Int) (plan' : Int) (fs : List Fl) (rs : List (List UInt8)) (st : List (Int × List UInt8 × Nat)) (w : World) (e : Ending) (w' : World) : Prop :=
  ∃ gl v L fs', e = .returned (.tuple #[.pointer (some ⟨gl, 0, none⟩), v, .int .i64 0]) ∧ w.heap.size ≤ gl ∧ LogAt w' gl g num rs.length true ∧ LsOwn w' w.heap.size v L ∧ bsOf L = rs ∧ (∀ z ∈ L, z.low w.heap.size) ∧ fs'.map Fl.log = st ∧ DskAt w' g mb room false plan' fs' ∧ Mod (DskF g mb fs) w w' ∧ (∀ b, DskF g mb fs' b → DskF g mb fs b ∨ w.heap.size ≤ b) ∧ ¬ DskF g mb fs' gl
theorem open_nil (num : Int) (w : World) : Calls Try.prog 30 #[.pointer none, .int .i64 num] w fun e w' => e = .returned (.tuple #[.pointer none, .slice none 0 0, .int .i64 1]) ∧ w = w' := by
  go_enter Try.func30, Try.ntmps30
  go_wp2
  go_ret3
  exact ⟨rfl, rfl⟩
theorem open_arg (g mb room : Nat) (off : Bool) (plan : Int) (fs : List Fl) (num : Int) (w : World) (HD : Hid (DskAt w g mb room off plan fs)) (h : num < 0 ∨ 64 ≤ num) : Calls Try.prog 30 #[.pointer (some ⟨g, 0, none⟩), .int .i64 num] w fun e w' => e = .returned (.tuple #[.pointer none, .slice none 0 0, .int .i64 1]) ∧ w = w' := by
  go_enter Try.func30, Try.ntmps30
  go_wp2_with (go_at_call 51; ((with_reducible refine (readD_arg _ _ _ _ _ _ _ _ HD h).mono ?_); rintro e w1 ⟨rfl, rfl⟩))
  go_ret3
  exact ⟨rfl, rfl⟩
/-- The bytes of a file. -/
def fileBs (fs : List Fl) (num : Int) : List UInt8 := ((findF fs num).map Fl.bs).getD []
/-- Read, with or without a file. -/
theorem readD_any (g mb room : Nat) (plan : Int) (fs : List Fl) (num : Int) (w : World) (HD : Hid (DskAt w g mb room false plan fs)) (h1 : 0 ≤ num) (h2 : num < 64) :
    Calls Try.prog 51 #[.pointer (some ⟨g, 0, none⟩), .int .i64 num] w (ReadPost (fileBs fs num) w) := by
  cases hf : findF fs num with
  | none =>
    have e : fileBs fs num = [] := by unfold fileBs; rw [hf]; rfl
    rw [e]
    refine (readD_none g mb room plan fs num w HD (Lib.hid hf) h1 h2).mono ?_
    rintro e w' ⟨rfl, rfl⟩
    exact ⟨none, 0, 0, rfl, World.ownsRow_nil _ _ _ _, Below.refl _ _⟩
  | some f =>
    have e : fileBs fs num = f.bs := by unfold fileBs; rw [hf]; rfl
    rw [e]
    exact readD_some g mb room plan fs f num w HD (Lib.hid hf) h1 h2
set_option maxRecDepth 100000 in
set_option maxHeartbeats 2000000 in
theorem open_clean (g mb room : Nat) (plan : Int) (fs : List Fl) (num : Int) (rs : List (List UInt8)) (w : World) (HD : Hid (DskAt w g mb room false plan fs)) (h1 : 0 ≤ num) (h2 : num < 64) (HB : Hid (fileBs fs num = framesB 0 rs)) (HO : Hid (failOff false plan = false)) :
    Calls Try.prog 30 #[.pointer (some ⟨g, 0, none⟩), .int .i64 num] w (OpenPost g mb room num (failPlan plan) fs rs (syncLog (fs.map Fl.log)) w) := by
  have hlen : (framesB 0 rs).length ≤ 16777216 := by
    rw [← HB.out]
    unfold fileBs
    cases hf : findF fs num with
    | none => simp
    | some f =>
      obtain ⟨l1, l2, hfs, -⟩ := findF_split hf
      have h1 := HD.out.room_le
      have h2 := HD.out.used_le
      rw [hfs, sumL_append, sumL_cons] at h2
      simp only [Option.map_some, Option.getD_some]
      omega
  have HF := Lib.hid HD.out.ltF
  have HSC : Hid (ScanIs (framesB 0 rs) rs (framesB 0 rs).length) := Lib.hid ⟨rfl, [], (List.append_nil _).symm, fun x r h => by
    have h1 := congrArg List.length h
    rw [List.length_append] at h1
    have h2 := frameB_pos ((rs.length : Nat) : Int) x
    simp only [List.length_nil] at h1
    omega⟩
  go_enter Try.func30, Try.ntmps30
  go_wp2_with fail
  refine (readD_any _ _ _ _ _ _ _ HD h1 h2).mono ?_
  rintro e w1 ⟨A1, n1, c1, rfl, hown1, hb1⟩
  rw [HB.out] at hown1
  have hS1 := Sb.own hown1
  have hD1 := HD.out.all hb1
  have HN1 := Lib.hid hS1.1
  have hn1 : n1 ≤ 16777216 := by rw [← HN1.out]; exact hlen
  clear hown1
  go_wp2_with fail
  refine (scan2_any _ _ _ _ _ (Lib.hid hS1) (by omega)).mono ?_
  rintro e w2 ⟨v2, L2, m2, rfl, hL2, hs2, hb2, hlow2⟩
  obtain ⟨e1, e2⟩ := ScanIs.unique (by omega) hs2 HSC.out
  rw [HN1.out] at e2
  subst e2
  obtain ⟨A2, c2, rfl⟩ := hL2.slice
  have HE1 := Lib.hid e1
  have hD2 := hD1.all hb2
  have hB2 := bt hb1 hb2
  have hll : L2.length = rs.length := by rw [← bsOf_length, e1]
  rw [hll] at hL2 ⊢
  have hrl : rs.length ≤ 16777216 := by
    have := framesB_len rs 0
    omega
  have hz1 := hb1.size
  have HLW : Hid (∀ z ∈ L2, z.low w.heap.size) := Lib.hid (fun z hz => (hlow2 z hz).mono hz1)
  have HL2 := Lib.hid (hL2.lower hz1)
  clear hs2 e1 hll hL2 hlow2 hb1 hb2 hD1 hS1 hz1
  go_wp2_with fail
  refine (sync_any _ _ _ _ _ _ (Lib.hid hD2)).mono ?_
  rintro e w3 ⟨rfl, fs3, hst3, hD3, m3, hF3⟩
  rw [HO.out] at hst3 hD3 ⊢
  have hL3 : LsOwn w3 w.heap.size (.slice A2 rs.length c2) L2 := HL2.out.modL HLW.out m3 (fun b hb hf => by have := HF.out b hf; omega) (Nat.le_refl _)
  have M3 : Mod (DskF g mb fs) w w3 := (Mod.of_below (DskF g mb fs) hB2).trans m3 (fun b hb => .inl hb)
  have hz2 := hB2.size
  have HF3 : Hid (∀ b, DskF g mb fs3 b → DskF g mb fs b ∨ w.heap.size ≤ b) := Lib.hid (fun b hb => (hF3 b hb).imp id (fun h => by omega))
  have hb4 := (Below.refl w3.heap.size w3).alloc (Nat.le_refl _) (.cells #[.pointer (some ⟨g, 0, none⟩), .int .i64 num, .int .i64 ((rs.length : Nat) : Int), .bool true] 87)
  have HLG : Hid (LogAt (w3.alloc (.cells #[.pointer (some ⟨g, 0, none⟩), .int .i64 num, .int .i64 ((rs.length : Nat) : Int), .bool true] 87)) w3.heap.size g num rs.length true) := Lib.hid (Blk.new w3 87 _)
  have HFIN : Hid (OpenPost g mb room num (failPlan plan) fs rs (syncLog (fs.map Fl.log)) w (.returned (.tuple #[.pointer (some ⟨w3.heap.size, 0, none⟩), .slice A2 rs.length c2, .int .i64 0])) (w3.alloc (.cells #[.pointer (some ⟨g, 0, none⟩), .int .i64 num, .int .i64 ((rs.length : Nat) : Int), .bool true] 87))) := Lib.hid
    ⟨w3.heap.size, _, L2, fs3, rfl, M3.size, HLG.out, hL3.all hb4, HE1.out, HLW.out, hst3, hD3.all hb4, M3.then_below hb4, HF3.out, fun h => by have := hD3.ltF _ h; omega⟩
  clear hL3 M3 hb4 hD3 hst3 m3 hF3 hD2 hB2 HL2 HLG
  go_wp2
  go_ret3
  exact HFIN.out
end Go.Proofs.Ytldmokjpfnakkaa

/- journal: lemmas for the laws. -/
namespace Go.Proofs.Ytldmokjpfnakkaa
open Go.RowKit
theorem frames_le (L : List Bz) (hs : ∀ z ∈ L, z.bs.length ≤ 10) (hn : L.length ≤ 6) : ∀ k, k ≤ L.length → (framesB 0 (bsOf (L.take k))).length ≤ 50 * k := by
  intro k
  induction k with
  | zero => intro _; simp [bsOf, framesB]
  | succ k ih =>
    intro hk
    have h1 := ih (by omega)
    rw [← List.take_append_getElem (show k < L.length by omega), bsOf_snoc, framesB_snoc, List.length_append]
    have h2 := frameB_len (k := ((0 + (bsOf (L.take k)).length : Nat) : Int)) (bs := (L[k]'(by omega)).bs) (by rw [bsOf_length, List.length_take]; exact ⟨by omega, by omega⟩) (by have := hs _ (List.getElem_mem (show k < L.length by omega)); omega)
    have h3 := hs _ (List.getElem_mem (show k < L.length by omega))
    omega
theorem rd_list {w : World} {B n : Nat} {A : Option Addr} {f : Nat → Int} (h : Rd w B A n (fun j => .int .u8 (f j))) (hf : ∀ j, j < n → 0 ≤ f j ∧ f j ≤ 255) : Rd w B A n (vByte ((List.range n).map fun j => UInt8.ofNat (f j).toNat)) :=
  h.congr (fun j hj => by
    have := hf j hj
    unfold vByte
    rw [List.getElem?_map, List.getElem?_range hj]
    simp only [Option.map_some, Option.getD_some]
    rw [ofNat_toNat (by omega)]
    congr 1
    omega)
theorem run_cut (A : Option Addr) (n c m : Nat) (mi : Int) (hmi : mi = (m : Int)) (hm : m ≤ c) (w : World) : (Instr.slice 23 (.slice A n c) none (some (.int .i64 mi)) none).run Try.prog w = .ok (.slice A m c) w := by
  subst hmi
  have e : A.map (fun a => a.add 0) = A := by
    cases A with
    | none => rfl
    | some a => simp [Addr.add]
  have h1 : (m : Int) ≤ (c : Int) := by omega
  have h2 := run_slice_h (P := Try.prog) (w := w) 23 A n c (by kernel_rfl) .i64 (m : Int) (by omega) h1
  rw [h2]
  have h3 : (sizeOf (Try.prog.elem 23)).run Try.prog w = .ok 1 w := by kernel_rfl
  rw [h3]
  simp only [Result.andThen, sliced, Nat.zero_mul, e, ite_self, Nat.sub_zero, Int.toNat_natCast]
theorem three_rows {w : World} {A1 A2 A3 : Option Addr} {n1 n2 n3 c1 c2 c3 : Nat} {b1 b2 b3 : List UInt8} (h1 : Sb w A1 n1 c1 b1) (h2 : Sb w A2 n2 c2 b2) (h3 : Sb w A3 n3 c3 b3) :
    LsRd (w.alloc (.cells #[.slice A1 n1 c1, .slice A2 n2 c2, .slice A3 n3 c3] 23)) (some ⟨w.heap.size, 0, none⟩) 3 3 [⟨A1, n1, c1, b1⟩, ⟨A2, n2, c2, b2⟩, ⟨A3, n3, c3, b3⟩] := by
  have hb := (Below.refl w.heap.size w).alloc (Nat.le_refl _) (.cells #[.slice A1 n1 c1, .slice A2 n2 c2, .slice A3 n3 c3] 23)
  have hB := Blk.new w 23 #[.slice A1 n1 c1, .slice A2 n2 c2, .slice A3 n3 c3]
  refine ⟨rfl, by decide, by decide, fun _ => ⟨_, _, rfl, by simp, fun j hj => ?_⟩, fun z hz => ?_⟩
  · rw [Nat.zero_add, hB.cell]
    rcases (show j = 0 ∨ j = 1 ∨ j = 2 by omega) with rfl | rfl | rfl <;> rfl
  · simp at hz
    rcases hz with rfl | rfl | rfl
    · exact ⟨h1.1, h1.2.1, h1.2.2.1, (h1.all hb).rd⟩
    · exact ⟨h2.1, h2.2.1, h2.2.2.1, (h2.all hb).rd⟩
    · exact ⟨h3.1, h3.2.1, h3.2.2.1, (h3.all hb).rd⟩
theorem three_sb {w : World} {A1 A2 A3 : Option Addr} {n1 n2 n3 c1 c2 c3 : Nat} {b1 b2 b3 : List UInt8} (h1 : Sb w A1 n1 c1 b1) (h2 : Sb w A2 n2 c2 b2) (h3 : Sb w A3 n3 c3 b3) :
    ∀ z ∈ ([⟨A1, n1, c1, b1⟩, ⟨A2, n2, c2, b2⟩, ⟨A3, n3, c3, b3⟩] : List Bz), Sb (w.alloc (.cells #[.slice A1 n1 c1, .slice A2 n2 c2, .slice A3 n3 c3] 23)) z.A z.n z.c z.bs := by
  have hb := (Below.refl w.heap.size w).alloc (Nat.le_refl _) (.cells #[.slice A1 n1 c1, .slice A2 n2 c2, .slice A3 n3 c3] 23)
  intro z hz
  simp at hz
  rcases hz with rfl | rfl | rfl
  · exact h1.all hb
  · exact h2.all hb
  · exact h3.all hb
theorem three_n {nR na nF : Nat} (h1 : nR ≤ 60) (h2 : na ≤ 300) (h3 : nF ≤ 50) {AR A2 AF : Option Addr} {cR c2 cF : Nat} {rsR bs2 fs : List UInt8} : ∀ z ∈ ([⟨AR, nR, cR, rsR⟩, ⟨A2, na, c2, bs2⟩, ⟨AF, nF, cF, fs⟩] : List Bz), z.n ≤ 300 := by
  intro z hz
  simp at hz
  rcases hz with rfl | rfl | rfl <;> simp only <;> omega
theorem scan_len {bs : List UInt8} {L : List Bz} {m n : Nat} (h : ScanIs bs (bsOf L) m) (hn : bs.length ≤ n) : L.length ≤ n := by
  obtain ⟨h1, r, h2, -⟩ := h
  have h3 := framesB_len (bsOf L) 0
  rw [bsOf_length] at h3
  have h4 := congrArg List.length h2
  rw [List.length_append] at h4
  omega
theorem frames_next {L : List Bz} {k : Nat} {z : Bz} (hz : L[k]? = some z) : framesB 0 (bsOf (L.take (k + 1))) = framesB 0 (bsOf (L.take k)) ++ frameB (k : Nat) z.bs := by
  obtain ⟨hk, rfl⟩ := List.getElem?_eq_some_iff.1 hz
  rw [← List.take_append_getElem hk, bsOf_snoc, framesB_snoc, bsOf_length, List.length_take, Nat.zero_add, Nat.min_eq_left (by omega)]
end Go.Proofs.Ytldmokjpfnakkaa

/- journal: the invariant of JournalFull. -/
namespace Go.Proofs.Ytldmokjpfnakkaa
open Go.RowKit

def Bz.inI (a b : Nat) (z : Bz) : Prop := ∀ g off, z.A = some ⟨g, off, none⟩ → 0 < z.n → a ≤ g ∧ g < b
theorem Bz.ok.inI {w : World} {z : Bz} {a : Nat} (h : z.ok w) (hl : z.low a) : z.inI a w.heap.size := by
  intro g off e hn
  refine ⟨hl g off e hn, ?_⟩
  obtain ⟨b, o, cs, fr, e', hh, -⟩ := h.2.2.2 hn
  rw [e] at e'
  injection e' with e'
  injection e' with e' _ _
  rw [e']
  exact (Array.getElem?_eq_some_iff.1 hh).1
theorem Bz.ok.modI {w w' : World} {F : Nat → Prop} {a b : Nat} {z : Bz} (h : z.ok w) (hl : z.inI a b) (m : Mod F w w') (hF : ∀ g, a ≤ g → g < b → ¬ F g) : z.ok w' := by
  refine ⟨h.1, h.2.1, h.2.2.1, fun hn => ?_⟩
  obtain ⟨g, off, cs, fr, e, hh, hc⟩ := h.2.2.2 hn
  obtain ⟨h1, h2⟩ := hl g off e hn
  exact ⟨g, off, cs, fr, e, (m.block g (Array.getElem?_eq_some_iff.1 hh).1 (hF g h1 h2)).trans hh, hc⟩
theorem LsOwn.modT {w w' : World} {base a b : Nat} {v : Value} {L : List Bz} {F : Nat → Prop} (h : LsOwn w base v L) (hl : ∀ z ∈ L, z.inI a b) (m : Mod F w w') (hT : ∀ g, F g → ¬ Ty w g 23) (hF : ∀ g, a ≤ g → g < b → ¬ F g) : LsOwn w' base v L :=
  ⟨m.own h.1 (fun g e hf => hT g hf (Ty.of_own h.1 e)), fun z hz => (h.2 z hz).modI (hl z hz) m hF⟩
theorem DskAt.noRow {w : World} {g mb room : Nat} {off : Bool} {plan : Int} {fs : List Fl} (h : DskAt w g mb room off plan fs) : ∀ b, DskF g mb fs b → ¬ Ty w b 23 := by
  rintro b (rfl | rfl | ⟨f, hf, (rfl | e)⟩) ht
  · exact absurd (Ty.unique h.blk.ty ht) (by decide)
  · exact h.map.not_ty ht
  · exact absurd (Ty.unique (h.ok f hf).1.ty ht) (by decide)
  · exact absurd (Ty.unique (Ty.of_own (h.ok f hf).2.1 e) ht) (by decide)
/-- The disk's files where the file 63 holds the records ks. -/
def stK (ks : List (List UInt8)) : List (Int × List UInt8 × Nat) := if ks = [] then [] else [(63, framesB 0 ks, (framesB 0 ks).length)]
theorem stK_sum {fs : List Fl} {ks : List (List UInt8)} (h : fs.map Fl.log = stK ks) : sumL fs = (framesB 0 ks).length := by
  unfold stK at h
  by_cases hk : ks = []
  · rw [if_pos hk] at h
    have : fs = [] := by simpa using h
    subst this
    subst hk
    rfl
  · rw [if_neg hk] at h
    rcases fs with _ | ⟨f, _ | ⟨f2, fs⟩⟩
    · simp at h
    · simp [Fl.log] at h
      simp [sumL, h.2.1]
    · simp at h
theorem stK_file {fs : List Fl} {ks : List (List UInt8)} (h : fs.map Fl.log = stK ks) : fileBs fs 63 = framesB 0 ks := by
  unfold stK at h
  by_cases hk : ks = []
  · rw [if_pos hk] at h
    have : fs = [] := by simpa using h
    subst this
    subst hk
    rfl
  · rw [if_neg hk] at h
    rcases fs with _ | ⟨f, _ | ⟨f2, fs⟩⟩
    · simp at h
    · simp [Fl.log] at h
      simp [fileBs, findF, h.1, h.2.1]
    · simp at h
theorem stK_app0 {fs : List Fl} {ks : List (List UInt8)} {fr all : List UInt8} (h : fs.map Fl.log = stK ks) (hall : all = framesB 0 ks ++ fr) : ∃ st, AppSt fs 63 fr st ∧ syncLog st = [(63, all, all.length)] := by
  unfold stK at h
  by_cases hk : ks = []
  · rw [if_pos hk] at h
    have : fs = [] := by simpa using h
    subst this
    refine ⟨_, .inl ⟨rfl, rfl⟩, ?_⟩
    have e : all = fr := by rw [hall, hk, framesB_nil, List.nil_append]
    rw [e]
    rfl
  · rw [if_neg hk] at h
    generalize framesB 0 ks = old at *
    rcases fs with _ | ⟨f, _ | ⟨f2, fs⟩⟩
    · simp at h
    · simp [Fl.log] at h
      refine ⟨_, .inr ⟨[], f, [], rfl, by simp [findF, h.1], rfl⟩, ?_⟩
      rw [hall]
      simp [syncLog, h.1, h.2.1]
    · simp at h
theorem stK_app {fs : List Fl} {ks : List (List UInt8)} (h : fs.map Fl.log = stK ks) (x : List UInt8) : ∃ st, AppSt fs 63 (frameB (ks.length : Nat) x) st ∧ syncLog st = stK (ks ++ [x]) := by
  obtain ⟨st, h1, h2⟩ := stK_app0 (all := framesB 0 (ks ++ [x])) h (by rw [framesB_snoc, Nat.zero_add])
  refine ⟨st, h1, ?_⟩
  rw [h2]
  unfold stK
  rw [if_neg (by simp)]
theorem stK_sync (ks : List (List UInt8)) : syncLog (stK ks) = stK ks := by
  unfold stK
  split <;> simp [syncLog]
/-- The state of JournalFull's loop: K is kept of X. -/
structure FullI (W : World) (N5 N6 g mb gl room : Nat) (vX vK : Value) (X K : List Bz) (w : World) : Prop where
  dsk : ∃ fs, DskAt w g mb room false (-1) fs ∧ fs.map Fl.log = stK (bsOf K) ∧ (∀ b, DskF g mb fs b → b < N5 ∨ N6 ≤ b) ∧ (∀ b, DskF g mb fs b → W.heap.size ≤ b) ∧ ¬ DskF g mb fs gl
  log : LogAt w gl g 63 K.length true
  glo : W.heap.size ≤ gl ∧ gl < N5 ∧ N5 ≤ N6
  xs : LsOwn w N5 vX X
  ks : LsOwn w N6 vK K
  xin : ∀ z ∈ X, z.inI N5 N6
  kin : ∀ z ∈ K, z ∈ X
  xrow : ∀ b, vX.ownBlock = some b → b < N6
  n6 : N6 ≤ w.heap.size
  below : Below W.heap.size W w
theorem FullI.all {W : World} {N5 N6 g mb gl room : Nat} {vX vK : Value} {X K : List Bz} {w w' : World} (h : FullI W N5 N6 g mb gl room vX vK X K w) (hb : Below w.heap.size w w') : FullI W N5 N6 g mb gl room vX vK X K w' := by
  obtain ⟨⟨fs, h1, h2⟩, h3, h4, h5, h6, h7, h8, hx, h9, h10⟩ := h
  exact ⟨⟨fs, h1.all hb, h2⟩, Blk.all h3 hb, h4, h5.all hb, h6.all hb, h7, h8, hx, Nat.le_trans h9 hb.size, bt h10 hb⟩
/-- After an Append that was taken. -/
theorem FullI.app {W : World} {N5 N6 g mb gl room : Nat} {vX vK : Value} {X K : List Bz} {w w' : World} {fs : List Fl} {z : Bz} {st : List (Int × List UInt8 × Nat)} (h : FullI W N5 N6 g mb gl room vX vK X K w) (hd : DskAt w g mb room false (-1) fs) (hsep : ∀ b, DskF g mb fs b → b < N5 ∨ N6 ≤ b) (hW : ∀ b, DskF g mb fs b → W.heap.size ≤ b) (hgl : ¬ DskF g mb fs gl)
    (hn : LogNext gl g mb room 63 false (-1) (K.length + 1) true fs st w w') (hst : st = stK (bsOf (K ++ [z]))) :
    (∃ fs', DskAt w' g mb room false (-1) fs' ∧ fs'.map Fl.log = stK (bsOf (K ++ [z])) ∧ (∀ b, DskF g mb fs' b → b < N5 ∨ N6 ≤ b) ∧ (∀ b, DskF g mb fs' b → W.heap.size ≤ b) ∧ ¬ DskF g mb fs' gl) ∧ LogAt w' gl g 63 (K.length + 1) true ∧ LsOwn w' N5 vX X ∧ LsOwn w' N6 vK K ∧ Below W.heap.size W w' ∧ N6 ≤ w'.heap.size := by
  obtain ⟨fs', h1, h2, h3, m, h5⟩ := hn
  have hgT : ¬ Ty w gl 23 := fun ht => absurd (Ty.unique (Blk.ty h.log) ht) (by decide)
  have hT : ∀ b, (DskF g mb fs b ∨ b = gl) → ¬ Ty w b 23 := by
    rintro b (hb | rfl)
    · exact hd.noRow b hb
    · exact hgT
  have hI : ∀ b, N5 ≤ b → b < N6 → ¬ (DskF g mb fs b ∨ b = gl) := by
    rintro b h6 h7 (hb | rfl)
    · rcases hsep b hb with h | h <;> omega
    · have := h.glo.2.1
      omega
  have hw := h.below.size
  refine ⟨⟨fs', h2, by rw [h1, hst], fun b hb => ?_, fun b hb => ?_, fun hb => ?_⟩, h3, h.xs.modT h.xin m hT hI, h.ks.modT (fun z hz => h.xin z (h.kin z hz)) m hT hI, m.below h.below h.below.size (by
    rintro b (hb | rfl)
    · exact hW b hb
    · exact h.glo.1), Nat.le_trans h.n6 m.size⟩
  · rcases h5 b hb with h | h
    · exact hsep b h
    · exact .inr (Nat.le_trans ‹FullI W N5 N6 g mb gl room vX vK X K w›.n6 h)
  · rcases h5 b hb with h | h
    · exact hW b h
    · omega
  · rcases h5 gl hb with h | h'
    · exact hgl h
    · have := Blk.lt ‹FullI W N5 N6 g mb gl room vX vK X K w›.log
      omega
/-- After the record was kept. -/
theorem FullI.kept {W : World} {N5 N6 g mb gl room : Nat} {vX vK vK' : Value} {X K : List Bz} {w w6 w7 : World} {z : Bz} (h : FullI W N5 N6 g mb gl room vX vK X K w) (hz : z ∈ X)
    (hd : ∃ fs', DskAt w6 g mb room false (-1) fs' ∧ fs'.map Fl.log = stK (bsOf (K ++ [z])) ∧ (∀ b, DskF g mb fs' b → b < N5 ∨ N6 ≤ b) ∧ (∀ b, DskF g mb fs' b → W.heap.size ≤ b) ∧ ¬ DskF g mb fs' gl) (hlog : LogAt w6 gl g 63 (K.length + 1) true) (hx : LsOwn w6 N5 vX X) (hk : LsOwn w6 N6 vK K) (hb : Below W.heap.size W w6) (hn : N6 ≤ w6.heap.size)
    (hk' : LsOwn w7 N6 vK' (K ++ [z])) (hg : w6.grownBy w7 vK.ownBlock) : FullI W N5 N6 g mb gl room vX vK' X (K ++ [z]) w7 := by
  obtain ⟨fs', h1, h2, h3, h4, h5⟩ := hd
  have m : Mod (fun b => vK.ownBlock = some b) w6 w7 := Mod.of_grown hg (fun b e => .inl e)
  have hrow : ∀ b, vK.ownBlock = some b → N6 ≤ b ∧ Ty w6 b 23 := fun b e => ⟨(hk.1.lt b e).1, Ty.of_own hk.1 e⟩
  have hW5 : W.heap.size ≤ N6 := by
    have := h.glo
    omega
  refine ⟨⟨fs', h1.mod m (fun b hb e => h1.noRow b hb (hrow b e).2), h2, h3, h4, h5⟩, by rw [List.length_append]; exact m.blk hlog (fun e => absurd (Ty.unique (Blk.ty hlog) (hrow gl e).2) (by decide)), h.glo, ?_, hk', h.xin, ?_, h.xrow, Nat.le_trans hn m.size, m.below hb hb.size (fun b e => by have := (hrow b e).1; omega)⟩
  · exact ⟨m.own hx.1 (fun b e e2 => by have := h.xrow b e; have := (hrow b e2).1; omega), fun y hy => (hx.2 y hy).modI (h.xin y hy) m (fun b _ hb e => by have := (hrow b e).1; omega)⟩
  · intro y hy
    rcases List.mem_append.1 hy with hy | hy
    · exact h.kin y hy
    · simp at hy
      subst hy
      exact hz
end Go.Proofs.Ytldmokjpfnakkaa
