/- disk: New, isFile, Used, fails, Append, Read. -/
import Derived.Test.YtldmokjpfnakkaaGreatHG20
import Derived.Deep.QuietTactic
import Derived.BigQuiet

namespace Go.Proofs.YtldmokjpfnakkaaGreat
open Go.RowKit

theorem DskAt.dcells {w : World} {g mb room : Nat} {off : Bool} {plan : Int} {fs : List Fl} (h : DskAt w g mb room off plan fs) : w.cell? ⟨g, 0, none⟩ = some (.int .i64 (room : Int)) ∧ w.cell? ⟨g, 1, none⟩ = some (.int .i64 ((sumL fs : Nat) : Int)) ∧ w.cell? ⟨g, 2, none⟩ = some (.map (some mb)) ∧ w.cell? ⟨g, 3, none⟩ = some (.bool off) ∧ w.cell? ⟨g, 4, none⟩ = some (.int .i64 plan) ∧ ∀ i, w.frozen? ⟨g, i, none⟩ = false :=
  dblk5 h.blk
theorem isFile_yes (n : Int) (w : World) (h1 : 0 ≤ n) (h2 : n < 64) : Calls Tryz.prog 39 #[.int .i64 n] w fun e w' => e = .returned (.bool true) ∧ w = w' := by
  go_enter Tryz.func39, Tryz.ntmps39
  go_wp2
  go_ret
  exact ⟨rfl, rfl⟩
theorem isFile_no (n : Int) (w : World) (h : n < 0 ∨ 64 ≤ n) : Calls Tryz.prog 39 #[.int .i64 n] w fun e w' => e = .returned (.bool false) ∧ w = w' := by
  by_cases h1 : 0 ≤ n
  · have h2 : 64 ≤ n := by omega
    have h3 : decide (n < 64) = false := by simpa using h2
    go_enter Tryz.func39, Tryz.ntmps39
    go_wp2
    go_ret
    exact ⟨rfl, rfl⟩
  · have h2 : n < 0 := by omega
    have h3 : decide (0 ≤ n) = false := by simpa using h2
    go_enter Tryz.func39, Tryz.ntmps39
    go_wp2
    go_ret
    exact ⟨rfl, rfl⟩
def NewPost (room : Nat) (w : World) (e : Ending) (w' : World) : Prop := ∃ g mb, e = .returned (.tuple #[.pointer (some ⟨g, 0, none⟩), .int .i64 0]) ∧ w.heap.size ≤ g ∧ w.heap.size ≤ mb ∧ DskAt w' g mb room false (-1) [] ∧ Below w.heap.size w w'
/-- A new disk. -/
theorem newDisk_any (room : Nat) (ri : Int) (hri : ri = (room : Int)) (w : World) (hr : room ≤ 16777216) :
    Calls Tryz.prog 22 #[.int .i64 ri] w (NewPost room w) := by
  subst hri
  have hmm := @run_makeMap Tryz.prog
  go_enter Tryz.func22, Tryz.ntmps22
  have h1 : ¬ ((room : Int) < 0) := by omega
  have h2 : ¬ ((16777216 : Int) < (room : Int)) := by omega
  go_wp2
  go_ret2
  have hB := Blk.new (w.alloc (.map #[] 0)) 62 (diskCells room 0 w.heap.size false (-1))
  rw [World.size_alloc] at hB
  have hM := (IMap.new w).all ((Below.refl _ (w.alloc (.map #[] 0))).alloc (Nat.le_refl _) (.cells (diskCells room 0 w.heap.size false (-1)) 62))
  exact ⟨w.heap.size + 1, w.heap.size, rfl, by omega, Nat.le_refl _, ⟨hB, hM, fun _ h => absurd h (by simp), by simp, hr, Nat.zero_le _, by omega⟩, ((Below.refl _ w).alloc (Nat.le_refl _) _).alloc (by simp) _⟩
/-- What a step leaves: whether the power is off, and the plan. -/
def failOff (off : Bool) (plan : Int) : Bool := off || plan == 0
def failPlan (plan : Int) : Int := if 0 ≤ plan then plan - 1 else plan
theorem fails_any (g mb room : Nat) (off : Bool) (plan : Int) (fs : List Fl) (w : World) (HD : Hid (DskAt w g mb room off plan fs)) :
    Calls Tryz.prog 45 #[.pointer (some ⟨g, 0, none⟩)] w fun e w' => e = .returned (.bool (failOff off plan)) ∧ DskAt w' g mb room (failOff off plan) (failPlan plan) fs ∧ Mod (fun b => b = g) w w' := by
  obtain ⟨c0, c1, c2, c3, c4, hf⟩ := HD.out.dcells
  have hf3 := hf 3
  have hf4 := hf 4
  have hp := HD.out.plan_le
  clear hf
  by_cases h0 : plan = 0
  · subst h0
    have HO := Lib.hid (show failOff off 0 = true by simp [failOff])
    have HP := Lib.hid (show failPlan 0 = -1 by simp [failPlan])
    have hm := ((Mod.refl (fun b => b = g) w).set (p := ⟨g, 3, none⟩) (.inl rfl) (.bool true)).set (p := ⟨g, 4, none⟩) (.inl rfl) (.int .i64 (-1))
    have hB := Blk.set_ (Blk.set_ HD.out.blk 3 (.bool true)) 4 (.int .i64 (-1))
    have HF := Lib.hid (HD.out.cells (off' := true) (plan' := -1) hm hB (by omega))
    have HM := Lib.hid hm
    clear hm hB
    go_enter Tryz.func45, Tryz.ntmps45
    go_wp2
    go_ret
    rw [HO.out, HP.out]
    exact ⟨rfl, HF.out, HM.out⟩
  · have h0' : (plan == 0) = false := by simpa using h0
    have HO := Lib.hid (show failOff off plan = off by simp [failOff, h0'])
    by_cases h1 : 0 ≤ plan
    · have HP := Lib.hid (show failPlan plan = plan - 1 by simp [failPlan, h1])
      have hm := (Mod.refl (fun b => b = g) w).set (p := ⟨g, 4, none⟩) (.inl rfl) (.int .i64 (plan - 1))
      have hB := Blk.set_ HD.out.blk 4 (.int .i64 (plan - 1))
      have HF := Lib.hid (HD.out.cells (off' := off) (plan' := plan - 1) hm hB (by omega))
      have HM := Lib.hid hm
      obtain ⟨hp1, hp2⟩ := hp
      clear hm hB h0
      go_enter Tryz.func45, Tryz.ntmps45
      go_wp2
      go_ret
      rw [HO.out, HP.out]
      exact ⟨rfl, HF.out, HM.out⟩
    · have HP := Lib.hid (show failPlan plan = plan by simp [failPlan, h1])
      have h2 : plan < 0 := by omega
      clear h0 h1
      go_enter Tryz.func45, Tryz.ntmps45
      go_wp2
      go_ret
      rw [HO.out, HP.out]
      exact ⟨rfl, HD.out, Mod.refl _ _⟩
end Go.Proofs.YtldmokjpfnakkaaGreat

/- disk: Append, Read. -/
namespace Go.Proofs.YtldmokjpfnakkaaGreat
open Go.RowKit

/-- The disk after a call: its files read as st. -/
def DskNext (g mb room : Nat) (off' : Bool) (plan' : Int) (fs : List Fl) (st : List (Int × List UInt8 × Nat)) (w w' : World) : Prop :=
  ∃ fs', fs'.map Fl.log = st ∧ DskAt w' g mb room off' plan' fs' ∧ Mod (DskF g mb fs) w w' ∧ ∀ b, DskF g mb fs' b → DskF g mb fs b ∨ w.heap.size ≤ b
theorem DskAt.grow {w : World} {g mb room : Nat} {off : Bool} {plan : Int} {l1 l2 : List Fl} {f : Fl} (h : DskAt w g mb room off plan (l1 ++ f :: l2)) (A : Option Addr) (n c : Nat) (xs : List UInt8) (hx : xs.length = n) (hR : Rd w w.heap.size A n (vByte xs)) (hroom : sumL (l1 ++ f :: l2) + n ≤ room) :
    ∃ A0 n0 c0 A3 n3 c3 w3, f.rv = .slice A0 n0 c0 ∧ w.cell? ⟨f.fb, 0, none⟩ = some (.slice A0 n0 c0) ∧ Hid ((Builtin.append_ #[39, 39] 39 #[.slice A0 n0 c0, .slice A n c]).run Tryz.prog w = .ok (.slice A3 n3 c3) w3) ∧
      w3.cell? ⟨f.fb, 0, none⟩ = some (.slice A0 n0 c0) ∧ w3.frozen? ⟨f.fb, 0, none⟩ = false ∧
      (w3.setCell ⟨f.fb, 0, none⟩ (.slice A3 n3 c3)).cell? ⟨g, 1, none⟩ = some (.int .i64 ((sumL (l1 ++ f :: l2) : Nat) : Int)) ∧ (w3.setCell ⟨f.fb, 0, none⟩ (.slice A3 n3 c3)).frozen? ⟨g, 1, none⟩ = false ∧
      Hid (DskNext g mb room off plan (l1 ++ f :: l2) (l1.map Fl.log ++ (f.num, f.bs ++ xs, f.dur) :: l2.map Fl.log) w ((w3.setCell ⟨f.fb, 0, none⟩ (.slice A3 n3 c3)).setCell ⟨g, 1, none⟩ (.int .i64 ((sumL (l1 ++ f :: l2) : Nat) + (n : Int))))) := by
  have hfm : f ∈ l1 ++ f :: l2 := by simp
  have hok := h.ok f hfm
  obtain ⟨A0, c0, hrv⟩ := own_slice hok.2.1
  have hown := hok.2.1
  have hrm := h.room_le
  have hul := h.used_le
  have hfl : f.bs.length ≤ sumL (l1 ++ f :: l2) := by rw [sumL_append, sumL_cons]; omega
  obtain ⟨i0, hi, hz0, hz1, hz2⟩ := info_parts info_u8
  obtain ⟨v', w3, hap, hown3, hg, ho⟩ := run_append_rd (P := Tryz.prog) w 0 39 39 5 i0 _ 1 Tryz.underlying39 hi hz0 hz1 hz2 rfl _ _ _ hown w.heap.size A n c (vByte xs) hR hR.none_ (fun _ _ => rfl) (by unfold maxLen; omega) (by omega) (Nat.zero_le _)
  obtain ⟨A3, c3, rfl⟩ := own_slice hown3
  have e : (List.range n).map (vByte xs) = xs.map fun b => Value.int .u8 ((b.toNat : Nat) : Int) := by
    subst hx
    refine List.ext_getElem (by simp) fun i h1 h2 => ?_
    have hi : i < xs.length := by simpa using h2
    simp [vByte, hi]
  rw [e, ← List.map_append] at hown3
  have hT : f.rv.ownBlock ≠ some f.fb := own_ne (by decide) hok.1 hown
  have m3 : Mod (fun b => f.rv.ownBlock = some b) w w3 := Mod.of_grown hg (fun b e => .inl e)
  have hfb3 : Blk w3 f.fb 66 #[f.rv, .int .i64 (f.dur : Int)] := m3.blk hok.1 hT
  have hgne : ∀ b, f.F b → b ≠ g := fun b hb => (h.F_ne hfm b hb).1
  have hg3 : Blk w3 g 62 (diskCells room (sumL (l1 ++ f :: l2)) mb off plan) := m3.blk h.blk (fun e => hgne g (.inr e) rfl)
  have hg4 := Blk.far (p := ⟨f.fb, 0, none⟩) hg3 (fun e => hgne f.fb (.inl rfl) e.symm) (.slice A3 (f.bs.length + n) c3)
  have hfb4 : Blk (w3.setCell ⟨f.fb, 0, none⟩ (.slice A3 (f.bs.length + n) c3)) f.fb 66 #[.slice A3 (f.bs.length + n) c3, .int .i64 (f.dur : Int)] := by simpa using hfb3.set_ 0 (.slice A3 (f.bs.length + n) c3)
  refine ⟨A0, f.bs.length, c0, A3, f.bs.length + n, c3, w3, hrv, by rw [← hrv]; simpa using hok.1.cell 0, Lib.hid (by rw [← hrv]; exact hap), by rw [← hrv]; simpa using hfb3.cell 0, hfb3.frozen 0, by simpa [diskCells] using hg4.cell 1, hg4.frozen 1, Lib.hid ?_⟩
  have ma : Mod (fun b => f.F b ∨ b = g) w ((w3.setCell ⟨f.fb, 0, none⟩ (.slice A3 (f.bs.length + n) c3)).setCell ⟨g, 1, none⟩ (.int .i64 ((sumL (l1 ++ f :: l2) : Nat) + (n : Int)))) :=
    ((m3.mono (G := fun b => f.F b ∨ b = g) (fun b e => .inl (.inl (.inr e)))).set (p := ⟨f.fb, 0, none⟩) (.inl (.inl (.inl rfl))) _).set (p := ⟨g, 1, none⟩) (.inl (.inr rfl)) _
  have hs : sumL (l1 ++ (⟨f.num, f.fb, .slice A3 (f.bs.length + n) c3, f.bs ++ xs, f.dur⟩ : Fl) :: l2) = sumL (l1 ++ f :: l2) + n := by
    rw [sumL_append, sumL_cons, sumL_append, sumL_cons]
    simp only [List.length_append]
    omega
  have hown4 := hown3.kept (only_set (p := ⟨f.fb, 0, none⟩) (only_refl w3 (some f.fb)) (.inl rfl) (.slice A3 (f.bs.length + n) c3)) (.inr (own_ne (by decide) hfb3 hown3))
  have hown5 := hown4.kept (only_set (p := ⟨g, 1, none⟩) (only_refl _ (some g)) (.inl rfl) (.int .i64 ((sumL (l1 ++ f :: l2) : Nat) + (n : Int)))) (.inr (own_ne (by decide) hg4 hown4))
  obtain ⟨r1, r2, r3⟩ := h.upd (f' := ⟨f.num, f.fb, .slice A3 (f.bs.length + n) c3, f.bs ++ xs, f.dur⟩) (off' := off) (plan' := plan) ma (by
      have := Blk.set_ hg4 1 (.int .i64 ((sumL (l1 ++ f :: l2) : Nat) + (n : Int)))
      rw [hs]
      simpa [diskCells] using this) rfl rfl ⟨Blk.far hfb4 (fun e => hgne f.fb (.inl rfl) e) _, by rw [List.length_append, hx]; exact hown5, by simp only [List.length_append]; have := hok.2.2; omega⟩
    (ho.imp (fun e => e) (fun e b eb => by rw [e] at eb; injection eb with eb; omega)) (by rw [hs]; exact hroom) h.plan_le
  exact ⟨_, by simp [Fl.log], r1, r2, r3⟩

theorem appendD_off (g mb room : Nat) (plan : Int) (fs : List Fl) (num : Int) (A : Option Addr) (n c : Nat) (w : World) (HD : Hid (DskAt w g mb room true plan fs)) (h1 : 0 ≤ num) (h2 : num < 64) :
    Calls Tryz.prog 34 #[.pointer (some ⟨g, 0, none⟩), .int .i64 num, .slice A n c] w fun e w' => e = .returned (.int .i64 23) ∧ w = w' := by
  obtain ⟨c0, c1, c2, c3, c4, hf⟩ := HD.out.dcells
  clear hf
  go_enter Tryz.func34, Tryz.ntmps34
  go_wp2_with (go_at_call 39; ((with_reducible refine (isFile_yes _ _ h1 h2).mono ?_); rintro e w1 ⟨rfl, rfl⟩))
  go_ret
  exact ⟨rfl, rfl⟩
theorem below_drew {w w' : World} {n : Nat} (h : Below (w.drewN n).heap.size (w.drewN n) w') : Below w.heap.size w w' := ⟨h.os, h.tape, h.output, h.size, h.block⟩
set_option maxRecDepth 100000 in
set_option maxHeartbeats 1000000 in
theorem appendD_full (g mb room : Nat) (plan : Int) (fs : List Fl) (num : Int) (A : Option Addr) (n c : Nat) (w : World) (HD : Hid (DskAt w g mb room false plan fs)) (h1 : 0 ≤ num) (h2 : num < 64) (hfull : room < sumL fs + n) (hn : n ≤ 1099511627776) :
    Calls Tryz.prog 34 #[.pointer (some ⟨g, 0, none⟩), .int .i64 num, .slice A n c] w fun e w' => e = .returned (.int .i64 22) ∧ Below w.heap.size w w' := by
  obtain ⟨c0, c1, c2, c3, c4, hf⟩ := HD.out.dcells
  have hrm := HD.out.room_le
  have hul := HD.out.used_le
  obtain ⟨u, hu⟩ : ∃ u, sumL fs = u := ⟨_, rfl⟩
  rw [hu] at c1 hul hfull
  clear hf hu
  go_enter Tryz.func34, Tryz.ntmps34
  go_wp2_with (go_at_call 39; ((with_reducible refine (isFile_yes _ _ h1 h2).mono ?_); rintro e w1 ⟨rfl, rfl⟩))
  have i1 : IntKind.i64.wrap ((room : Int) - (u : Int)) = (room : Int) - (u : Int) := IntWalk.i64_in _ (by omega)
  have i2 : decide ((room : Int) - (u : Int) < (n : Int)) = true := by rw [decide_eq_true_iff]; omega
  go_quiet (fail)
  clear i1 i2
  go_wp2
  go_ret
  exact ⟨rfl, below_drewN (Below.refl _ _) _⟩
theorem DskNext.from {g mb room : Nat} {off' : Bool} {plan' : Int} {fs : List Fl} {st : List (Int × List UInt8 × Nat)} {w w1 w2 : World} {F : Nat → Prop} (h : DskNext g mb room off' plan' fs st w1 w2) (m : Mod F w w1) (hF : ∀ b, F b → DskF g mb fs b ∨ w.heap.size ≤ b) : DskNext g mb room off' plan' fs st w w2 := by
  obtain ⟨fs', h1, h2, h3, h4⟩ := h
  exact ⟨fs', h1, h2, (m.mono hF).trans h3 (fun b hb => .inl hb), fun b hb => (h4 b hb).imp id (fun h => Nat.le_trans m.size h)⟩
theorem DskNext.from2 {g mb room : Nat} {off' : Bool} {plan' : Int} {fs fs1 : List Fl} {st : List (Int × List UInt8 × Nat)} {w w1 w2 : World} (h : DskNext g mb room off' plan' fs1 st w1 w2) (m : Mod (DskF g mb fs) w w1) (hF : ∀ b, DskF g mb fs1 b → DskF g mb fs b ∨ w.heap.size ≤ b) : DskNext g mb room off' plan' fs st w w2 := by
  obtain ⟨fs', h1, h2, h3, h4⟩ := h
  refine ⟨fs', h1, h2, m.trans h3 (fun b hb => hF b hb), fun b hb => ?_⟩
  rcases h4 b hb with h | h
  · exact hF b h
  · exact .inr (Nat.le_trans m.size h)
set_option maxRecDepth 100000 in
set_option maxHeartbeats 2000000 in
theorem appendD_old (g mb room : Nat) (plan : Int) (l1 l2 : List Fl) (f : Fl) (num : Int) (A : Option Addr) (n c : Nat) (xs : List UInt8) (w : World) (HD : Hid (DskAt w g mb room false plan (l1 ++ f :: l2))) (HN : Hid (findF (l1 ++ f :: l2) num = some f)) (h1 : 0 ≤ num) (h2 : num < 64) (HX : Hid (xs.length = n)) (hn0 : 0 < n) (hroom : sumL (l1 ++ f :: l2) + n ≤ room)
    (HR : Hid (Rd w w.heap.size A n (vByte xs))) (HA : Hid (∀ b off, A = some ⟨b, off, none⟩ → ¬ DskF g mb (l1 ++ f :: l2) b)) :
    Calls Tryz.prog 34 #[.pointer (some ⟨g, 0, none⟩), .int .i64 num, .slice A n c] w fun e w' => e = .returned (.int .i64 (if failOff false plan then 23 else 0)) ∧ DskNext g mb room (failOff false plan) (failPlan plan) (l1 ++ f :: l2) (l1.map Fl.log ++ (f.num, f.bs ++ xs, f.dur) :: l2.map Fl.log) w w' := by
  obtain ⟨c0, c1, c2, c3, c4, hf⟩ := HD.out.dcells
  have hrm := HD.out.room_le
  have hul := HD.out.used_le
  obtain ⟨u, hu⟩ : ∃ u, sumL (l1 ++ f :: l2) = u := ⟨_, rfl⟩
  rw [hu] at c1 hul hroom
  have HU := Lib.hid hu
  obtain ⟨o, ho⟩ : ∃ o, failOff false plan = o := ⟨_, rfl⟩
  rw [ho]
  have HO := Lib.hid ho
  clear hf hu ho
  go_enter Tryz.func34, Tryz.ntmps34
  go_wp2_with (go_at_call 39; ((with_reducible refine (isFile_yes _ _ h1 h2).mono ?_); rintro e w1 ⟨rfl, rfl⟩))
  have i1 : IntKind.i64.wrap ((room : Int) - (u : Int)) = (room : Int) - (u : Int) := IntWalk.i64_in _ (by omega)
  have i2 : decide ((room : Int) - (u : Int) < (n : Int)) = false := by rw [decide_eq_false_iff_not]; omega
  go_quiet (fail)
  clear i1 i2
  have hD1 := HD.out.all (below_drewN (Below.refl _ w) nq)
  have hR1 : Rd (w.drewN nq) (w.drewN nq).heap.size A n (vByte xs) := HR.out
  have hB1 : Below w.heap.size w (w.drewN nq) := below_drewN (Below.refl _ w) nq
  go_wp2_with fail
  generalize w.drewN nq = w1 at *
  refine (fails_any _ _ _ _ _ _ _ (Lib.hid hD1)).mono ?_
  rintro e w2 ⟨rfl, hD2, m2⟩
  rw [HO.out] at hD2 ⊢
  have hR2 : Rd w2 w2.heap.size A n (vByte xs) := by
    have := m2.rd hR1 (Nat.le_refl _) (fun b off e hp hf => HA.out b off e (.inl hf))
    exact this.more m2.size
  have M2 : Mod (DskF g mb (l1 ++ f :: l2)) w w2 := (Mod.of_below (DskF g mb (l1 ++ f :: l2)) hB1).trans m2 (fun b hb => .inl (.inl hb))
  have hlk := DskAt.look hD2 num
  rw [HN.out] at hlk
  replace hlk : (Instr.lookup 60 (.map (some mb)) (.int .i64 num) false).run Tryz.prog w2 = .ok (.pointer (some ⟨f.fb, 0, none⟩)) w2 := hlk
  obtain ⟨d0, d1, d2, d3, d4, -⟩ := hD2.dcells
  obtain ⟨A0, n0, c0', A3, n3, c3', w3, hrv, hcl, HRUN, hcl3, hfr3, hcg, hfg, HNX⟩ := hD2.grow A n c xs HX.out hR2 (by rw [HU.out]; exact hroom)
  rw [HU.out] at hcg HNX d1
  have HFIN := Lib.hid (HNX.out.from2 M2 (fun b hb => .inl hb))
  clear hD1 hR1 hB1 m2 M2 hD2 hR2 c0 c1 c2 c3 c4 HNX hrv
  cases o with
  | true =>
    go_wp2_with (at_builtin; refine wpList_append_run HRUN.out rfl rfl rfl rfl ?_)
    all_goals (go_ret; exact ⟨rfl, HFIN.out⟩)
  | false =>
    go_wp2_with (at_builtin; refine wpList_append_run HRUN.out rfl rfl rfl rfl ?_)
    all_goals (go_ret; exact ⟨rfl, HFIN.out⟩)
theorem put_none {es : List (Int × Value)} {k : Int} {v : Value} (h : es.lookup k = none) : put es k v = es ++ [(k, v)] := by
  induction es with
  | nil => rfl
  | cons p es ih =>
    have hne : ¬ p.1 = k := by
      intro e
      rw [List.lookup_eq_none_iff] at h
      have := h p (by simp)
      simp [e] at this
    unfold put
    rw [if_neg hne, ih (by
      rw [List.lookup_eq_none_iff] at h ⊢
      exact fun q hq => h q (by simp [hq]))]
    rfl
/-- A file is laid into the map. -/
theorem DskAt.lay {w : World} {g mb room : Nat} {off : Bool} {plan : Int} {fs : List Fl} (h : DskAt w g mb room off plan fs) (num : Int) (hno : findF fs num = none) :
    ∃ w3, Hid ((Instr.mapUpdate 60 (.map (some mb)) (.int .i64 num) (.pointer (some ⟨w.heap.size, 0, none⟩))).run Tryz.prog (w.alloc (.cells #[.slice none 0 0, .int .i64 0] 66)) = .ok () w3) ∧
      DskAt w3 g mb room off plan (fs ++ [⟨num, w.heap.size, .slice none 0 0, [], 0⟩]) ∧ Mod (fun b => b = mb) w w3 := by
  have hb := (Below.refl w.heap.size w).alloc (Nat.le_refl _) (.cells #[.slice none 0 0, .int .i64 0] 66)
  obtain ⟨w3, hrun, hmap, hg, -⟩ := IMap.store (h.map.all hb) Tryz.underlying60 Tryz.underlying3 num (.pointer (some ⟨w.heap.size, 0, none⟩))
  have m : Mod (fun b => b = mb) w w3 := (Mod.of_below (fun b => b = mb) hb).then_grown (r := some mb) hg (fun g e => .inl (Option.some.inj e).symm)
  have hlk : (fs.map fun f => (f.num, f.ptr)).lookup num = none := by rw [lookup_findF, hno]; rfl
  rw [put_none hlk] at hmap
  have hmb := h.map.lt
  have hB := (Blk.new w 66 #[.slice none 0 0, .int .i64 0]).grown hg (fun e => by injection e with e; omega)
  refine ⟨w3, Lib.hid hrun, h.add m (by simpa [Fl.ptr] using hmap) ⟨hB, World.ownsRow_nil _ _ _ _, Nat.le_refl _⟩ ?_ rfl, m⟩
  rintro b (e | e)
  · simp only at e
    omega
  · cases e
theorem findF_new {fs : List Fl} {num : Int} {f : Fl} (hno : findF fs num = none) (hf : f.num = num) : findF (fs ++ [f]) num = some f := by
  unfold findF at hno ⊢
  rw [List.find?_append, hno]
  simp [hf]
set_option maxRecDepth 100000 in
set_option maxHeartbeats 2000000 in
theorem appendD_new (g mb room : Nat) (plan : Int) (fs : List Fl) (num : Int) (A : Option Addr) (n c : Nat) (xs : List UInt8) (w : World) (HD : Hid (DskAt w g mb room false plan fs)) (HN : Hid (findF fs num = none)) (h1 : 0 ≤ num) (h2 : num < 64) (HX : Hid (xs.length = n)) (hn0 : 0 < n) (hroom : sumL fs + n ≤ room)
    (HR : Hid (Rd w w.heap.size A n (vByte xs))) (HA : Hid (∀ b off, A = some ⟨b, off, none⟩ → ¬ DskF g mb fs b)) :
    Calls Tryz.prog 34 #[.pointer (some ⟨g, 0, none⟩), .int .i64 num, .slice A n c] w fun e w' => e = .returned (.int .i64 (if failOff false plan then 23 else 0)) ∧ DskNext g mb room (failOff false plan) (failPlan plan) fs (fs.map Fl.log ++ [(num, xs, 0)]) w w' := by
  obtain ⟨c0, c1, c2, c3, c4, hf⟩ := HD.out.dcells
  have hrm := HD.out.room_le
  have hul := HD.out.used_le
  obtain ⟨u, hu⟩ : ∃ u, sumL fs = u := ⟨_, rfl⟩
  rw [hu] at c1 hul hroom
  have HU := Lib.hid hu
  obtain ⟨o, ho⟩ : ∃ o, failOff false plan = o := ⟨_, rfl⟩
  rw [ho]
  have HO := Lib.hid ho
  clear hf hu ho
  go_enter Tryz.func34, Tryz.ntmps34
  go_wp2_with (go_at_call 39; ((with_reducible refine (isFile_yes _ _ h1 h2).mono ?_); rintro e w1 ⟨rfl, rfl⟩))
  have i1 : IntKind.i64.wrap ((room : Int) - (u : Int)) = (room : Int) - (u : Int) := IntWalk.i64_in _ (by omega)
  have i2 : decide ((room : Int) - (u : Int) < (n : Int)) = false := by rw [decide_eq_false_iff_not]; omega
  go_quiet (fail)
  clear i1 i2
  have hD1 := HD.out.all (below_drewN (Below.refl _ w) nq)
  have hR1 : Rd (w.drewN nq) (w.drewN nq).heap.size A n (vByte xs) := HR.out
  have hB1 : Below w.heap.size w (w.drewN nq) := below_drewN (Below.refl _ w) nq
  go_wp2_with fail
  generalize w.drewN nq = w1 at *
  refine (fails_any _ _ _ _ _ _ _ (Lib.hid hD1)).mono ?_
  rintro e w2 ⟨rfl, hD2, m2⟩
  rw [HO.out] at hD2 ⊢
  have hR2 : Rd w2 w2.heap.size A n (vByte xs) := by
    have := m2.rd hR1 (Nat.le_refl _) (fun b off e hp hf => HA.out b off e (.inl hf))
    exact this.more m2.size
  have M2 : Mod (DskF g mb fs) w w2 := (Mod.of_below (DskF g mb fs) hB1).trans m2 (fun b hb => .inl (.inl hb))
  have hlk := DskAt.look hD2 num
  rw [HN.out] at hlk
  replace hlk : (Instr.lookup 60 (.map (some mb)) (.int .i64 num) false).run Tryz.prog w2 = .ok (.pointer none) w2 := hlk
  obtain ⟨d0, d1, d2, d3, d4, -⟩ := hD2.dcells
  obtain ⟨w3, hmu, hD3, m3⟩ := hD2.lay num HN.out
  replace hmu := hmu.out
  have hR3 : Rd w3 w3.heap.size A n (vByte xs) := by
    have := m3.rd hR2 (Nat.le_refl _) (fun b off e hp hf => HA.out b off e (.inr (.inl hf)))
    exact this.more m3.size
  have M3 := M2.trans m3 (fun b hb => .inl (.inr (.inl hb)))
  have hlk3 := DskAt.look hD3 num
  rw [findF_new HN.out rfl] at hlk3
  replace hlk3 : (Instr.lookup 60 (.map (some mb)) (.int .i64 num) false).run Tryz.prog w3 = .ok (.pointer (some ⟨w2.heap.size, 0, none⟩)) w3 := hlk3
  obtain ⟨e0, e1, e2, e3, e4, -⟩ := hD3.dcells
  have hs3 : sumL (fs ++ [⟨num, w2.heap.size, .slice none 0 0, [], 0⟩]) = u := by rw [sumL_append, HU.out]; simp [sumL]
  obtain ⟨A0, n0, c0', A3, n3, c3', w4, hrv, hcl, HRUN, hcl3, hfr3, hcg, hfg, HNX⟩ := hD3.grow (l2 := []) A n c xs HX.out hR3 (by rw [hs3]; exact hroom)
  rw [hs3] at hcg HNX e1
  rw [HU.out] at d1
  have HFIN := Lib.hid (HNX.out.from2 M3 (fun b hb => by
    rcases hb with e | e | ⟨d, hd, hb⟩
    · exact .inl (.inl e)
    · exact .inl (.inr (.inl e))
    · rcases List.mem_append.1 hd with hd | hd
      · exact .inl (.inr (.inr ⟨d, hd, hb⟩))
      · simp at hd
        subst hd
        rcases hb with e | e
        · simp only at e
          have := M2.size
          exact .inr (by omega)
        · cases e))
  replace HFIN : Hid (DskNext g mb room o (failPlan plan) fs (fs.map Fl.log ++ [(num, xs, 0)]) w _) := HFIN
  clear hD1 hR1 hB1 m2 M2 hD2 hR2 c0 c1 c2 c3 c4 HNX hrv hD3 m3 hR3 M3 hs3
  cases o with
  | true =>
    go_wp2_with (at_builtin; refine wpList_append_run HRUN.out rfl rfl rfl rfl ?_)
    all_goals (go_ret; exact ⟨rfl, HFIN.out⟩)
  | false =>
    go_wp2_with (at_builtin; refine wpList_append_run HRUN.out rfl rfl rfl rfl ?_)
    all_goals (go_ret; exact ⟨rfl, HFIN.out⟩)
end Go.Proofs.YtldmokjpfnakkaaGreat
