/- journal: Open where the power is off, or fails. -/
import Derived.Test.YtldmokjpfnakkaaGreatHG27

namespace Go.Proofs.YtldmokjpfnakkaaGreat
open Go.RowKit

theorem open_off (g mb room : Nat) (plan : Int) (fs : List Fl) (num : Int) (w : World) (HD : Hid (DskAt w g mb room true plan fs)) (h1 : 0 ≤ num) (h2 : num < 64) : Calls Tryz.prog 7 #[.pointer (some ⟨g, 0, none⟩), .int .i64 num] w fun e w' => e = .returned (.tuple #[.pointer none, .slice none 0 0, .int .i64 23]) ∧ w = w' := by
  go_enter Tryz.func7, Tryz.ntmps7
  go_wp2_with (go_at_call 19; ((with_reducible refine (readD_off _ _ _ _ _ _ _ HD h1 h2).mono ?_); rintro e w1 ⟨rfl, rfl⟩))
  go_ret3
  exact ⟨rfl, rfl⟩
def OpenFail (g mb room : Nat) (plan' : Int) (fs : List Fl) (st : List (Int × List UInt8 × Nat)) (w : World) (e : Ending) (w' : World) : Prop := e = .returned (.tuple #[.pointer none, .slice none 0 0, .int .i64 23]) ∧ DskNext g mb room true plan' fs st w w'
theorem DskNext.first {g mb room : Nat} {off : Bool} {plan : Int} {fs : List Fl} {st : List (Int × List UInt8 × Nat)} {w w1 w2 : World} (hb : Below w.heap.size w w1) (h : DskNext g mb room off plan fs st w1 w2) : DskNext g mb room off plan fs st w w2 := by
  obtain ⟨fs', h1, h2, m, h4⟩ := h
  refine ⟨fs', h1, h2, (Mod.of_below (DskF g mb fs) hb).trans m (fun b hb => .inl hb), fun b hb' => (h4 b hb').imp id (fun h => ?_)⟩
  have := hb.size
  omega
theorem DskNext.also {g mb room : Nat} {off' : Bool} {plan' : Int} {fs fs2 : List Fl} {st' : List (Int × List UInt8 × Nat)} {w w1 w2 : World} (m : Mod (DskF g mb fs) w w1) (hF : ∀ b, DskF g mb fs2 b → DskF g mb fs b ∨ w.heap.size ≤ b) (h : DskNext g mb room off' plan' fs2 st' w1 w2) : DskNext g mb room off' plan' fs st' w w2 := by
  obtain ⟨fs', h1, h2, m2, h4⟩ := h
  refine ⟨fs', h1, h2, m.trans m2 (fun b hb => hF b hb), fun b hb' => ?_⟩
  have := m.size
  rcases h4 b hb' with h | h
  · exact hF b h
  · exact .inr (by omega)
set_option maxRecDepth 100000 in
set_option maxHeartbeats 2000000 in
theorem open_fail1 (g mb room : Nat) (plan : Int) (fs : List Fl) (num : Int) (rs : List (List UInt8)) (m : Nat) (w : World) (HD : Hid (DskAt w g mb room false plan fs)) (h1 : 0 ≤ num) (h2 : num < 64) (HSC : Hid (ScanIs (fileBs fs num) rs m)) (hm : m = (fileBs fs num).length) (HO : Hid (failOff false plan = true)) :
    Calls Tryz.prog 7 #[.pointer (some ⟨g, 0, none⟩), .int .i64 num] w (OpenFail g mb room (failPlan plan) fs (fs.map Fl.log) w) := by
  have hlen : (fileBs fs num).length ≤ 16777216 := by
    unfold fileBs
    cases hf : findF fs num with
    | none => simp
    | some f =>
      obtain ⟨l1, l2, hfs, -⟩ := findF_split hf
      have h1 := HD.out.room_le
      have h2 := HD.out.used_le
      rw [hfs, sumL_append, sumL_cons] at h2
      simp only [Option.map_some, Option.getD_some]
      omega
  go_enter Tryz.func7, Tryz.ntmps7
  go_wp2_with fail
  refine (readD_any _ _ _ _ _ _ _ HD h1 h2).mono ?_
  rintro e w1 ⟨A1, n1, c1, rfl, hown1, hb1⟩
  have hS1 := Sb.own hown1
  have hD1 := HD.out.all hb1
  have HN1 := Lib.hid hS1.1
  have hn1 : n1 ≤ 16777216 := by rw [← HN1.out]; exact hlen
  clear hown1
  go_wp2_with fail
  refine (scan2_any _ _ _ _ _ (Lib.hid hS1) (by omega)).mono ?_
  rintro e w2 ⟨v2, L2, m2, rfl, hL2, hs2, hb2, hlow2⟩
  obtain ⟨e1, e2⟩ := ScanIs.unique (by omega) hs2 HSC.out
  rw [hm, HN1.out] at e2
  subst e2
  obtain ⟨A2, c2, rfl⟩ := hL2.slice
  have hD2 := hD1.all hb2
  have HB2 := Lib.hid (bt hb1 hb2)
  clear hs2 e1 hL2 hlow2 hb1 hb2 hD1 hS1 hm
  go_wp2_with fail
  refine (sync_any _ _ _ _ _ _ (Lib.hid hD2)).mono ?_
  rintro e w3 ⟨rfl, hN3⟩
  rw [HO.out] at hN3 ⊢
  have HN3 := Lib.hid (DskNext.first HB2.out hN3)
  clear hN3 hD2
  go_wp2
  go_ret3
  exact ⟨rfl, HN3.out⟩
set_option maxRecDepth 100000 in
set_option maxHeartbeats 2000000 in
theorem open_fail2 (g mb room : Nat) (plan : Int) (l1 l2 : List Fl) (f : Fl) (num : Int) (rs : List (List UInt8)) (m : Nat) (w : World) (HD : Hid (DskAt w g mb room false plan (l1 ++ f :: l2))) (HFN : Hid (findF (l1 ++ f :: l2) num = some f)) (h1 : 0 ≤ num) (h2 : num < 64) (HSC : Hid (ScanIs f.bs rs m)) (hm : m < f.bs.length) (HO : Hid (failOff false plan = true)) :
    Calls Tryz.prog 7 #[.pointer (some ⟨g, 0, none⟩), .int .i64 num] w (OpenFail g mb room (failPlan plan) (l1 ++ f :: l2) ((l1 ++ f :: l2).map Fl.log) w) := by
  have hlen : f.bs.length ≤ 16777216 := by
    have h1 := HD.out.room_le
    have h2 := HD.out.used_le
    rw [sumL_append, sumL_cons] at h2
    omega
  have HBS : Hid (fileBs (l1 ++ f :: l2) num = f.bs) := Lib.hid (by unfold fileBs; rw [HFN.out]; rfl)
  obtain ⟨fs, hfs⟩ : ∃ fs, l1 ++ f :: l2 = fs := ⟨_, rfl⟩
  rw [hfs] at HD HBS ⊢
  have HFS := Lib.hid hfs
  clear hfs
  go_enter Tryz.func7, Tryz.ntmps7
  go_wp2_with fail
  refine (readD_any _ _ _ _ _ _ _ HD h1 h2).mono ?_
  rintro e w1 ⟨A1, n1, c1, rfl, hown1, hb1⟩
  rw [HBS.out] at hown1
  have hS1 := Sb.own hown1
  have hD1 := HD.out.all hb1
  have HN1 := Lib.hid hS1.1
  have hn1 : n1 ≤ 16777216 := by rw [← HN1.out]; exact hlen
  clear hown1
  go_wp2_with fail
  refine (scan2_any _ _ _ _ _ (Lib.hid hS1) (by omega)).mono ?_
  rintro e w2 ⟨v2, L2, m2, rfl, hL2, hs2, hb2, hlow2⟩
  obtain ⟨e1, e2⟩ := ScanIs.unique (by omega) hs2 HSC.out
  subst e2
  have hm1 : m2 < n1 := by rw [← HN1.out]; exact hm
  obtain ⟨A2, c2, rfl⟩ := hL2.slice
  have hD2 := hD1.all hb2
  have HB2 := Lib.hid (bt hb1 hb2)
  clear hs2 e1 hL2 hlow2 hb1 hb2 hD1 hS1
  rw [← HFS.out] at hD2
  go_wp2_with fail
  refine (trunc_any _ _ _ _ _ _ _ _ m2 true _ (Lib.hid hD2) HFN h1 h2 (by omega) HO).mono ?_
  rintro e w3 ⟨rfl, hN3⟩
  have HN3 := Lib.hid (DskNext.first HB2.out hN3)
  rw [HFS.out] at HN3
  clear hN3 hD2
  go_wp2
  go_ret3
  exact ⟨rfl, HN3.out⟩
set_option maxRecDepth 100000 in
set_option maxHeartbeats 2000000 in
theorem open_fail3 (g mb room : Nat) (plan : Int) (l1 l2 : List Fl) (f : Fl) (num : Int) (rs : List (List UInt8)) (m : Nat) (w : World) (HD : Hid (DskAt w g mb room false plan (l1 ++ f :: l2))) (HFN : Hid (findF (l1 ++ f :: l2) num = some f)) (h1 : 0 ≤ num) (h2 : num < 64) (HSC : Hid (ScanIs f.bs rs m)) (hm : m < f.bs.length) (HO : Hid (failOff false plan = false)) (HO2 : Hid (failOff false (failPlan plan) = true)) :
    Calls Tryz.prog 7 #[.pointer (some ⟨g, 0, none⟩), .int .i64 num] w (OpenFail g mb room (failPlan (failPlan plan)) (l1 ++ f :: l2) (cutLogs l1 f l2 m) w) := by
  have hlen : f.bs.length ≤ 16777216 := by
    have h1 := HD.out.room_le
    have h2 := HD.out.used_le
    rw [sumL_append, sumL_cons] at h2
    omega
  have HBS : Hid (fileBs (l1 ++ f :: l2) num = f.bs) := Lib.hid (by unfold fileBs; rw [HFN.out]; rfl)
  obtain ⟨fs, hfs⟩ : ∃ fs, l1 ++ f :: l2 = fs := ⟨_, rfl⟩
  rw [hfs] at HD HBS ⊢
  have HFS := Lib.hid hfs
  clear hfs
  go_enter Tryz.func7, Tryz.ntmps7
  go_wp2_with fail
  refine (readD_any _ _ _ _ _ _ _ HD h1 h2).mono ?_
  rintro e w1 ⟨A1, n1, c1, rfl, hown1, hb1⟩
  rw [HBS.out] at hown1
  have hS1 := Sb.own hown1
  have hD1 := HD.out.all hb1
  have HN1 := Lib.hid hS1.1
  have hn1 : n1 ≤ 16777216 := by rw [← HN1.out]; exact hlen
  clear hown1
  go_wp2_with fail
  refine (scan2_any _ _ _ _ _ (Lib.hid hS1) (by omega)).mono ?_
  rintro e w2 ⟨v2, L2, m2, rfl, hL2, hs2, hb2, hlow2⟩
  obtain ⟨e1, e2⟩ := ScanIs.unique (by omega) hs2 HSC.out
  subst e2
  have hm1 : m2 < n1 := by rw [← HN1.out]; exact hm
  obtain ⟨A2, c2, rfl⟩ := hL2.slice
  have hD2 := hD1.all hb2
  have HB2 := Lib.hid (bt hb1 hb2)
  clear hs2 e1 hL2 hlow2 hb1 hb2 hD1 hS1
  rw [← HFS.out] at hD2
  go_wp2_with fail
  refine (trunc_any _ _ _ _ _ _ _ _ m2 false _ (Lib.hid hD2) HFN h1 h2 (by omega) HO).mono ?_
  rintro e w3 ⟨rfl, hN3⟩
  have hN3' := DskNext.first HB2.out hN3
  replace hN3' : DskNext g mb room false (failPlan plan) (l1 ++ f :: l2) (cutLogs l1 f l2 m2) w w3 := hN3'
  rw [HFS.out] at hN3'
  obtain ⟨fs3, hst3, hD3, m3, hF3⟩ := hN3'
  have HST3 := Lib.hid hst3
  have HM3 := Lib.hid m3
  have HF3 := Lib.hid hF3
  clear hN3 hD2 hst3 m3 hF3
  go_wp2_with fail
  refine (sync_any _ _ _ _ _ _ (Lib.hid hD3)).mono ?_
  rintro e w4 ⟨rfl, hN4⟩
  rw [HO2.out] at hN4 ⊢
  replace hN4 : DskNext g mb room true (failPlan (failPlan plan)) fs3 (fs3.map Fl.log) w3 w4 := hN4
  rw [HST3.out] at hN4
  have HN4 := Lib.hid (DskNext.also HM3.out HF3.out hN4)
  clear hN4 hD3
  go_wp2
  go_ret3
  exact ⟨rfl, HN4.out⟩
end Go.Proofs.YtldmokjpfnakkaaGreat
