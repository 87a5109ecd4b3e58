/- For all sequences of Appends, planned failures, crashes and Opens on a small disk, every result and the bytes of the file are the specified ones (JournalRuns). -/
import Derived.Test.YtldmokjpfnakkaaGreatHRunsL
import Derived.Test.YtldmokjpfnakkaaGreatHLaw

namespace Go.Proofs.YtldmokjpfnakkaaGreat
open Go.ChangeShapes Go.WideShapes Go.ChangeAt Go.RowKit Go.ChangeMaps


set_option maxRecDepth 100000 in
set_option maxHeartbeats 100000000 in
theorem JournalRuns_walk (W : World) (a0 : Int) (ha0 : Hid ((Lit.int .i64 a0).wf = true)) (A1 : Option Addr) (n1 c1 : Nat) (f1 : Nat → Int) (_hA1 : A1 = none → n1 = 0) (_hn1 : n1 ≤ c1) (_hc1 : c1 ≤ 9223372036854775807) (hR1 : Rd W W.heap.size A1 n1 (fun j => .int .i64 (f1 j))) (hw1 : Hid (∀ j, j < n1 → (Lit.int .i64 (f1 j)).wf = true)) :
    Calls Tryz.prog 3 #[.int .i64 a0, .slice A1 n1 c1] W fun e w' => e = .returned (.bool true) ∧ Below W.heap.size W w' := by
  have hb := Below.refl W.heap.size W
  obtain ⟨h01, h02⟩ := wf_i64 ha0.out
  have HW := Lib.hid (show ∀ j, j < n1 → -9223372036854775808 ≤ f1 j ∧ f1 j ≤ 9223372036854775807 from fun j hj => wf_i64 (hw1.out j hj))
  go_enter Tryz.func3, Tryz.ntmps3
  clear hb
  go_wp2_with fail
  refine (around_nat _ 200 _ _ rfl h01 h02 (by decide) (by decide)).mono ?_
  rintro e1 w1 ⟨k, rfl, hk, -, hw1'⟩
  subst hw1'
  obtain ⟨rm, hrm⟩ : ∃ rm, 40 + k = rm := ⟨_, rfl⟩
  have hrI : (40 : Int) + (k : Int) = (rm : Int) := by omega
  have hr300 : rm ≤ 300 := by omega
  go_upto_region 2 with fail
  clear hrI hrm hk h01 h02
  go_wp2_with fail
  refine (fresh_any rm _ (by omega)).mono ?_
  rintro e2 w2 ⟨g, mb, rfl, hg2, hmb2, hD2, hb2⟩
  have HD2 := Lib.hid hD2
  have HB2 := Lib.hid hb2
  clear hD2 hb2
  go_wp2_with fail
  refine (rnew_any rm _ (by omega)).mono ?_
  rintro e3 w3 ⟨g', gB, gF, rfl, hD3, hF3, hb3⟩
  have hlowP : ∀ b, DskF g mb [] b → W.heap.size ≤ b := by
    rintro b (rfl | rfl | ⟨f, hf, -⟩)
    · exact hg2
    · exact hmb2
    · cases hf
  have HD : Hid (DD W w3 g mb [] g' gB gF nilV rm false (-1) [] 0 false (-1) [] 0) := Lib.hid ⟨HD2.out.all hb3, rfl, hD3, fun b hb => (by cases hb), hlowP, fun b hb => Nat.le_trans HB2.out.size (hF3 b hb), bt HB2.out hb3⟩
  clear HD2 HB2 hD3 hF3 hb3 hg2 hmb2 hlowP
  have HO1 := Lib.hid (popen_any g mb rm (-1) [] [] 0 0 [] w3 (Lib.hid HD.out.d) (Lib.hid HD.out.s) (Lib.hid ScanIs.nil))
  go_wp2_with fail
  refine HO1.out.mono ?_
  rintro e4 w4 hP
  obtain ⟨fs4, hD4, m4, hc⟩ := HD.out.open1 hP
  have HWW := Lib.hid HD.out.below.size
  clear hP m4 HO1 HD
  rcases hc with ⟨-, -, gl, A4, c4, L, rfl, hgl, hl4, -⟩ | ⟨h, -⟩
  · have HD4 := Lib.hid hD4
    have HL4 := Lib.hid hl4
    clear hD4 hl4
    go_wp2_with fail
    refine (ropen_any g' gB gF rm 0 0 (-1) nilV [] [] w4 (Lib.hid HD4.out.r) (Lib.hid ScanIs.nil)).mono ?_
    rintro e5 w5 hP5
    obtain ⟨v5, hD5, m5, hc5⟩ := HD4.out.open2 hP5
    rcases hc5 with ⟨-, gl', A5, c5, L5, rfl, hgl', hl5, -⟩ | ⟨h, -⟩
    · have HF := Lib.hid (DD.opened (i := 0) (rs := []) hD5 (by decide) (m5.blk HL4.out (fun hf => HD4.out.notR HL4.out.ty (by decide) (by decide) (by decide) (by decide) hf)) hl5 (Nat.le_trans HWW.out hgl) (by have := HD4.out.below.size; omega))
      clear hP5 hD5 m5 hl5 HD4 HL4 HWW hgl hgl'
      go_wp2
      refine runs_loop hr300 hR1 HW ?_ ⟨0, by omega, rfl, HF⟩ ?_
      · intro c a d v w h
        cases d <;> exact h
      · clear HF
        intros
        rename_i h8
        obtain ⟨i, -, -, HP⟩ := h8
        obtain ⟨fs, v, o, p, bs, dur, hD, -, e13, he⟩ := HP.out
        subst e13
        have HB := Lib.hid hD.below
        clear hD HP
        rcases he with e10 | e10
        all_goals
          subst e10
          go_wp2_with fail
          refine (jlives_any _).mono ?_
          rintro e6 w6 ⟨rfl, hb6⟩
          have HB6 := Lib.hid (bt HB.out hb6)
          clear hb6 HB
          go_wp2
          go_ret
          exact ⟨rfl, HB6.out⟩
    · exact absurd h (by decide)
  · exact absurd h (by decide)

end Go.Proofs.YtldmokjpfnakkaaGreat

/- For all sequences of Appends, planned failures, crashes and Opens on a small disk, every result and the bytes of the file are the specified ones (JournalRuns). -/
namespace Go.Proofs.YtldmokjpfnakkaaGreat
open Go.ChangeShapes Go.WideShapes Go.ChangeAt Go.RowKit Go.ChangeMaps

set_option maxRecDepth 100000 in
theorem JournalRuns_lifted (os : Os) (started : os.Started) (H : Type) (enc : TypeId × Value → H) :
    ReturnsInHanded {} Tryz.checked os 3 .any (Rows.journalRunsSpec.pre6 enc Tryz.prog Tryz.f3 Rows.journalRunsRow.domain false) (Rows.journalRunsSpec.post enc Tryz.prog Tryz.f3 false true false false) := by
  refine returnsInHanded_of_change (C := Tryz.checked) Tryz.own started (by kernel_rfl) Tryz.func3
    (ChangeSpec.witness6 (enc := enc) (C := Tryz.checked) false ⟨#[], #[.int .i64 0, .slice none 0 0], []⟩ 8 (by kernel_rfl) (by kernel_rfl) (by kernel_rfl) (by kernel_rfl)) ?_
  intro W base args ds gs before hval0 hW _ _
  have hval : ∀ (j : Nat) t v, Tryz.f3.params[j]? = some t → args[j]? = some v → Value.okWide Tryz.prog W .any base t v := hval0
  have hW' := hW
  obtain ⟨p, q, hT0, hV, rfl, hfz, hnd⟩ := hW
  have hT : DataW.TrodAll enc Tryz.prog W 0 (fun _ => true) true Tryz.f3.params.toList args.toList ds p := hT0
  rw [Tryz.params3] at hT hval
  obtain ⟨v0, vs0, d0, ds0, p0, q0, hargs0, rfl, rfl, h0, r0⟩ := trodAll_cons hT
  obtain ⟨v1, vs1, d1, ds1, p1, q1, hargs1, rfl, rfl, h1, r1⟩ := trodAll_cons r0
  obtain ⟨rfl, rfl, rfl⟩ := trodAll_nil r1
  obtain rfl : args = #[v0, v1] := by cases args; simp_all
  obtain ⟨a0, rfl, -, -, w0⟩ := open_int Tryz.underlying3 (hval 0 3 v0 rfl rfl) h0
  obtain ⟨A1, n1, c1, f1, rfl, hA1, hn1, hc1, hR1, hw1⟩ := open_sl Tryz.underlying22 Tryz.underlying3 (by kernel_rfl) (hval 1 22 v1 rfl rfl) h1
  refine (JournalRuns_walk W a0 w0 A1 n1 c1 f1 hA1 hn1 hc1 hR1 hw1).mono fun e W' ⟨he, hb⟩ => ?_
  subst he
  exact ⟨_, rfl, law_post Tryz.laidOut (by kernel_rfl) (by kernel_rfl) Tryz.underlying4 rfl hW' rfl hb⟩

theorem JournalRuns_holds : Rows.JournalRunsSaid :=
  OpenClaim.holds_of_wide 3 Tryz.f3 rfl rfl rfl rfl rfl rfl rfl ⟨rfl, rfl, rfl, rfl, rfl⟩ rfl rfl rfl rfl rfl (by kernel_rfl) Tryz.func3 (by kernel_rfl)
    (of_decide_eq_true (by kernel_rfl)) (by unfold Func.isWrapper; first | (rw [if_pos (by decide +kernel)]; kernel_rfl) | (rw [if_neg (by decide +kernel)]; exact ⟨rfl, rfl⟩))
    (fun os started H enc _ => JournalRuns_lifted os started H enc)

end Go.Proofs.YtldmokjpfnakkaaGreat
