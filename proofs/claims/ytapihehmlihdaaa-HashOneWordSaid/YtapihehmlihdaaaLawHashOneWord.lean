/- For every label, list of integers, place and value worldmintlaw01.HashOneWord returns true. No condition. -/
import Derived.Test.YtapihehmlihdaaaHashRef
import Derived.Test.YtapihehmlihdaaaHashLives
import Derived.Test.YtapihehmlihdaaaRefHelp
import Derived.Test.YtapihehmlihdaaaHashInj
import Derived.Deep.RegionHeld3
import Derived.Test.YtapihehmlihdaaaLaw
namespace Go.Proofs.Ytapihehmlihdaaa
open Go.ChangeShapes Go.WideShapes Go.ChangeAt Go.RowKit Go.ChangeMaps


set_option maxHeartbeats 1000000 in
theorem HashOneWord_walk (W : World) (s0 : ByteArray) (hs0 : s0.size ≤ 9223372036854775807) (A1 : Option Addr) (n1 c1 : Nat) (f1 : Nat → Int) (hA1 : A1 = none → n1 = 0) (hn1 : n1 ≤ c1) (hc1 : c1 ≤ 9223372036854775807) (hR1 : Rd W W.heap.size A1 n1 (fun j => .int .i64 (f1 j))) (hw1 : Hid (∀ j, j < n1 → (Lit.int .i64 (f1 j)).wf = true)) (a2 : Int) (ha2 : Hid ((Lit.int .i64 a2).wf = true)) (a3 : Int) (ha3 : Hid ((Lit.int .i64 a3).wf = true)) :
    Calls Try.prog 5 #[.string s0, .slice A1 n1 c1, .int .i64 a2, .int .i64 a3] W fun e w' => e = .returned (.bool true) ∧ Below W.heap.size W w' := by
  obtain ⟨i8, hi8, hz08, hz18, hz28⟩ := info_parts infoInt
  obtain ⟨hr10, hr11⟩ := wf_i64 ha2.out
  have HV := Lib.hid (wf_i64 ha3.out)
  have hls : (shortB s0 20).size ≤ 20 := by rw [shortB_size]; omega
  have hb := Below.refl W.heap.size W
  go_enter Try.func5, Try.ntmps5
  go_wp2_with (first
    | (go_at_call 11; ((with_reducible refine (short_any _ 20 20 rfl _ hs0 (by decide)).mono ?_); rintro e w' ⟨rfl, rfl⟩))
    | (go_at_call 12; ((with_reducible refine (ints_list _ _ _ 9 9 rfl _ _ hA1 (hR1.all hb) hn1 hc1 (by decide)).mono ?_); rintro e w1 ⟨A', c', k, xs, rfl, hkc, hcm, hkm, HK, HX, HE, hown, hr, hb1⟩; replace hb := bt hb hb1; clear hb1))
    | (at_builtin; obtain ⟨g8, c8, w8, hap, hown8, hg8, hat8, hs8⟩ := run_append_one (P := Try.prog) w1 W.heap.size 22 22 3 i8 _ 8 Try.underlying22 hi8 hz08 hz18 hz28 rfl _ k _ hown (.int .i64 7) rfl (by unfold maxLen; omega) (by omega) hb.size
       (refine wpList_append_run hap rfl rfl rfl rfl ?_; clear hap)
       replace hb := hb.grown hg8 hb.size (fun k e => (hown.lt k e).1)
       rw [show xs.map (Value.int .i64) ++ [Value.int .i64 7] = (xs ++ [7]).map (Value.int .i64) by simp] at hown8
       have HL8 := Lib.hid (show (xs ++ [7]).length = k + 1 by have := HX.out; simp; omega)
       have hc8 := own_cap hown8
       obtain ⟨-, hk8, hr8⟩ := rd_ints hown8
       have HXE := Lib.hid (rfl : xs ++ [7] = xs ++ [7])
       clear hown hown8 hg8 hat8 hs8 hr)
    | (go_at_call 12; ((with_reducible refine (ints_ints _ _ _ 10 10 rfl (xs ++ [7]) _ HL8 hr8 hk8 hc8 (by decide)).mono ?_); rintro e w7 ⟨A7, c7, k7, xs7, rfl, hkc7, hcm7, hkm7, HK7, HX7, HE7, hown7, hr7, hb3⟩; replace hr8 := hr8.below hb3 (Nat.le_refl _); have hW8 := hb.size; replace hb := bt hb hb3; have hs7 := hb3.size; clear hb3; (obtain rfl : k7 = k + 1 := by have := HK7.out; omega); obtain ⟨g7, rfl, hg7, hg7'⟩ := own_some hown7 (by omega); (obtain rfl : xs7 = xs ++ [7] := by rw [HE7.out, List.take_of_length_le (by have := HL8.out; omega)]))))
  refine (around_nat _ (k + 1) _ _ (by omega) (by omega) (by omega) (by omega) (by omega)).mono ?_
  rintro e w' ⟨j, rfl, hk, HKK, rfl⟩
  have HI : Hid (-9223372036854775808 ≤ (xs ++ [7])[j]?.getD 0 ∧ (xs ++ [7])[j]?.getD 0 ≤ 9223372036854775807) := by
    refine Lib.hid ?_
    have hl := HX.out
    rcases (show j < k ∨ j = k by omega) with h | h
    · rw [List.getElem?_append_left (by omega)]
      have hk2 := HK.out
      have := wf_i64 (hw1.out j (by omega))
      rw [HE.out]
      simpa [h] using this
    · rw [List.getElem?_append_right (by omega), h, hl]
      exact ⟨by simp, by simp⟩
  generalize shortB s0 20 = s at *
  generalize xs ++ [7] = X at *
  obtain ⟨hcl, hfz⟩ := own_int hown7 hk
  have hi0 : (0 : Int) ≤ (j : Int) := by omega
  have hi1 : (j : Int) < (k : Int) + 1 := by omega
  have hst := own_int_set hown7 j a3
  have hrx : Rd (w7.setCell ⟨g7, j, none⟩ (.int .i64 a3)) w8.heap.size (some ⟨g8, 0, none⟩) (k + 1) (vInt X) := hr8.keep fun b hb => Below.heap_setCell _ _ _ _ (by simp; omega)
  have hbx := hb.setCell (p := ⟨g7, j, none⟩) (by simp; omega) (.int .i64 a3)
  have hsx : w8.heap.size ≤ (w7.setCell ⟨g7, j, none⟩ (.int .i64 a3)).heap.size := by simpa using hs7
  go_wp2_with fail
  have hry := (rd_ints hst).2.2
  have HLy := Lib.hid (show (X.set j a3).length = k + 1 by have := HX7.out; simp; omega)
  have hd : ((sumI s.data.toList X == sumI s.data.toList (X.set j a3)) == (X[j]?.getD 0 == a3)) = true := by
    have hlt : j < X.length := by have := HX7.out; omega
    have hg : X[j]?.getD 0 = X[j] := by simp [hlt]
    rw [beq_iff_eq, Bool.eq_iff_iff, beq_iff_eq, beq_iff_eq, hg]
    exact sum_set _ X j a3 hlt (hg ▸ HI.out) HV.out
  obtain ⟨b8, off8, h8, hlt8, hcx⟩ := hrx.at_ hk
  injection h8 with h8
  injection h8 with h81 h82
  subst h81 h82
  rw [Nat.zero_add] at hcx
  clear hown7 hcl hfz hr7 hr8 hst
  generalize w7.setCell ⟨g7, j, none⟩ (Value.int .i64 a3) = wz at *
  generalize X.set j a3 = Y at *
  have hcx' : wz.cell? ⟨g8, j, none⟩ = some (.int .i64 (X[j]?.getD 0)) := hcx
  clear hcx
  have hlt9 : g8 < wz.heap.size := by omega
  go_region_held3 (fun w' => Below wz.heap.size wz w' ∧ w'.cell? ⟨g8, j, none⟩ = some (.int .i64 (X[j]?.getD 0))) (first | exact ⟨(Below.refl _ wz).drew, hcx'⟩ | exact ⟨hS2, (hS2.cell (p := ⟨g8, j, none⟩) hlt9).trans hcx'⟩)
    (first
      | (go_at_call 13; have hS1 := (‹Below wz.heap.size wz _ ∧ _›).1; ((with_reducible refine (hsum_any _ _ _ _ _ X _ HX7 (by omega) (by omega) (Nat.le_refl _) ((hrx.more hsx).all hS1)).mono ?_); rintro e wy ⟨rfl, hb3⟩; have hS2 := bt hS1 hb3; clear hS1 hb3))
      | (go_at_call 13; have hS1 := (‹Below wz.heap.size wz _ ∧ _›).1; ((with_reducible refine (hsum_any _ _ _ _ _ Y _ HLy (by omega) (by omega) (Nat.le_refl _) (hry.all hS1)).mono ?_); rintro e wy ⟨rfl, hb3⟩; have hS2 := bt hS1 hb3; clear hS1 hb3))
      | (go_at_call 15; have hS1 := (‹Below wz.heap.size wz _ ∧ _›).1; ((with_reducible refine (lives_any _).mono ?_); rintro e wy ⟨rfl, hb3⟩; have hS2 := bt hS1 hb3; clear hS1 hb3)))
  all_goals go_wp2
  all_goals go_ret
  all_goals exact ⟨rfl, bt hbx ‹Below wz.heap.size wz _›⟩

set_option maxRecDepth 100000 in
theorem HashOneWord_lifted (os : Os) (started : os.Started) (H : Type) (enc : TypeId × Value → H) :
    ReturnsInHanded {} Try.checked os 5 .any (Rows.hashOneWordSpec.pre6 enc Try.prog Try.f5 Rows.hashOneWordRow.domain false) (Rows.hashOneWordSpec.post enc Try.prog Try.f5 false true false false) := by
  refine returnsInHanded_of_change (C := Try.checked) Try.own started (by kernel_rfl) Try.func5
    (ChangeSpec.witness6 (enc := enc) (C := Try.checked) false ⟨#[], #[.string ⟨#[]⟩, .slice none 0 0, .int .i64 0, .int .i64 0], []⟩ 8 (by kernel_rfl) (by kernel_rfl) (by kernel_rfl) (by kernel_rfl)) ?_
  intro W base args ds gs before hval0 hW _ _
  have hval : ∀ (j : Nat) t v, Try.f5.params[j]? = some t → args[j]? = some v → Value.okWide Try.prog W .any base t v := hval0
  have hW' := hW
  obtain ⟨p, q, hT0, hV, rfl, hfz, hnd⟩ := hW
  have hT : DataW.TrodAll enc Try.prog W 0 (fun _ => true) true Try.f5.params.toList args.toList ds p := hT0
  rw [Try.params5] at hT hval
  obtain ⟨v0, vs0, d0, ds0, p0, q0, hargs0, rfl, rfl, h0, r0⟩ := trodAll_cons hT
  obtain ⟨v1, vs1, d1, ds1, p1, q1, hargs1, rfl, rfl, h1, r1⟩ := trodAll_cons r0
  obtain ⟨v2, vs2, d2, ds2, p2, q2, hargs2, rfl, rfl, h2, r2⟩ := trodAll_cons r1
  obtain ⟨v3, vs3, d3, ds3, p3, q3, hargs3, rfl, rfl, h3, r3⟩ := trodAll_cons r2
  obtain ⟨rfl, rfl, rfl⟩ := trodAll_nil r3
  obtain rfl : args = #[v0, v1, v2, v3] := by cases args; simp_all
  obtain ⟨s0, rfl, -, -, hs0⟩ := open_string Try.underlying9 (hval 0 9 v0 rfl rfl) h0
  obtain ⟨A1, n1, c1, f1, rfl, hA1, hn1, hc1, hR1, hw1⟩ := open_sl Try.underlying22 Try.underlying3 (by kernel_rfl) (hval 1 22 v1 rfl rfl) h1
  obtain ⟨a2, rfl, -, -, w2⟩ := open_int Try.underlying3 (hval 2 3 v2 rfl rfl) h2
  obtain ⟨a3, rfl, -, -, w3⟩ := open_int Try.underlying3 (hval 3 3 v3 rfl rfl) h3
  refine (HashOneWord_walk W s0 (by simpa [maxLen] using hs0) A1 n1 c1 f1 hA1 hn1 hc1 hR1 hw1 a2 w2 a3 w3).mono fun e W' ⟨he, hb⟩ => ?_
  subst he
  exact ⟨_, rfl, law_post Try.laidOut (by kernel_rfl) (by kernel_rfl) Try.underlying4 rfl hW' rfl hb⟩

theorem HashOneWord_holds : Rows.HashOneWordSaid :=
  OpenClaim.holds_of_wide 5 Try.f5 rfl rfl rfl rfl rfl rfl rfl ⟨rfl, rfl, rfl, rfl, rfl⟩ rfl rfl rfl rfl rfl (by kernel_rfl) Try.func5 (by kernel_rfl)
    (of_decide_eq_true (by kernel_rfl)) (by unfold Func.isWrapper; first | (rw [if_pos (by decide +kernel)]; kernel_rfl) | (rw [if_neg (by decide +kernel)]; exact ⟨rfl, rfl⟩))
    (fun os started H enc _ => HashOneWord_lifted os started H enc)

end Go.Proofs.Ytapihehmlihdaaa
