/- For every word, number and shift worldmintlaw02.WireSizes returns true. No condition. -/
import Derived.Test.YtahajgmmoefpjaaWireLives
import Derived.Test.YtahajgmmoefpjaaRefHelp2
import Derived.Test.YtahajgmmoefpjaaLaw
namespace Go.Proofs.Ytahajgmmoefpjaa
open Go.ChangeShapes Go.WideShapes Go.ChangeAt Go.RowKit Go.ChangeMaps

theorem varint_count (n : Nat) : (varint n).length = 1 + (if n / 128 = 0 then 0 else (varint (n / 128)).length) := by
  by_cases h : n < 128
  · rw [varint_lt h, if_pos (by omega)]; rfl
  · rw [varint_ge (by omega), if_neg (by omega), List.length_cons]; omega

set_option maxRecDepth 100000 in
set_option maxHeartbeats 2000000 in
theorem WireSizes_walk (W : World) (a0 : Int) (ha0 : Hid ((Lit.int .u64 a0).wf = true)) (a1 : Int) (ha1 : Hid ((Lit.int .i64 a1).wf = true)) (a2 : Int) (ha2 : Hid ((Lit.int .i64 a2).wf = true)) :
    Calls Try.prog 3 #[.int .u64 a0, .int .i64 a1, .int .i64 a2] W fun e w' => e = .returned (.bool true) ∧ Below W.heap.size W w' := by
  have u0 := wf_u64 ha0.out
  obtain ⟨hr10, hr11⟩ := wf_i64 ha1.out
  obtain ⟨hr20, hr21⟩ := wf_i64 ha2.out
  obtain ⟨u, rfl⟩ := Int.eq_ofNat_of_zero_le u0.1
  have hb := Below.refl W.heap.size W
  go_enter Try.func3, Try.ntmps3
  go_wp2_with fail
  refine (around_nat a2 64 _ _ rfl (by omega) (by omega) (by omega) (by omega)).mono ?_
  rintro e w' ⟨j, rfl, hj, _, rfl⟩
  have hk : u / 2 ^ j ≤ 18446744073709551615 := Nat.le_trans (Nat.div_le_self _ _) (by omega)
  have HKK : Hid (((u / 2 ^ j : Nat) : Int) = (u : Int) / 2 ^ j) := Lib.hid (by rw [Int.natCast_ediv, Int.natCast_pow]; rfl)
  go_wp2_with fail
  rw [← HKK.out]
  generalize u / 2 ^ j = k at *
  rw [show IntKind.u64.wrap (((k : Nat) : Int).tdiv 128) = ((k / 128 : Nat) : Int) from by rw [wrap_u64, Int.tdiv_eq_ediv_of_nonneg (by omega)]; omega]
  clear HKK
  go_loopw [8, 9] (fun sv rv wr => ∃ s r : Nat, sv = .int .i64 (s : Int) ∧ rv = .int .u64 (r : Int) ∧ r ≤ 18446744073709551615 ∧ s ≤ 10 ∧ Hid (s + (if r = 0 then 0 else (varint r).length) = (varint k).length) ∧ wr = W) (fun _ rv _ => (intOf rv).toNat)
  case atStart => exact ⟨1, k / 128, rfl, rfl, by omega, by omega, Lib.hid (varint_count k).symm, rfl⟩
  case round =>
    obtain ⟨s, r, rfl, rfl, hr, hs, HC, rfl⟩ := hrel
    by_cases hr0 : 0 < r
    · have hs9 : s ≤ 9 := by
        have h1 := HC.out
        have h2 := varint_len10 hk
        rw [if_neg (by omega)] at h1
        have := varint_pos r
        omega
      go_wp2
      refine ⟨⟨s + 1, r / 128, by go_num, by go_num, by omega, by omega, Lib.hid ?_, by first | rfl | trivial⟩, by simp [intOf]; omega⟩
      have h1 := HC.out
      rw [if_neg (by omega), varint_count r] at h1
      omega
    · obtain rfl : r = 0 := by omega
      have HS : Hid ((varint k).length = s) := Lib.hid (by have := HC.out; simpa using this.symm)
      have HW0 := Lib.hid (Wr.new wr)
      replace hb := hb.alloc (Nat.le_refl _) (.cells #[.slice none 0 0] 26)
      clear HC
      go_wp2_with fail
      refine (wuint_any _ _ [] k _ rfl _ HW0 hk (by decide)).mono ?_
      rintro e w1 ⟨rfl, hW, hb1⟩
      rw [List.nil_append] at hW
      replace hb := hb.trans hb1
      have HW1 := Lib.hid (hW.all ((Below.refl _ w1).alloc (Nat.le_refl _) (.cells #[.slice none 0 0] 26)))
      have HX0 := Lib.hid (Wr.new w1)
      have hbx : Below w1.heap.size w1 (w1.alloc (.cells #[.slice none 0 0] 26)) := (Below.refl _ w1).alloc (Nat.le_refl _) _
      clear hb1 HW0
      go_wp2_with fail
      refine (bound_any a1 63 63 _ rfl hr10 hr11 (by decide)).mono ?_
      rintro e w2 ⟨m, rfl, hm1, hm2, _, rfl⟩
      have e1 : (encInt m).length = 1 := by unfold encInt; rw [varint_lt (by unfold zigI; split <;> omega)]; rfl
      have e2 : (encInt (-m)).length = 1 := by unfold encInt; rw [varint_lt (by unfold zigI; split <;> omega)]; rfl
      have E1 := Lib.hid e1
      have E2 := Lib.hid e2
      clear e1 e2
      go_wp2_with fail
      refine (wint_any _ _ _ m _ HX0 (by omega) (by omega) (by decide)).mono ?_
      rintro e w3 ⟨rfl, hX, hb1⟩
      replace HX0 := Lib.hid hX
      replace hbx := hbx.trans hb1
      clear hX hb1
      go_wp2_with fail
      refine (wint_any _ _ _ (-m) _ HX0 (by omega) (by omega) (by have := E1.out; simp; omega)).mono ?_
      rintro e w4 ⟨rfl, hX, hb1⟩
      replace HX0 := Lib.hid hX
      replace hbx := hbx.trans hb1
      clear hX hb1
      go_wp2_with fail
      refine (wbool_any _ _ _ _ _ HX0 (by have := E1.out; have := E2.out; simp; omega)).mono ?_
      rintro e w5 ⟨rfl, hX, hb1⟩
      replace HX0 := Lib.hid hX
      replace hbx := hbx.trans hb1
      replace HW1 := Lib.hid (hW.all hbx)
      replace hb := bt hb hbx
      clear hX hb1 hbx
      go_wp2_with fail
      refine (wdone_any _ _ _ _ HW1 (by rw [HS.out]; omega)).mono ?_
      rintro e w6 ⟨A6, n6, c6, rfl, _, _, HX6, _, _, hb6⟩
      obtain rfl : s = n6 := by rw [← HX6.out, HS.out]
      replace HX0 := Lib.hid (HX0.out.all hb6)
      replace hb := bt hb hb6
      clear hb6 HX6
      go_wp2_with fail
      have h3 : (([] : List UInt8) ++ encInt m ++ encInt (-m) ++ encBool (decide (0 < m))).length = 3 := by
        have h1 := E1.out
        have h2 := E2.out
        have h4 : (encBool (decide (0 < m))).length = 1 := by unfold encBool; split <;> rfl
        simp only [List.length_append, List.length_nil]
        omega
      refine (wdone_any _ _ _ _ HX0 (by omega)).mono ?_
      rintro e w7 ⟨A7, n7, c7, rfl, _, _, HX7, _, _, hb7⟩
      obtain rfl : 3 = n7 := by rw [← HX7.out, h3]
      replace hb := bt hb hb7
      clear hb7 HX7 h3
      go_wp2_with fail
      refine (lives2_any _).mono ?_
      rintro e wl ⟨rfl, hbl⟩
      go_wp2
      go_ret
      exact ⟨rfl, bt hb hbl⟩


set_option maxRecDepth 100000 in
theorem WireSizes_lifted (os : Os) (started : os.Started) (H : Type) (enc : TypeId × Value → H) :
    ReturnsInHanded {} Try.checked os 3 .any (Rows.wireSizesSpec.pre6 enc Try.prog Try.f3 Rows.wireSizesRow.domain false) (Rows.wireSizesSpec.post enc Try.prog Try.f3 false true false false) := by
  refine returnsInHanded_of_change (C := Try.checked) Try.own started (by kernel_rfl) Try.func3
    (ChangeSpec.witness6 (enc := enc) (C := Try.checked) false ⟨#[], #[.int .u64 0, .int .i64 0, .int .i64 0], []⟩ 8 (by kernel_rfl) (by kernel_rfl) (by kernel_rfl) (by kernel_rfl)) ?_
  intro W base args ds gs before hval0 hW _ _
  have hval : ∀ (j : Nat) t v, Try.f3.params[j]? = some t → args[j]? = some v → Value.okWide Try.prog W .any base t v := hval0
  have hW' := hW
  obtain ⟨p, q, hT0, hV, rfl, hfz, hnd⟩ := hW
  have hT : DataW.TrodAll enc Try.prog W 0 (fun _ => true) true Try.f3.params.toList args.toList ds p := hT0
  rw [Try.params3] at hT hval
  obtain ⟨v0, vs0, d0, ds0, p0, q0, hargs0, rfl, rfl, h0, r0⟩ := trodAll_cons hT
  obtain ⟨v1, vs1, d1, ds1, p1, q1, hargs1, rfl, rfl, h1, r1⟩ := trodAll_cons r0
  obtain ⟨v2, vs2, d2, ds2, p2, q2, hargs2, rfl, rfl, h2, r2⟩ := trodAll_cons r1
  obtain ⟨rfl, rfl, rfl⟩ := trodAll_nil r2
  obtain rfl : args = #[v0, v1, v2] := by cases args; simp_all
  obtain ⟨a0, rfl, -, -, w0⟩ := open_int Try.underlying22 (hval 0 22 v0 rfl rfl) h0
  obtain ⟨a1, rfl, -, -, w1⟩ := open_int Try.underlying3 (hval 1 3 v1 rfl rfl) h1
  obtain ⟨a2, rfl, -, -, w2⟩ := open_int Try.underlying3 (hval 2 3 v2 rfl rfl) h2
  refine (WireSizes_walk W a0 w0 a1 w1 a2 w2).mono fun e W' ⟨he, hb⟩ => ?_
  subst he
  exact ⟨_, rfl, law_post Try.laidOut (by kernel_rfl) (by kernel_rfl) Try.underlying4 rfl hW' rfl hb⟩

theorem WireSizes_holds : Rows.WireSizesSaid :=
  OpenClaim.holds_of_wide 3 Try.f3 rfl rfl rfl rfl rfl rfl rfl ⟨rfl, rfl, rfl, rfl, rfl⟩ rfl rfl rfl rfl rfl (by kernel_rfl) Try.func3 (by kernel_rfl)
    (of_decide_eq_true (by kernel_rfl)) (by unfold Func.isWrapper; first | (rw [if_pos (by decide +kernel)]; kernel_rfl) | (rw [if_neg (by decide +kernel)]; exact ⟨rfl, rfl⟩))
    (fun os started H enc _ => WireSizes_lifted os started H enc)

end Go.Proofs.Ytahajgmmoefpjaa
