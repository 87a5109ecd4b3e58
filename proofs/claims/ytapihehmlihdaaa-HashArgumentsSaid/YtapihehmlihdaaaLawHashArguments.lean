/- For every list of integers and slice of bytes worldmintlaw01.HashArguments returns true. No condition. -/
import Derived.Test.YtapihehmlihdaaaHashRef
import Derived.Test.YtapihehmlihdaaaHashLives
import Derived.Test.YtapihehmlihdaaaRefHelp
import Derived.Test.YtapihehmlihdaaaHashInj
import Derived.Deep.RegionHeld3
import Derived.Test.YtapihehmlihdaaaLaw
namespace Go.Proofs.Ytapihehmlihdaaa
open Go.ChangeShapes Go.WideShapes Go.ChangeAt Go.RowKit Go.ChangeMaps


set_option maxHeartbeats 1000000 in
theorem HashArguments_walk (W : World) (A0 : Option Addr) (n0 c0 : Nat) (f0 : Nat → Int) (hA0 : A0 = none → n0 = 0) (hn0 : n0 ≤ c0) (hc0 : c0 ≤ 9223372036854775807) (hR0 : Rd W W.heap.size A0 n0 (fun j => .int .i64 (f0 j))) (_hw0 : Hid (∀ j, j < n0 → (Lit.int .i64 (f0 j)).wf = true)) (A1 : Option Addr) (n1 c1 : Nat) (f1 : Nat → Int) (hA1 : A1 = none → n1 = 0) (hn1 : n1 ≤ c1) (hc1 : c1 ≤ 9223372036854775807) (hR1 : Rd W W.heap.size A1 n1 (fun j => .int .u8 (f1 j))) (hw1 : Hid (∀ j, j < n1 → (Lit.int .u8 (f1 j)).wf = true)) :
    Calls Try.prog 10 #[.slice A0 n0 c0, .slice A1 n1 c1] W fun e w' => e = .returned (.bool true) ∧ Below W.heap.size W w' := by
  have hb := Below.refl W.heap.size W
  go_enter Try.func10, Try.ntmps10
  go_wp2_with (first
    | (go_at_call 12; ((with_reducible refine (ints_list _ _ _ 10 10 rfl _ _ hA0 (hR0.all hb) hn0 hc0 (by decide)).mono ?_); rintro e w1 ⟨A', c', k, xs, rfl, hkc, hcm, hkm, HK, HX, HE, hown, hr, hb1⟩; replace hb := bt hb hb1; clear hb1))
    | (go_at_call 16; ((with_reducible refine (few_list _ _ _ 30 30 rfl _ _ hA1 (hR1.all hb) hn1 hc1 (by decide) (bytes_wf hw1)).mono ?_); rintro e w2 ⟨A2, c2, k2, bs, rfl, hkc2, hcm2, hkm2, HK2, HX2, HE2, hown2, hr2, hb1⟩; replace hb := bt hb hb1; replace hr := hr.all hb1; clear hb1)))
  go_wp2_with (first
    | (go_at_call 13; ((with_reducible refine (hsum_any ⟨#[115, 97, 109, 101]⟩ _ _ _ _ xs _ HX (by decide) (by omega) (Nat.le_refl _) hr).mono ?_); rintro e w3 ⟨rfl, hb3⟩; replace hb := bt hb hb3; replace hr := hr.all hb3; replace hr2 := hr2.all hb3; clear hb3))
    | (go_at_call 17; ((with_reducible refine (hbytes_any ⟨#[115, 97, 109, 101]⟩ _ _ _ _ bs _ HX2 (by decide) hkc2 (by omega) (Nat.le_refl _) hr2).mono ?_); rintro e w3 ⟨rfl, hb3⟩; replace hb := bt hb hb3; replace hr := hr.all hb3; replace hr2 := hr2.all hb3; clear hb3)))
  go_wp2_with (first
    | (go_at_call 12; ((with_reducible refine (ints_list _ _ _ 10 10 rfl _ _ hA0 (hR0.all hb) hn0 hc0 (by decide)).mono ?_); rintro e w1 ⟨A'3, c'3, k3, xs3, rfl, hkc3, hcm3, hkm3, HK3, HX3, HE3, hown3, hr3, hb1⟩; replace hb := bt hb hb1; replace hr := hr.all hb1; replace hr2 := hr2.all hb1; clear hb1))
    | (go_at_call 24; ((with_reducible refine (sameInts_true _ _ _ _ _ _ xs xs3 _ (by rw [HE.out, HE3.out, HK.out, HK3.out]) HX HX3 hr hr3 (by omega) (by omega)).mono ?_); rintro e w3 ⟨rfl, hb3⟩; replace hb := bt hb hb3; replace hr := hr.all hb3; replace hr2 := hr2.all hb3; clear hb3))
    | (go_at_call 16; ((with_reducible refine (few_list _ _ _ 30 30 rfl _ _ hA1 (hR1.all hb) hn1 hc1 (by decide) (bytes_wf hw1)).mono ?_); rintro e w2 ⟨A24, c24, k24, bs4, rfl, hkc24, hcm24, hkm24, HK24, HX24, HE24, hown24, hr24, hb1⟩; replace hb := bt hb hb1; replace hr := hr.all hb1; replace hr2 := hr2.all hb1; clear hb1))
    | (go_at_call 22; ((with_reducible refine (sameBytes_true _ _ _ _ _ _ bs bs4 _ (by rw [HE2.out, HE24.out, HK2.out, HK24.out]) HX2 HX24 hr2 hr24 (by omega) (by omega)).mono ?_); rintro e w3 ⟨rfl, hb3⟩; replace hb := bt hb hb3; replace hr := hr.all hb3; replace hr2 := hr2.all hb3; clear hb3))
    | (go_at_call 13; ((with_reducible refine (hsum_any ⟨#[115, 97, 109, 101]⟩ _ _ _ _ xs _ HX (by decide) (by omega) (Nat.le_refl _) hr).mono ?_); rintro e w3 ⟨rfl, hb3⟩; replace hb := bt hb hb3; replace hr := hr.all hb3; replace hr2 := hr2.all hb3; clear hb3))
    | (go_at_call 17; ((with_reducible refine (hbytes_any ⟨#[115, 97, 109, 101]⟩ _ _ _ _ bs _ HX2 (by decide) hkc2 (by omega) (Nat.le_refl _) hr2).mono ?_); rintro e w3 ⟨rfl, hb3⟩; replace hb := bt hb hb3; replace hr := hr.all hb3; replace hr2 := hr2.all hb3; clear hb3))
    | (go_at_call 15; ((with_reducible refine (lives_any _).mono ?_); rintro e w3 ⟨rfl, hb3⟩; replace hb := bt hb hb3; clear hb3)))
  go_ret
  exact ⟨rfl, hb⟩

set_option maxRecDepth 100000 in
theorem HashArguments_lifted (os : Os) (started : os.Started) (H : Type) (enc : TypeId × Value → H) :
    ReturnsInHanded {} Try.checked os 10 .any (Rows.hashArgumentsSpec.pre6 enc Try.prog Try.f10 Rows.hashArgumentsRow.domain false) (Rows.hashArgumentsSpec.post enc Try.prog Try.f10 false true false false) := by
  refine returnsInHanded_of_change (C := Try.checked) Try.own started (by kernel_rfl) Try.func10
    (ChangeSpec.witness6 (enc := enc) (C := Try.checked) false ⟨#[], #[.slice none 0 0, .slice none 0 0], []⟩ 8 (by kernel_rfl) (by kernel_rfl) (by kernel_rfl) (by kernel_rfl)) ?_
  intro W base args ds gs before hval0 hW _ _
  have hval : ∀ (j : Nat) t v, Try.f10.params[j]? = some t → args[j]? = some v → Value.okWide Try.prog W .any base t v := hval0
  have hW' := hW
  obtain ⟨p, q, hT0, hV, rfl, hfz, hnd⟩ := hW
  have hT : DataW.TrodAll enc Try.prog W 0 (fun _ => true) true Try.f10.params.toList args.toList ds p := hT0
  rw [Try.params10] at hT hval
  obtain ⟨v0, vs0, d0, ds0, p0, q0, hargs0, rfl, rfl, h0, r0⟩ := trodAll_cons hT
  obtain ⟨v1, vs1, d1, ds1, p1, q1, hargs1, rfl, rfl, h1, r1⟩ := trodAll_cons r0
  obtain ⟨rfl, rfl, rfl⟩ := trodAll_nil r1
  obtain rfl : args = #[v0, v1] := by cases args; simp_all
  obtain ⟨A0, n0, c0, f0, rfl, hA0, hn0, hc0, hR0, hw0⟩ := open_sl Try.underlying22 Try.underlying3 (by kernel_rfl) (hval 0 22 v0 rfl rfl) h0
  obtain ⟨A1, n1, c1, f1, rfl, hA1, hn1, hc1, hR1, hw1⟩ := open_sl Try.underlying30 Try.underlying5 (by kernel_rfl) (hval 1 30 v1 rfl rfl) h1
  refine (HashArguments_walk W A0 n0 c0 f0 hA0 hn0 hc0 hR0 hw0 A1 n1 c1 f1 hA1 hn1 hc1 hR1 hw1).mono fun e W' ⟨he, hb⟩ => ?_
  subst he
  exact ⟨_, rfl, law_post Try.laidOut (by kernel_rfl) (by kernel_rfl) Try.underlying4 rfl hW' rfl hb⟩

theorem HashArguments_holds : Rows.HashArgumentsSaid :=
  OpenClaim.holds_of_wide 10 Try.f10 rfl rfl rfl rfl rfl rfl rfl ⟨rfl, rfl, rfl, rfl, rfl⟩ rfl rfl rfl rfl rfl (by kernel_rfl) Try.func10 (by kernel_rfl)
    (of_decide_eq_true (by kernel_rfl)) (by unfold Func.isWrapper; first | (rw [if_pos (by decide +kernel)]; kernel_rfl) | (rw [if_neg (by decide +kernel)]; exact ⟨rfl, rfl⟩))
    (fun os started H enc _ => HashArguments_lifted os started H enc)

end Go.Proofs.Ytapihehmlihdaaa
