/- For every label and list of integers worldmintlaw01.HashSum returns true. No condition. -/
import Derived.Test.YtapihehmlihdaaaHashRef
import Derived.Test.YtapihehmlihdaaaHashLives
import Derived.Test.YtapihehmlihdaaaRefHelp
import Derived.Test.YtapihehmlihdaaaHashInj
import Derived.Deep.RegionHeld3
import Derived.Test.YtapihehmlihdaaaLaw
namespace Go.Proofs.Ytapihehmlihdaaa
open Go.ChangeShapes Go.WideShapes Go.ChangeAt Go.RowKit Go.ChangeMaps


set_option maxHeartbeats 1000000 in
theorem HashSum_walk (W : World) (s0 : ByteArray) (hs0 : s0.size ≤ 9223372036854775807) (A1 : Option Addr) (n1 c1 : Nat) (f1 : Nat → Int) (hA1 : A1 = none → n1 = 0) (hn1 : n1 ≤ c1) (hc1 : c1 ≤ 9223372036854775807) (hR1 : Rd W W.heap.size A1 n1 (fun j => .int .i64 (f1 j))) (_hw1 : Hid (∀ j, j < n1 → (Lit.int .i64 (f1 j)).wf = true)) :
    Calls Try.prog 3 #[.string s0, .slice A1 n1 c1] W fun e w' => e = .returned (.bool true) ∧ Below W.heap.size W w' := by
  have hb := Below.refl W.heap.size W
  go_enter Try.func3, Try.ntmps3
  go_wp2_with (first
    | (go_at_call 11; ((with_reducible refine (short_any _ 40 40 rfl _ hs0 (by decide)).mono ?_); rintro e w' ⟨rfl, rfl⟩))
    | (go_at_call 12; ((with_reducible refine (ints_list _ _ _ 12 12 rfl _ _ hA1 (hR1.all hb) hn1 hc1 (by decide)).mono ?_); rintro e w1 ⟨A', c', k, xs, rfl, hkc, hcm, hkm, HK, HX, HE, hown, hr, hb1⟩; replace hb := bt hb hb1; clear hb1)))
  have hls : (shortB s0 40).size ≤ 40 := by rw [shortB_size]; omega
  generalize shortB s0 40 = s at *
  go_wp2_with (first
    | (go_at_call 13; ((with_reducible refine (hsum_any _ _ _ _ _ xs _ HX (by omega) (by omega) (Nat.le_refl _) hr).mono ?_); rintro e w3 ⟨rfl, hb3⟩; replace hb := bt hb hb3; replace hr := hr.all hb3; clear hb3))
    | (go_at_call 14; ((with_reducible refine (rsum_any _ _ _ _ _ xs _ HX (by omega) (by omega) (Nat.le_refl _) hr).mono ?_); rintro e w3 ⟨rfl, hb3⟩; replace hb := bt hb hb3; replace hr := hr.all hb3; clear hb3))
    | (go_at_call 13; ((with_reducible refine (hsum_any _ none 0 0 _ [] _ (Lib.hid rfl) (by omega) (by omega) (Nat.le_refl _) Rd.nil).mono ?_); rintro e w3 ⟨rfl, hb3⟩; replace hb := bt hb hb3; clear hb3))
    | (go_at_call 14; ((with_reducible refine (rsum_any _ none 0 0 _ [] _ (Lib.hid rfl) (by omega) (by omega) (Nat.le_refl _) Rd.nil).mono ?_); rintro e w3 ⟨rfl, hb3⟩; replace hb := bt hb hb3; clear hb3))
    | (go_at_call 15; ((with_reducible refine (lives_any _).mono ?_); rintro e w3 ⟨rfl, hb3⟩; replace hb := bt hb hb3; clear hb3)))
  go_ret
  exact ⟨rfl, hb⟩

set_option maxRecDepth 100000 in
theorem HashSum_lifted (os : Os) (started : os.Started) (H : Type) (enc : TypeId × Value → H) :
    ReturnsInHanded {} Try.checked os 3 .any (Rows.hashSumSpec.pre6 enc Try.prog Try.f3 Rows.hashSumRow.domain false) (Rows.hashSumSpec.post enc Try.prog Try.f3 false true false false) := by
  refine returnsInHanded_of_change (C := Try.checked) Try.own started (by kernel_rfl) Try.func3
    (ChangeSpec.witness6 (enc := enc) (C := Try.checked) false ⟨#[], #[.string ⟨#[]⟩, .slice none 0 0], []⟩ 8 (by kernel_rfl) (by kernel_rfl) (by kernel_rfl) (by kernel_rfl)) ?_
  intro W base args ds gs before hval0 hW _ _
  have hval : ∀ (j : Nat) t v, Try.f3.params[j]? = some t → args[j]? = some v → Value.okWide Try.prog W .any base t v := hval0
  have hW' := hW
  obtain ⟨p, q, hT0, hV, rfl, hfz, hnd⟩ := hW
  have hT : DataW.TrodAll enc Try.prog W 0 (fun _ => true) true Try.f3.params.toList args.toList ds p := hT0
  rw [Try.params3] at hT hval
  obtain ⟨v0, vs0, d0, ds0, p0, q0, hargs0, rfl, rfl, h0, r0⟩ := trodAll_cons hT
  obtain ⟨v1, vs1, d1, ds1, p1, q1, hargs1, rfl, rfl, h1, r1⟩ := trodAll_cons r0
  obtain ⟨rfl, rfl, rfl⟩ := trodAll_nil r1
  obtain rfl : args = #[v0, v1] := by cases args; simp_all
  obtain ⟨s0, rfl, -, -, hs0⟩ := open_string Try.underlying9 (hval 0 9 v0 rfl rfl) h0
  obtain ⟨A1, n1, c1, f1, rfl, hA1, hn1, hc1, hR1, hw1⟩ := open_sl Try.underlying22 Try.underlying3 (by kernel_rfl) (hval 1 22 v1 rfl rfl) h1
  refine (HashSum_walk W s0 (by simpa [maxLen] using hs0) A1 n1 c1 f1 hA1 hn1 hc1 hR1 hw1).mono fun e W' ⟨he, hb⟩ => ?_
  subst he
  exact ⟨_, rfl, law_post Try.laidOut (by kernel_rfl) (by kernel_rfl) Try.underlying4 rfl hW' rfl hb⟩

theorem HashSum_holds : Rows.HashSumSaid :=
  OpenClaim.holds_of_wide 3 Try.f3 rfl rfl rfl rfl rfl rfl rfl ⟨rfl, rfl, rfl, rfl, rfl⟩ rfl rfl rfl rfl rfl (by kernel_rfl) Try.func3 (by kernel_rfl)
    (of_decide_eq_true (by kernel_rfl)) (by unfold Func.isWrapper; first | (rw [if_pos (by decide +kernel)]; kernel_rfl) | (rw [if_neg (by decide +kernel)]; exact ⟨rfl, rfl⟩))
    (fun os started H enc _ => HashSum_lifted os started H enc)

end Go.Proofs.Ytapihehmlihdaaa
