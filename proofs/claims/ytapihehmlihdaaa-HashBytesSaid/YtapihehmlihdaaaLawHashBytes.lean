/- For every label, slice of bytes and pair of hashes worldmintlaw01.HashBytes returns true. No condition. -/
import Derived.Test.YtapihehmlihdaaaHashRef
import Derived.Test.YtapihehmlihdaaaHashLives
import Derived.Test.YtapihehmlihdaaaRefHelp
import Derived.Test.YtapihehmlihdaaaHashInj
import Derived.Deep.RegionHeld3
import Derived.Test.YtapihehmlihdaaaLaw
namespace Go.Proofs.Ytapihehmlihdaaa
open Go.ChangeShapes Go.WideShapes Go.ChangeAt Go.RowKit Go.ChangeMaps


set_option maxHeartbeats 1000000 in
theorem HashBytes_walk (W : World) (s0 : ByteArray) (hs0 : s0.size ≤ 9223372036854775807) (A1 : Option Addr) (n1 c1 : Nat) (f1 : Nat → Int) (hA1 : A1 = none → n1 = 0) (hn1 : n1 ≤ c1) (hc1 : c1 ≤ 9223372036854775807) (hR1 : Rd W W.heap.size A1 n1 (fun j => .int .u8 (f1 j))) (hw1 : Hid (∀ j, j < n1 → (Lit.int .u8 (f1 j)).wf = true)) (a2 : Int) (_ha2 : Hid ((Lit.int .u64 a2).wf = true)) (a3 : Int) (_ha3 : Hid ((Lit.int .u64 a3).wf = true)) :
    Calls Try.prog 4 #[.string s0, .slice A1 n1 c1, .int .u64 a2, .int .u64 a3] W fun e w' => e = .returned (.bool true) ∧ Below W.heap.size W w' := by
  have hb := Below.refl W.heap.size W
  go_enter Try.func4, Try.ntmps4
  go_wp2_with (first
    | (go_at_call 11; ((with_reducible refine (short_any _ 20 20 rfl _ hs0 (by decide)).mono ?_); rintro e w' ⟨rfl, rfl⟩))
    | (go_at_call 16; ((with_reducible refine (few_list _ _ _ 60 60 rfl _ _ hA1 (hR1.all hb) hn1 hc1 (by decide) (bytes_wf hw1)).mono ?_); rintro e w2 ⟨A2, c2, k2, bs, rfl, hkc2, hcm2, hkm2, HK2, HX2, HE2, hown2, hr2, hb1⟩; replace hb := bt hb hb1; clear hb1)))
  have hls : (shortB s0 20).size ≤ 20 := by rw [shortB_size]; omega
  generalize shortB s0 20 = s at *
  go_wp2_with (first
    | (go_at_call 17; ((with_reducible refine (hbytes_any _ _ _ _ _ bs _ HX2 (by omega) hkc2 (by omega) (Nat.le_refl _) hr2).mono ?_); rintro e w3 ⟨rfl, hb3⟩; replace hb := bt hb hb3; replace hr2 := hr2.all hb3; clear hb3))
    | (go_at_call 18; ((with_reducible refine (rbytes_any _ _ _ _ _ bs _ HX2 (by omega) hkc2 (by omega) (Nat.le_refl _) hr2).mono ?_); rintro e w3 ⟨rfl, hb3⟩; replace hb := bt hb hb3; replace hr2 := hr2.all hb3; clear hb3))
    | (go_at_call 19; ((with_reducible refine (hpair_any _ _ _).mono ?_); rintro e w3 ⟨rfl, hb3⟩; replace hb := bt hb hb3; clear hb3))
    | (go_at_call 20; ((with_reducible refine (rpair_any _ _ _).mono ?_); rintro e w3 ⟨rfl, hb3⟩; replace hb := bt hb hb3; clear hb3))
    | (go_at_call 15; ((with_reducible refine (lives_any _).mono ?_); rintro e w3 ⟨rfl, hb3⟩; replace hb := bt hb hb3; clear hb3)))
  go_ret
  exact ⟨rfl, hb⟩

set_option maxRecDepth 100000 in
theorem HashBytes_lifted (os : Os) (started : os.Started) (H : Type) (enc : TypeId × Value → H) :
    ReturnsInHanded {} Try.checked os 4 .any (Rows.hashBytesSpec.pre6 enc Try.prog Try.f4 Rows.hashBytesRow.domain false) (Rows.hashBytesSpec.post enc Try.prog Try.f4 false true false false) := by
  refine returnsInHanded_of_change (C := Try.checked) Try.own started (by kernel_rfl) Try.func4
    (ChangeSpec.witness6 (enc := enc) (C := Try.checked) false ⟨#[], #[.string ⟨#[]⟩, .slice none 0 0, .int .u64 0, .int .u64 0], []⟩ 8 (by kernel_rfl) (by kernel_rfl) (by kernel_rfl) (by kernel_rfl)) ?_
  intro W base args ds gs before hval0 hW _ _
  have hval : ∀ (j : Nat) t v, Try.f4.params[j]? = some t → args[j]? = some v → Value.okWide Try.prog W .any base t v := hval0
  have hW' := hW
  obtain ⟨p, q, hT0, hV, rfl, hfz, hnd⟩ := hW
  have hT : DataW.TrodAll enc Try.prog W 0 (fun _ => true) true Try.f4.params.toList args.toList ds p := hT0
  rw [Try.params4] at hT hval
  obtain ⟨v0, vs0, d0, ds0, p0, q0, hargs0, rfl, rfl, h0, r0⟩ := trodAll_cons hT
  obtain ⟨v1, vs1, d1, ds1, p1, q1, hargs1, rfl, rfl, h1, r1⟩ := trodAll_cons r0
  obtain ⟨v2, vs2, d2, ds2, p2, q2, hargs2, rfl, rfl, h2, r2⟩ := trodAll_cons r1
  obtain ⟨v3, vs3, d3, ds3, p3, q3, hargs3, rfl, rfl, h3, r3⟩ := trodAll_cons r2
  obtain ⟨rfl, rfl, rfl⟩ := trodAll_nil r3
  obtain rfl : args = #[v0, v1, v2, v3] := by cases args; simp_all
  obtain ⟨s0, rfl, -, -, hs0⟩ := open_string Try.underlying9 (hval 0 9 v0 rfl rfl) h0
  obtain ⟨A1, n1, c1, f1, rfl, hA1, hn1, hc1, hR1, hw1⟩ := open_sl Try.underlying30 Try.underlying5 (by kernel_rfl) (hval 1 30 v1 rfl rfl) h1
  obtain ⟨a2, rfl, -, -, w2⟩ := open_int Try.underlying25 (hval 2 25 v2 rfl rfl) h2
  obtain ⟨a3, rfl, -, -, w3⟩ := open_int Try.underlying25 (hval 3 25 v3 rfl rfl) h3
  refine (HashBytes_walk W s0 (by simpa [maxLen] using hs0) A1 n1 c1 f1 hA1 hn1 hc1 hR1 hw1 a2 w2 a3 w3).mono fun e W' ⟨he, hb⟩ => ?_
  subst he
  exact ⟨_, rfl, law_post Try.laidOut (by kernel_rfl) (by kernel_rfl) Try.underlying4 rfl hW' rfl hb⟩

theorem HashBytes_holds : Rows.HashBytesSaid :=
  OpenClaim.holds_of_wide 4 Try.f4 rfl rfl rfl rfl rfl rfl rfl ⟨rfl, rfl, rfl, rfl, rfl⟩ rfl rfl rfl rfl rfl (by kernel_rfl) Try.func4 (by kernel_rfl)
    (of_decide_eq_true (by kernel_rfl)) (by unfold Func.isWrapper; first | (rw [if_pos (by decide +kernel)]; kernel_rfl) | (rw [if_neg (by decide +kernel)]; exact ⟨rfl, rfl⟩))
    (fun os started H enc _ => HashBytes_lifted os started H enc)

end Go.Proofs.Ytapihehmlihdaaa
