/- For every seed, label, position, number, commitment and result worldmintlaw04.DiceVerifies returns true. No condition. -/
import Derived.Test.YtklkppmmnlachaaDiceLives
import Derived.Test.YtklkppmmnlachaaDiceRefRoll
import Derived.Test.YtklkppmmnlachaaRefHelp
import Derived.Test.YtklkppmmnlachaaHashInj
import Derived.Deep.RegionHeld3
import Derived.Test.YtklkppmmnlachaaLaw
namespace Go.Proofs.Ytklkppmmnlachaa
open Go.ChangeShapes Go.WideShapes Go.ChangeAt Go.RowKit Go.ChangeMaps

theorem rollVal_range (key at_ : Int) {n : Int} (hn : n ≤ 9223372036854775807) : 0 ≤ rollVal key at_ n ∧ rollVal key at_ n < 9223372036854775807 := by
  unfold rollVal
  split
  · by_cases h : 1 ≤ n
    · have := redVal_range (w := streamI key (atAdd at_ ‹Nat›)) h
      omega
    · rw [redVal_small (by omega)]; omega
  · omega
theorem commit_in (bs : List UInt8) : InU (commitI bs) := mixI_in _ _
theorem verify_self (bs l : List UInt8) (a n : Int) : verifyI (commitI bs) bs l a n (rollVal (bytesI l bs) a n) = (rollErr (bytesI l bs) a n == 0) := by
  unfold verifyI
  simp
theorem verify_next (bs l : List UInt8) (a n : Int) : verifyI (commitI bs) bs l a n (rollVal (bytesI l bs) a n + 1) = false := by
  unfold verifyI
  have h : (rollVal (bytesI l bs) a n == rollVal (bytesI l bs) a n + 1) = false := by rw [beq_eq_false_iff_ne]; omega
  rw [h]
  simp
theorem verify_other (bs l : List UInt8) (a n r : Int) : verifyI (IntKind.u64.wrap (commitI bs + 1)) bs l a n r = false := by
  have h := commit_in bs
  unfold InU at h
  have h2 : (IntKind.u64.wrap (commitI bs + 1) == commitI bs) = false := by rw [beq_eq_false_iff_ne, wrap_u64]; omega
  unfold verifyI
  rw [h2]
  rfl
theorem two_ints (W : World) (t : TypeId) (x y : Int) (hx : x ≤ 9223372036854775807) (hy : y ≤ 9223372036854775807) :
    ∀ i, i < 2 → ∃ v, v ≤ 9223372036854775807 ∧ (W.alloc (.cells #[.int .i64 x, .int .i64 y] t)).cell? ⟨W.heap.size, i, none⟩ = some (.int .i64 v) := by
  intro i hi
  rcases (show i = 0 ∨ i = 1 by omega) with rfl | rfl
  · exact ⟨x, hx, by simp⟩
  · exact ⟨y, hy, by simp⟩

set_option maxRecDepth 100000 in
set_option maxHeartbeats 1000000 in
theorem DiceVerifies_walk (W : World) (A0 : Option Addr) (n0 c0 : Nat) (f0 : Nat → Int) (hA0 : A0 = none → n0 = 0) (hn0 : n0 ≤ c0) (hc0 : c0 ≤ 9223372036854775807) (hR0 : Rd W W.heap.size A0 n0 (fun j => .int .u8 (f0 j))) (hw0 : Hid (∀ j, j < n0 → (Lit.int .u8 (f0 j)).wf = true)) (s1 : ByteArray) (hs1 : s1.size ≤ 9223372036854775807) (a2 : Int) (ha2 : Hid ((Lit.int .i64 a2).wf = true)) (a3 : Int) (ha3 : Hid ((Lit.int .i64 a3).wf = true)) (a4 : Int) (_ha4 : Hid ((Lit.int .u64 a4).wf = true)) (a5 : Int) (ha5 : Hid ((Lit.int .i64 a5).wf = true)) :
    Calls Try.prog 6 #[.slice A0 n0 c0, .string s1, .int .i64 a2, .int .i64 a3, .int .u64 a4, .int .i64 a5] W fun e w' => e = .returned (.bool true) ∧ Below W.heap.size W w' := by
  have HAT := Lib.hid (wf_i64 ha2.out)
  obtain ⟨hr30, hr31⟩ := wf_i64 ha3.out
  obtain ⟨hr50, hr51⟩ := wf_i64 ha5.out
  have hb := Below.refl W.heap.size W
  go_enter Try.func6, Try.ntmps6
  go_wp2_with (first
    | (go_at_call 14; ((with_reducible refine (few_list _ _ _ 20 20 rfl _ _ hA0 (hR0.all hb) hn0 hc0 (by decide) (bytes_wf hw0)).mono ?_); rintro e w2 ⟨A2, c2, k2, bs, rfl, hkc2, hcm2, hkm2, HK2, HX2, HE2, hown2, hr2, hb1⟩; replace hb := bt hb hb1; clear hb1))
    | (go_at_call 20; ((with_reducible refine (short_any _ 10 10 rfl _ hs1 (by decide)).mono ?_); rintro e w' ⟨rfl, rfl⟩)))
  have hls : (shortB s1 10).size ≤ 10 := by rw [shortB_size]; omega
  generalize shortB s1 10 = s at *
  go_wp2_with (first
    | (go_at_call 18; ((with_reducible refine (sides_any _ _ hr30 hr31).mono ?_); rintro e w3 ⟨rfl, rfl⟩)))
  have hsz : w2.heap.size + 1 ≤ (w2.alloc (.cells #[.int .i64 a3, .int .i64 (sidesI a3)] 3)).heap.size := by simp
  have hcS := two_ints w2 3 a3 (sidesI a3) hr31 (by have := sidesI_range a3; omega)
  have hbz := (Below.refl w2.heap.size w2).alloc (Nat.le_refl _) (.cells #[.int .i64 a3, .int .i64 (sidesI a3)] 3)
  generalize w2.alloc (.cells #[.int .i64 a3, .int .i64 (sidesI a3)] 3) = wz at *
  have HCS := Lib.hid hcS
  have hr := hr2.all hbz
  replace hb := bt hb hbz
  have hbr := Below.refl wz.heap.size wz
  clear hcS hbz hr2 hown2
  refine (commit_any _ _ _ bs _ HX2 hkc2 (by omega) hr).mono ?_
  rintro e w4 ⟨rfl, hb3⟩
  replace hbr := bt hbr hb3
  go_wp2_with fail
  clear hb3
  go_loopw [17, 18, 19, 20, 21, 22] (fun i _ _ _ _ _ wr => ∃ j : Nat, j ≤ 2 ∧ i = .int .i64 (j : Int) ∧ Below wz.heap.size wz wr) (fun i _ _ _ _ _ _ => 2 - (intOf i).toNat)
  case atStart => exact ⟨0, by omega, rfl, hbr⟩
  case round =>
    clear hbr
    obtain ⟨j, hj, rfl, hbr⟩ := hrel
    by_cases hlt : j < 2
    · obtain ⟨kx, hkx, hcx0⟩ := HCS.out j hlt
      have hcx := (hbr.cell (p := ⟨w2.heap.size, j, none⟩) (by simp; omega)).trans hcx0
      have hp0 : (0 : Int) ≤ (j : Int) := by omega
      have hp1 : (j : Int) < 2 := by omega
      have hv1 := verify_self bs s.data.toList a2 kx
      have hv2 := verify_next bs s.data.toList a2 kx
      have hv3 := verify_other bs s.data.toList a2 kx (rollVal (bytesI s.data.toList bs) a2 kx)
      obtain ⟨hq0, hq1⟩ := rollVal_range (bytesI s.data.toList bs) a2 hkx
      clear hcx0
      go_wp2_with (first
        | (go_at_call 11; ((with_reducible refine (around_nat _ 7 _ _ (by omega) (by omega) (by omega) (by omega) (by omega)).mono ?_); rintro e w' ⟨near, rfl, hk, HKK, rfl⟩))
        | (go_at_call 25; ((with_reducible refine (verify_any _ _ _ _ _ bs _ _ _ _ HX2 (by omega) hkc2 (by omega) (hr.all hbr) HAT hkx).mono ?_); rintro e w5 ⟨rfl, hb3⟩; replace hbr := bt hbr hb3; clear hb3))
        | (go_at_call 26; ((with_reducible refine (rverify_any _ _ _ _ _ bs _ _ _ _ HX2 (by omega) hkc2 (by omega) (hr.all hbr) HAT hkx).mono ?_); rintro e w5 ⟨rfl, hb3⟩; replace hbr := bt hbr hb3; clear hb3))
        | (go_at_call 15; ((with_reducible refine (dnew_any _ _ _ _ bs _ HX2 (by omega) hkc2 (by omega) (hr.all hbr)).mono ?_); rintro e w6 ⟨gd, rfl, hgd0, HD, hb3⟩; have hgd : wz.heap.size ≤ gd := Nat.le_trans hbr.size hgd0; replace hbr := bt hbr hb3; replace HD := Lib.hid HD; clear hb3 hgd0))
        | (go_at_call 16; ((with_reducible refine (seek_any gd _ _ _ _ HD).mono ?_); rintro e w7 ⟨rfl, HD2, hg3⟩; replace hbr := below_of_only hbr hg3 hbr.size hgd; replace HD := Lib.hid HD2; clear hg3 HD2))
        | (go_at_call 17; ((with_reducible refine (roll_any gd _ _ _ _ HD HAT hkx).mono ?_); rintro e w8 ⟨rfl, HD2, hg3⟩; replace hbr := below_of_only hbr hg3 hbr.size hgd; clear hg3 HD2 HD)))
      exact ⟨⟨j + 1, by omega, by go_num, hbr⟩, by simp [intOf]; omega⟩
    · obtain rfl : j = 2 := by omega
      replace hb := bt hb hbr
      go_wp2_with (first | (go_at_call 13; ((with_reducible refine (lives4_any _).mono ?_); rintro e w3 ⟨rfl, hb3⟩; replace hb := bt hb hb3; clear hb3)))
      go_ret
      exact ⟨rfl, hb⟩

set_option maxRecDepth 100000 in
theorem DiceVerifies_lifted (os : Os) (started : os.Started) (H : Type) (enc : TypeId × Value → H) :
    ReturnsInHanded {} Try.checked os 6 .any (Rows.diceVerifiesSpec.pre6 enc Try.prog Try.f6 Rows.diceVerifiesRow.domain false) (Rows.diceVerifiesSpec.post enc Try.prog Try.f6 false true false false) := by
  refine returnsInHanded_of_change (C := Try.checked) Try.own started (by kernel_rfl) Try.func6
    (ChangeSpec.witness6 (enc := enc) (C := Try.checked) false ⟨#[], #[.slice none 0 0, .string ⟨#[]⟩, .int .i64 0, .int .i64 0, .int .u64 0, .int .i64 0], []⟩ 8 (by kernel_rfl) (by kernel_rfl) (by kernel_rfl) (by kernel_rfl)) ?_
  intro W base args ds gs before hval0 hW _ _
  have hval : ∀ (j : Nat) t v, Try.f6.params[j]? = some t → args[j]? = some v → Value.okWide Try.prog W .any base t v := hval0
  have hW' := hW
  obtain ⟨p, q, hT0, hV, rfl, hfz, hnd⟩ := hW
  have hT : DataW.TrodAll enc Try.prog W 0 (fun _ => true) true Try.f6.params.toList args.toList ds p := hT0
  rw [Try.params6] at hT hval
  obtain ⟨v0, vs0, d0, ds0, p0, q0, hargs0, rfl, rfl, h0, r0⟩ := trodAll_cons hT
  obtain ⟨v1, vs1, d1, ds1, p1, q1, hargs1, rfl, rfl, h1, r1⟩ := trodAll_cons r0
  obtain ⟨v2, vs2, d2, ds2, p2, q2, hargs2, rfl, rfl, h2, r2⟩ := trodAll_cons r1
  obtain ⟨v3, vs3, d3, ds3, p3, q3, hargs3, rfl, rfl, h3, r3⟩ := trodAll_cons r2
  obtain ⟨v4, vs4, d4, ds4, p4, q4, hargs4, rfl, rfl, h4, r4⟩ := trodAll_cons r3
  obtain ⟨v5, vs5, d5, ds5, p5, q5, hargs5, rfl, rfl, h5, r5⟩ := trodAll_cons r4
  obtain ⟨rfl, rfl, rfl⟩ := trodAll_nil r5
  obtain rfl : args = #[v0, v1, v2, v3, v4, v5] := by cases args; simp_all
  obtain ⟨A0, n0, c0, f0, rfl, hA0, hn0, hc0, hR0, hw0⟩ := open_sl Try.underlying28 Try.underlying5 (by kernel_rfl) (hval 0 28 v0 rfl rfl) h0
  obtain ⟨s1, rfl, -, -, hs1⟩ := open_string Try.underlying9 (hval 1 9 v1 rfl rfl) h1
  obtain ⟨a2, rfl, -, -, w2⟩ := open_int Try.underlying3 (hval 2 3 v2 rfl rfl) h2
  obtain ⟨a3, rfl, -, -, w3⟩ := open_int Try.underlying3 (hval 3 3 v3 rfl rfl) h3
  obtain ⟨a4, rfl, -, -, w4⟩ := open_int Try.underlying22 (hval 4 22 v4 rfl rfl) h4
  obtain ⟨a5, rfl, -, -, w5⟩ := open_int Try.underlying3 (hval 5 3 v5 rfl rfl) h5
  refine (DiceVerifies_walk W A0 n0 c0 f0 hA0 hn0 hc0 hR0 hw0 s1 (by simpa [maxLen] using hs1) a2 w2 a3 w3 a4 w4 a5 w5).mono fun e W' ⟨he, hb⟩ => ?_
  subst he
  exact ⟨_, rfl, law_post Try.laidOut (by kernel_rfl) (by kernel_rfl) Try.underlying4 rfl hW' rfl hb⟩

theorem DiceVerifies_holds : Rows.DiceVerifiesSaid :=
  OpenClaim.holds_of_wide 6 Try.f6 rfl rfl rfl rfl rfl rfl rfl ⟨rfl, rfl, rfl, rfl, rfl⟩ rfl rfl rfl rfl rfl (by kernel_rfl) Try.func6 (by kernel_rfl)
    (of_decide_eq_true (by kernel_rfl)) (by unfold Func.isWrapper; first | (rw [if_pos (by decide +kernel)]; kernel_rfl) | (rw [if_neg (by decide +kernel)]; exact ⟨rfl, rfl⟩))
    (fun os started H enc _ => DiceVerifies_lifted os started H enc)

end Go.Proofs.Ytklkppmmnlachaa
