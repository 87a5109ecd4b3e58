/- For every word, number and flag worldmintlaw04.DiceFair returns true. No condition. -/
import Derived.Test.YtklkppmmnlachaaDiceLives
import Derived.Test.YtklkppmmnlachaaDiceRefRoll
import Derived.Test.YtklkppmmnlachaaRefHelp
import Derived.Test.YtklkppmmnlachaaHashInj
import Derived.Deep.RegionHeld3
import Derived.Test.YtklkppmmnlachaaLaw
namespace Go.Proofs.Ytklkppmmnlachaa
open Go.ChangeShapes Go.WideShapes Go.ChangeAt Go.RowKit Go.ChangeMaps

theorem fair_no {w k : Int} (hk : 1 ≤ k) (h : redOk w k = false) : 18446744073709551615 - w < k - 1 := by
  have h1 : ¬ (w < 18446744073709551616 - 18446744073709551616 % k) := fun h0 => by have := (redOk_iff hk).2 h0; rw [h] at this; exact absurd this (by decide)
  have h2 : 18446744073709551616 % k < k := Int.emod_lt_of_pos _ (by omega)
  omega
theorem fair_yes {w k : Int} (hk : 1 ≤ k) (h : redOk w k = true) (hw0 : 0 ≤ w) : redVal w k = w % k ∧ w % k ≤ w ∧ 0 ≤ w % k ∧ w % k < k ∧ w - w % k + k ≤ 18446744073709551616 := by
  have h1 : 0 ≤ w % k := Int.emod_nonneg _ (by omega)
  have h2 : w % k < k := Int.emod_lt_of_pos _ (by omega)
  refine ⟨by unfold redVal; rw [if_pos h], ?_, h1, h2, ?_⟩
  · have h3 := Int.mul_ediv_add_emod w k
    have h4 : 0 ≤ w / k := Int.ediv_nonneg hw0 (by omega)
    have h5 : 0 ≤ k * (w / k) := Int.mul_nonneg (by omega) h4
    omega
  · have h3 := (redOk_iff (w := w) hk).1 h
    unfold redOk at h
    rw [decide_eq_true_iff] at h
    have h4 := Int.mul_ediv_add_emod w k
    have h5 : (w / k + 1) * k = k * (w / k) + k := by rw [Int.add_mul, Int.one_mul, Int.mul_comm]
    omega
theorem fair_block {w k i : Int} (hk : 1 ≤ k) (h : redOk w k = true) (hi : 0 ≤ i) (hik : i < k) : redOk (w - w % k + i) k = true ∧ redVal (w - w % k + i) k = i := by
  have h4 := Int.mul_ediv_add_emod w k
  have e1 : w - w % k + i = i + k * (w / k) := by omega
  have h5 : (w - w % k + i) / k = w / k := by rw [e1, Int.add_mul_ediv_left _ _ (by omega), Int.ediv_eq_zero_of_lt hi hik]; omega
  have h6 : (w - w % k + i) % k = i := by rw [e1, Int.add_mul_emod_self_left, Int.emod_eq_of_lt hi hik]
  have h7 : redOk (w - w % k + i) k = true := by
    unfold redOk at h ⊢
    rw [decide_eq_true_iff] at h ⊢
    rw [h5]; exact h
  exact ⟨h7, by unfold redVal; rw [if_pos h7, h6]⟩

set_option maxRecDepth 100000 in
set_option maxHeartbeats 1000000 in
theorem DiceFair_walk (W : World) (a0 : Int) (ha0 : Hid ((Lit.int .u64 a0).wf = true)) (a1 : Int) (ha1 : Hid ((Lit.int .i64 a1).wf = true)) (a2 : Bool) :
    Calls Try.prog 3 #[.int .u64 a0, .int .i64 a1, .bool a2] W fun e w' => e = .returned (.bool true) ∧ Below W.heap.size W w' := by
  obtain ⟨hr10, hr11⟩ := wf_i64 ha1.out
  have u0 := wf_u64 ha0.out
  rcases (show a2 = false ∨ a2 = true by cases a2 <;> simp) with rfl | rfl
  all_goals have hb := Below.refl W.heap.size W
  all_goals go_enter Try.func3, Try.ntmps3
  all_goals go_wp2_with (first
    | (go_at_call 11; ((with_reducible refine (around_nat _ 600 _ _ (by omega) (by omega) (by omega) (by omega) (by omega)).mono ?_); rintro e w' ⟨k, rfl, hk, HKK, rfl⟩)))
  · obtain ⟨w, hwe⟩ : ∃ w, w = a0 := ⟨_, rfl⟩
    have hw0 : 0 ≤ w := by omega
    rw [← hwe]
    have hw1 : w ≤ 18446744073709551615 := by omega
    refine (reduce_any _ _ _ hw0 hw1 (by omega)).mono ?_
    rintro e w' ⟨rfl, rfl⟩
    rcases hok : redOk w (1 + (k : Int)) with _ | _
    · have hno := fair_no (by omega) hok
      clear hwe
      go_wp2_with (first | (go_at_call 13; ((with_reducible refine (lives4_any _).mono ?_); rintro e w3 ⟨rfl, hb3⟩; replace hb := bt hb hb3; clear hb3)))
      go_ret
      exact ⟨rfl, hb⟩
    · obtain ⟨hv, hle, hm0, hm1, hbl⟩ := fair_yes (by omega) hok hw0
      have hB := Lib.hid (fun (i : Int) (h0 : 0 ≤ i) (h1 : i < 1 + (k : Int)) => fair_block (by omega) hok h0 h1)
      obtain ⟨r, hr⟩ : ∃ r, r = w % (1 + (k : Int)) := ⟨_, rfl⟩
      rw [← hr] at hv hle hm0 hm1 hbl hB
      rw [hv]
      clear hwe hr hv hok
      go_wp2_with fail
      go_loopw [11, 12, 13] (fun i _ _ wr => ∃ j : Nat, j ≤ k + 1 ∧ i = .int .i64 (j : Int) ∧ wr = W) (fun i _ _ _ => k + 1 - (intOf i).toNat)
      case atStart => exact ⟨0, by omega, rfl, rfl⟩
      case round =>
        obtain ⟨j, hj, rfl, rfl⟩ := hrel
        by_cases hlt : j < k + 1
        · obtain ⟨b1, b2⟩ := hB.out (j : Int) (by omega) (by omega)
          go_wp2_with (first | (go_at_call 12; ((with_reducible refine (reduce_any _ _ _ (by omega) (by omega) (by omega)).mono ?_); rintro e w' ⟨rfl, rfl⟩)))
          refine ⟨⟨j + 1, by omega, by go_num, by first | rfl | trivial⟩, by simp [intOf]; omega⟩
        · obtain rfl : j = k + 1 := by omega
          go_wp2_with (first | (go_at_call 13; ((with_reducible refine (lives4_any _).mono ?_); rintro e w3 ⟨rfl, hb3⟩; replace hb := bt hb hb3; clear hb3)))
          go_ret
          exact ⟨rfl, hb⟩
  · obtain ⟨w, hwe⟩ : ∃ w, w = 18446744073709551615 - a0 % 700 := ⟨_, rfl⟩
    have hw0 : 0 ≤ w := by omega
    rw [← hwe]
    have hw1 : w ≤ 18446744073709551615 := by omega
    refine (reduce_any _ _ _ hw0 hw1 (by omega)).mono ?_
    rintro e w' ⟨rfl, rfl⟩
    rcases hok : redOk w (1 + (k : Int)) with _ | _
    · have hno := fair_no (by omega) hok
      clear hwe
      go_wp2_with (first | (go_at_call 13; ((with_reducible refine (lives4_any _).mono ?_); rintro e w3 ⟨rfl, hb3⟩; replace hb := bt hb hb3; clear hb3)))
      go_ret
      exact ⟨rfl, hb⟩
    · obtain ⟨hv, hle, hm0, hm1, hbl⟩ := fair_yes (by omega) hok hw0
      have hB := Lib.hid (fun (i : Int) (h0 : 0 ≤ i) (h1 : i < 1 + (k : Int)) => fair_block (by omega) hok h0 h1)
      obtain ⟨r, hr⟩ : ∃ r, r = w % (1 + (k : Int)) := ⟨_, rfl⟩
      rw [← hr] at hv hle hm0 hm1 hbl hB
      rw [hv]
      clear hwe hr hv hok
      go_wp2_with fail
      go_loopw [11, 12, 13] (fun i _ _ wr => ∃ j : Nat, j ≤ k + 1 ∧ i = .int .i64 (j : Int) ∧ wr = W) (fun i _ _ _ => k + 1 - (intOf i).toNat)
      case atStart => exact ⟨0, by omega, rfl, rfl⟩
      case round =>
        obtain ⟨j, hj, rfl, rfl⟩ := hrel
        by_cases hlt : j < k + 1
        · obtain ⟨b1, b2⟩ := hB.out (j : Int) (by omega) (by omega)
          go_wp2_with (first | (go_at_call 12; ((with_reducible refine (reduce_any _ _ _ (by omega) (by omega) (by omega)).mono ?_); rintro e w' ⟨rfl, rfl⟩)))
          refine ⟨⟨j + 1, by omega, by go_num, by first | rfl | trivial⟩, by simp [intOf]; omega⟩
        · obtain rfl : j = k + 1 := by omega
          go_wp2_with (first | (go_at_call 13; ((with_reducible refine (lives4_any _).mono ?_); rintro e w3 ⟨rfl, hb3⟩; replace hb := bt hb hb3; clear hb3)))
          go_ret
          exact ⟨rfl, hb⟩


set_option maxRecDepth 100000 in
theorem DiceFair_lifted (os : Os) (started : os.Started) (H : Type) (enc : TypeId × Value → H) :
    ReturnsInHanded {} Try.checked os 3 .any (Rows.diceFairSpec.pre6 enc Try.prog Try.f3 Rows.diceFairRow.domain false) (Rows.diceFairSpec.post enc Try.prog Try.f3 false true false false) := by
  refine returnsInHanded_of_change (C := Try.checked) Try.own started (by kernel_rfl) Try.func3
    (ChangeSpec.witness6 (enc := enc) (C := Try.checked) false ⟨#[], #[.int .u64 0, .int .i64 0, .bool false], []⟩ 8 (by kernel_rfl) (by kernel_rfl) (by kernel_rfl) (by kernel_rfl)) ?_
  intro W base args ds gs before hval0 hW _ _
  have hval : ∀ (j : Nat) t v, Try.f3.params[j]? = some t → args[j]? = some v → Value.okWide Try.prog W .any base t v := hval0
  have hW' := hW
  obtain ⟨p, q, hT0, hV, rfl, hfz, hnd⟩ := hW
  have hT : DataW.TrodAll enc Try.prog W 0 (fun _ => true) true Try.f3.params.toList args.toList ds p := hT0
  rw [Try.params3] at hT hval
  obtain ⟨v0, vs0, d0, ds0, p0, q0, hargs0, rfl, rfl, h0, r0⟩ := trodAll_cons hT
  obtain ⟨v1, vs1, d1, ds1, p1, q1, hargs1, rfl, rfl, h1, r1⟩ := trodAll_cons r0
  obtain ⟨v2, vs2, d2, ds2, p2, q2, hargs2, rfl, rfl, h2, r2⟩ := trodAll_cons r1
  obtain ⟨rfl, rfl, rfl⟩ := trodAll_nil r2
  obtain rfl : args = #[v0, v1, v2] := by cases args; simp_all
  obtain ⟨a0, rfl, -, -, w0⟩ := open_int Try.underlying22 (hval 0 22 v0 rfl rfl) h0
  obtain ⟨a1, rfl, -, -, w1⟩ := open_int Try.underlying3 (hval 1 3 v1 rfl rfl) h1
  obtain ⟨a2, rfl, -, -⟩ := open_bool Try.underlying4 (hval 2 4 v2 rfl rfl) h2
  refine (DiceFair_walk W a0 w0 a1 w1 a2).mono fun e W' ⟨he, hb⟩ => ?_
  subst he
  exact ⟨_, rfl, law_post Try.laidOut (by kernel_rfl) (by kernel_rfl) Try.underlying4 rfl hW' rfl hb⟩

theorem DiceFair_holds : Rows.DiceFairSaid :=
  OpenClaim.holds_of_wide 3 Try.f3 rfl rfl rfl rfl rfl rfl rfl ⟨rfl, rfl, rfl, rfl, rfl⟩ rfl rfl rfl rfl rfl (by kernel_rfl) Try.func3 (by kernel_rfl)
    (of_decide_eq_true (by kernel_rfl)) (by unfold Func.isWrapper; first | (rw [if_pos (by decide +kernel)]; kernel_rfl) | (rw [if_neg (by decide +kernel)]; exact ⟨rfl, rfl⟩))
    (fun os started H enc _ => DiceFair_lifted os started H enc)

end Go.Proofs.Ytklkppmmnlachaa
