/- For every label, slice of bytes, place and two bytes worldmintlaw01.HashOneGroup returns true. No condition. -/
import Derived.Test.YtapihehmlihdaaaHashRef
import Derived.Test.YtapihehmlihdaaaHashLives
import Derived.Test.YtapihehmlihdaaaRefHelp
import Derived.Test.YtapihehmlihdaaaHashInj
import Derived.Deep.RegionHeld3
import Derived.Test.YtapihehmlihdaaaLaw
namespace Go.Proofs.Ytapihehmlihdaaa
open Go.ChangeShapes Go.WideShapes Go.ChangeAt Go.RowKit Go.ChangeMaps


set_option maxHeartbeats 1000000 in
theorem HashOneGroup_walk (W : World) (s0 : ByteArray) (hs0 : s0.size ≤ 9223372036854775807) (A1 : Option Addr) (n1 c1 : Nat) (f1 : Nat → Int) (hA1 : A1 = none → n1 = 0) (hn1 : n1 ≤ c1) (hc1 : c1 ≤ 9223372036854775807) (hR1 : Rd W W.heap.size A1 n1 (fun j => .int .u8 (f1 j))) (hw1 : Hid (∀ j, j < n1 → (Lit.int .u8 (f1 j)).wf = true)) (a2 : Int) (ha2 : Hid ((Lit.int .i64 a2).wf = true)) (a3 : Int) (ha3 : Hid ((Lit.int .u8 a3).wf = true)) (a4 : Int) (ha4 : Hid ((Lit.int .u8 a4).wf = true)) :
    Calls Try.prog 6 #[.string s0, .slice A1 n1 c1, .int .i64 a2, .int .u8 a3, .int .u8 a4] W fun e w' => e = .returned (.bool true) ∧ Below W.heap.size W w' := by
  obtain ⟨i8, hi8, hz08, hz18, hz28⟩ := info_parts info_few
  obtain ⟨hr10, hr11⟩ := wf_i64 ha2.out
  obtain ⟨b3, rfl⟩ := byte_of_wf ha3.out
  obtain ⟨b4, rfl⟩ := byte_of_wf ha4.out
  have hls : (shortB s0 20).size ≤ 20 := by rw [shortB_size]; omega
  have hb := Below.refl W.heap.size W
  go_enter Try.func6, Try.ntmps6
  go_wp2_with (first
    | (go_at_call 11; ((with_reducible refine (short_any _ 20 20 rfl _ hs0 (by decide)).mono ?_); rintro e w' ⟨rfl, rfl⟩))
    | (go_at_call 16; ((with_reducible refine (few_list _ _ _ 39 39 rfl _ _ hA1 (hR1.all hb) hn1 hc1 (by decide) (bytes_wf hw1)).mono ?_); rintro e w2 ⟨A2, c2, k2, bs, rfl, hkc2, hcm2, hkm2, HK2, HX2, HE2, hown2, hr2, hb1⟩; replace hb := bt hb hb1; clear hb1))
    | (at_builtin; obtain ⟨g8, c8, w8, hap, hown8, hg8, hat8, hs8⟩ := run_append_one (P := Try.prog) w2 W.heap.size 30 30 5 i8 _ 1 Try.underlying30 hi8 hz08 hz18 hz28 rfl _ k2 _ hown2 (.int .u8 65) rfl (by unfold maxLen; omega) (by omega) hb.size
       (refine wpList_append_run hap rfl rfl rfl rfl ?_; clear hap)
       replace hb := hb.grown hg8 hb.size (fun k e => (hown2.lt k e).1)
       have hR8 := Rd.of_own hown8 (f := vByte (bs ++ [65])) (fun j hj => bytes_snoc_get bs 65 j (by have := HX2.out; omega))
       have HL8 := Lib.hid (show (bs ++ [65]).length = k2 + 1 by have := HX2.out; simp; omega)
       have hc8 := own_cap hown8
       obtain ⟨-, hk8, hr8⟩ := hR8
       generalize bs ++ [65] = X at *
       clear hown2 hown8 hg8 hat8 hs8 hr2)
    | (go_at_call 16; ((with_reducible refine (few_bytes _ _ _ 40 40 rfl X _ HL8 hr8 hk8 hc8 (by decide)).mono ?_); rintro e w7 ⟨A7, c7, k7, bs7, rfl, hkc7, hcm7, hkm7, HK7, HX7, HE7, hown7, hr7, hb3⟩; replace hr8 := hr8.below hb3 (Nat.le_refl _); have hW8 := hb.size; replace hb := bt hb hb3; have hs7 := hb3.size; clear hb3; (obtain rfl : k7 = k2 + 1 := by have := HK7.out; omega); obtain ⟨g7, rfl, hg7, hg7'⟩ := own_some hown7 (by omega); (obtain rfl : bs7 = X := by rw [HE7.out, List.take_of_length_le (by have := HL8.out; omega)]))))
  refine (around_nat _ (k2 + 1) _ _ (by omega) (by omega) (by omega) (by omega) (by omega)).mono ?_
  rintro e w' ⟨k, rfl, hk, HKK, rfl⟩
  generalize shortB s0 20 = s at *
  obtain ⟨hcl, hfz⟩ := own_byte hown7 hk
  have hx1 := xor_u8 (bs7[k]?.getD 0) b3
  have hi0 : (0 : Int) ≤ (k : Int) := by omega
  have hi1 : (k : Int) < (k2 : Int) + 1 := by omega
  have hst := own_byte_set hown7 k (xorB (bs7[k]?.getD 0) b3)
  have hrx : Rd (w7.setCell ⟨g7, k, none⟩ (Value.int .u8 (((xorB (bs7[k]?.getD 0) b3).toNat : Nat) : Int))) w8.heap.size (some ⟨g8, 0, none⟩) (k2 + 1) (vByte bs7) := hr8.keep fun b hb => Below.heap_setCell _ _ _ _ (by simp; omega)
  have hbx := hb.setCell (p := ⟨g7, k, none⟩) (by simp; omega) (.int .u8 (((xorB (bs7[k]?.getD 0) b3).toNat : Nat) : Int))
  have hsx : w8.heap.size ≤ (w7.setCell ⟨g7, k, none⟩ (Value.int .u8 (((xorB (bs7[k]?.getD 0) b3).toNat : Nat) : Int))).heap.size := by simpa using hs7
  by_cases hc : k < k2 ∧ (k + 1) % 8 ≠ 0
  · obtain ⟨hkk, hm8⟩ := hc
    obtain ⟨hcl2, hfz2⟩ := own_byte hown7 (j := k + 1) (by omega)
    have hx2 := xor_u8 (bs7[k + 1]?.getD 0) b4
    have d1 : (((k : Int) + 1) % 8 != 0) = true := by rw [bne_iff_ne]; omega
    have hi2 : (0 : Int) ≤ (k : Int) + 1 := by omega
    have hi3 : (k : Int) + 1 < (k2 : Int) + 1 := by omega
    have hst2 := own_byte_set hst (k + 1) (xorB (bs7[k + 1]?.getD 0) b4)
    replace hrx := hrx.keep (w' := (w7.setCell ⟨g7, k, none⟩ (Value.int .u8 (((xorB (bs7[k]?.getD 0) b3).toNat : Nat) : Int))).setCell ⟨g7, k + 1, none⟩ (Value.int .u8 (((xorB (bs7[k + 1]?.getD 0) b4).toNat : Nat) : Int))) fun b hb => Below.heap_setCell _ _ _ _ (by simp; omega)
    replace hbx := hbx.setCell (p := ⟨g7, k + 1, none⟩) (by simp; omega) (.int .u8 (((xorB (bs7[k + 1]?.getD 0) b4).toNat : Nat) : Int))
    replace hsx : w8.heap.size ≤ ((w7.setCell ⟨g7, k, none⟩ (Value.int .u8 (((xorB (bs7[k]?.getD 0) b3).toNat : Nat) : Int))).setCell ⟨g7, k + 1, none⟩ (Value.int .u8 (((xorB (bs7[k + 1]?.getD 0) b4).toNat : Nat) : Int))).heap.size := by simpa using hs7
    go_wp2_with fail
    have hry := (rd_bytes hst2).2.2
    have HLy := Lib.hid (show ((bs7.set k (xorB (bs7[k]?.getD 0) b3)).set (k + 1) (xorB (bs7[k + 1]?.getD 0) b4)).length = k2 + 1 by have := HX7.out; simp; omega)
    have hd : ((bytesI s.data.toList bs7 == bytesI s.data.toList ((bs7.set k (xorB (bs7[k]?.getD 0) b3)).set (k + 1) (xorB (bs7[k + 1]?.getD 0) b4))) == decide (bs7 = (bs7.set k (xorB (bs7[k]?.getD 0) b3)).set (k + 1) (xorB (bs7[k + 1]?.getD 0) b4))) = true := by
      rw [beq_iff_eq, Bool.eq_iff_iff, beq_iff_eq, decide_eq_true_iff]
      exact bytes_one _ (g := k / 8) (by simp) (by unfold nwords; have := HX7.out; omega) (fun j hj => by rw [group_set j (by omega), group_set j hj])
    clear hown7 hcl hfz hx1 hcl2 hfz2 hx2 hst2 hr7 hr8 hst
    generalize (w7.setCell ⟨g7, k, none⟩ (Value.int .u8 (((xorB (bs7[k]?.getD 0) b3).toNat : Nat) : Int))).setCell ⟨g7, k + 1, none⟩ (Value.int .u8 (((xorB (bs7[k + 1]?.getD 0) b4).toNat : Nat) : Int)) = wz at *
    generalize (bs7.set k (xorB (bs7[k]?.getD 0) b3)).set (k + 1) (xorB (bs7[k + 1]?.getD 0) b4) = Y at *
    all_goals go_wp2_with (first
      | (go_at_call 17; ((with_reducible refine (hbytes_any _ _ _ _ _ bs7 _ HX7 (by omega) (by omega) (by omega) hsx hrx).mono ?_); rintro e wy ⟨rfl, hb3⟩; replace hrx := hrx.below hb3 hsx; replace hsx := Nat.le_trans hsx hb3.size; replace hry := hry.all hb3; replace hbx := bt hbx hb3; clear hb3))
      | (go_at_call 17; ((with_reducible refine (hbytes_any _ _ _ _ _ Y _ HLy (by omega) (by omega) (by omega) (Nat.le_refl _) hry).mono ?_); rintro e wy ⟨rfl, hb3⟩; replace hrx := hrx.below hb3 hsx; replace hsx := Nat.le_trans hsx hb3.size; replace hry := hry.all hb3; replace hbx := bt hbx hb3; clear hb3))
      | (go_at_call 22; ((with_reducible refine (sameBytes_list _ _ _ _ _ _ bs7 Y _ HX7 HLy (hrx.more hsx) hry (by omega) (by omega)).mono ?_); rintro e wy ⟨rfl, hb3⟩; replace hbx := bt hbx hb3; clear hb3))
      | (go_at_call 15; ((with_reducible refine (lives_any _).mono ?_); rintro e wy ⟨rfl, hb3⟩; replace hbx := bt hbx hb3; clear hb3)))
    all_goals (go_ret; exact ⟨rfl, hbx⟩)
  · have d1 : k < k2 → (((k : Int) + 1) % 8 != 0) = false := fun h => by
      have : (k + 1) % 8 = 0 := by
        rcases Nat.eq_zero_or_pos ((k + 1) % 8) with h0 | h0
        · exact h0
        · exact absurd ⟨h, by omega⟩ hc
      simp; omega
    have hry := (rd_bytes hst).2.2
    have HLy := Lib.hid (show (bs7.set k (xorB (bs7[k]?.getD 0) b3)).length = k2 + 1 by have := HX7.out; simp; omega)
    have hd : ((bytesI s.data.toList bs7 == bytesI s.data.toList (bs7.set k (xorB (bs7[k]?.getD 0) b3))) == decide (bs7 = bs7.set k (xorB (bs7[k]?.getD 0) b3))) = true := by
      rw [beq_iff_eq, Bool.eq_iff_iff, beq_iff_eq, decide_eq_true_iff]
      exact bytes_one _ (g := k / 8) (by simp) (by unfold nwords; have := HX7.out; omega) (fun j hj => by rw [group_set j hj])
    go_wp2_with fail
    all_goals clear hown7 hcl hfz hx1 hr7 hr8 hst
    all_goals generalize w7.setCell ⟨g7, k, none⟩ (Value.int .u8 (((xorB (bs7[k]?.getD 0) b3).toNat : Nat) : Int)) = wz at *
    all_goals generalize bs7.set k (xorB (bs7[k]?.getD 0) b3) = Y at *
    all_goals go_wp2_with (first
      | (go_at_call 17; ((with_reducible refine (hbytes_any _ _ _ _ _ bs7 _ HX7 (by omega) (by omega) (by omega) hsx hrx).mono ?_); rintro e wy ⟨rfl, hb3⟩; replace hrx := hrx.below hb3 hsx; replace hsx := Nat.le_trans hsx hb3.size; replace hry := hry.all hb3; replace hbx := bt hbx hb3; clear hb3))
      | (go_at_call 17; ((with_reducible refine (hbytes_any _ _ _ _ _ Y _ HLy (by omega) (by omega) (by omega) (Nat.le_refl _) hry).mono ?_); rintro e wy ⟨rfl, hb3⟩; replace hrx := hrx.below hb3 hsx; replace hsx := Nat.le_trans hsx hb3.size; replace hry := hry.all hb3; replace hbx := bt hbx hb3; clear hb3))
      | (go_at_call 22; ((with_reducible refine (sameBytes_list _ _ _ _ _ _ bs7 Y _ HX7 HLy (hrx.more hsx) hry (by omega) (by omega)).mono ?_); rintro e wy ⟨rfl, hb3⟩; replace hbx := bt hbx hb3; clear hb3))
      | (go_at_call 15; ((with_reducible refine (lives_any _).mono ?_); rintro e wy ⟨rfl, hb3⟩; replace hbx := bt hbx hb3; clear hb3)))
    all_goals (go_ret; exact ⟨rfl, hbx⟩)

set_option maxRecDepth 100000 in
theorem HashOneGroup_lifted (os : Os) (started : os.Started) (H : Type) (enc : TypeId × Value → H) :
    ReturnsInHanded {} Try.checked os 6 .any (Rows.hashOneGroupSpec.pre6 enc Try.prog Try.f6 Rows.hashOneGroupRow.domain false) (Rows.hashOneGroupSpec.post enc Try.prog Try.f6 false true false false) := by
  refine returnsInHanded_of_change (C := Try.checked) Try.own started (by kernel_rfl) Try.func6
    (ChangeSpec.witness6 (enc := enc) (C := Try.checked) false ⟨#[], #[.string ⟨#[]⟩, .slice none 0 0, .int .i64 0, .int .u8 0, .int .u8 0], []⟩ 8 (by kernel_rfl) (by kernel_rfl) (by kernel_rfl) (by kernel_rfl)) ?_
  intro W base args ds gs before hval0 hW _ _
  have hval : ∀ (j : Nat) t v, Try.f6.params[j]? = some t → args[j]? = some v → Value.okWide Try.prog W .any base t v := hval0
  have hW' := hW
  obtain ⟨p, q, hT0, hV, rfl, hfz, hnd⟩ := hW
  have hT : DataW.TrodAll enc Try.prog W 0 (fun _ => true) true Try.f6.params.toList args.toList ds p := hT0
  rw [Try.params6] at hT hval
  obtain ⟨v0, vs0, d0, ds0, p0, q0, hargs0, rfl, rfl, h0, r0⟩ := trodAll_cons hT
  obtain ⟨v1, vs1, d1, ds1, p1, q1, hargs1, rfl, rfl, h1, r1⟩ := trodAll_cons r0
  obtain ⟨v2, vs2, d2, ds2, p2, q2, hargs2, rfl, rfl, h2, r2⟩ := trodAll_cons r1
  obtain ⟨v3, vs3, d3, ds3, p3, q3, hargs3, rfl, rfl, h3, r3⟩ := trodAll_cons r2
  obtain ⟨v4, vs4, d4, ds4, p4, q4, hargs4, rfl, rfl, h4, r4⟩ := trodAll_cons r3
  obtain ⟨rfl, rfl, rfl⟩ := trodAll_nil r4
  obtain rfl : args = #[v0, v1, v2, v3, v4] := by cases args; simp_all
  obtain ⟨s0, rfl, -, -, hs0⟩ := open_string Try.underlying9 (hval 0 9 v0 rfl rfl) h0
  obtain ⟨A1, n1, c1, f1, rfl, hA1, hn1, hc1, hR1, hw1⟩ := open_sl Try.underlying30 Try.underlying5 (by kernel_rfl) (hval 1 30 v1 rfl rfl) h1
  obtain ⟨a2, rfl, -, -, w2⟩ := open_int Try.underlying3 (hval 2 3 v2 rfl rfl) h2
  obtain ⟨a3, rfl, -, -, w3⟩ := open_int Try.underlying5 (hval 3 5 v3 rfl rfl) h3
  obtain ⟨a4, rfl, -, -, w4⟩ := open_int Try.underlying5 (hval 4 5 v4 rfl rfl) h4
  refine (HashOneGroup_walk W s0 (by simpa [maxLen] using hs0) A1 n1 c1 f1 hA1 hn1 hc1 hR1 hw1 a2 w2 a3 w3 a4 w4).mono fun e W' ⟨he, hb⟩ => ?_
  subst he
  exact ⟨_, rfl, law_post Try.laidOut (by kernel_rfl) (by kernel_rfl) Try.underlying4 rfl hW' rfl hb⟩

theorem HashOneGroup_holds : Rows.HashOneGroupSaid :=
  OpenClaim.holds_of_wide 6 Try.f6 rfl rfl rfl rfl rfl rfl rfl ⟨rfl, rfl, rfl, rfl, rfl⟩ rfl rfl rfl rfl rfl (by kernel_rfl) Try.func6 (by kernel_rfl)
    (of_decide_eq_true (by kernel_rfl)) (by unfold Func.isWrapper; first | (rw [if_pos (by decide +kernel)]; kernel_rfl) | (rw [if_neg (by decide +kernel)]; exact ⟨rfl, rfl⟩))
    (fun os started H enc _ => HashOneGroup_lifted os started H enc)

end Go.Proofs.Ytapihehmlihdaaa
