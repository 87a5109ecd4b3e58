/- For every seed, position, number and list of weights worldmintlaw04.DiceShuffles returns true. No condition. -/
import Derived.Test.YtklkppmmnlachaaDiceLives
import Derived.Test.YtklkppmmnlachaaDiceRefRoll
import Derived.Test.YtklkppmmnlachaaRefHelp
import Derived.Test.YtklkppmmnlachaaHashInj
import Derived.Deep.RegionHeld3
import Derived.Test.YtklkppmmnlachaaDiceJoin
import Derived.Test.YtklkppmmnlachaaWireRound
import Derived.Test.YtklkppmmnlachaaDiceShufP
import Derived.Test.YtklkppmmnlachaaLaw
namespace Go.Proofs.Ytklkppmmnlachaa
open Go.ChangeShapes Go.WideShapes Go.ChangeAt Go.RowKit Go.ChangeMaps

def wL (f : Nat → Int) (t : Nat) : List Int := (List.range t).map fun i => aroundI (f i) 5
theorem wL_succ (f : Nat → Int) (t : Nat) : (wL f (t + 1)).map (Value.int .i64) = (wL f t).map (Value.int .i64) ++ [Value.int .i64 (aroundI (f t) 5)] := by simp [wL, List.range_succ]
theorem wL_el (f : Nat → Int) {t j : Nat} (h : j < t) : elW (wL f t) j = aroundI (f j) 5 := by simp [elW, wL, h]
theorem wL_small (f : Nat → Int) (t : Nat) : ∀ j, j < (wL f t).length → 0 ≤ elW (wL f t) j ∧ elW (wL f t) j ≤ 4 := by
  intro j hj
  have hj' : j < t := by simpa [wL] using hj
  have := aroundI_range (f j) 5 (by decide)
  rw [wL_el f hj']
  omega
theorem wL_length (f : Nat → Int) (t : Nat) : (wL f t).length = t := by simp [wL]
theorem wL_take (f : Nat → Int) (t : Nat) : preW (wL f (t + 1)) t = preW (wL f t) t := by
  unfold preW
  rw [show wL f (t + 1) = wL f t ++ [aroundI (f t) 5] by simp [wL, List.range_succ], List.take_append_of_le_length (by rw [wL_length]; omega)]
theorem wL_next (f : Nat → Int) (t : Nat) : preW (wL f (t + 1)) (t + 1) = preW (wL f t) t + aroundI (f t) 5 := by rw [preW_succ, wL_take, wL_el f (by omega)]
theorem wL_pre (f : Nat → Int) (t : Nat) : 0 ≤ preW (wL f t) t ∧ preW (wL f t) t ≤ 4 * t ∧ preW (wL f (t + 1)) (t + 1) = preW (wL f t) t + aroundI (f t) 5 := by
  refine ⟨?_, ?_, wL_next f t⟩
  · induction t with
    | zero => rw [preW_zero]; omega
    | succ t ih => have := aroundI_range (f t) 5 (by decide); rw [wL_next]; omega
  · induction t with
    | zero => rw [preW_zero]; omega
    | succ t ih => have := aroundI_range (f t) 5 (by decide); rw [wL_next]; omega

set_option maxRecDepth 100000 in
set_option maxHeartbeats 8000000 in
theorem DiceShuffles_walk (W : World) (A0 : Option Addr) (n0 c0 : Nat) (f0 : Nat → Int) (hA0 : A0 = none → n0 = 0) (hn0 : n0 ≤ c0) (hc0 : c0 ≤ 9223372036854775807) (hR0 : Rd W W.heap.size A0 n0 (fun j => .int .u8 (f0 j))) (hw0 : Hid (∀ j, j < n0 → (Lit.int .u8 (f0 j)).wf = true)) (a1 : Int) (ha1 : Hid ((Lit.int .i64 a1).wf = true)) (a2 : Int) (ha2 : Hid ((Lit.int .i64 a2).wf = true)) (A3 : Option Addr) (n3 c3 : Nat) (f3 : Nat → Int) (_hA3 : A3 = none → n3 = 0) (_hn3 : n3 ≤ c3) (_hc3 : c3 ≤ 9223372036854775807) (hR3 : Rd W W.heap.size A3 n3 (fun j => .int .i64 (f3 j))) (hw3 : Hid (∀ j, j < n3 → (Lit.int .i64 (f3 j)).wf = true)) :
    Calls Try.prog 9 #[.slice A0 n0 c0, .int .i64 a1, .int .i64 a2, .slice A3 n3 c3] W fun e w' => e = .returned (.bool true) ∧ Below W.heap.size W w' := by
  have HAT := Lib.hid (wf_i64 ha1.out)
  have HA2 := Lib.hid (wf_i64 ha2.out)
  obtain ⟨i0, hi, hz0, hz1, hz2⟩ := info_parts infoInt
  have hb := Below.refl W.heap.size W
  go_enter Try.func9, Try.ntmps9
  go_wp2_with fail
  refine (few_list _ _ _ 20 20 rfl _ _ hA0 hR0 hn0 hc0 (by decide) (bytes_wf hw0)).mono ?_
  rintro e w2 ⟨As, cs, k2, bs, rfl, hkc2, hcm2, hkm2, HK2, HX2, HE2, -, hr2, hb1⟩
  replace hb := bt hb hb1
  clear hb1
  go_wp2_with fail
  refine (dnew_any ⟨#[98]⟩ _ _ _ bs _ HX2 (by decide) hkc2 (by omega) hr2).mono ?_
  rintro e w4 ⟨gd, rfl, hgd, HD, hb1⟩
  have hWd : W.heap.size ≤ gd := Nat.le_trans hb.size hgd
  replace hb := bt hb hb1
  clear hb1 hr2 hgd
  generalize bytesI (ByteArray.mk #[98]).data.toList bs = key at *
  replace HD := Lib.hid HD
  go_wp2_with fail
  refine (seek_any gd _ _ _ _ HD).mono ?_
  rintro e w5 ⟨rfl, HD2, hg3⟩
  replace hb := below_of_only hb hg3 hb.size hWd
  replace HD := Lib.hid HD2
  clear hg3 HD2
  go_wp2_with fail
  refine (around_nat _ 41 41 _ rfl HA2.out.1 HA2.out.2 (by decide) (by decide)).mono ?_
  rintro e w6 ⟨k, rfl, hk, -, rfl⟩
  go_wp2_with fail
  refine (shuf_any gd key a1 k _ rfl (by omega) _ HD HAT).mono ?_
  rintro e w6 ⟨Sl, m, c, rfl, HD2, hg3, hown⟩
  replace hb := below_of_only hb hg3 hb.size hWd
  have hss := hg3.size
  clear hg3
  have HL := Lib.hid (shufG_length key (k - 1) a1 (idL k))
  have HM := Lib.hid (shuf_has key a1 k)
  have HP := Lib.hid (shufG_at key (k - 1) a1 (idL k) HAT.out)
  have HER := shufG_err key (k - 1) a1 (idL k)
  generalize shufG key (k - 1) a1 (idL k) = R at *
  obtain ⟨er, at2, l⟩ := R
  dsimp only at HER HL HM HP HD2 hown
  dsimp only
  rcases HER with rfl | rfl
  · rw [if_pos rfl] at hown
    have hml : l.length = m := by have := hown.1; simpa using this
    have hmk : m = k := by rw [← hml, HL.out]; simp [idL]
    have hrl : Rd w6 w6.heap.size Sl m (vInt l) := (Rd.of_own hown (f := vInt l) (by
      intro j hj
      simp [vInt, hml, hj])).2.2
    have HML := Lib.hid hml
    subst hmk
    clear hown hml
    have hdl : gd < w6.heap.size := Blk.lt HD2
    go_wp2_with fail
    go_loopw [13] (fun i wr => wr = w6 ∧ ∃ j : Nat, j ≤ m ∧ i = .int .i64 (j : Int)) (fun i _ => m - (intOf i).toNat)
    case atStart => exact ⟨rfl, 0, by omega, rfl⟩
    case round =>
      obtain ⟨rfl, j, hj, rfl⟩ := hrel
      by_cases hlt : j < m
      · have hdec : decide ((j : Int) ∈ l) = true := decide_eq_true (HM.out j hlt)
        go_wp2_with (first | (go_at_call 41; refine (rhas_any _ _ _ l _ _ HML (by omega) hrl).mono ?_; rintro e w7 ⟨rfl, rfl⟩; rw [hdec]))
        exact ⟨⟨trivial, j + 1, by omega, by go_num⟩, by simp [intOf]; omega⟩
      · obtain rfl : j = m := by omega
        clear hrl
        obtain ⟨N0, hN0⟩ : ∃ x, x = wr.heap.size := ⟨_, rfl⟩
        rw [← hN0] at hdl
        have HN0 := Lib.hid hN0
        clear hN0
        go_wp2_with fail
        go_loopw [14, 15, 16] (fun v s i wx => ∃ t : Nat, t ≤ n3 ∧ t ≤ 8 ∧ i = .int .i64 (t : Int) ∧ s = .int .i64 (preW (wL f3 t) t) ∧ wx.ownsRow N0 3 1 v t ((wL f3 t).map (Value.int .i64)) ∧ Hid (Die wx gd key at2) ∧ Below W.heap.size W wx ∧ N0 ≤ wx.heap.size) (fun _ _ i _ => 8 - (intOf i).toNat)
        case atStart => exact ⟨0, by omega, by omega, rfl, by rw [preW_zero], World.ownsRow_nil _ _ _ _, Lib.hid HD2, hb, by rw [HN0.out]; exact Nat.le_refl _⟩
        case round =>
          clear hb HD2
          obtain ⟨t, ht, ht8, rfl, rfl, hown, HD2, hb, hsw⟩ := hrel
          obtain ⟨p0, p1, p2⟩ := wL_pre f3 t
          by_cases hlt2 : t < n3 ∧ t < 8
          · obtain ⟨hl1, hl2⟩ := hlt2
            obtain ⟨b, off, rfl, hbB, hc⟩ := (hR3.below hb (Nat.le_refl _)).at_ hl1
            have hi0 : (0 : Int) ≤ (t : Int) := by omega
            have hi1 : (t : Int) < (n3 : Int) := by omega
            have hi2 : (t : Int) < 8 := by omega
            obtain ⟨hf0, hf1⟩ := wf_i64 (hw3.out t hl1)
            have har := aroundI_range (f3 t) 5 (by decide)
            obtain ⟨g, c9, w9, hap, hown9, hg9, hat9, hs9⟩ := run_append_one (P := Try.prog) wr N0 29 29 3 i0 _ 8 Try.underlying29 hi hz0 hz1 hz2 rfl u14 t _ hown (.int .i64 (aroundI (f3 t) 5)) rfl (by unfold maxLen; omega) (by omega) hsw
            rw [← wL_succ] at hown9
            have HA := Lib.hid hap
            have hc9 := (own_int (j := t) hown9 (by omega)).1
            rw [show (wL f3 (t + 1))[t]?.getD 0 = aroundI (f3 t) 5 from wL_el f3 (by omega)] at hc9
            have HD9 := Lib.hid (show Die w9 gd key at2 from Blk.grown HD2.out hg9 (fun e => by have := (hown.lt gd e.symm).1; omega))
            have HB9 := Lib.hid (show Below W.heap.size W w9 from hb.grown hg9 hb.size (fun k e => by have := (hown.lt k e).1; omega))
            have HSW := Lib.hid (show N0 ≤ w9.heap.size from Nat.le_trans hsw hg9.size)
            clear hap hat9 hg9 hs9
            go_wp2_with (first
              | (go_at_call 11; ((with_reducible refine (around_any _ 5 _ hf0 hf1 (by decide) (by decide)).mono ?_); rintro e w' ⟨rfl, rfl⟩))
              | (at_builtin; refine wpList_append_run HA.out rfl rfl rfl rfl ?_))
            exact ⟨⟨t + 1, by omega, by omega, by go_num, by rw [p2], hown9, HD9, HB9.out, HSW.out⟩, by simp [intOf]; omega⟩
          · obtain ⟨Af, cf, rfl⟩ := own_slice hown
            have HLW := Lib.hid (wL_length f3 t)
            have HSM := Lib.hid (wL_small f3 t)
            have hrw : Rd wr wr.heap.size Af t (vInt (wL f3 t)) := (Rd.of_own hown (f := vInt (wL f3 t)) (by
              intro j hj
              simp [vInt, wL_length, hj])).2.2
            have HIN := Lib.hid (show ∀ j, -9223372036854775808 ≤ elW (wL f3 t) j ∧ elW (wL f3 t) j ≤ 9223372036854775807 from fun j => by
              by_cases h : j < (wL f3 t).length
              · have := HSM.out j h
                omega
              · rw [show elW (wL f3 t) j = 0 by unfold elW; rw [List.getElem?_eq_none (by omega)]; rfl]
                omega)
            obtain ⟨PL1, PL2⟩ := pick_law (key := key) (a := at2) HSM.out (by rw [HLW.out]; exact ht8)
            rw [HLW.out] at PL1 PL2
            have HP2 := Lib.hid (pickAt_range (key := key) (ws := wL f3 t) HP.out)
            generalize hgo : wL f3 t = ws at *
            clear hgo
            have PLH := Lib.hid PL2
            clear PL2
            have HN := Lib.hid (fun a : Int => hit_no (key := key) (a := a) (den := (j : Int) + 1) (by omega))
            have HY := Lib.hid (fun a : Int => hit_yes (key := key) (a := a) (den := (j : Int) + 1) (by omega))
            have HP3 := Lib.hid (hitAt_range (key := key) (num := 0) (den := (j : Int) + 1) HP2.out)
            clear p2 p0 p1
            rcases (show n3 ≤ t ∨ (t < n3 ∧ 8 ≤ t) by omega) with hjn | ⟨hjn, hjm⟩
            all_goals go_wp2_with fail
            all_goals refine (pick_any gd key at2 _ _ _ ws _ HD2 HP HLW (by omega) HIN hrw).mono ?_
            all_goals rintro e w7 ⟨rfl, HD3, hg3⟩
            all_goals replace hown := hown.kept hg3 (.inr (fun e => by have := (hown.lt gd e).1; omega))
            all_goals replace hb := below_of_only hb hg3 hb.size hWd
            all_goals clear hg3 hrw HD2
            all_goals go_wp2_with fail
            all_goals refine (hit_any gd key _ 0 _ _ (Lib.hid HD3) HP2 (by omega)).mono ?_
            all_goals rw [HN.out]
            all_goals rintro e w8 ⟨rfl, HD4, hg3⟩
            all_goals replace hown := hown.kept hg3 (.inr (fun e => by have := (hown.lt gd e).1; omega))
            all_goals replace hb := below_of_only hb hg3 hb.size hWd
            all_goals clear hg3 HD3
            all_goals go_wp2_with fail
            all_goals refine (hit_any gd key _ _ _ _ (Lib.hid HD4) HP3 (by omega)).mono ?_
            all_goals rintro e w9 ⟨rfl, -, hg3⟩
            all_goals replace hown := hown.kept hg3 (.inr (fun e => by have := (hown.lt gd e).1; omega))
            all_goals replace hb := below_of_only hb hg3 hb.size hWd
            all_goals clear hg3 HD4
            all_goals have HYY := HY.out (hitAt key (pickAt key at2 ws) 0 ((j : Int) + 1))
            all_goals clear HY HN
            all_goals generalize hitErr key (pickAt key at2 ws) 0 ((j : Int) + 1) = e1 at *
            all_goals generalize hitErr key (hitAt key (pickAt key at2 ws) 0 ((j : Int) + 1)) ((j : Int) + 1) ((j : Int) + 1) = e2 at *
            all_goals generalize hitVal key (hitAt key (pickAt key at2 ws) 0 ((j : Int) + 1)) ((j : Int) + 1) ((j : Int) + 1) = v2 at *
            all_goals generalize pickErr key at2 ws = pe at *
            all_goals generalize pickVal key at2 ws = pv at *
            all_goals clear HP3 HP2 HM HL HML HE2 HX2 HK2 HAT HA2 HD HIN HSM HLW HP HN0 hR0 hR3 hw0 hw3
            all_goals cases hsum : (preW ws t == 0)
            all_goals rw [hsum] at PL1
            all_goals by_cases hpe : pe = 0
            all_goals first
              | (exfalso; rw [hpe] at PL1; exact absurd PL1 (by decide))
              | (obtain ⟨i, hpv, hit, hne⟩ := PLH.out hpe
                 obtain ⟨g, hAf, -, -⟩ := own_some hown (by omega)
                 subst hpe hpv hAf
                 have hcw : w9.cell? ⟨g, i, none⟩ = some (.int .i64 (elW ws i)) := (own_int hown hit).1
                 have hew : (elW ws i == 0) = false := by simpa using hne
                 have hi0 : (0 : Int) ≤ (i : Int) := by omega
                 have hi1 : (i : Int) < (t : Int) := by omega
                 clear PLH hne hown
                 cases h1 : (e1 != 0) <;> by_cases h2 : e2 = 0
                 all_goals first
                   | (obtain rfl := HYY h2
                      subst h2
                      clear HYY
                      go_wp2_with (first | (go_at_call 13; ((with_reducible refine (lives4_any _).mono ?_); rintro e w3 ⟨rfl, hb3⟩; replace hb := bt hb hb3; clear hb3)))
                      go_ret
                      exact ⟨rfl, hb⟩)
                   | (have h2' : (e2 != 0) = true := by simpa using h2
                      clear HYY h2
                      go_wp2_with (first | (go_at_call 13; ((with_reducible refine (lives4_any _).mono ?_); rintro e w3 ⟨rfl, hb3⟩; replace hb := bt hb hb3; clear hb3)))
                      go_ret
                      exact ⟨rfl, hb⟩))
              | (have hpe' : (pe == 0) = false := by simpa using hpe
                 clear PLH hpe hown
                 cases h1 : (e1 != 0) <;> by_cases h2 : e2 = 0
                 all_goals first
                   | (obtain rfl := HYY h2
                      subst h2
                      clear HYY
                      go_wp2_with (first | (go_at_call 13; ((with_reducible refine (lives4_any _).mono ?_); rintro e w3 ⟨rfl, hb3⟩; replace hb := bt hb hb3; clear hb3)))
                      go_ret
                      exact ⟨rfl, hb⟩)
                   | (have h2' : (e2 != 0) = true := by simpa using h2
                      clear HYY h2
                      go_wp2_with (first | (go_at_call 13; ((with_reducible refine (lives4_any _).mono ?_); rintro e w3 ⟨rfl, hb3⟩; replace hb := bt hb hb3; clear hb3)))
                      go_ret
                      exact ⟨rfl, hb⟩))
  · go_wp2_with (first | (go_at_call 13; ((with_reducible refine (lives4_any _).mono ?_); rintro e w3 ⟨rfl, hb3⟩; replace hb := bt hb hb3; clear hb3)))
    go_ret
    exact ⟨rfl, hb⟩

set_option maxRecDepth 100000 in
theorem DiceShuffles_lifted (os : Os) (started : os.Started) (H : Type) (enc : TypeId × Value → H) :
    ReturnsInHanded {} Try.checked os 9 .any (Rows.diceShufflesSpec.pre6 enc Try.prog Try.f9 Rows.diceShufflesRow.domain false) (Rows.diceShufflesSpec.post enc Try.prog Try.f9 false true false false) := by
  refine returnsInHanded_of_change (C := Try.checked) Try.own started (by kernel_rfl) Try.func9
    (ChangeSpec.witness6 (enc := enc) (C := Try.checked) false ⟨#[], #[.slice none 0 0, .int .i64 0, .int .i64 0, .slice none 0 0], []⟩ 8 (by kernel_rfl) (by kernel_rfl) (by kernel_rfl) (by kernel_rfl)) ?_
  intro W base args ds gs before hval0 hW _ _
  have hval : ∀ (j : Nat) t v, Try.f9.params[j]? = some t → args[j]? = some v → Value.okWide Try.prog W .any base t v := hval0
  have hW' := hW
  obtain ⟨p, q, hT0, hV, rfl, hfz, hnd⟩ := hW
  have hT : DataW.TrodAll enc Try.prog W 0 (fun _ => true) true Try.f9.params.toList args.toList ds p := hT0
  rw [Try.params9] at hT hval
  obtain ⟨v0, vs0, d0, ds0, p0, q0, hargs0, rfl, rfl, h0, r0⟩ := trodAll_cons hT
  obtain ⟨v1, vs1, d1, ds1, p1, q1, hargs1, rfl, rfl, h1, r1⟩ := trodAll_cons r0
  obtain ⟨v2, vs2, d2, ds2, p2, q2, hargs2, rfl, rfl, h2, r2⟩ := trodAll_cons r1
  obtain ⟨v3, vs3, d3, ds3, p3, q3, hargs3, rfl, rfl, h3, r3⟩ := trodAll_cons r2
  obtain ⟨rfl, rfl, rfl⟩ := trodAll_nil r3
  obtain rfl : args = #[v0, v1, v2, v3] := by cases args; simp_all
  obtain ⟨A0, n0, c0, f0, rfl, hA0, hn0, hc0, hR0, hw0⟩ := open_sl Try.underlying28 Try.underlying5 (by kernel_rfl) (hval 0 28 v0 rfl rfl) h0
  obtain ⟨a1, rfl, -, -, w1⟩ := open_int Try.underlying3 (hval 1 3 v1 rfl rfl) h1
  obtain ⟨a2, rfl, -, -, w2⟩ := open_int Try.underlying3 (hval 2 3 v2 rfl rfl) h2
  obtain ⟨A3, n3, c3, f3, rfl, hA3, hn3, hc3, hR3, hw3⟩ := open_sl Try.underlying29 Try.underlying3 (by kernel_rfl) (hval 3 29 v3 rfl rfl) h3
  refine (DiceShuffles_walk W A0 n0 c0 f0 hA0 hn0 hc0 hR0 hw0 a1 w1 a2 w2 A3 n3 c3 f3 hA3 hn3 hc3 hR3 hw3).mono fun e W' ⟨he, hb⟩ => ?_
  subst he
  exact ⟨_, rfl, law_post Try.laidOut (by kernel_rfl) (by kernel_rfl) Try.underlying4 rfl hW' rfl hb⟩

theorem DiceShuffles_holds : Rows.DiceShufflesSaid :=
  OpenClaim.holds_of_wide 9 Try.f9 rfl rfl rfl rfl rfl rfl rfl ⟨rfl, rfl, rfl, rfl, rfl⟩ rfl rfl rfl rfl rfl (by kernel_rfl) Try.func9 (by kernel_rfl)
    (of_decide_eq_true (by kernel_rfl)) (by unfold Func.isWrapper; first | (rw [if_pos (by decide +kernel)]; kernel_rfl) | (rw [if_neg (by decide +kernel)]; exact ⟨rfl, rfl⟩))
    (fun os started H enc _ => DiceShuffles_lifted os started H enc)

end Go.Proofs.Ytklkppmmnlachaa
