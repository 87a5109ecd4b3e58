/- For every seed, list of seeds, commitment, place and byte worldmintlaw04.DiceSeeds returns true. No condition. -/
import Derived.Test.YtklkppmmnlachaaDiceLives
import Derived.Test.YtklkppmmnlachaaDiceRefRoll
import Derived.Test.YtklkppmmnlachaaRefHelp
import Derived.Test.YtklkppmmnlachaaHashInj
import Derived.Deep.RegionHeld3
import Derived.Test.YtklkppmmnlachaaDiceJoin
import Derived.Test.YtklkppmmnlachaaLaw
namespace Go.Proofs.Ytklkppmmnlachaa
open Go.ChangeShapes Go.WideShapes Go.ChangeAt Go.RowKit Go.ChangeMaps

theorem info_rows : (Try.prog.info? 28).map (fun i => (i.zero, i.size, i.bytes)) = some (some (.slice none 0 0), 1, 24) := by kernel_rfl

set_option maxRecDepth 100000 in
set_option maxHeartbeats 1000000 in
theorem DiceSeeds_walk (W : World) (A0 : Option Addr) (n0 c0 : Nat) (f0 : Nat → Int) (hA0 : A0 = none → n0 = 0) (hn0 : n0 ≤ c0) (hc0 : c0 ≤ 9223372036854775807) (hR0 : Rd W W.heap.size A0 n0 (fun j => .int .u8 (f0 j))) (hw0 : Hid (∀ j, j < n0 → (Lit.int .u8 (f0 j)).wf = true)) (A1 : Option Addr) (n1 c1 : Nat) (L1 : List (List UInt8)) (_hn1 : n1 ≤ c1) (_hc1 : c1 ≤ 9223372036854775807) (hR1 : RdRows W A1 n1 L1) (a2 : Int) (ha2 : Hid ((Lit.int .u64 a2).wf = true)) (a3 : Int) (ha3 : Hid ((Lit.int .i64 a3).wf = true)) (a4 : Int) (ha4 : Hid ((Lit.int .u8 a4).wf = true)) :
    Calls Try.prog 7 #[.slice A0 n0 c0, .slice A1 n1 c1, .int .u64 a2, .int .i64 a3, .int .u8 a4] W fun e w' => e = .returned (.bool true) ∧ Below W.heap.size W w' := by
  obtain ⟨hr30, hr31⟩ := wf_i64 ha3.out
  have u2 := wf_u64 ha2.out
  obtain ⟨b4, rfl⟩ := byte_of_wf ha4.out
  obtain ⟨iR, hiR, hzR0, hzR1, hzR2⟩ := info_parts info_rows
  have hb := Below.refl W.heap.size W
  go_enter Try.func7, Try.ntmps7
  go_wp2_with (first
    | (go_at_call 14; ((with_reducible refine (few_list _ _ _ 40 40 rfl _ _ hA0 (hR0.all hb) hn0 hc0 (by decide) (bytes_wf hw0)).mono ?_); rintro e w2 ⟨A2, c2, k2, bs, rfl, hkc2, hcm2, hkm2, HK2, HX2, HE2, hown2, hr2, hb1⟩; replace hb := bt hb hb1; clear hb1))
    | (go_at_call 27; ((with_reducible refine (rcommit_any _ _ _ bs _ HX2 hkc2 (by omega) hr2).mono ?_); rintro e w3 ⟨rfl, hb3⟩; replace hb := bt hb hb3; replace hr2 := hr2.all hb3; clear hb3)))
  replace hR1 := hR1.all hb
  obtain ⟨wz, rfl⟩ : ∃ x, x = w3 := ⟨_, rfl⟩
  go_loopw [13, 14] (fun v i wr => ∃ k : Nat, ∃ L : List (List UInt8), k ≤ n1 ∧ k ≤ 4 ∧ i = .int .i64 (k : Int) ∧ OwnRows wr wz.heap.size 28 v k L ∧ Hid (∀ j : Nat, (L[j]?.getD []).length ≤ 20) ∧ Below wz.heap.size wz wr) (fun _ i _ => n1 - (intOf i).toNat)
  case atStart => exact ⟨0, [], by omega, by omega, rfl, OwnRows.nil _ _ _, Lib.hid (fun j => by simp), Below.refl _ _⟩
  case round =>
    obtain ⟨k, L, hk, hk4, rfl, hOR, HLm, hbr⟩ := hrel
    obtain ⟨v13, rfl⟩ : ∃ x, x = u13 := ⟨_, rfl⟩
    rcases (show (k < n1 ∧ k < 4) ∨ (k < n1 ∧ ¬ k < 4) ∨ ¬ k < n1 by omega) with ⟨hlt, hl4⟩ | ⟨hlt, hl4⟩ | hlt
    · have hl4' : decide ((k : Int) < 4) = true := by simp; omega
      obtain ⟨b, off, A', m, c', bs', rfl, hblt, hcell, HB, HM, hmc, hc', hRr⟩ := (hR1.all hbr).at_ hlt
      go_wp2_with fail
      refine (few_bytes _ _ _ 20 20 rfl bs' _ HM hRr hmc hc' (by decide)).mono ?_
      rintro e w4 ⟨A4, c4, k4, bs4, rfl, hkc4, hcm4, hkm4, HK4, HX4, HE4, hown4, hr4, hb4⟩
      obtain ⟨g, cap, w5, hap, hOR5, hb5⟩ := OwnRows.snoc (P := Try.prog) (t := 47) Try.underlying47 hiR hzR0 hzR1 hzR2 rfl hOR hb4 (A4, k4, c4) bs4 ⟨HX4.out, hkc4, hcm4, hr4⟩ (fun b off hp e0 => by
        obtain ⟨g, e1, e2, _⟩ := own_some hown4 hp
        simp only at e0; rw [e1] at e0; cases e0; exact e2) (by omega) hbr.size
      have HA := Lib.hid hap; clear hap
      have HLm5 : Hid (∀ j : Nat, ((L ++ [bs4])[j]?.getD []).length ≤ 20) := by
        refine Lib.hid fun j => ?_
        by_cases hj : j < L.length
        · rw [List.getElem?_append_left hj]; exact HLm.out j
        · rw [List.getElem?_append_right (by omega)]
          by_cases hj2 : j = L.length
          · subst hj2; simp; have := HX4.out; omega
          · rw [List.getElem?_eq_none (by simp; omega)]; simp
      go_wp2_with (at_builtin; refine wpList_append_run HA.out rfl rfl rfl rfl ?_)
      exact ⟨⟨k + 1, L ++ [bs4], by omega, by omega, by go_num, hOR5, HLm5, hbr.trans hb5⟩, by simp [intOf]; omega⟩
    all_goals
      obtain ⟨A5, c5, rfl⟩ := hOR.slice
      obtain ⟨_, hkc5, hcm5, hrows⟩ := hOR.rd
      have HLm2 : Hid (∀ j : Nat, (L[j]?.getD []).length ≤ 35184372088832) := Lib.hid fun j => by have := HLm.out j; omega
      replace hb := bt hb hbr
      replace hr2 := hr2.all hbr
      have q1 : (commitI bs != commitI bs) = false := by simp
      have q2 : (commitI bs == commitI bs) = true := by simp
      have q3 : ((a2 == commitI bs) != (a2 == commitI bs)) = false := by simp
      clear hbr hown2 hOR HLm
      rcases Nat.eq_zero_or_pos k2 with h0 | h0
      · have t0 : ((k2 : Int) == 0) = true := by rw [h0]; rfl
        clear h0
        go_wp2_with (first
    | (go_at_call 24; ((with_reducible refine (commit_any _ _ _ bs _ HX2 hkc2 (by omega) hr2).mono ?_); rintro e w3 ⟨rfl, hb3⟩; replace hb := bt hb hb3; replace hr2 := hr2.all hb3; replace hrows := hrows.all hb3; clear hb3))
    | (go_at_call 28; ((with_reducible refine (opens_any _ _ _ _ bs _ HX2 hkc2 (by omega) hr2).mono ?_); rintro e w3 ⟨rfl, hb3⟩; replace hb := bt hb hb3; replace hr2 := hr2.all hb3; replace hrows := hrows.all hb3; clear hb3))
    | (go_at_call 30; ((with_reducible refine (join_any _ _ _ L _ hkc5 hcm5 hrows HLm2).mono ?_); rintro e w3 ⟨gj, rfl, hownj, hb3⟩; have hrj := (rd_bytes hownj).2.2; replace hb := bt hb hb3; replace hr2 := hr2.all hb3; replace hrows := hrows.all hb3; clear hb3))
    | (go_at_call 31; ((with_reducible refine (rjoin_any _ _ _ L _ hkc5 hcm5 hrows HLm2).mono ?_); rintro e w3 ⟨Ak, ck, rfl, hownk, hb3⟩; have hrk := (rd_bytes hownk).2.2; replace hb := bt hb hb3; replace hr2 := hr2.all hb3; replace hrj := hrj.all hb3; clear hb3))
    | (go_at_call 29; ((with_reducible refine (sameBytes_true _ _ _ _ _ _ (joinL L) (joinL L) _ rfl (Lib.hid (joinL_length _)) (Lib.hid (joinL_length _)) hrj hrk (by decide) (by decide)).mono ?_); rintro e w3 ⟨rfl, hb3⟩; replace hb := bt hb hb3; replace hr2 := hr2.all hb3; clear hb3))
    | (go_at_call 13; ((with_reducible refine (lives4_any _).mono ?_); rintro e w3 ⟨rfl, hb3⟩; replace hb := bt hb hb3; clear hb3)))
        go_ret
        exact ⟨rfl, hb⟩
      · have t0 : ((k2 : Int) == 0) = false := by simp; omega
        go_wp2_with (first
    | (go_at_call 24; ((with_reducible refine (commit_any _ _ _ bs _ HX2 hkc2 (by omega) hr2).mono ?_); rintro e w3 ⟨rfl, hb3⟩; replace hb := bt hb hb3; replace hr2 := hr2.all hb3; replace hrows := hrows.all hb3; clear hb3))
    | (go_at_call 28; ((with_reducible refine (opens_any _ _ _ _ bs _ HX2 hkc2 (by omega) hr2).mono ?_); rintro e w3 ⟨rfl, hb3⟩; replace hb := bt hb hb3; replace hr2 := hr2.all hb3; replace hrows := hrows.all hb3; clear hb3))
    | (go_at_call 30; ((with_reducible refine (join_any _ _ _ L _ hkc5 hcm5 hrows HLm2).mono ?_); rintro e w3 ⟨gj, rfl, hownj, hb3⟩; have hrj := (rd_bytes hownj).2.2; replace hb := bt hb hb3; replace hr2 := hr2.all hb3; replace hrows := hrows.all hb3; clear hb3))
    | (go_at_call 31; ((with_reducible refine (rjoin_any _ _ _ L _ hkc5 hcm5 hrows HLm2).mono ?_); rintro e w3 ⟨Ak, ck, rfl, hownk, hb3⟩; have hrk := (rd_bytes hownk).2.2; replace hb := bt hb hb3; replace hr2 := hr2.all hb3; replace hrj := hrj.all hb3; clear hb3))
    | (go_at_call 29; ((with_reducible refine (sameBytes_true _ _ _ _ _ _ (joinL L) (joinL L) _ rfl (Lib.hid (joinL_length _)) (Lib.hid (joinL_length _)) hrj hrk (by decide) (by decide)).mono ?_); rintro e w3 ⟨rfl, hb3⟩; replace hb := bt hb hb3; replace hr2 := hr2.all hb3; clear hb3)))
        refine (few_bytes _ _ _ 40 40 rfl bs _ HX2 hr2 hkc2 hcm2 (by decide)).mono ?_
        rintro e w6 ⟨A6, c6, k6, bs6, rfl, hkc6, hcm6, hkm6, HK6, HX6, HE6, hown6, hr6, hb6⟩
        have hWg := hb.size
        replace hb := bt hb hb6
        obtain rfl : k6 = k2 := by have := HK6.out; omega
        obtain ⟨g6, rfl, hg6, hgl6⟩ := own_some hown6 (by omega)
        obtain rfl : bs6 = bs := by rw [HE6.out]; exact List.take_of_length_le (by have := HX2.out; omega)
        go_wp2_with fail
        refine (around_nat _ k6 _ _ rfl (by omega) (by omega) (by omega) (by omega)).mono ?_
        rintro e w' ⟨kk, rfl, hkk, _, rfl⟩
        obtain ⟨hc6, hf6⟩ := own_byte hown6 hkk
        have hx := xor_u8 (bs6[kk]?.getD 0) b4
        have hst := Lib.hid (own_byte_set hown6 kk (xorB (bs6[kk]?.getD 0) b4))
        have hbx := hb.setCell (p := ⟨g6, kk, none⟩) (by simp; omega) (.int .u8 (((xorB (bs6[kk]?.getD 0) b4).toNat : Nat) : Int))
        have hrx := (rd_bytes hst.out).2.2
        have HXx : Hid ((bs6.set kk (xorB (bs6[kk]?.getD 0) b4)).length = k6) := Lib.hid (by rw [List.length_set]; exact HX6.out)
        have HQ := Lib.hid (seeds_one bs6 kk b4 (by rw [HX6.out]; exact hkk))
        go_wp2_with fail
        clear hx
        refine (opens_any _ _ _ _ _ _ HXx hkc6 (by omega) hrx).mono ?_
        rintro e w8 ⟨rfl, hb8⟩
        rw [HQ.out]
        replace hb := bt hbx hb8
        have qe : ((((b4.toNat : Nat) : Int) == 0) == (((b4.toNat : Nat) : Int) == 0)) = true := by simp
        clear hbx hb8 hrx q1 q2 q3
        go_wp2_with (first
    | (go_at_call 13; ((with_reducible refine (lives4_any _).mono ?_); rintro e w3 ⟨rfl, hb3⟩; replace hb := bt hb hb3; clear hb3)))
        go_ret
        exact ⟨rfl, hb⟩


set_option maxRecDepth 100000 in
theorem DiceSeeds_lifted (os : Os) (started : os.Started) (H : Type) (enc : TypeId × Value → H) :
    ReturnsInHanded {} Try.checked os 7 .any (Rows.diceSeedsSpec.pre6 enc Try.prog Try.f7 Rows.diceSeedsRow.domain false) (Rows.diceSeedsSpec.post enc Try.prog Try.f7 false true false false) := by
  refine returnsInHanded_of_change (C := Try.checked) Try.own started (by kernel_rfl) Try.func7
    (ChangeSpec.witness6 (enc := enc) (C := Try.checked) false ⟨#[], #[.slice none 0 0, .slice none 0 0, .int .u64 0, .int .i64 0, .int .u8 0], []⟩ 8 (by kernel_rfl) (by kernel_rfl) (by kernel_rfl) (by kernel_rfl)) ?_
  intro W base args ds gs before hval0 hW _ _
  have hval : ∀ (j : Nat) t v, Try.f7.params[j]? = some t → args[j]? = some v → Value.okWide Try.prog W .any base t v := hval0
  have hW' := hW
  obtain ⟨p, q, hT0, hV, rfl, hfz, hnd⟩ := hW
  have hT : DataW.TrodAll enc Try.prog W 0 (fun _ => true) true Try.f7.params.toList args.toList ds p := hT0
  rw [Try.params7] at hT hval
  obtain ⟨v0, vs0, d0, ds0, p0, q0, hargs0, rfl, rfl, h0, r0⟩ := trodAll_cons hT
  obtain ⟨v1, vs1, d1, ds1, p1, q1, hargs1, rfl, rfl, h1, r1⟩ := trodAll_cons r0
  obtain ⟨v2, vs2, d2, ds2, p2, q2, hargs2, rfl, rfl, h2, r2⟩ := trodAll_cons r1
  obtain ⟨v3, vs3, d3, ds3, p3, q3, hargs3, rfl, rfl, h3, r3⟩ := trodAll_cons r2
  obtain ⟨v4, vs4, d4, ds4, p4, q4, hargs4, rfl, rfl, h4, r4⟩ := trodAll_cons r3
  obtain ⟨rfl, rfl, rfl⟩ := trodAll_nil r4
  obtain rfl : args = #[v0, v1, v2, v3, v4] := by cases args; simp_all
  obtain ⟨A0, n0, c0, f0, rfl, hA0, hn0, hc0, hR0, hw0⟩ := open_sl Try.underlying28 Try.underlying5 (by kernel_rfl) (hval 0 28 v0 rfl rfl) h0
  obtain ⟨A1, n1, c1, L1, rfl, hn1, hc1, hR1⟩ := open_rows Try.underlying47 Try.underlying28 Try.underlying5 (by kernel_rfl) (by kernel_rfl) (hval 1 47 v1 rfl rfl) h1
  obtain ⟨a2, rfl, -, -, w2⟩ := open_int Try.underlying22 (hval 2 22 v2 rfl rfl) h2
  obtain ⟨a3, rfl, -, -, w3⟩ := open_int Try.underlying3 (hval 3 3 v3 rfl rfl) h3
  obtain ⟨a4, rfl, -, -, w4⟩ := open_int Try.underlying5 (hval 4 5 v4 rfl rfl) h4
  refine (DiceSeeds_walk W A0 n0 c0 f0 hA0 hn0 hc0 hR0 hw0 A1 n1 c1 L1 hn1 hc1 hR1 a2 w2 a3 w3 a4 w4).mono fun e W' ⟨he, hb⟩ => ?_
  subst he
  exact ⟨_, rfl, law_post Try.laidOut (by kernel_rfl) (by kernel_rfl) Try.underlying4 rfl hW' rfl hb⟩

theorem DiceSeeds_holds : Rows.DiceSeedsSaid :=
  OpenClaim.holds_of_wide 7 Try.f7 rfl rfl rfl rfl rfl rfl rfl ⟨rfl, rfl, rfl, rfl, rfl⟩ rfl rfl rfl rfl rfl (by kernel_rfl) Try.func7 (by kernel_rfl)
    (of_decide_eq_true (by kernel_rfl)) (by unfold Func.isWrapper; first | (rw [if_pos (by decide +kernel)]; kernel_rfl) | (rw [if_neg (by decide +kernel)]; exact ⟨rfl, rfl⟩))
    (fun os started H enc _ => DiceSeeds_lifted os started H enc)

end Go.Proofs.Ytklkppmmnlachaa
