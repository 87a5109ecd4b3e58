/- For every list, word, number, slice of bytes and list worldmintlaw02.WireWrites returns true. No condition. -/
import Derived.Test.YtahajgmmoefpjaaWireLives
import Derived.Test.YtahajgmmoefpjaaRefHelp2
import Derived.Test.YtahajgmmoefpjaaWireRefW
import Derived.Deep.RegionHeld3
import Derived.Test.YtahajgmmoefpjaaLaw
namespace Go.Proofs.Ytahajgmmoefpjaa
open Go.ChangeShapes Go.WideShapes Go.ChangeAt Go.RowKit Go.ChangeMaps


set_option maxRecDepth 100000 in
set_option maxHeartbeats 8000000 in
theorem WireWrites_walk (W : World) (A0 : Option Addr) (n0 c0 : Nat) (f0 : Nat → Int) (hA0 : A0 = none → n0 = 0) (hn0 : n0 ≤ c0) (hc0 : c0 ≤ 9223372036854775807) (hR0 : Rd W W.heap.size A0 n0 (fun j => .int .i64 (f0 j))) (hw0 : Hid (∀ j, j < n0 → (Lit.int .i64 (f0 j)).wf = true)) (a1 : Int) (ha1 : Hid ((Lit.int .u64 a1).wf = true)) (a2 : Int) (ha2 : Hid ((Lit.int .i64 a2).wf = true)) (A3 : Option Addr) (n3 c3 : Nat) (f3 : Nat → Int) (hA3 : A3 = none → n3 = 0) (hn3 : n3 ≤ c3) (hc3 : c3 ≤ 9223372036854775807) (hR3 : Rd W W.heap.size A3 n3 (fun j => .int .u8 (f3 j))) (hw3 : Hid (∀ j, j < n3 → (Lit.int .u8 (f3 j)).wf = true)) (A4 : Option Addr) (n4 c4 : Nat) (f4 : Nat → Int) (hA4 : A4 = none → n4 = 0) (hn4 : n4 ≤ c4) (hc4 : c4 ≤ 9223372036854775807) (hR4 : Rd W W.heap.size A4 n4 (fun j => .int .i64 (f4 j))) (hw4 : Hid (∀ j, j < n4 → (Lit.int .i64 (f4 j)).wf = true)) :
    Calls Try.prog 6 #[.slice A0 n0 c0, .int .u64 a1, .int .i64 a2, .slice A3 n3 c3, .slice A4 n4 c4] W fun e w' => e = .returned (.bool true) ∧ Below W.heap.size W w' := by
  have u1 := wf_u64 ha1.out
  obtain ⟨hr20, hr21⟩ := wf_i64 ha2.out
  obtain ⟨u, rfl⟩ := Int.eq_ofNat_of_zero_le u1.1
  have HF0 := Lib.hid (fun j (hj : j < n0) => (wf_i64 (hw0.out j hj) : InI (f0 j)))
  have hb := Below.refl W.heap.size W
  go_enter Try.func6, Try.ntmps6
  go_wp2_with fail
  refine (vals_any A0 n0 c0 f0 W hA0 hR0 hn0 hc0 HF0).mono ?_
  rintro e w1 ⟨A1, k, c1, vs, rfl, hk8, hkc, hcm, hO, HG, hb1⟩
  replace hb := bt hb hb1
  have hsW := hb.size
  go_wp2_with fail
  refine (few_list _ _ _ 200 200 rfl _ _ hA3 (hR3.all hb) hn3 hc3 (by decide) (bytes_wf hw3)).mono ?_
  rintro e w2 ⟨A2, c2, n2, bs, rfl, hnc2, hcm2, hm2, _, HX2, _, hown2, hr2, hb2⟩
  replace hb := bt hb hb2
  have L1 := Lib.hid hO.lt0
  replace hO := hO.all hb2
  have hs12 := hb2.size
  clear hb1
  go_wp2_with fail
  refine (ints_list _ _ _ 20 20 rfl _ _ hA4 (hR4.all hb) hn4 hc4 (by decide)).mono ?_
  rintro e w3 ⟨A5, c5, n5, ls, rfl, hnc5, hcm5, hm5, HK5, HX5, HE5, hown5, hr5, hb3⟩
  have hls : ∀ j : Nat, -9223372036854775808 ≤ ls[j]?.getD 0 ∧ ls[j]?.getD 0 ≤ 9223372036854775807 := by
    intro j
    rw [HE5.out]
    by_cases hj : j < n5
    · have := wf_i64 (hw4.out j (by have := HK5.out; omega))
      simpa [hj] using this
    · simp [hj]
  replace hb := bt hb hb3
  replace hO := hO.all hb3
  have hB2 := BIn.own (own_keep hown2 hb3)
  have hF2 := Far.own hown2
  have hB5 := NIn.own hown5
  have hF5 := Far.own hown5
  have hs23 := hb3.size
  obtain ⟨g, cap, w4, HA, hO4, hg4, hb4⟩ := VOwn.append (m := 5) (xs := [⟨0, u, 0, [], []⟩, ⟨1, 0, a2, [], []⟩, ⟨4, 0, 0, bs, []⟩, ⟨5, 0, 0, [], ls⟩, ⟨2, 0, 1, [], []⟩]) hO (fun j => if j = 2 then (A2, n2, c2) else (none, 0, 0)) (fun j => if j = 3 then (A5, n5, c5) else (none, 0, 0)) (by decide) rfl (fun j hj => by
    rcases (show j = 0 ∨ j = 1 ∨ j = 2 ∨ j = 3 ∨ j = 4 by omega) with rfl | rfl | rfl | rfl | rfl
    · exact ⟨BIn.nil _ _, NIn.nil _ _, Far.nil _, Far.nil _, fun b off h => absurd h (by simp), fun b off h => absurd h (by simp)⟩
    · exact ⟨BIn.nil _ _, NIn.nil _ _, Far.nil _, Far.nil _, fun b off h => absurd h (by simp), fun b off h => absurd h (by simp)⟩
    · exact ⟨hB2, NIn.nil _ _, hF2.more hsW, Far.nil _, fun b off hp e hh => by (have := hF2 b off hp e; have := L1.out b hh.symm; omega), fun b off h => absurd h (by simp)⟩
    · exact ⟨BIn.nil _ _, hB5, Far.nil _, hF5.more (by omega), fun b off h => absurd h (by simp), fun b off hp e hh => by (have := hF5 b off hp e; have := L1.out b hh.symm; omega)⟩
    · exact ⟨BIn.nil _ _, NIn.nil _ _, Far.nil _, Far.nil _, fun b off h => absurd h (by simp), fun b off h => absurd h (by simp)⟩) (by omega) hb.size
    #[.int .i64 0, .int .u64 (u : Int), .int .i64 0, .slice none 0 0, .slice none 0 0, .int .i64 1, .int .u64 0, .int .i64 a2, .slice none 0 0, .slice none 0 0, .int .i64 4, .int .u64 0, .int .i64 0, .slice A2 n2 c2, .slice none 0 0, .int .i64 5, .int .u64 0, .int .i64 0, .slice none 0 0, .slice A5 n5 c5, .int .i64 2, .int .u64 0, .int .i64 1, .slice none 0 0, .slice none 0 0] rfl
  have HFIT : Hid (∀ y ∈ vs ++ [(⟨0, u, 0, [], []⟩ : V), ⟨1, 0, a2, [], []⟩, ⟨4, 0, 0, bs, []⟩, ⟨5, 0, 0, [], ls⟩, ⟨2, 0, 1, [], []⟩], FitV y) := Lib.hid (by
    intro y hy
    rcases List.mem_append.1 hy with h | h
    · exact (HG.out y h).fit
    · simp at h
      rcases h with rfl | rfl | rfl | rfl | rfl
      · exact ⟨by simp only; omega, inI0, by simp, by simp, by simp⟩
      · exact ⟨by simp, ⟨hr20, hr21⟩, by simp, by simp, by simp⟩
      · exact ⟨by simp, inI0, by simp only; rw [HX2.out]; omega, by simp, by simp⟩
      · exact ⟨by simp, inI0, by simp, by simp only; rw [HX5.out]; omega, hls⟩
      · exact ⟨by simp, inI1, by simp, by simp, by simp⟩)
  generalize vs ++ [(⟨0, u, 0, [], []⟩ : V), ⟨1, 0, a2, [], []⟩, ⟨4, 0, 0, bs, []⟩, ⟨5, 0, 0, [], ls⟩, ⟨2, 0, 1, [], []⟩] = all at *
  replace hb := hb.trans hb4
  obtain ⟨N, hN⟩ : ∃ N, N = k + 5 := ⟨_, rfl⟩
  rw [← hN] at HA hO4
  have hN13 : N ≤ 13 := by omega
  clear hO hg4 hb4 hN hb2 hb3 hB2 hB5 hF2 hF5 hown2 hown5 hr2 hr5 hls
  obtain ⟨_, hkc4, hcm4, hV⟩ := hO4.row
  have HL := Lib.hid hV.1
  have HF := Lib.hid (fit_of_mem HFIT.out)
  have HW0 := Lib.hid (Wr.new w4)
  have hbw : Below w4.heap.size w4 (w4.alloc (.cells #[.slice none 0 0] 26)) := (Below.refl _ w4).alloc (Nat.le_refl _) _
  have HA' := HA
  clear HA
  go_wp2_with (at_builtin; refine wpList_append_run HA'.out rfl rfl rfl rfl ?_)
  go_loopw [13] (fun v wr => ∃ i : Nat, i ≤ N ∧ v = .int .i64 (i : Int) ∧ Hid (Wr wr w4.heap.size w4.heap.size (encTo all i)) ∧ Below w4.heap.size w4 wr) (fun v _ => N - (intOf v).toNat)
  case atStart => exact ⟨0, by omega, rfl, HW0, hbw⟩
  case round =>
    clear HW0 hbw
    obtain ⟨i, hi, rfl, HW, hbr⟩ := hrel
    have hlen := encTo_len all HF.out i (by rw [HL.out]; exact hi)
    by_cases hlt : i < N
    · obtain ⟨bb, off, v, s, t, hA', hbB, HV, c0', c1', c2', c3', c4', hs, ht⟩ := (hV.below hbr (Nat.le_refl _)).at_ hlt
      cases hA'
      rw [Nat.zero_add] at c0' c1' c2' c3' c4'
      have hfv : FitV v := by rw [HV.out]; exact HF.out i
      have HSU := Lib.hid (encTo_succ all i (by rw [HL.out]; exact hlt))
      rw [← HV.out] at HSU
      go_wp2_with fail
      refine (write_any _ _ _ v s t _ HW hfv hs ht (by omega)).mono ?_
      rintro e w5 ⟨rfl, hW5, hb5⟩
      rw [← HSU.out] at hW5
      replace HW := Lib.hid hW5
      have hbr5 := hbr.trans hb5
      have hlen5 := encTo_len all HF.out (i + 1) (by rw [HL.out]; exact hlt)
      have hV5 : VRow w5 w4.heap.size (some ⟨g, 0, none⟩) (i + 1) (all.take (i + 1)) := (hV.below hbr5 (Nat.le_refl _)).take (by omega)
      have HFT : Hid (∀ j : Nat, FitV ((all.take (i + 1))[j]?.getD V0)) := Lib.hid (fit_of_mem fun y hy => HFIT.out y (List.mem_of_mem_take hy))
      have HTE := Lib.hid (show encTo (all.take (i + 1)) (i + 1) = encTo all (i + 1) by unfold encTo; rw [List.take_take, Nat.min_self])
      have hi0 : (0 : Int) ≤ (i : Int) + 1 := by omega
      have hi1 : (i : Int) + 1 ≤ (cap : Int) := by omega
      clear hW5 hb5 hbr c0' c1' c2' c3' c4' hs ht
      go_wp2
      have hwp : IntKind.i64.wrap ((i : Int) + 1) = (i : Int) + 1 := IntWalk.i64_in _ (by omega)
      have htn : ((i : Int) + 1).toNat = i + 1 := by omega
      go_region_held3 (fun _ => True) (trivial)
        (first
          | (go_at_call 16; ((refine (wdone_any _ _ _ _ (Lib.hid HW.out.drew) (by omega)).mono ?_); rintro e w6 ⟨A6, n6, c6, rfl, hnc6, hcm6, HX6, hown6, hr6, hb6⟩; replace hb6 := undrew hb6))
          | (go_at_call 18; ((refine (rencode_any _ (i + 1) _ (all.take (i + 1)) _ ((hV5.below hb6 (Nat.le_trans (Nat.le_refl _) hbr5.size)).more (Nat.le_trans hbr5.size hb6.size)) HFT (by omega)).mono ?_); rintro e w7 ⟨A7, n7, c7, rfl, HX7, hown7, hb7⟩))
          | (go_at_call 30; ((refine (sameBytes_true _ _ _ _ _ _ _ _ _ HTE.out.symm HX6 HX7 (hr6.all hb7) (rd_bytes hown7).2.2 (by have := HX6.out; omega) (by have := HX7.out; rw [HTE.out] at this; omega)).mono ?_); rintro e w8 ⟨rfl, hb8⟩)))
      all_goals
        have hb68 : Below w5.heap.size w5 w8 := bt (bt hb6 hb7) hb8
        have HW8 := Lib.hid (HW.out.all hb68)
        have hbr8 := hbr5.trans (hb68.mono hbr5.size)
        clear hb6 hb7 hb8 hb68 hwp htn hown6 hr6 hown7
        go_wp2
        exact ⟨⟨i + 1, by omega, by go_num, HW8, hbr8⟩, by simp [intOf]; omega⟩
    · obtain rfl : i = N := by omega
      have hbq := hb.trans (hbr.mono hb.size)
      go_wp2_with (first
        | (go_at_call 17; ((with_reducible refine (lives2_any _).mono ?_); rintro e wl ⟨rfl, hbl⟩; replace hbq := bt hbq hbl; clear hbl)))
      go_ret
      exact ⟨rfl, hbq⟩


set_option maxRecDepth 100000 in
theorem WireWrites_lifted (os : Os) (started : os.Started) (H : Type) (enc : TypeId × Value → H) :
    ReturnsInHanded {} Try.checked os 6 .any (Rows.wireWritesSpec.pre6 enc Try.prog Try.f6 Rows.wireWritesRow.domain false) (Rows.wireWritesSpec.post enc Try.prog Try.f6 false true false false) := by
  refine returnsInHanded_of_change (C := Try.checked) Try.own started (by kernel_rfl) Try.func6
    (ChangeSpec.witness6 (enc := enc) (C := Try.checked) false ⟨#[], #[.slice none 0 0, .int .u64 0, .int .i64 0, .slice none 0 0, .slice none 0 0], []⟩ 8 (by kernel_rfl) (by kernel_rfl) (by kernel_rfl) (by kernel_rfl)) ?_
  intro W base args ds gs before hval0 hW _ _
  have hval : ∀ (j : Nat) t v, Try.f6.params[j]? = some t → args[j]? = some v → Value.okWide Try.prog W .any base t v := hval0
  have hW' := hW
  obtain ⟨p, q, hT0, hV, rfl, hfz, hnd⟩ := hW
  have hT : DataW.TrodAll enc Try.prog W 0 (fun _ => true) true Try.f6.params.toList args.toList ds p := hT0
  rw [Try.params6] at hT hval
  obtain ⟨v0, vs0, d0, ds0, p0, q0, hargs0, rfl, rfl, h0, r0⟩ := trodAll_cons hT
  obtain ⟨v1, vs1, d1, ds1, p1, q1, hargs1, rfl, rfl, h1, r1⟩ := trodAll_cons r0
  obtain ⟨v2, vs2, d2, ds2, p2, q2, hargs2, rfl, rfl, h2, r2⟩ := trodAll_cons r1
  obtain ⟨v3, vs3, d3, ds3, p3, q3, hargs3, rfl, rfl, h3, r3⟩ := trodAll_cons r2
  obtain ⟨v4, vs4, d4, ds4, p4, q4, hargs4, rfl, rfl, h4, r4⟩ := trodAll_cons r3
  obtain ⟨rfl, rfl, rfl⟩ := trodAll_nil r4
  obtain rfl : args = #[v0, v1, v2, v3, v4] := by cases args; simp_all
  obtain ⟨A0, n0, c0, f0, rfl, hA0, hn0, hc0, hR0, hw0⟩ := open_sl Try.underlying33 Try.underlying3 (by kernel_rfl) (hval 0 33 v0 rfl rfl) h0
  obtain ⟨a1, rfl, -, -, w1⟩ := open_int Try.underlying22 (hval 1 22 v1 rfl rfl) h1
  obtain ⟨a2, rfl, -, -, w2⟩ := open_int Try.underlying3 (hval 2 3 v2 rfl rfl) h2
  obtain ⟨A3, n3, c3, f3, rfl, hA3, hn3, hc3, hR3, hw3⟩ := open_sl Try.underlying24 Try.underlying5 (by kernel_rfl) (hval 3 24 v3 rfl rfl) h3
  obtain ⟨A4, n4, c4, f4, rfl, hA4, hn4, hc4, hR4, hw4⟩ := open_sl Try.underlying33 Try.underlying3 (by kernel_rfl) (hval 4 33 v4 rfl rfl) h4
  refine (WireWrites_walk W A0 n0 c0 f0 hA0 hn0 hc0 hR0 hw0 a1 w1 a2 w2 A3 n3 c3 f3 hA3 hn3 hc3 hR3 hw3 A4 n4 c4 f4 hA4 hn4 hc4 hR4 hw4).mono fun e W' ⟨he, hb⟩ => ?_
  subst he
  exact ⟨_, rfl, law_post Try.laidOut (by kernel_rfl) (by kernel_rfl) Try.underlying4 rfl hW' rfl hb⟩

theorem WireWrites_holds : Rows.WireWritesSaid :=
  OpenClaim.holds_of_wide 6 Try.f6 rfl rfl rfl rfl rfl rfl rfl ⟨rfl, rfl, rfl, rfl, rfl⟩ rfl rfl rfl rfl rfl (by kernel_rfl) Try.func6 (by kernel_rfl)
    (of_decide_eq_true (by kernel_rfl)) (by unfold Func.isWrapper; first | (rw [if_pos (by decide +kernel)]; kernel_rfl) | (rw [if_neg (by decide +kernel)]; exact ⟨rfl, rfl⟩))
    (fun os started H enc _ => WireWrites_lifted os started H enc)

end Go.Proofs.Ytahajgmmoefpjaa
