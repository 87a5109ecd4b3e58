/- For every label and slice of bytes worldmintlaw01.HashGroups returns true. No condition. -/
import Derived.Test.YtapihehmlihdaaaHashRef
import Derived.Test.YtapihehmlihdaaaHashLives
import Derived.Test.YtapihehmlihdaaaRefHelp
import Derived.Test.YtapihehmlihdaaaHashInj
import Derived.Deep.RegionHeld3
import Derived.Test.YtapihehmlihdaaaLaw
namespace Go.Proofs.Ytapihehmlihdaaa
open Go.ChangeShapes Go.WideShapes Go.ChangeAt Go.RowKit Go.ChangeMaps


set_option maxHeartbeats 1000000 in
theorem HashGroups_walk (W : World) (s0 : ByteArray) (hs0 : s0.size ≤ 9223372036854775807) (A1 : Option Addr) (n1 c1 : Nat) (f1 : Nat → Int) (hA1 : A1 = none → n1 = 0) (hn1 : n1 ≤ c1) (hc1 : c1 ≤ 9223372036854775807) (hR1 : Rd W W.heap.size A1 n1 (fun j => .int .u8 (f1 j))) (hw1 : Hid (∀ j, j < n1 → (Lit.int .u8 (f1 j)).wf = true)) :
    Calls Try.prog 8 #[.string s0, .slice A1 n1 c1] W fun e w' => e = .returned (.bool true) ∧ Below W.heap.size W w' := by
  obtain ⟨i0, hi, hz0, hz1, hz2⟩ := info_parts infoInt
  obtain ⟨i8, hi8, hz08, hz18, hz28⟩ := info_parts info_few
  have hb := Below.refl W.heap.size W
  go_enter Try.func8, Try.ntmps8
  go_wp2_with (first
    | (go_at_call 11; ((with_reducible refine (short_any _ 20 20 rfl _ hs0 (by decide)).mono ?_); rintro e w' ⟨rfl, rfl⟩))
    | (go_at_call 16; ((with_reducible refine (few_list _ _ _ 60 60 rfl _ _ hA1 (hR1.all hb) hn1 hc1 (by decide) (bytes_wf hw1)).mono ?_); rintro e w2 ⟨A2, c2, k2, bs, rfl, hkc2, hcm2, hkm2, HK2, HX2, HE2, hown2, hr2, hb1⟩; replace hb := bt hb hb1; clear hb1)))
  have hls : (shortB s0 20).size ≤ 20 := by rw [shortB_size]; omega
  generalize shortB s0 20 = s at *
  go_wp2_with (go_at_call 23; ((with_reducible refine (rwords_any _ _ _ _ bs _ HX2 hkc2 (by omega) (Nat.le_refl _) hr2).mono ?_); rintro e w4 ⟨A4, c4, rfl, hown4, hb1⟩; replace hb := bt hb hb1; replace hr2 := hr2.all hb1; clear hb1))
  have hr4 : Rd w4 w4.heap.size A4 (nwords bs) (fun j => .int .u64 (wordAt bs j)) := (Rd.of_own hown4 (f := fun j => .int .u64 (wordAt bs j)) (by
    intro j hj
    simp [wordsI, wordsTo, hj])).2.2
  have hnw : 8 * nwords bs ≤ k2 + 7 := by unfold nwords; have := HX2.out; omega
  clear hown4
  generalize hN : nwords bs = nw at *
  have HN := Lib.hid hN; clear hN
  go_loopw [8, 9] (fun v i wr => ∃ k : Nat, k ≤ nw ∧ i = .int .i64 (k : Int) ∧ wr.ownsRow w4.heap.size 3 1 v k ((wordsTo bs k).map fun x => Value.int .i64 (toI x)) ∧ Below w4.heap.size w4 wr) (fun _ i _ => nw - (intOf i).toNat)
  case atStart => exact ⟨0, by omega, rfl, World.ownsRow_nil _ _ _ _, Below.refl _ _⟩
  case round =>
    obtain ⟨k, hk, rfl, hown, hbr⟩ := hrel
    obtain ⟨v8, rfl⟩ : ∃ x, x = u8 := ⟨_, rfl⟩
    by_cases hlt : k < nw
    · obtain ⟨b, off, rfl, hbB, hc⟩ := (hr4.below hbr (Nat.le_refl _)).at_ hlt
      obtain ⟨g, c3, w3, hap, hown3, hg3, hat3, hs3⟩ := run_append_one (P := Try.prog) wr w4.heap.size 22 22 3 i0 _ 8 Try.underlying22 hi hz0 hz1 hz2 rfl v8 k _ hown (.int .i64 (wrap64 (wordAt bs k))) rfl (by unfold maxLen; omega) (by omega) hbr.size
      have HA := Lib.hid hap; clear hap
      go_wp2_with (at_builtin; refine wpList_append_run HA.out rfl rfl rfl rfl ?_)
      refine ⟨⟨k + 1, by omega, by go_num, ?_, hbr.grown hg3 hbr.size (fun k e => (hown.lt k e).1)⟩, by simp [intOf]; omega⟩
      rw [wordsTo_succ, List.map_append]
      exact hown3
    · obtain rfl : k = nw := by omega
      have h4W : W.heap.size ≤ w4.heap.size := hb.size
      replace hb := bt hb hbr
      have hs4 : w4.heap.size ≤ wr.heap.size := hbr.size
      replace hr2 := hr2.below hbr (Nat.le_refl _)
      have hw : wordsTo bs k = wordsI bs := by unfold wordsI; rw [HN.out]
      have hl : (wordsI bs).length = k := by rw [← hw]; exact wordsTo_length _ _
      have d1 : (bytesI s.data.toList bs != sumI s.data.toList ((wordsI bs).map toI ++ [((bs.length : Nat) : Int)])) = false := by simp [bytesI]
      rw [hw] at hown
      have HW := Lib.hid hl
      have HL5 := Lib.hid (show ((wordsI bs).map toI ++ [((bs.length : Nat) : Int)]).length = k + 1 by simp; omega)
      clear hw hl hbr hr4
      rcases (show (((k2 : Int) % 8 == 0) = true ∧ True) ∨ (((k2 : Int) % 8 == 0) = false ∧ (bytesI s.data.toList (bs ++ [0]) != bytesI s.data.toList bs) = true) from by
        by_cases h : k2 % 8 = 0
        · exact .inl ⟨by rw [beq_iff_eq]; omega, trivial⟩
        · exact .inr ⟨by rw [beq_eq_false_iff_ne]; omega, by rw [bne_iff_ne]; exact bytes_zero _ _ (by have := HX2.out; omega) (by have := HX2.out; omega)⟩) with ⟨d2, d3⟩ | ⟨d2, d3⟩
      all_goals go_wp2_with (first
        | (go_at_call 17; ((with_reducible refine (hbytes_any _ _ _ _ _ bs _ HX2 (by omega) hkc2 (by omega) hs4 hr2).mono ?_); rintro e w3 ⟨rfl, hb3⟩; replace hown := own_keep hown hb3; replace hr2 := hr2.below hb3 hs4; replace hs4 := Nat.le_trans hs4 hb3.size; replace hb := bt hb hb3; clear hb3))
        | (at_builtin; obtain ⟨g, c3, w5, hap, hown5, hg5, hat5, hs5⟩ := run_append_one (P := Try.prog) w3 w4.heap.size 22 22 3 i0 _ 8 Try.underlying22 hi hz0 hz1 hz2 rfl v8 k _ hown (.int .i64 k2) rfl (by unfold maxLen; omega) (by omega) hs4
           (refine wpList_append_run hap rfl rfl rfl rfl ?_; clear hap)
           replace hr2 := hr2.keep (fun b hb => hg5.block b (by omega) (fun e => by have := (hown.lt b e.symm).1; omega))
           replace hb := hb.grown hg5 hb.size (fun k e => by have := (hown.lt k e).1; omega)
           replace hs4 := Nat.le_trans hs4 hg5.size
           have hR5 : Rd w5 w5.heap.size (some ⟨g, 0, none⟩) (k + 1) (vInt ((wordsI bs).map toI ++ [((bs.length : Nat) : Int)])) := (Rd.of_own hown5 (f := vInt ((wordsI bs).map toI ++ [((bs.length : Nat) : Int)])) (by
             intro j hj
             rw [← HX2.out]
             exact map_snoc_get toI (wordsI bs) _ j (by have := HW.out; omega))).2.2)
        | (go_at_call 13; ((with_reducible refine (hsum_any _ _ _ _ _ ((wordsI bs).map toI ++ [((bs.length : Nat) : Int)]) _ HL5 (by omega) (by omega) (Nat.le_refl _) hR5).mono ?_); rintro e w6 ⟨rfl, hb3⟩; replace hr2 := hr2.below hb3 hs4; replace hs4 := Nat.le_trans hs4 hb3.size; replace hb := bt hb hb3; have hb6 := hb.size; have hs46 := hs4; clear hb3 hR5))
        | (go_at_call 16; ((with_reducible refine (few_bytes _ _ _ 60 60 rfl bs _ HX2 (hr2.more hs4) hkc2 hcm2 (by decide)).mono ?_); rintro e w7 ⟨A7, c7, k7, bs7, rfl, hkc7, hcm7, hkm7, HK7, HX7, HE7, hown7, hr7, hb3⟩; replace hr2 := hr2.below hb3 hs4; replace hs4 := Nat.le_trans hs4 hb3.size; replace hb := bt hb hb3; have hs7 := hb3.size; clear hb3))
        | (at_builtin; obtain ⟨g8, c8, w8, hap, hown8, hg8, hat8, hs8⟩ := run_append_one (P := Try.prog) w7 w6.heap.size 30 30 5 i8 _ 1 Try.underlying30 hi8 hz08 hz18 hz28 rfl _ k7 _ hown7 (.int .u8 0) rfl (by unfold maxLen; omega) (by omega) hs7
           (refine wpList_append_run hap rfl rfl rfl rfl ?_; clear hap)
           have hw6 : W.heap.size ≤ w6.heap.size := hb6
           have hw46 : w4.heap.size ≤ w6.heap.size := hs46
           replace hr2 := hr2.keep (fun b hb => hg8.block b (by omega) (fun e => by have := (hown7.lt b e.symm).1; omega))
           replace hb := hb.grown hg8 hb.size (fun k e => by have := (hown7.lt k e).1; omega)
           replace hs4 := Nat.le_trans hs4 hg8.size
           have he7 : bs7 = bs := by rw [HE7.out, List.take_of_length_le (by have := HX2.out; omega)]
           have hk7 : k7 = k2 := by have := HK7.out; omega
           have hR8 : Rd w8 w8.heap.size (some ⟨g8, 0, none⟩) (k7 + 1) (vByte (bs ++ [0])) := (Rd.of_own hown8 (f := vByte (bs ++ [0])) (by
             intro j hj
             rw [he7]
             exact bytes_snoc_get bs 0 j (by have := HX2.out; omega))).2.2
           have HL8 := Lib.hid (show (bs ++ [0]).length = k7 + 1 by have := HX2.out; simp; omega)
           have hk8 : k7 + 1 ≤ c8 := (Rd.of_own hown8 (f := vByte (bs7 ++ [0])) (fun j hj => bytes_snoc_get bs7 0 j (by have := HX7.out; omega))).2.1
           clear he7 hk7 hown7 hown8 hg8 hat8 hown5 hg5 hat5)
        | (go_at_call 17; ((with_reducible refine (hbytes_any _ _ _ _ _ (bs ++ [0]) _ HL8 (by omega) hk8 (by omega) (Nat.le_refl _) hR8).mono ?_); rintro e w9 ⟨rfl, hb3⟩; replace hr2 := hr2.below hb3 hs4; replace hs4 := Nat.le_trans hs4 hb3.size; replace hb := bt hb hb3; clear hb3 hR8))
        | (go_at_call 17; ((with_reducible refine (hbytes_any _ _ _ _ _ bs _ HX2 (by omega) hkc2 (by omega) hs4 hr2).mono ?_); rintro e w10 ⟨rfl, hb3⟩; replace hb := bt hb hb3; clear hb3))
        | (go_at_call 15; ((with_reducible refine (lives_any _).mono ?_); rintro e w3 ⟨rfl, hb3⟩; replace hb := bt hb hb3; clear hb3)))
      all_goals (go_ret; exact ⟨rfl, hb⟩)

set_option maxRecDepth 100000 in
theorem HashGroups_lifted (os : Os) (started : os.Started) (H : Type) (enc : TypeId × Value → H) :
    ReturnsInHanded {} Try.checked os 8 .any (Rows.hashGroupsSpec.pre6 enc Try.prog Try.f8 Rows.hashGroupsRow.domain false) (Rows.hashGroupsSpec.post enc Try.prog Try.f8 false true false false) := by
  refine returnsInHanded_of_change (C := Try.checked) Try.own started (by kernel_rfl) Try.func8
    (ChangeSpec.witness6 (enc := enc) (C := Try.checked) false ⟨#[], #[.string ⟨#[]⟩, .slice none 0 0], []⟩ 8 (by kernel_rfl) (by kernel_rfl) (by kernel_rfl) (by kernel_rfl)) ?_
  intro W base args ds gs before hval0 hW _ _
  have hval : ∀ (j : Nat) t v, Try.f8.params[j]? = some t → args[j]? = some v → Value.okWide Try.prog W .any base t v := hval0
  have hW' := hW
  obtain ⟨p, q, hT0, hV, rfl, hfz, hnd⟩ := hW
  have hT : DataW.TrodAll enc Try.prog W 0 (fun _ => true) true Try.f8.params.toList args.toList ds p := hT0
  rw [Try.params8] at hT hval
  obtain ⟨v0, vs0, d0, ds0, p0, q0, hargs0, rfl, rfl, h0, r0⟩ := trodAll_cons hT
  obtain ⟨v1, vs1, d1, ds1, p1, q1, hargs1, rfl, rfl, h1, r1⟩ := trodAll_cons r0
  obtain ⟨rfl, rfl, rfl⟩ := trodAll_nil r1
  obtain rfl : args = #[v0, v1] := by cases args; simp_all
  obtain ⟨s0, rfl, -, -, hs0⟩ := open_string Try.underlying9 (hval 0 9 v0 rfl rfl) h0
  obtain ⟨A1, n1, c1, f1, rfl, hA1, hn1, hc1, hR1, hw1⟩ := open_sl Try.underlying30 Try.underlying5 (by kernel_rfl) (hval 1 30 v1 rfl rfl) h1
  refine (HashGroups_walk W s0 (by simpa [maxLen] using hs0) A1 n1 c1 f1 hA1 hn1 hc1 hR1 hw1).mono fun e W' ⟨he, hb⟩ => ?_
  subst he
  exact ⟨_, rfl, law_post Try.laidOut (by kernel_rfl) (by kernel_rfl) Try.underlying4 rfl hW' rfl hb⟩

theorem HashGroups_holds : Rows.HashGroupsSaid :=
  OpenClaim.holds_of_wide 8 Try.f8 rfl rfl rfl rfl rfl rfl rfl ⟨rfl, rfl, rfl, rfl, rfl⟩ rfl rfl rfl rfl rfl (by kernel_rfl) Try.func8 (by kernel_rfl)
    (of_decide_eq_true (by kernel_rfl)) (by unfold Func.isWrapper; first | (rw [if_pos (by decide +kernel)]; kernel_rfl) | (rw [if_neg (by decide +kernel)]; exact ⟨rfl, rfl⟩))
    (fun os started H enc _ => HashGroups_lifted os started H enc)

end Go.Proofs.Ytapihehmlihdaaa
