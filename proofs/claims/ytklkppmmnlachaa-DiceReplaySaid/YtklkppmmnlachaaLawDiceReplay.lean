/- For every seed, position and list of integers worldmintlaw04.DiceReplay returns true. No condition. -/
import Derived.Test.YtklkppmmnlachaaDiceLives
import Derived.Test.YtklkppmmnlachaaDiceRefRoll
import Derived.Test.YtklkppmmnlachaaRefHelp
import Derived.Test.YtklkppmmnlachaaHashInj
import Derived.Deep.RegionHeld3
import Derived.Test.YtklkppmmnlachaaLaw
namespace Go.Proofs.Ytklkppmmnlachaa
open Go.ChangeShapes Go.WideShapes Go.ChangeAt Go.RowKit Go.ChangeMaps

theorem own_only {w w' : World} {base e size n g : Nat} {v : Value} {xs : List Value} (h : w.ownsRow base e size v n xs) (hg : w.grownBy w' (some g)) (hb : g < base) : w'.ownsRow base e size v n xs :=
  h.kept hg (by
    rcases h.2 with ⟨rfl, _⟩ | ⟨g', cap, cur, rfl, hge, _⟩
    · exact .inl rfl
    · exact .inr (by simp [Value.ownBlock]; omega))
def atSeq (key at_ : Int) (f : Nat → Int) : Nat → Int | 0 => at_ | j + 1 => rollAt key (atSeq key at_ f j) (sidesI (f j))
theorem rollAt_in {key at_ n : Int} (h : -9223372036854775808 ≤ at_ ∧ at_ ≤ 9223372036854775807) : -9223372036854775808 ≤ rollAt key at_ n ∧ rollAt key at_ n ≤ 9223372036854775807 := by
  unfold rollAt
  split
  · exact h
  · split
    all_goals (unfold atAdd wrap64; omega)
theorem atSeq_in {key at_ : Int} {f : Nat → Int} (h : -9223372036854775808 ≤ at_ ∧ at_ ≤ 9223372036854775807) (j : Nat) : -9223372036854775808 ≤ atSeq key at_ f j ∧ atSeq key at_ f j ≤ 9223372036854775807 := by
  induction j with
  | zero => exact h
  | succ j ih => exact rollAt_in ih
def firstL (key at_ : Int) (f : Nat → Int) (j : Nat) : List Int := (List.range j).map fun i => rollVal key (atSeq key at_ f i) (sidesI (f i))
theorem firstL_succ (key at_ : Int) (f : Nat → Int) (j : Nat) : firstL key at_ f (j + 1) = firstL key at_ f j ++ [rollVal key (atSeq key at_ f j) (sidesI (f j))] := by
  unfold firstL
  rw [List.range_succ, List.map_append]
  rfl
theorem firstL_get (key at_ : Int) (f : Nat → Int) {n j : Nat} (h : j < n) : (firstL key at_ f n)[j]?.getD 0 = rollVal key (atSeq key at_ f j) (sidesI (f j)) := by
  unfold firstL
  simp [h]
theorem rollErr_sides (key at_ n : Int) : (rollErr key at_ (sidesI n) = 0 ∨ rollErr key at_ (sidesI n) = 4) := by
  have := sidesI_range n
  unfold rollErr
  rw [if_neg (by omega)]
  split <;> simp

set_option maxRecDepth 100000 in
set_option maxHeartbeats 1000000 in
theorem DiceReplay_walk (W : World) (A0 : Option Addr) (n0 c0 : Nat) (f0 : Nat → Int) (hA0 : A0 = none → n0 = 0) (hn0 : n0 ≤ c0) (hc0 : c0 ≤ 9223372036854775807) (hR0 : Rd W W.heap.size A0 n0 (fun j => .int .u8 (f0 j))) (hw0 : Hid (∀ j, j < n0 → (Lit.int .u8 (f0 j)).wf = true)) (a1 : Int) (ha1 : Hid ((Lit.int .i64 a1).wf = true)) (A2 : Option Addr) (n2 c2 : Nat) (f2 : Nat → Int) (_hA2 : A2 = none → n2 = 0) (_hn2 : n2 ≤ c2) (_hc2 : c2 ≤ 9223372036854775807) (hR2 : Rd W W.heap.size A2 n2 (fun j => .int .i64 (f2 j))) (hw2 : Hid (∀ j, j < n2 → (Lit.int .i64 (f2 j)).wf = true)) :
    Calls Try.prog 4 #[.slice A0 n0 c0, .int .i64 a1, .slice A2 n2 c2] W fun e w' => e = .returned (.bool true) ∧ Below W.heap.size W w' := by
  have HAT := Lib.hid (wf_i64 ha1.out)
  obtain ⟨i0, hi, hz0, hz1, hz2⟩ := info_parts infoInt
  have hb := Below.refl W.heap.size W
  go_enter Try.func4, Try.ntmps4
  go_wp2_with fail
  refine (few_list _ _ _ 20 20 rfl _ _ hA0 hR0 hn0 hc0 (by decide) (bytes_wf hw0)).mono ?_
  rintro e w2 ⟨As, cs, k2, bs, rfl, hkc2, hcm2, hkm2, HK2, HX2, HE2, hown2, hr2, hb1⟩
  replace hb := bt hb hb1
  clear hb1
  have HW2 := Lib.hid hb.size
  have HG := Lib.hid (fun h : 0 < k2 => own_some hown2 h)
  go_wp2_with fail
  refine (few_list _ _ _ 20 20 rfl _ _ hA0 (hR0.all hb) hn0 hc0 (by decide) (bytes_wf hw0)).mono ?_
  rintro e w3 ⟨A3, c3, k3, bs3, rfl, hkc3, hcm3, hkm3, HK3, HX3, HE3, -, hr3, hb1⟩
  obtain rfl : k3 = k2 := by rw [HK3.out, HK2.out]
  obtain rfl : bs3 = bs := by rw [HE3.out, HE2.out]
  replace hown2 := own_keep hown2 hb1
  replace hr2 := hr2.all hb1
  have hs3 : w2.heap.size ≤ w3.heap.size := hb1.size
  replace hb := bt hb hb1
  clear hb1
  go_wp2_with fail
  refine (dnew_any ⟨#[97]⟩ _ _ _ bs3 _ HX2 (by decide) hkc2 (by omega) hr2).mono ?_
  rintro e w4 ⟨gd, rfl, hgd, HD, hb1⟩
  have hs4 : w3.heap.size ≤ w4.heap.size := hb1.size
  replace hown2 := own_keep hown2 hb1
  replace hr3 := hr3.all hb1
  replace hb := bt hb hb1
  clear hb1 hr2
  go_wp2_with fail
  refine (dnew_any ⟨#[97]⟩ _ _ _ bs3 _ HX2 (by decide) hkc3 (by omega) hr3).mono ?_
  rintro e w5 ⟨gc, rfl, hgc, HC, hb1⟩
  have hlt4 : gd < w4.heap.size := Blk.lt HD
  have hne : gd ≠ gc := by omega
  have hs5 : w4.heap.size ≤ w5.heap.size := hb1.size
  replace hown2 := own_keep hown2 hb1
  replace HD : Die w5 gd (bytesI (ByteArray.mk #[97]).data.toList bs3) 0 := Blk.all HD hb1
  replace hb := bt hb hb1
  clear hb1 hr3
  generalize bytesI (ByteArray.mk #[97]).data.toList bs3 = key at *
  go_wp2_with fail
  go_loopw [11] (fun i wr => ∃ j : Nat, j ≤ k3 ∧ i = .int .i64 (j : Int) ∧ (∃ bs1 : List UInt8, wr.ownsRow W.heap.size 5 1 (.slice As k3 cs) k3 (bs1.map fun b => Value.int .u8 ((b.toNat : Nat) : Int))) ∧ Die wr gd key 0 ∧ Die wr gc key 0 ∧ Below W.heap.size W wr) (fun i _ => k3 - (intOf i).toNat)
  case atStart => exact ⟨0, by omega, rfl, ⟨_, hown2⟩, HD, HC, hb⟩
  case round =>
    clear hown2 HD HC hb
    obtain ⟨j, hj, rfl, ⟨bs1, hown⟩, HD, HC, hb⟩ := hrel
    by_cases hlt : j < k3
    · obtain ⟨g, rfl, hg1, hg2⟩ := HG.out (by omega)
      obtain ⟨hcl, hfz⟩ := own_byte hown hlt
      have hi0 : (0 : Int) ≤ (j : Int) := by omega
      have hi1 : (j : Int) < (k3 : Int) := by omega
      go_wp2_with fail
      have e1 : ((((bs1[j]?.getD 0).toNat : Nat) : Int) + 1) % 256 = ((((bs1[j]?.getD 0) + 1).toNat : Nat) : Int) := by rw [UInt8.toNat_add]; simp
      have hst := own_byte_set hown j ((bs1[j]?.getD 0) + 1)
      rw [e1]
      refine ⟨⟨j + 1, by omega, by go_num, ⟨_, hst⟩, Blk.far HD (by simp; omega) _, Blk.far HC (by simp; omega) _, hb.setCell (by simpa using hg1) _⟩, by simp [intOf]; omega⟩
    · obtain rfl : j = k3 := by omega
      clear hown
      have hWd : W.heap.size ≤ w2.heap.size := HW2.out
      replace HD := Lib.hid HD
      go_wp2_with fail
      refine (seek_any gd _ _ _ _ HD).mono ?_
      rintro e w6 ⟨rfl, HD2, hg3⟩
      replace HC := Lib.hid (Blk.grown HC hg3 (by simp; omega))
      replace hb := below_of_only hb hg3 hb.size (by omega)
      clear hg3 HD
      go_wp2_with fail
      refine (seek_any gc _ _ _ _ HC).mono ?_
      rintro e wl ⟨rfl, HC2, hg3⟩
      replace HD2 := Blk.grown HD2 hg3 (by simp; omega)
      replace hb := below_of_only hb hg3 hb.size (by omega)
      have hdl : gd < wl.heap.size := Blk.lt HD2
      have hcl : gc < wl.heap.size := Blk.lt HC2
      clear hg3 HC
      go_wp2_with fail
      go_loopw [12, 13, 14, 15] (fun v i _ _ wr => ∃ j : Nat, j ≤ n2 ∧ j ≤ 12 ∧ i = .int .i64 (j : Int) ∧ wr.ownsRow wl.heap.size 3 1 v j ((firstL key a1 f2 j).map (Value.int .i64)) ∧ Die wr gd key (atSeq key a1 f2 j) ∧ Die wr gc key a1 ∧ Below W.heap.size W wr ∧ wl.heap.size ≤ wr.heap.size) (fun _ i _ _ _ => 12 - (intOf i).toNat)
      case atStart => exact ⟨0, by omega, by omega, rfl, World.ownsRow_nil _ _ _ _, HD2, HC2, hb, Nat.le_refl _⟩
      case round =>
        clear HD2 HC2 hb
        obtain ⟨j, hj, hj12, rfl, hown, HD, HC, hb, hsw⟩ := hrel
        by_cases hlt : j < n2 ∧ j < 12
        · obtain ⟨hl1, hl2⟩ := hlt
          obtain ⟨b, off, rfl, hbB, hc⟩ := (hR2.below hb (Nat.le_refl _)).at_ hl1
          have hi0 : (0 : Int) ≤ (j : Int) := by omega
          have hi1 : (j : Int) < (n2 : Int) := by omega
          have hi2 : (j : Int) < 12 := by omega
          obtain ⟨hf0, hf1⟩ := wf_i64 (hw2.out j hl1)
          have hsd := sidesI_range (f2 j)
          go_wp2_with (first
            | (go_at_call 18; ((with_reducible refine (sides_any _ _ hf0 hf1).mono ?_); rintro e w' ⟨rfl, rfl⟩)))
          refine (roll_any gd _ _ _ _ (Lib.hid HD) (Lib.hid (atSeq_in HAT.out j)) (by omega)).mono ?_
          rintro e w8 ⟨rfl, HD2, hg3⟩
          replace HC := Blk.grown HC hg3 (by simp; omega)
          replace hb := below_of_only hb hg3 hb.size (by omega)
          replace hown := own_only hown hg3 hdl
          have hsw8 : wl.heap.size ≤ w8.heap.size := Nat.le_trans hsw hg3.size
          clear hg3 HD hc
          rcases rollErr_sides key (atSeq key a1 f2 j) (f2 j) with he | he
          all_goals go_wp2_with (first
            | (at_builtin; obtain ⟨g, c9, w9, hap, hown9, hg9, hat9, hs9⟩ := run_append_one (P := Try.prog) w8 wl.heap.size 29 29 3 i0 _ 8 Try.underlying29 hi hz0 hz1 hz2 rfl _ j _ hown (.int .i64 (rollVal key (atSeq key a1 f2 j) (sidesI (f2 j)))) rfl (by unfold maxLen; omega) (by omega) hsw8
               (refine wpList_append_run hap rfl rfl rfl rfl ?_; clear hap)))
          all_goals refine ⟨⟨j + 1, by omega, by omega, by go_num, ?_, Blk.grown HD2 hg9 (fun e => by have := (hown.lt gd e.symm).1; omega), Blk.grown HC hg9 (fun e => by have := (hown.lt gc e.symm).1; omega), hb.grown hg9 hb.size (fun k e => by have := (hown.lt k e).1; omega), by omega⟩, by simp [intOf]; omega⟩
          all_goals (rw [firstL_succ, List.map_append]; exact hown9)
        · obtain ⟨Af, cf, rfl⟩ := own_slice hown
          rcases (show n2 ≤ j ∨ (j < n2 ∧ 12 ≤ j) by omega) with hjn | ⟨hjn, hjm⟩
          all_goals go_wp2_with fail
          all_goals refine (at_any gd _ _ _ (Lib.hid HD)).mono ?_
          all_goals rintro e w' ⟨rfl, rfl⟩
          all_goals go_wp2_with fail
          all_goals refine (seek_any gd _ _ _ _ (Lib.hid HD)).mono ?_
          all_goals rintro e wm ⟨rfl, HD2, hg3⟩
          all_goals replace HC := Blk.grown HC hg3 (by simp; omega)
          all_goals replace hb := below_of_only hb hg3 hb.size (by omega)
          all_goals replace hown := own_only hown hg3 hdl
          all_goals have hswm : wl.heap.size ≤ wm.heap.size := Nat.le_trans hsw hg3.size
          all_goals clear hg3 HD
          all_goals go_wp2_with fail
          all_goals go_loopw [17, 18, 19, 20, 21] (fun i _ _ _ _ wr => ∃ m : Nat, m ≤ j ∧ i = .int .i64 (m : Int) ∧ wr.ownsRow wl.heap.size 3 1 (.slice Af j cf) j ((firstL key a1 f2 j).map (Value.int .i64)) ∧ Die wr gd key (atSeq key a1 f2 m) ∧ Die wr gc key (atSeq key a1 f2 m) ∧ Below W.heap.size W wr ∧ wl.heap.size ≤ wr.heap.size) (fun i _ _ _ _ _ => j - (intOf i).toNat)
          case atStart => exact ⟨0, by omega, rfl, hown, HD2, HC, hb, hswm⟩
          case atStart => exact ⟨0, by omega, rfl, hown, HD2, HC, hb, hswm⟩
          all_goals clear HD2 HC hb hown hswm
          all_goals obtain ⟨m, hm, rfl, hown, HD, HC, hb, hswm⟩ := hrel
          all_goals rcases (show m < j ∨ m = j by omega) with hmj | hmj
          all_goals first
            | (obtain ⟨b, off, rfl, hbB, hcW⟩ := hR2.at_ (show m < n2 by omega)
               have hc := (hb.cell (p := ⟨b, off + m, none⟩) hbB).trans hcW
               have hi0 : (0 : Int) ≤ (m : Int) := by omega
               have hi1 : (m : Int) < (n2 : Int) := by omega
               have hi2 : (m : Int) < (j : Int) := by omega
               obtain ⟨hf0, hf1⟩ := wf_i64 (hw2.out m (by omega))
               have hsd := sidesI_range (f2 m)
               obtain ⟨gf, rfl, hgf, hgf2⟩ := own_some hown (by omega)
               go_wp2_with (first | (go_at_call 18; ((with_reducible refine (sides_any _ _ hf0 hf1).mono ?_); rintro e w' ⟨rfl, rfl⟩)))
               refine (roll_any gd _ _ _ _ (Lib.hid HD) (Lib.hid (atSeq_in HAT.out m)) (by omega)).mono ?_
               rintro e w8 ⟨rfl, HD2, hg3⟩
               replace HC := Blk.grown HC hg3 (by simp; omega)
               replace hb := below_of_only hb hg3 hb.size (by omega)
               replace hown := own_only hown hg3 hdl
               replace hswm := Nat.le_trans hswm hg3.size
               replace hc := (hb.cell (p := ⟨b, off + m, none⟩) hbB).trans hcW
               clear hg3 HD
               go_wp2_with (first | (go_at_call 18; ((with_reducible refine (sides_any _ _ hf0 hf1).mono ?_); rintro e w' ⟨rfl, rfl⟩)))
               refine (roll_any gc _ _ _ _ (Lib.hid HC) (Lib.hid (atSeq_in HAT.out m)) (by omega)).mono ?_
               rintro e w9 ⟨rfl, HC2, hg3⟩
               replace HD2 := Blk.grown HD2 hg3 (by simp; omega)
               replace hb := below_of_only hb hg3 hb.size (by omega)
               replace hown := own_only hown hg3 hcl
               replace hswm := Nat.le_trans hswm hg3.size
               clear hg3 HC hc
               obtain ⟨hcf, -⟩ := own_int hown hmj
               rw [firstL_get key a1 f2 hmj] at hcf
               have d1 : (rollVal key (atSeq key a1 f2 m) (sidesI (f2 m)) != rollVal key (atSeq key a1 f2 m) (sidesI (f2 m))) = false := by simp
               go_wp2_with fail
               exact ⟨⟨m + 1, by omega, by go_num, hown, HD2, HC2, hb, hswm⟩, by simp [intOf]; omega⟩)
            | (obtain rfl := hmj
               go_wp2_with (first
                 | (go_at_call 19; ((with_reducible refine (at_any gd _ _ _ (Lib.hid HD)).mono ?_); rintro e w' ⟨rfl, rfl⟩))
                 | (go_at_call 19; ((with_reducible refine (at_any gc _ _ _ (Lib.hid HC)).mono ?_); rintro e w' ⟨rfl, rfl⟩))
                 | (go_at_call 13; ((with_reducible refine (lives4_any _).mono ?_); rintro e w3 ⟨rfl, hb3⟩; replace hb := bt hb hb3; clear hb3)))
               go_ret
               exact ⟨rfl, hb⟩)

set_option maxRecDepth 100000 in
theorem DiceReplay_lifted (os : Os) (started : os.Started) (H : Type) (enc : TypeId × Value → H) :
    ReturnsInHanded {} Try.checked os 4 .any (Rows.diceReplaySpec.pre6 enc Try.prog Try.f4 Rows.diceReplayRow.domain false) (Rows.diceReplaySpec.post enc Try.prog Try.f4 false true false false) := by
  refine returnsInHanded_of_change (C := Try.checked) Try.own started (by kernel_rfl) Try.func4
    (ChangeSpec.witness6 (enc := enc) (C := Try.checked) false ⟨#[], #[.slice none 0 0, .int .i64 0, .slice none 0 0], []⟩ 8 (by kernel_rfl) (by kernel_rfl) (by kernel_rfl) (by kernel_rfl)) ?_
  intro W base args ds gs before hval0 hW _ _
  have hval : ∀ (j : Nat) t v, Try.f4.params[j]? = some t → args[j]? = some v → Value.okWide Try.prog W .any base t v := hval0
  have hW' := hW
  obtain ⟨p, q, hT0, hV, rfl, hfz, hnd⟩ := hW
  have hT : DataW.TrodAll enc Try.prog W 0 (fun _ => true) true Try.f4.params.toList args.toList ds p := hT0
  rw [Try.params4] at hT hval
  obtain ⟨v0, vs0, d0, ds0, p0, q0, hargs0, rfl, rfl, h0, r0⟩ := trodAll_cons hT
  obtain ⟨v1, vs1, d1, ds1, p1, q1, hargs1, rfl, rfl, h1, r1⟩ := trodAll_cons r0
  obtain ⟨v2, vs2, d2, ds2, p2, q2, hargs2, rfl, rfl, h2, r2⟩ := trodAll_cons r1
  obtain ⟨rfl, rfl, rfl⟩ := trodAll_nil r2
  obtain rfl : args = #[v0, v1, v2] := by cases args; simp_all
  obtain ⟨A0, n0, c0, f0, rfl, hA0, hn0, hc0, hR0, hw0⟩ := open_sl Try.underlying28 Try.underlying5 (by kernel_rfl) (hval 0 28 v0 rfl rfl) h0
  obtain ⟨a1, rfl, -, -, w1⟩ := open_int Try.underlying3 (hval 1 3 v1 rfl rfl) h1
  obtain ⟨A2, n2, c2, f2, rfl, hA2, hn2, hc2, hR2, hw2⟩ := open_sl Try.underlying29 Try.underlying3 (by kernel_rfl) (hval 2 29 v2 rfl rfl) h2
  refine (DiceReplay_walk W A0 n0 c0 f0 hA0 hn0 hc0 hR0 hw0 a1 w1 A2 n2 c2 f2 hA2 hn2 hc2 hR2 hw2).mono fun e W' ⟨he, hb⟩ => ?_
  subst he
  exact ⟨_, rfl, law_post Try.laidOut (by kernel_rfl) (by kernel_rfl) Try.underlying4 rfl hW' rfl hb⟩

theorem DiceReplay_holds : Rows.DiceReplaySaid :=
  OpenClaim.holds_of_wide 4 Try.f4 rfl rfl rfl rfl rfl rfl rfl ⟨rfl, rfl, rfl, rfl, rfl⟩ rfl rfl rfl rfl rfl (by kernel_rfl) Try.func4 (by kernel_rfl)
    (of_decide_eq_true (by kernel_rfl)) (by unfold Func.isWrapper; first | (rw [if_pos (by decide +kernel)]; kernel_rfl) | (rw [if_neg (by decide +kernel)]; exact ⟨rfl, rfl⟩))
    (fun os started H enc _ => DiceReplay_lifted os started H enc)

end Go.Proofs.Ytklkppmmnlachaa
