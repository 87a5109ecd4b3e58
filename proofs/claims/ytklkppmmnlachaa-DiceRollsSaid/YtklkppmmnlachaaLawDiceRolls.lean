/- For every seed, label and list of integers worldmintlaw04.DiceRolls returns true. No condition. -/
import Derived.Test.YtklkppmmnlachaaDiceLives
import Derived.Test.YtklkppmmnlachaaDiceRefRoll
import Derived.Test.YtklkppmmnlachaaRefHelp
import Derived.Test.YtklkppmmnlachaaHashInj
import Derived.Deep.RegionHeld3
import Derived.Test.YtklkppmmnlachaaDiceJoin
import Derived.Test.YtklkppmmnlachaaWireRound
import Derived.Test.YtklkppmmnlachaaDiceShufP
import Derived.Test.YtklkppmmnlachaaDiceTwo
import Derived.IntWalk
import Derived.Test.YtklkppmmnlachaaLaw
namespace Go.Proofs.Ytklkppmmnlachaa
open Go.ChangeShapes Go.WideShapes Go.ChangeAt Go.RowKit Go.ChangeMaps


set_option maxRecDepth 100000 in
set_option maxHeartbeats 8000000 in
theorem DiceRolls_walk (W : World) (A0 : Option Addr) (n0 c0 : Nat) (f0 : Nat → Int) (hA0 : A0 = none → n0 = 0) (hn0 : n0 ≤ c0) (hc0 : c0 ≤ 9223372036854775807) (hR0 : Rd W W.heap.size A0 n0 (fun j => .int .u8 (f0 j))) (hw0 : Hid (∀ j, j < n0 → (Lit.int .u8 (f0 j)).wf = true)) (s1 : ByteArray) (hs1 : s1.size ≤ 9223372036854775807) (A2 : Option Addr) (n2 c2 : Nat) (f2 : Nat → Int) (_hA2 : A2 = none → n2 = 0) (_hn2 : n2 ≤ c2) (hc2 : c2 ≤ 9223372036854775807) (hR2 : Rd W W.heap.size A2 n2 (fun j => .int .i64 (f2 j))) (hw2 : Hid (∀ j, j < n2 → (Lit.int .i64 (f2 j)).wf = true)) :
    Calls Try.prog 8 #[.slice A0 n0 c0, .string s1, .slice A2 n2 c2] W fun e w' => e = .returned (.bool true) ∧ Below W.heap.size W w' := by
  have hb := Below.refl W.heap.size W
  go_enter Try.func8, Try.ntmps8
  go_wp2_with fail
  refine (few_list _ _ _ 20 20 rfl _ _ hA0 hR0 hn0 hc0 (by decide) (bytes_wf hw0)).mono ?_
  rintro e w2 ⟨As, cs, k2, bs, rfl, hkc2, hcm2, hkm2, HK2, HX2, HE2, hown2, hr2, hb1⟩
  replace hb := bt hb hb1
  clear hb1
  have HSB := Lib.hid (show ∀ b off, As = some ⟨b, off, none⟩ → 0 < k2 → b < w2.heap.size from fun b off e h => by
    obtain ⟨g, e', -, h2⟩ := own_some hown2 h
    rw [e] at e'
    cases e'
    exact h2)
  clear hown2
  go_wp2_with (first | (go_at_call 20; ((with_reducible refine (short_any _ 10 10 rfl _ hs1 (by decide)).mono ?_); rintro e w' ⟨rfl, rfl⟩)))
  have hls : (shortB s1 10).size ≤ 10 := by rw [shortB_size]; omega
  generalize shortB s1 10 = s at *
  go_wp2_with fail
  refine (dnew_any s _ _ _ bs _ HX2 (by omega) hkc2 (by omega) hr2).mono ?_
  rintro e w4 ⟨gd, rfl, hgd, HD, hb1⟩
  have hWd : W.heap.size ≤ gd := Nat.le_trans hb.size hgd
  replace hb := bt hb hb1
  replace hr2 := hr2.all hb1
  have hgl : gd < w4.heap.size := Blk.lt HD
  have hs4 : w2.heap.size ≤ w4.heap.size := hb1.size
  clear hb1
  obtain ⟨key, hkey⟩ : ∃ key, bytesI s.data.toList bs = key := ⟨_, rfl⟩
  rw [hkey] at HD
  have HKEY := Lib.hid hkey
  clear hkey
  have hT : Two W gd w4.heap.size key As k2 cs bs s (w4.alloc (.cells #[.slice As k2 cs, .string s, .int .i64 0] 54)) 0 0 :=
    ⟨Blk.alloc HD _, Blk.new _ _ _, (hr2.alloc (Nat.le_refl _) _).more (by simp), hb.alloc hb.size _, by omega, hWd, hb.size, fun b off e h => by have := HSB.out b off e h; omega, fun b off e h => by have := HSB.out b off e h; omega⟩
  clear HD hb hr2
  go_wp2_with fail
  generalize w4.heap.size = gm at *
  clear hgd hgl hs4 HSB HE2 HK2 hWd hR0 hw0 hn0 hc0 hA0
  go_loopw [11] (fun i wr => ∃ (p : Nat) (a : Int), p ≤ 62 ∧ i = .int .i64 (p : Int) ∧ Two W gd gm key As k2 cs bs s wr a a ∧ Hid (-9223372036854775808 ≤ a ∧ a ≤ 9223372036854775807)) (fun i _ => 63 - (intOf i).toNat)
  case atStart => exact ⟨0, 0, by omega, rfl, hT, Lib.hid (by omega)⟩
  case round =>
    clear hT
    obtain ⟨p, a, hj, rfl, hT, hat⟩ := hrel
    by_cases hlt : p + 2 < n2 ∧ p < 60
    · obtain ⟨hl1, hl2⟩ := hlt
      have hi0 : (p : Int) + 2 < (n2 : Int) := by omega
      have hi1 : (p : Int) < 60 := by omega
      obtain ⟨b, off, rfl, hbB, hcs⟩ := hR2 (by omega)
      have HC0 := Lib.hid (fun (w' : World) (h : Below W.heap.size W w') => ((h.cell (p := ⟨b, off + p, none⟩) hbB).trans (hcs p (by omega))))
      have HC1 := Lib.hid (fun (w' : World) (h : Below W.heap.size W w') => ((h.cell (p := ⟨b, off + (p + 1), none⟩) hbB).trans (hcs (p + 1) (by omega))))
      have HC2 := Lib.hid (fun (w' : World) (h : Below W.heap.size W w') => ((h.cell (p := ⟨b, off + (p + 2), none⟩) hbB).trans (hcs (p + 2) (by omega))))
      obtain ⟨f00, f01⟩ := wf_i64 (hw2.out p (by omega))
      obtain ⟨f10, f11⟩ := wf_i64 (hw2.out (p + 1) (by omega))
      obtain ⟨f20, f21⟩ := wf_i64 (hw2.out (p + 2) (by omega))
      have HCS := Lib.hid hcs
      clear hcs
      have hc0 := HC0.out _ hT.below
      go_wp2_with fail
      refine (around_nat _ 6 6 _ rfl f00 f01 (by decide) (by decide)).mono ?_
      rintro e w3 ⟨k, rfl, hk, -, rfl⟩
      have hc1 := HC1.out _ hT.below
      have hc2 := HC2.out _ hT.below
      clear hc0
      rcases (show k = 0 ∨ k = 1 ∨ k = 2 ∨ k = 3 ∨ k = 4 ∨ k = 5 by omega) with rfl | rfl | rfl | rfl | rfl | rfl
      · as_aux_lemma =>
        go_wp2_with (first | (go_at_call 18; ((with_reducible refine (sides_any _ _ f10 f11).mono ?_); rintro e w3 ⟨rfl, rfl⟩)))
        have hsd := sidesI_range (f2 (p + 1))
        generalize sidesI (f2 (p + 1)) = n at *
        go_wp2_with fail
        refine (roll_any gd key _ _ _ (Lib.hid hT.die) hat (by omega)).mono ?_
        rintro e w3 ⟨rfl, HD, hg⟩
        replace hT := hT.real HD hg
        clear HD hg hc1 hc2
        have hc1 := HC1.out _ hT.below
        go_wp2_with fail
        refine (rroll_any gm _ _ _ bs s _ _ _ (Lib.hid hT.rdie) hat (by omega) HX2 (by omega) hkc2 (by omega) hT.rd).mono ?_
        rw [HKEY.out]
        rintro e w3 ⟨rfl, HD, hg⟩
        replace hT := hT.ref HD hg
        clear HD hg hc1
        go_wp2_with fail
        have hcm := hT.cell
        have HDD := Lib.hid hT.die
        go_quiet ((go_at_call 19; exact (at_any gd key _ _ (die_drewN HDD _)).mono (fun e w'' h => ⟨h.1, _, h.2.symm⟩)))
        go_wp2
        exact ⟨⟨p + 3, _, by omega, by go_num, hT.drewN _, Lib.hid (rollAt_range hat.out)⟩, by simp [intOf]; omega⟩
      · as_aux_lemma =>
        go_wp2_with fail
        refine (roll_any gd key _ _ _ (Lib.hid hT.die) hat (by omega)).mono ?_
        rintro e w3 ⟨rfl, HD, hg⟩
        replace hT := hT.real HD hg
        clear HD hg hc1 hc2
        have hc1 := HC1.out _ hT.below
        go_wp2_with fail
        refine (rroll_any gm _ _ _ bs s _ _ _ (Lib.hid hT.rdie) hat (by omega) HX2 (by omega) hkc2 (by omega) hT.rd).mono ?_
        rw [HKEY.out]
        rintro e w3 ⟨rfl, HD, hg⟩
        replace hT := hT.ref HD hg
        clear HD hg hc1
        go_wp2_with fail
        have hcm := hT.cell
        have HDD := Lib.hid hT.die
        go_quiet ((go_at_call 19; exact (at_any gd key _ _ (die_drewN HDD _)).mono (fun e w'' h => ⟨h.1, _, h.2.symm⟩)))
        go_wp2
        exact ⟨⟨p + 3, _, by omega, by go_num, hT.drewN _, Lib.hid (rollAt_range hat.out)⟩, by simp [intOf]; omega⟩
      · as_aux_lemma =>
        go_wp2_with fail
        refine (around_nat _ 12 12 _ rfl f10 f11 (by decide) (by decide)).mono ?_
        rintro e w3 ⟨x, rfl, hx, -, rfl⟩
        go_wp2_with fail
        refine (around_nat _ 12 12 _ rfl f20 f21 (by decide) (by decide)).mono ?_
        rintro e w3 ⟨y, rfl, hy, -, rfl⟩
        go_wp2_with fail
        refine (hit_any gd key _ _ _ _ (Lib.hid hT.die) hat (by omega)).mono ?_
        rintro e w3 ⟨rfl, HD, hg⟩
        replace hT := hT.real HD hg
        clear HD hg hc1 hc2
        go_wp2_with fail
        refine (rhit_any gm _ _ _ bs s _ _ _ _ (Lib.hid hT.rdie) hat (by omega) HX2 (by omega) hkc2 (by omega) hT.rd).mono ?_
        rw [HKEY.out]
        rintro e w3 ⟨rfl, HD, hg⟩
        replace hT := hT.ref HD hg
        clear HD hg
        go_wp2_with fail
        have hcm := hT.cell
        have HDD := Lib.hid hT.die
        go_quiet ((go_at_call 19; exact (at_any gd key _ _ (die_drewN HDD _)).mono (fun e w'' h => ⟨h.1, _, h.2.symm⟩)))
        go_wp2
        exact ⟨⟨p + 3, _, by omega, by go_num, hT.drewN _, Lib.hid (hitAt_range hat.out)⟩, by simp [intOf]; omega⟩
      · as_aux_lemma =>
        go_wp2_with fail
        have HRT := Lib.hid (fun (w' : World) (h : Below W.heap.size W w') => (show Rd w' w'.heap.size (some ⟨b, off + (p + 1), none⟩) (n2 - (p + 1)) (fun j => .int .i64 (f2 (p + 1 + j))) from fun _ => ⟨b, off + (p + 1), rfl, Nat.lt_of_lt_of_le hbB h.size, fun j hj => by
          have := (h.cell (p := ⟨b, off + (p + 1 + j), none⟩) hbB).trans (HCS.out (p + 1 + j) (by omega))
          rwa [show off + (p + 1 + j) = off + (p + 1) + j by omega] at this⟩))
        have hgm : gm < wr.heap.size := Blk.lt hT.rdie
        have hgd : gd < wr.heap.size := Blk.lt hT.die
        refine (ints_list _ _ _ 3 3 rfl (fun j => f2 (p + 1 + j)) _ (by intro h; cases h) (HRT.out _ hT.below) (by omega) (by omega) (by decide)).mono ?_
        rintro e w3 ⟨A1, d1, k1, xs, rfl, hkd, hdm, hk1, HK1, HX1, HE1, hown1, hr1, hb1⟩
        have HNE := Lib.hid (show ∀ b off, A1 = some ⟨b, off, none⟩ → 0 < k1 → wr.heap.size ≤ b from fun b off e h => by
          obtain ⟨g, e', h2, -⟩ := own_some hown1 h
          rw [e] at e'
          cases e'
          exact h2)
        have HIN := Lib.hid (show ∀ j, -9223372036854775808 ≤ elW xs j ∧ elW xs j ≤ 9223372036854775807 from fun j => by
          unfold elW
          rw [HE1.out, List.getElem?_map]
          by_cases hj : j < k1
          · have hle : k1 ≤ n2 - (p + 1) := by rw [HK1.out]; omega
            have := wf_i64 (hw2.out (p + 1 + j) (by omega))
            simpa [hj] using this
          · simp [hj])
        replace hT := hT.all hb1
        clear hb1 hown1 HE1 HK1 hc1 hc2 HRT
        have hc1 := HC1.out _ hT.below
        have hc2 := HC2.out _ hT.below
        have ab9 := aroundI_range (f2 (p + 1)) 9 (by decide)
        have ab1000 := aroundI_range (f2 (p + 2)) 1000 (by decide)
        have ab2 := aroundI_range (f2 (p + 1)) 2 (by decide)
        obtain ⟨r, hr⟩ : ∃ r, (f2 (p + 2)).tmod 4 = r := ⟨_, rfl⟩
        cases h4 : (r == 0)
        · have h4' : (r != 0) = true := by simp [bne, h4]
          clear hr1 HX1 HIN HNE
          have e1 : IntKind.i64.wrap ((p : Int) + 1) = (p : Int) + 1 := IntWalk.i64_in _ (by omega)
          have e2 : IntKind.i64.wrap ((p : Int) + 2) = (p : Int) + 2 := IntWalk.i64_in _ (by omega)
          have e3 : (0 : Int) ≤ (p : Int) + 1 := by omega
          have e4 : (0 : Int) ≤ (p : Int) + 2 := by omega
          have e5 : ((p : Int) + 1).toNat = p + 1 := by omega
          have e6 : ((p : Int) + 2).toNat = p + 2 := by omega
          have e7 : (p : Int) + 1 < (n2 : Int) := by omega
          go_wp2_with fail
          clear hr h4 h4'
          go_region_held3 (fun w' => w'.cell? ⟨b, off + (p + 1), none⟩ = some (.int .i64 (f2 (p + 1))) ∧ w'.cell? ⟨b, off + (p + 2), none⟩ = some (.int .i64 (f2 (p + 2)))) (first | exact ⟨hc1, hc2⟩ | go_keep)
            (first | (go_at_call 11; ((with_reducible refine (around_any _ _ _ (by assumption) (by assumption) (by decide) (by decide)).mono ?_); rintro e w9 ⟨rfl, rfl⟩)))
          all_goals clear e1 e2 e3 e4 e5 e6 e7
          obtain ⟨hT', hr1⟩ := two_lit4 hT 3 (aroundI (f2 (p + 1)) 9) (aroundI (f2 (p + 2)) 1000) (aroundI (f2 (p + 1)) 2)
          have HX1 := Lib.hid (show (four (aroundI (f2 (p + 1)) 9) (aroundI (f2 (p + 2)) 1000) (aroundI (f2 (p + 1)) 2)).length = 4 from rfl)
          have HIN := Lib.hid (four_range ab9 ab1000 ab2)
          have hgm3 : gm < w3.heap.size := Blk.lt hT.rdie
          have hgd3 : gd < w3.heap.size := Blk.lt hT.die
          clear ab9 ab1000 ab2 hT hc1 hc2 hgm hgd
          have hT := hT'
          clear hT'
          generalize four (aroundI (f2 (p + 1)) 9) (aroundI (f2 (p + 2)) 1000) (aroundI (f2 (p + 1)) 2) = xs at *
          generalize (w3.alloc (.cells #[.int .i64 (aroundI (f2 (p + 1)) 9), .int .i64 0, .int .i64 (aroundI (f2 (p + 2)) 1000), .int .i64 (aroundI (f2 (p + 1)) 2)] 3)).drew = w8 at *
          have hc1 := HC1.out _ hT.below
          have hc2 := HC2.out _ hT.below
          generalize w3.heap.size = gl at *
          have HNE := Lib.hid (show ∀ b off, (some ⟨gl, 0, none⟩ : Option Addr) = some ⟨b, off, none⟩ → 0 < 4 → gl ≤ b from fun b off e _ => by cases e; exact Nat.le_refl _)
          go_wp2_with fail
          refine (pick_any gd key _ _ _ _ xs _ (Lib.hid hT.die) hat HX1 (by omega) HIN hr1).mono ?_
          rintro e w5 ⟨rfl, HD, hg⟩
          replace hr1 := (hr1.off (gd := gd) (fun b off e h => by have := HNE.out b off e h; omega) (Nat.le_refl _) hg).more hg.size
          replace hT := hT.real HD hg
          clear HD hg hc1 hc2
          go_wp2_with fail
          refine (rpick_any gm _ _ _ bs s key _ _ _ _ xs _ (Lib.hid hT.rdie) hat HX2 (by omega) hkc2 (by omega) HKEY hT.rd HX1 (by omega) HIN hr1 (fun b off e h => by have := HNE.out b off e h; omega)).mono ?_
          rintro e w6 ⟨rfl, HD, hg⟩
          replace hT := hT.ref HD hg
          clear HD hg
          go_wp2_with fail
          have hcm := hT.cell
          have HDD := Lib.hid hT.die
          go_quiet ((go_at_call 19; exact (at_any gd key _ _ (die_drewN HDD _)).mono (fun e w'' h => ⟨h.1, _, h.2.symm⟩)))
          go_wp2
          exact ⟨⟨p + 3, _, by omega, by go_num, hT.drewN _, Lib.hid (pickAt_range hat.out)⟩, by simp [intOf]; omega⟩
        · have h4' : (r != 0) = false := by simp [bne, h4]
          clear h4
          go_wp2_with fail
          refine (pick_any gd key _ _ _ _ xs _ (Lib.hid hT.die) hat HX1 (by omega) HIN hr1).mono ?_
          rintro e w5 ⟨rfl, HD, hg⟩
          replace hr1 := (hr1.off (gd := gd) (fun b off e h => by have := HNE.out b off e h; omega) (Nat.le_refl _) hg).more hg.size
          replace hT := hT.real HD hg
          clear HD hg hc1 hc2
          go_wp2_with fail
          refine (rpick_any gm _ _ _ bs s key _ _ _ _ xs _ (Lib.hid hT.rdie) hat HX2 (by omega) hkc2 (by omega) HKEY hT.rd HX1 (by omega) HIN hr1 (fun b off e h => by have := HNE.out b off e h; omega)).mono ?_
          rintro e w6 ⟨rfl, HD, hg⟩
          replace hT := hT.ref HD hg
          clear HD hg
          go_wp2_with fail
          have hcm := hT.cell
          have HDD := Lib.hid hT.die
          go_quiet ((go_at_call 19; exact (at_any gd key _ _ (die_drewN HDD _)).mono (fun e w'' h => ⟨h.1, _, h.2.symm⟩)))
          go_wp2
          exact ⟨⟨p + 3, _, by omega, by go_num, hT.drewN _, Lib.hid (pickAt_range hat.out)⟩, by simp [intOf]; omega⟩
      · as_aux_lemma =>
        go_wp2_with fail
        refine (around_nat _ 30 30 _ rfl f10 f11 (by decide) (by decide)).mono ?_
        rintro e w3 ⟨x, rfl, hx, -, rfl⟩
        have hgm : gm < wr.heap.size := Blk.lt hT.rdie
        obtain ⟨r, hr⟩ : ∃ r, (f2 (p + 2)).tmod 16 = r := ⟨_, rfl⟩
        cases h16 : (r == 0)
        all_goals go_wp2_with fail
        all_goals refine (shuf_ex gd key _ _ _ (Lib.hid hT.die) hat).mono ?_
        all_goals rintro e w3 ⟨A1, m1, d1, er, a', L, rfl, HE1, hat', HD, hg, ho1⟩
        all_goals replace hT := hT.real HD hg
        all_goals have hgz := hg.size
        all_goals clear HD hg hc1 hc2
        all_goals go_wp2_with fail
        all_goals refine (rshuf_ex gm _ _ _ bs s key _ _ _ (Lib.hid hT.rdie) hat HX2 (by omega) hkc2 (by omega) HKEY hT.rd).mono ?_
        all_goals rintro e w5 ⟨A5, m5, d5, er2, a2, L2, rfl, HE2, HD, hg, ho5⟩
        all_goals (have hEE := HE2.out.trans HE1.out.symm; cases hEE)
        all_goals replace hT := hT.ref HD hg
        all_goals replace ho1 := ho1.kept hg (.inr (fun e => by have := (ho1.lt gm e).1; omega))
        all_goals clear HD hg HE1 HE2 hr h16
        all_goals have HL1 := Lib.hid (show L.length = m1 by simpa using ho1.1)
        all_goals have HL5 := Lib.hid (show L.length = m5 by simpa using ho5.1)
        all_goals have hb1 := own_cap ho1
        all_goals have hb5 := own_cap ho5
        all_goals obtain ⟨-, hm1, hr1⟩ := rd_ints ho1
        all_goals obtain ⟨-, hm5, hr5⟩ := rd_ints ho5
        all_goals clear ho1 ho5
        all_goals go_wp2_with (first | (go_at_call 40; ((with_reducible refine (sameInts_true _ _ _ _ _ _ L L _ rfl HL1 HL5 hr1 hr5 (by omega) (by omega)).mono ?_); rintro e w7 ⟨rfl, hb7⟩; replace hT := hT.all hb7; clear hb7)))
        all_goals clear hr1 hr5
        all_goals have hcm := hT.cell
        all_goals have HDD := Lib.hid hT.die
        all_goals go_quiet ((go_at_call 19; exact (at_any gd key _ _ (die_drewN HDD _)).mono (fun e w'' h => ⟨h.1, _, h.2.symm⟩)))
        all_goals go_wp2
        all_goals exact ⟨⟨p + 3, _, by omega, by go_num, hT.drewN _, hat'⟩, by simp [intOf]; omega⟩
      · as_aux_lemma =>
        go_wp2_with fail
        refine (seek_any gd _ _ _ _ (Lib.hid hT.die)).mono ?_
        rintro e w3 ⟨rfl, HD, hg⟩
        replace hT := hT.real HD hg
        clear HD hg hc1 hc2
        have hc1 := HC1.out _ hT.below
        have hz := Blk.frozen hT.rdie 2
        have hcm0 := hT.cell
        go_wp2_with fail
        replace hT := hT.setAt (f2 (p + 1))
        clear hc1 hcm0 hz
        generalize w3.setCell ⟨gm, 2, none⟩ (.int .i64 (f2 (p + 1))) = w7 at *
        replace hat := Lib.hid (show -9223372036854775808 ≤ f2 (p + 1) ∧ f2 (p + 1) ≤ 9223372036854775807 from ⟨f10, f11⟩)
        go_wp2_with fail
        have hcm := hT.cell
        have HDD := Lib.hid hT.die
        go_quiet ((go_at_call 19; exact (at_any gd key _ _ (die_drewN HDD _)).mono (fun e w'' h => ⟨h.1, _, h.2.symm⟩)))
        go_wp2
        exact ⟨⟨p + 3, _, by omega, by go_num, hT.drewN _, hat⟩, by simp [intOf]; omega⟩
    · rcases (show n2 ≤ p + 2 ∨ (p + 2 < n2 ∧ 60 ≤ p) by omega) with h | ⟨h, h'⟩
      all_goals have hb := hT.below
      all_goals go_wp2_with (first | (go_at_call 13; ((with_reducible refine (lives4_any _).mono ?_); rintro e w3 ⟨rfl, hb3⟩; replace hb := bt hb hb3; clear hb3)))
      all_goals go_ret
      all_goals exact ⟨rfl, hb⟩

set_option maxRecDepth 100000 in
theorem DiceRolls_lifted (os : Os) (started : os.Started) (H : Type) (enc : TypeId × Value → H) :
    ReturnsInHanded {} Try.checked os 8 .any (Rows.diceRollsSpec.pre6 enc Try.prog Try.f8 Rows.diceRollsRow.domain false) (Rows.diceRollsSpec.post enc Try.prog Try.f8 false true false false) := by
  refine returnsInHanded_of_change (C := Try.checked) Try.own started (by kernel_rfl) Try.func8
    (ChangeSpec.witness6 (enc := enc) (C := Try.checked) false ⟨#[], #[.slice none 0 0, .string ⟨#[]⟩, .slice none 0 0], []⟩ 8 (by kernel_rfl) (by kernel_rfl) (by kernel_rfl) (by kernel_rfl)) ?_
  intro W base args ds gs before hval0 hW _ _
  have hval : ∀ (j : Nat) t v, Try.f8.params[j]? = some t → args[j]? = some v → Value.okWide Try.prog W .any base t v := hval0
  have hW' := hW
  obtain ⟨p, q, hT0, hV, rfl, hfz, hnd⟩ := hW
  have hT : DataW.TrodAll enc Try.prog W 0 (fun _ => true) true Try.f8.params.toList args.toList ds p := hT0
  rw [Try.params8] at hT hval
  obtain ⟨v0, vs0, d0, ds0, p0, q0, hargs0, rfl, rfl, h0, r0⟩ := trodAll_cons hT
  obtain ⟨v1, vs1, d1, ds1, p1, q1, hargs1, rfl, rfl, h1, r1⟩ := trodAll_cons r0
  obtain ⟨v2, vs2, d2, ds2, p2, q2, hargs2, rfl, rfl, h2, r2⟩ := trodAll_cons r1
  obtain ⟨rfl, rfl, rfl⟩ := trodAll_nil r2
  obtain rfl : args = #[v0, v1, v2] := by cases args; simp_all
  obtain ⟨A0, n0, c0, f0, rfl, hA0, hn0, hc0, hR0, hw0⟩ := open_sl Try.underlying28 Try.underlying5 (by kernel_rfl) (hval 0 28 v0 rfl rfl) h0
  obtain ⟨s1, rfl, -, -, hs1⟩ := open_string Try.underlying9 (hval 1 9 v1 rfl rfl) h1
  obtain ⟨A2, n2, c2, f2, rfl, hA2, hn2, hc2, hR2, hw2⟩ := open_sl Try.underlying29 Try.underlying3 (by kernel_rfl) (hval 2 29 v2 rfl rfl) h2
  refine (DiceRolls_walk W A0 n0 c0 f0 hA0 hn0 hc0 hR0 hw0 s1 (by simpa [maxLen] using hs1) A2 n2 c2 f2 hA2 hn2 hc2 hR2 hw2).mono fun e W' ⟨he, hb⟩ => ?_
  subst he
  exact ⟨_, rfl, law_post Try.laidOut (by kernel_rfl) (by kernel_rfl) Try.underlying4 rfl hW' rfl hb⟩

theorem DiceRolls_holds : Rows.DiceRollsSaid :=
  OpenClaim.holds_of_wide 8 Try.f8 rfl rfl rfl rfl rfl rfl rfl ⟨rfl, rfl, rfl, rfl, rfl⟩ rfl rfl rfl rfl rfl (by kernel_rfl) Try.func8 (by kernel_rfl)
    (of_decide_eq_true (by kernel_rfl)) (by unfold Func.isWrapper; first | (rw [if_pos (by decide +kernel)]; kernel_rfl) | (rw [if_neg (by decide +kernel)]; exact ⟨rfl, rfl⟩))
    (fun os started H enc _ => DiceRolls_lifted os started H enc)

end Go.Proofs.Ytklkppmmnlachaa
