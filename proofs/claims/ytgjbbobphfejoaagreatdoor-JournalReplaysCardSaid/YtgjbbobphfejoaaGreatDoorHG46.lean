/- disk: Crash. -/
import Derived.Test.YtgjbbobphfejoaaGreatDoorHG45
import Derived.Deep.DeepCutAuto
import Derived.Deep.CutBlock
import Derived.Test.YtgjbbobphfejoaaGreatDoorHG44
import Derived.Test.YtgjbbobphfejoaaGreatDoorHG1
import Derived.Test.YtgjbbobphfejoaaGreatDoorHLaw

namespace Go.Proofs.YtgjbbobphfejoaaGreatDoor
open Go.RowKit

/-- How many loose bytes survive in the first file. -/
def keptB (K : List Int) (len dur : Nat) : Nat := match K with
  | [] => 0
  | k :: _ => (max 0 (min k ((len : Int) - (dur : Int)))).toNat
theorem keptB_le (K : List Int) (len dur : Nat) : keptB K len dur ≤ len - dur := by
  unfold keptB
  split <;> omega
/-- What Crash makes of the files: st1 behind the cuts (kp loose bytes are left), st2 behind the bit. -/
def CrashTo (fs : List Fl) (K : List Int) (flip : Int) (kp : Nat) (st1 st2 : List (Int × List UInt8 × Nat)) : Prop :=
  (fs = [] ∧ kp = 0 ∧ st1 = [] ∧ st2 = []) ∨
  (∃ f, fs = [f] ∧ kp = keptB K f.bs.length f.dur ∧ st1 = (if f.dur + kp = 0 then [] else [(f.num, f.bs.take (f.dur + kp), f.dur)]) ∧ st2 = (if 0 ≤ flip ∧ 0 < kp then [(f.num, flipAt (f.bs.take (f.dur + kp)) f.dur (flip % (8 * (kp : Int))).toNat, f.dur)] else st1)) ∨
  ((∀ f ∈ fs, f.dur = f.bs.length) ∧ (∀ f ∈ fs, 0 < f.bs.length) ∧ K = [] ∧ flip < 0 ∧ kp = 0 ∧ st1 = fs.map Fl.log ∧ st2 = st1)
theorem cutLogs_one (f : Fl) (kp : Nat) : cutLogs [] f [] (f.dur + kp) = if f.dur + kp = 0 then [] else [(f.num, f.bs.take (f.dur + kp), f.dur)] := by
  unfold cutLogs
  rw [Nat.min_eq_left (Nat.le_add_right _ _)]
  rfl
theorem clean_find {fs fs' : List Fl} (h : fs'.map Fl.log = fs.map Fl.log) (h1 : ∀ f ∈ fs, f.dur = f.bs.length) (h2 : ∀ f ∈ fs, 0 < f.bs.length) {num : Int} (hm : num ∈ fs.map Fl.num) : ∃ l1 f l2, fs' = l1 ++ f :: l2 ∧ findF (l1 ++ f :: l2) num = some f ∧ f.dur = f.bs.length ∧ cutLogs l1 f l2 f.bs.length = fs.map Fl.log := by
  have hn : fs'.map Fl.num = fs.map Fl.num := by
    have := congrArg (List.map fun p : Int × List UInt8 × Nat => p.1) h
    simpa [List.map_map, Function.comp_def, Fl.log] using this
  rw [← hn] at hm
  obtain ⟨d, hd, rfl⟩ := List.mem_map.1 hm
  obtain ⟨f, hf⟩ : ∃ f, findF fs' d.num = some f := by
    cases hq : findF fs' d.num with
    | some f => exact ⟨f, rfl⟩
    | none =>
      unfold findF at hq
      rw [List.find?_eq_none] at hq
      exact absurd (hq d hd) (by simp)
  obtain ⟨l1, l2, rfl, -⟩ := findF_split hf
  have hfm : f.log ∈ fs.map Fl.log := by rw [← h]; exact List.mem_map.2 ⟨f, by simp, rfl⟩
  obtain ⟨y, hy, he⟩ := List.mem_map.1 hfm
  unfold Fl.log at he
  injection he with e1 e2
  injection e2 with e2 e3
  have hd1 := h1 y hy
  have hd2 := h2 y hy
  rw [e2, e3] at hd1
  rw [e2] at hd2
  refine ⟨l1, f, l2, rfl, hf, hd1, ?_⟩
  unfold cutLogs
  rw [if_neg (by omega), List.take_length, hd1, Nat.min_self, ← h]
  simp [Fl.log, hd1]
theorem DskAt.noT {w : World} {g mb room : Nat} {off : Bool} {plan : Int} {fs : List Fl} (h : DskAt w g mb room off plan fs) {t : TypeId} (h1 : t ≠ 93) (h2 : t ≠ 115) (h3 : t ≠ 5) : ∀ b, DskF g mb fs b → ¬ Ty w b t := by
  rintro b (rfl | rfl | ⟨f, hf, (rfl | e)⟩) ht
  · exact h1 (Ty.unique h.blk.ty ht).symm
  · exact h.map.not_ty ht
  · exact h2 (Ty.unique (h.ok f hf).1.ty ht).symm
  · exact h3 (Ty.unique (Ty.of_own (h.ok f hf).2.1 e) ht).symm
set_option maxRecDepth 100000 in
set_option maxHeartbeats 4000000 in
theorem crash_any (g mb room : Nat) (off : Bool) (plan : Int) (fs : List Fl) (A : Option Addr) (n c : Nat) (K : List Int) (flip : Int) (kp : Nat) (st1 st2 : List (Int × List UInt8 × Nat)) (w : World) (HD : Hid (DskAt w g mb room off plan fs)) (hl : fs.length ≤ 12) (HN : Hid (∀ f ∈ fs, 0 ≤ f.num ∧ f.num < 64)) (HKL : Hid (K.length = n)) (HR : Hid (Rd w w.heap.size A n (vInt K))) (HW : Hid (∀ k ∈ K, -9223372036854775808 ≤ k ∧ k ≤ 9223372036854775807)) (hnc : n ≤ 1000000) (hf1 : -9223372036854775808 ≤ flip) (hf2 : flip ≤ 9223372036854775807) (HT : Hid (CrashTo fs K flip kp st1 st2)) :
    Calls Tryz.prog 18 #[.pointer (some ⟨g, 0, none⟩), .slice A n c, .int .i64 flip] w fun e w' => e = .returned (.tuple #[]) ∧ DskNext g mb room false (-1) fs (syncLog st2) w w' := by
  go_enter Tryz.func18, Tryz.ntmps18
  go_wp2_with fail
  refine (files_any _ _ _ _ _ _ _ HD hl HN.out).mono ?_
  rintro e w1 ⟨An, cn, ns, rfl, hp, hown, hb1⟩
  have HP := Lib.hid hp
  have HD1 := Lib.hid (HD.out.all hb1)
  have HB1 := Lib.hid hb1
  have HO1 := Lib.hid hown
  have HR1 := Lib.hid (HR.out.all hb1)
  obtain ⟨nn, hnn⟩ : ∃ nn, ns.length = nn := ⟨_, rfl⟩
  rw [hnn]
  have HNN := Lib.hid hnn
  have hn12 : nn ≤ 12 := by have := hp.length_eq; rw [List.length_map] at this; omega
  clear hp hb1 hown hnn HR
  go_upto_block 0 with fail
  go_cut [6] (fun v wx => v = .int .i64 (kp : Int) ∧ Hid (DskNext g mb room off plan fs st1 w wx))
  case first =>
    rcases HT.out with ⟨rfl, rfl, rfl, rfl⟩ | ⟨f, rfl, hkp, rfl, rfl⟩ | ⟨h1, h2, rfl, h4, rfl, rfl, rfl⟩
    · have h0 : ns = [] := List.perm_nil.1 HP.out
      obtain rfl : nn = 0 := by rw [← HNN.out, h0]; rfl
      go_wp2
      refine wp_loop_rounds 1 ?_
      rw [rounds_succ]
      go_wp2
      go_meet
      exact ⟨rfl, Lib.hid ⟨[], rfl, HD1.out, Mod.of_below _ HB1.out, fun b hb => .inl hb⟩⟩
    · obtain rfl : ns = [f.num] := List.perm_singleton.1 HP.out
      obtain rfl : nn = 1 := by rw [← HNN.out]; rfl
      obtain ⟨ga, rfl, hga, hga2, k0, -⟩ := one_cell HO1.out
      obtain ⟨c0, c1, c2, c3, c4, -⟩ := HD1.out.dcells
      have hrm := HD1.out.room_le
      have hul := HD1.out.used_le
      have hlk := DskAt.look HD1.out f.num
      have HFN : Hid (findF ([] ++ f :: []) f.num = some f) := Lib.hid (by simp [findF])
      rw [show findF [f] f.num = some f from HFN.out] at hlk
      replace hlk : (Instr.lookup 91 (.map (some mb)) (.int .i64 f.num) false).run Tryz.prog w1 = .ok (.pointer (some ⟨f.fb, 0, none⟩)) w1 := hlk
      obtain ⟨A0, cc, -, -, q0, q1, -, -, hlc, hcc, -, -⟩ := DskAt.short (l1 := []) (l2 := []) HD1.out 0 (Nat.zero_le _)
      have hdl := (HD1.out.ok f (by simp)).2.2
      have hkl := keptB_le K f.bs.length f.dur
      rw [← hkp] at hkl
      have hfl : f.bs.length ≤ sumL [f] := by simp [sumL]
      have hsz : f.dur + kp ≤ f.bs.length := by omega
      obtain ⟨u, hu⟩ : ∃ u, sumL [f] = u := ⟨_, rfl⟩
      obtain ⟨m, hm⟩ : ∃ m, f.bs.length = m := ⟨_, rfl⟩
      obtain ⟨du, hdu⟩ : ∃ du, f.dur = du := ⟨_, rfl⟩
      rw [hu] at c1 hul hfl
      rw [hm] at hdl hkl hlc q0 hfl hkp
      rw [hdu] at hdl hkl q1 hkp
      have HSZ := Lib.hid hsz
      have HDU := Lib.hid hdu
      have HKP := Lib.hid hkp
      clear hu hm hdu hsz hkp
      have i1 : IntKind.i64.wrap ((m : Int) - (du : Int)) = (m : Int) - (du : Int) := IntWalk.i64_in _ (by omega)
      go_wp2
      refine wp_loop_rounds 2 ?_
      rw [rounds_succ]
      rcases K with _ | ⟨kk, K⟩
      · obtain rfl : n = 0 := by rw [← HKL.out]; rfl
        obtain rfl : kp = 0 := HKP.out
        go_wp2_with fail
        refine (cut_any _ _ _ _ _ [] [] f _ f.dur _ (by rw [HDU.out]) _ HD1 HFN HSZ.out).mono ?_
        rintro e w3 ⟨rfl, hN3⟩
        have HN3 : Hid (DskNext g mb room off plan [f] (if f.dur + 0 = 0 then [] else [(f.num, f.bs.take (f.dur + 0), f.dur)]) w w3) := Lib.hid (by
          rw [← cutLogs_one f 0]
          exact hN3.from (F := fun _ => False) (Mod.of_below _ HB1.out) (fun _ hf => hf.elim))
        clear hN3 hlk q0 q1 k0 c0 c1 c2 c3 c4
        go_wp2_with fail
        rw [rounds_succ]
        go_wp2
        go_meet
        exact ⟨rfl, HN3⟩
      · have hn0 : 0 < n := by rw [← HKL.out]; simp
        obtain ⟨bA, oA, rfl, -, hkc⟩ := HR1.out.at_ hn0
        replace hkc : w1.cell? ⟨bA, oA, none⟩ = some (.int .i64 kk) := hkc
        have hmx : max 0 (min kk ((m : Int) - (du : Int))) = (kp : Int) := by
          have := HKP.out
          simp only [keptB] at this
          omega
        go_wp2_with fail
        go_quiet (fail)
        clear i1 hmx
        have HDw := Lib.hid (HD1.out.all (below_drewN (Below.refl _ w1) nq))
        have HBw := Lib.hid (bt HB1.out (below_drewN (Below.refl _ w1) nq))
        have i2 : IntKind.i64.wrap ((du : Int) + (kp : Int)) = (du : Int) + (kp : Int) := IntWalk.i64_in _ (by omega)
        go_wp2_with fail
        refine (cut_any _ _ _ _ _ [] [] f _ (f.dur + kp) _ (by rw [HDU.out]; omega) _ HDw HFN HSZ.out).mono ?_
        rintro e w3 ⟨rfl, hN3⟩
        have HN3 := Lib.hid (hN3.from (F := fun _ => False) (Mod.of_below _ HBw.out) (fun _ hf => hf.elim))
        rw [cutLogs_one] at HN3
        clear hN3 hlk q0 q1 k0 c0 c1 c2 c3 c4 hkc i2
        go_wp2_with fail
        rw [rounds_succ]
        go_wp2
        go_meet
        exact ⟨rfl, HN3⟩
    · obtain rfl : n = 0 := by rw [← HKL.out]; rfl
      have HC1 := Lib.hid h1
      have HC2 := Lib.hid h2
      clear h1 h2
      have HST : Hid (DskNext g mb room off plan fs (fs.map Fl.log) w w1) := Lib.hid ⟨fs, rfl, HD1.out, Mod.of_below _ HB1.out, fun b hb => .inl hb⟩
      have HOW : Hid (w1.ownsRow w.heap.size 3 1 (.slice An nn cn) nn (ns.map (Value.int .i64))) := Lib.hid (by rw [← HNN.out]; exact HO1.out)
      go_wp2
      go_loopw [6, 16] (fun v6 v16 wr => ∃ k : Nat, k ≤ nn ∧ v6 = .int .i64 0 ∧ v16 = .int .i64 (k : Int) ∧ Hid (DskNext g mb room off plan fs (fs.map Fl.log) w wr) ∧ Hid (wr.ownsRow w.heap.size 3 1 (.slice An nn cn) nn (ns.map (Value.int .i64)))) (fun _ v16 wr => nn - (intOf v16).toNat)
      case atStart => exact ⟨0, Nat.zero_le _, rfl, rfl, HST, HOW⟩
      case round =>
        obtain ⟨k, hk, rfl, rfl, HS, HO⟩ := hrel
        by_cases hlt : k < nn
        · obtain ⟨ga, rfl, hga, hga2⟩ := own_some HO.out (by omega)
          have hkc := (own_int HO.out hlt).1
          have hkm : ns[k]?.getD 0 ∈ ns := by
            rw [List.getElem?_eq_getElem (by rw [HNN.out]; exact hlt)]
            exact List.getElem_mem _
          obtain ⟨num, hnum⟩ : ∃ num, ns[k]?.getD 0 = num := ⟨_, rfl⟩
          rw [hnum] at hkc hkm
          obtain ⟨fs', hlg, hD, hM, hF⟩ := HS.out
          obtain ⟨l1, f, l2, rfl, hfnd, hfd, hcut⟩ := clean_find hlg HC1.out HC2.out (HP.out.subset hkm)
          obtain ⟨c0, c1, c2, c3, c4, -⟩ := hD.dcells
          have hlk := DskAt.look hD num
          rw [hfnd] at hlk
          replace hlk : (Instr.lookup 91 (.map (some mb)) (.int .i64 num) false).run Tryz.prog wr = .ok (.pointer (some ⟨f.fb, 0, none⟩)) wr := hlk
          obtain ⟨A0, cc, -, -, q0, q1, -, -, hlc, hcc, -, -⟩ := hD.short 0 (Nat.zero_le _)
          have HFN := Lib.hid hfnd
          have HCU := Lib.hid hcut
          have HMF := Lib.hid (And.intro hM hF)
          have HDr := Lib.hid hD
          have HNT := Lib.hid (hD.noT (t := 3) (by decide) (by decide) (by decide))
          have HFD := Lib.hid hfd
          obtain ⟨du, hdu⟩ : ∃ du, f.dur = du := ⟨_, rfl⟩
          rw [hdu] at q1
          have HDU := Lib.hid hdu
          have hlc2 : f.bs.length ≤ 9223372036854775807 := Nat.le_trans hlc hcc
          have hdl : du ≤ 9223372036854775807 := by rw [← hdu, hfd]; exact hlc2
          clear hfnd hcut hM hF hD hfd hdu hlg hnum hlc2 hkm hlc hcc
          go_wp2_with fail
          refine (cut_any _ _ _ _ _ l1 l2 f _ f.bs.length _ (by rw [← HFD.out, HDU.out]) _ HDr HFN (Nat.le_refl _)).mono ?_
          rintro e w3 ⟨rfl, hN3⟩
          rw [HCU.out] at hN3
          obtain ⟨fs3, g1, g2, g3, g4⟩ := hN3
          have HS3 : Hid (DskNext g mb room off plan fs (fs.map Fl.log) w w3) := Lib.hid (DskNext.from2 ⟨fs3, g1, g2, g3, g4⟩ HMF.out.1 HMF.out.2)
          have HO3 := Lib.hid (g3.own HO.out (fun b e hb => HNT.out b hb (Ty.of_own HO.out e)))
          clear g1 g2 g3 g4 hlk q0 q1 c0 c1 c2 c3 c4 hkc
          go_wp2_with fail
          go_roundw
          case rel => exact ⟨k + 1, by omega, rfl, by go_num, HS3, HO3⟩
          case measure => simp [intOf]; omega
        · obtain rfl : k = nn := by omega
          go_wp2
          go_meet
          exact ⟨rfl, HS⟩
  case rest =>
    obtain ⟨rfl, HS1⟩ := hcut
    have hkp0 : (0 : Int) ≤ (kp : Int) := by omega
    go_upto_region 11 with fail
    go_cut [65] (fun v wx => v = .bool (decide (0 ≤ flip ∧ 0 < kp)) ∧ wx = wc)
    case first =>
      by_cases hfl : 0 ≤ flip
      · by_cases hkp : 0 < kp
        · have HD1 := Lib.hid (show decide (0 ≤ flip ∧ 0 < kp) = true by simp [hfl, hkp])
          have hk : (0 : Int) < (kp : Int) := by omega
          go_wp2
          go_meet
          exact ⟨by rw [HD1.out], rfl⟩
        · have HD1 := Lib.hid (show decide (0 ≤ flip ∧ 0 < kp) = false by simp [hkp])
          go_wp2
          go_meet
          exact ⟨by rw [HD1.out], rfl⟩
      · have HD1 := Lib.hid (show decide (0 ≤ flip ∧ 0 < kp) = false by simp [hfl])
        have hf3 : decide (0 ≤ flip) = false := by simpa using hfl
        go_wp2
        go_meet
        exact ⟨by rw [HD1.out], rfl⟩
    case rest =>
      obtain ⟨rfl, rfl⟩ := hcut
      go_upto_if 65 with fail
      go_cut [6] (fun _ wx => Hid (DskNext g mb room off plan fs st2 w wx))
      case first =>
        by_cases hb : 0 ≤ flip ∧ 0 < kp
        · have hdb : decide (0 ≤ flip ∧ 0 < kp) = true := by rw [decide_eq_true_iff]; exact hb
          rw [hdb]
          rcases HT.out with ⟨rfl, rfl, rfl, rfl⟩ | ⟨f, rfl, hkp, rfl, rfl⟩ | ⟨h1, h2, rfl, h4, rfl, rfl, rfl⟩
          · exact absurd hb.2 (by omega)
          · have hkl := keptB_le K f.bs.length f.dur
            rw [← hkp] at hkl
            have hdl := (HD1.out.ok f (by simp)).2.2
            have h0 : ¬ f.dur + kp = 0 := by omega
            rw [if_neg h0] at HS1
            obtain ⟨fs1, hlg, hD, hM, hF⟩ := HS1.out
            rcases fs1 with _ | ⟨f1, _ | ⟨f2, fs1⟩⟩
            · simp at hlg
            rotate_left
            · simp at hlg
            obtain ⟨e1, e2, e3⟩ : f1.num = f.num ∧ f1.bs = f.bs.take (f.dur + kp) ∧ f1.dur = f.dur := by simpa [Fl.log] using hlg
            have hnum := HN.out f (by simp)
            rw [← e1] at hnum
            obtain ⟨hnum1, hnum2⟩ := hnum
            have hml : 0 < 8 * (kp : Int) := by omega
            have hm0 : 0 ≤ flip % (8 * (kp : Int)) := Int.emod_nonneg _ (by omega)
            have hm1 : flip % (8 * (kp : Int)) < 8 * (kp : Int) := Int.emod_lt_of_pos _ hml
            obtain ⟨bit, hbit⟩ : ∃ bit : Nat, (flip % (8 * (kp : Int))).toNat = bit := ⟨_, rfl⟩
            have HBI : Hid (flip % (8 * (kp : Int)) = (bit : Int)) := Lib.hid (by omega)
            have HBT := Lib.hid hbit
            have hbb : bit < 8 * (f1.bs.length - f1.dur) := by
              rw [e2, e3, List.length_take]
              omega
            have hkb : kp ≤ 16777216 := by
              have := HD1.out.room_le
              have := HD1.out.used_le
              have : f.bs.length ≤ sumL [f] := by simp [sumL]
              omega
            have HDr := Lib.hid hD
            have HMF := Lib.hid (And.intro hM hF)
            have HE := Lib.hid (And.intro e1 (And.intro e2 e3))
            have i1 : IntKind.i64.wrap (8 * (kp : Int)) = 8 * (kp : Int) := IntWalk.i64_in _ (by omega)
            obtain ⟨hf0, hkp1⟩ := hb
            clear hD hM hF hlg e1 e2 e3 hkl hdl h0 hm0 hm1 hbit hdb hkp
            go_wp2_with fail
            refine (invert_one _ _ _ _ _ f1 bit _ HBI.out _ HDr hnum1 hnum2 hbb).mono ?_
            rintro e w2 ⟨rfl, hN2⟩
            have HN2 := Lib.hid (hN2.from2 HMF.out.1 HMF.out.2)
            rw [HE.out.1, HE.out.2.1, HE.out.2.2] at HN2
            clear hN2
            go_wp2
            go_meet
            rw [if_pos ⟨hf0, hkp1⟩, HBT.out]
            exact HN2
          · exact absurd hb.2 (by omega)
        · have hdb : decide (0 ≤ flip ∧ 0 < kp) = false := by rw [decide_eq_false_iff_not]; exact hb
          rw [hdb]
          have HNB := Lib.hid hb
          clear hb hdb
          go_wp2
          go_meet
          rcases HT.out with ⟨rfl, rfl, rfl, rfl⟩ | ⟨f, rfl, hkp, rfl, rfl⟩ | ⟨h1, h2, rfl, h4, rfl, rfl, rfl⟩
          · exact HS1
          · rw [if_neg HNB.out]
            exact HS1
          · exact HS1
      case rest =>
        obtain ⟨fs2, hlg, hD2, hM2, hF2⟩ := hcut.out
        have HLG := Lib.hid hlg
        obtain ⟨d0, d1, d2, d3, d4, -⟩ := hD2.dcells
        obtain ⟨w3, hrg, hi3, hb3⟩ := IMap.iter (P := Tryz.prog) hD2.map Tryz.underlying91
        obtain ⟨r, hr⟩ : ∃ r, wc.heap.size = r := ⟨_, rfl⟩
        have hrw : w.heap.size ≤ r := by rw [← hr]; exact hM2.size
        have HD3 : Hid (DskAt w3 g mb room off plan (fs2.map (syncF fun _ => true))) := Lib.hid (by
          have : fs2.map (syncF fun _ => true) = fs2 := by
            conv => rhs; rw [← List.map_id fs2]
            exact List.map_congr_left (fun f _ => syncF_all f)
          rw [this]
          exact hD2.all hb3)
        have HM3 : Hid (Mod (DskF g mb fs) w w3) := Lib.hid (hM2.then_below hb3)
        have HF3 : Hid (∀ b, DskF g mb fs2 b → DskF g mb fs b ∨ w.heap.size ≤ b) := Lib.hid hF2
        rw [hr] at hrg hi3
        have HI3 := Lib.hid hi3
        clear hlg hD2 hM2 hF2 hb3 hr hi3 hcut HS1
        go_wp2
        go_loopw [12] (fun _ wr => ∃ left, Hid (IIter wr mb r (fs2.map fun f => (f.num, f.ptr)) left) ∧ Hid (DskAt wr g mb room off plan (fs2.map (syncF left))) ∧ Hid (Mod (DskF g mb fs) w wr)) (fun _ wr => iterLeft wr mb r)
        case atStart => exact ⟨_, HI3, HD3, HM3⟩
        case round =>
          obtain ⟨left, HI, HDr, HMr⟩ := hrel
          rcases HI.out.next (P := Tryz.prog) with ⟨hno, hnx⟩ | ⟨k, v, w', hkv, hlk, hnx, hen, hI', hg', -, hlt⟩
          · have HNO := Lib.hid (show ∀ f ∈ fs2, left f.num = false from fun f hf => hno (f.num, f.ptr) (List.mem_map.2 ⟨f, hf, rfl⟩))
            clear hno
            obtain ⟨e0, e1, e2, e3, e4, hfz⟩ := HDr.out.dcells
            have hfz3 := hfz 3
            have hfz4 := hfz 4
            clear hfz
            have ma := ((Mod.refl (fun b => b = g) wr).set (p := ⟨g, 3, none⟩) (.inl rfl) (.bool false)).set (p := ⟨g, 4, none⟩) (.inl rfl) (.int .i64 (-1))
            have hBa := Blk.set_ (Blk.set_ HDr.out.blk 3 (.bool false)) 4 (.int .i64 (-1))
            have HFIN : Hid (DskNext g mb room false (-1) fs (syncLog st2) w ((wr.setCell ⟨g, 3, none⟩ (.bool false)).setCell ⟨g, 4, none⟩ (.int .i64 (-1)))) := Lib.hid
              ⟨fs2.map (syncF left), by rw [syncF_done HNO.out, HLG.out], HDr.out.cells (off' := false) (plan' := -1) ma hBa (by omega), HMr.out.trans ma (fun b hb => .inl (.inl hb)), fun b hb => HF3.out b ((DskF_sync _ _ _ _ _).1 hb)⟩
            clear ma hBa
            go_wp2
            go_end0
            exact ⟨rfl, HFIN.out⟩
          · obtain ⟨f, hf, he⟩ := List.mem_map.1 hkv
            injection he with he1 he2
            subst he1 he2
            have hnr := HDr.out.not_iter HI.out
            have hD' := HDr.out.mod (Mod.of_grown (F := fun b => b = r) hg' (fun b e => .inl (by injection e with e; exact e.symm))) (fun b hb e => hnr b hb e)
            obtain ⟨A, c, hrv, q1, q2, q3, hD'', m''⟩ := hD'.syncOne hf hlk
            have HD'' := Lib.hid hD''
            have hfr : f.fb ≠ r := hnr _ ((DskF_sync _ _ _ _ _).2 (.inr (.inr ⟨f, hf, .inl rfl⟩)))
            have hfm : f.fb ≠ mb := by
              have := (HDr.out.F_ne (f := syncF left f) (List.mem_map.2 ⟨f, hf, rfl⟩) f.fb (by unfold Fl.F; rw [syncF_fb]; exact .inl rfl)).2
              exact this
            have HI'' := Lib.hid (hI'.mod m'' (fun e => hfm e.symm) (fun e => hfr e.symm))
            have HM'' : Hid (Mod (DskF g mb fs) w (w'.setCell ⟨f.fb, 1, none⟩ (.int .i64 (f.bs.length : Int)))) := Lib.hid ((HMr.out.then_grown hg' (fun b e => .inr (by injection e with e; omega))).trans m'' (fun b hb => by
              rcases HF3.out b (.inr (.inr ⟨f, hf, .inl hb⟩)) with h | h
              · exact .inl h
              · exact .inr h))
            have HLT : Hid (iterLeft (w'.setCell ⟨f.fb, 1, none⟩ (.int .i64 (f.bs.length : Int))) mb r < iterLeft wr mb r) := Lib.hid (by
              have e : iterLeft (w'.setCell ⟨f.fb, 1, none⟩ (.int .i64 (f.bs.length : Int))) mb r = iterLeft w' mb r := by
                unfold iterLeft
                rw [Below.heap_setCell w' ⟨f.fb, 1, none⟩ _ mb (fun e => hfm e.symm), Below.heap_setCell w' ⟨f.fb, 1, none⟩ _ r (fun e => hfr e.symm)]
              rw [e]
              exact hlt)
            replace hnx : ∀ ty, (Instr.next (.pointer (some ⟨r, 0, none⟩)) false ty).run Tryz.prog wr = .ok (.tuple #[.bool true, .int .i64 f.num, .pointer (some ⟨f.fb, 0, none⟩)]) w' := hnx
            replace hen : (Instr.entry (.pointer (some ⟨r, 0, none⟩))).run Tryz.prog w' = .ok (.tuple #[.int .i64 f.num, .pointer (some ⟨f.fb, 0, none⟩)]) w' := hen
            clear hkv hlk hI' hg' hlt hnr hD' hD'' m'' hfr hfm hrv
            go_wp2
            exact ⟨⟨_, HI'', HD'', HM''⟩, HLT.out⟩
end Go.Proofs.YtgjbbobphfejoaaGreatDoor

/- journal: a log and its disk of one file; what a scan finds behind a crash. -/
namespace Go.Proofs.YtgjbbobphfejoaaGreatDoor
open Go.RowKit

theorem first_nil (k : Int) : FirstIs k [] none := fun x r h => by
  have h1 := congrArg List.length h
  rw [List.length_append] at h1
  have := frameB_pos k x
  simp at h1
  omega
theorem first_cut {k : Int} {x p q : List UInt8} (h : frameB k x = p ++ q) (hq : q ≠ []) (hl : (frameB k x).length ≤ 9223372036854775807) : FirstIs k p none := by
  intro y r e
  have h1 : frameB k x ++ [] = frameB k y ++ (r ++ q) := by rw [List.append_nil, h, e, List.append_assoc]
  have hy : (frameB k y).length ≤ 9223372036854775807 := by
    have h2 := congrArg List.length e
    rw [List.length_append] at h2
    have h3 := congrArg List.length h
    rw [List.length_append] at h3
    omega
  obtain ⟨-, h3⟩ := frame_split (by omega) (by omega) h1
  exact hq (List.append_eq_nil_iff.1 h3.symm).2
theorem scan_frames (ks : List (List UInt8)) : ScanIs (framesB 0 ks) ks (framesB 0 ks).length := ⟨rfl, [], (List.append_nil _).symm, first_nil _⟩
/-- Behind the frames of ks stands the beginning of one more. -/
theorem scan_part (ks : List (List UInt8)) (y : List UInt8) (m : Nat) (hl : (frameB (ks.length : Nat) y).length ≤ 9223372036854775807) :
    ∃ rs, ScanIs (framesB 0 ks ++ (frameB (ks.length : Nat) y).take m) rs (framesB 0 rs).length ∧ (rs = ks ∨ rs = ks ++ [y]) := by
  by_cases h : (frameB (ks.length : Nat) y).length ≤ m
  · refine ⟨ks ++ [y], ?_, .inr rfl⟩
    rw [List.take_of_length_le h]
    have e : framesB 0 ks ++ frameB (ks.length : Nat) y = framesB 0 (ks ++ [y]) := by rw [framesB_snoc, Nat.zero_add]
    rw [e]
    exact scan_frames _
  · refine ⟨ks, ⟨rfl, _, rfl, ?_⟩, .inl rfl⟩
    refine first_cut (q := (frameB (ks.length : Nat) y).drop m) (List.take_append_drop _ _).symm ?_ hl
    intro h0
    have := congrArg List.length h0
    rw [List.length_drop] at this
    simp at this
    omega
/-- A disk of one file, or of none. -/
def fileSt (num : Int) (bs : List UInt8) (dur : Nat) : List (Int × List UInt8 × Nat) := if bs = [] then [] else [(num, bs, dur)]
theorem fileSt_cases {fs : List Fl} {num : Int} {bs : List UInt8} {dur : Nat} (h : fs.map Fl.log = fileSt num bs dur) : (fs = [] ∧ bs = []) ∨ ∃ f, fs = [f] ∧ f.num = num ∧ f.bs = bs ∧ f.dur = dur ∧ bs ≠ [] := by
  unfold fileSt at h
  by_cases hk : bs = []
  · rw [if_pos hk] at h
    exact .inl ⟨by simpa using h, hk⟩
  · rw [if_neg hk] at h
    rcases fs with _ | ⟨f, _ | ⟨f2, fs⟩⟩
    · simp at h
    · simp [Fl.log] at h
      exact .inr ⟨f, rfl, h.1, h.2.1, h.2.2, hk⟩
    · simp at h
theorem fileSt_sum {fs : List Fl} {num : Int} {bs : List UInt8} {dur : Nat} (h : fs.map Fl.log = fileSt num bs dur) : sumL fs = bs.length := by
  rcases fileSt_cases h with ⟨rfl, rfl⟩ | ⟨f, rfl, -, rfl, -, -⟩
  · rfl
  · simp [sumL]
theorem fileSt_app {fs : List Fl} {num : Int} {bs : List UInt8} (h : fs.map Fl.log = fileSt num bs bs.length) (xs : List UInt8) : AppSt fs num xs [(num, bs ++ xs, bs.length)] := by
  rcases fileSt_cases h with ⟨rfl, rfl⟩ | ⟨f, rfl, rfl, rfl, h3, -⟩
  · exact .inl ⟨rfl, rfl⟩
  · exact .inr ⟨[], f, [], rfl, by simp [findF], by rw [h3]; rfl⟩
theorem fileSt_num {fs : List Fl} {num : Int} {bs : List UInt8} {dur : Nat} (h : fs.map Fl.log = fileSt num bs dur) (h1 : 0 ≤ num) (h2 : num < 64) : ∀ f ∈ fs, 0 ≤ f.num ∧ f.num < 64 := by
  rcases fileSt_cases h with ⟨rfl, -⟩ | ⟨f, rfl, rfl, -⟩
  · intro f hf; cases hf
  · intro d hd
    simp at hd
    subst hd
    exact ⟨h1, h2⟩
theorem fileSt_len {fs : List Fl} {num : Int} {bs : List UInt8} {dur : Nat} (h : fs.map Fl.log = fileSt num bs dur) : fs.length ≤ 1 := by
  rcases fileSt_cases h with ⟨rfl, -⟩ | ⟨f, rfl, -⟩ <;> simp
/-- What a crash leaves of a file. -/
def crashB (bs : List UInt8) (dur : Nat) (K : List Int) (flip : Int) : List UInt8 :=
  if 0 ≤ flip ∧ 0 < keptB K bs.length dur then flipAt (bs.take (dur + keptB K bs.length dur)) dur (flip % (8 * ((keptB K bs.length dur : Nat) : Int))).toNat else bs.take (dur + keptB K bs.length dur)
theorem flipAt_nil {bs : List UInt8} {d b : Nat} : flipAt bs d b = [] ↔ bs = [] := by
  unfold flipAt
  rw [List.set_eq_nil_iff]
theorem crash_st {fs : List Fl} {num : Int} {bs : List UInt8} {dur : Nat} (h : fs.map Fl.log = fileSt num bs dur) (K : List Int) (flip : Int) : ∃ kp st1 st2, CrashTo fs K flip kp st1 st2 ∧ syncLog st2 = fileSt num (crashB bs dur K flip) (crashB bs dur K flip).length := by
  rcases fileSt_cases h with ⟨rfl, rfl⟩ | ⟨f, rfl, rfl, rfl, rfl, hne⟩
  · refine ⟨0, [], [], .inl ⟨rfl, rfl, rfl, rfl⟩, ?_⟩
    have : crashB [] dur K flip = [] := by
      unfold crashB
      split
      · rw [flipAt_nil]; simp
      · simp
    rw [this]
    rfl
  · refine ⟨keptB K f.bs.length f.dur, _, _, .inr (.inl ⟨f, rfl, rfl, rfl, rfl⟩), ?_⟩
    unfold crashB
    by_cases hb : 0 ≤ flip ∧ 0 < keptB K f.bs.length f.dur
    · rw [if_pos hb, if_pos hb]
      have hn : ¬ flipAt (f.bs.take (f.dur + keptB K f.bs.length f.dur)) f.dur (flip % (8 * ((keptB K f.bs.length f.dur : Nat) : Int))).toNat = [] := by
        rw [flipAt_nil, List.take_eq_nil_iff]
        rintro (h | h)
        · omega
        · exact hne h
      unfold fileSt
      rw [if_neg hn]
      rfl
    · rw [if_neg hb, if_neg hb]
      by_cases h0 : f.dur + keptB K f.bs.length f.dur = 0
      · rw [if_pos h0, h0]
        rfl
      · rw [if_neg h0]
        have hn : ¬ f.bs.take (f.dur + keptB K f.bs.length f.dur) = [] := by
          rw [List.take_eq_nil_iff]
          rintro (h | h)
          · exact h0 h
          · exact hne h
        unfold fileSt
        rw [if_neg hn]
        rfl
set_option maxHeartbeats 1000000 in
/-- Open on a disk of one file. -/
theorem open1_any (g mb room : Nat) (fs : List Fl) (num : Int) (bs : List UInt8) (dur m : Nat) (rs : List (List UInt8)) (w : World) (HD : Hid (DskAt w g mb room false (-1) fs)) (HS : Hid (fs.map Fl.log = fileSt num bs dur)) (h1 : 0 ≤ num) (h2 : num < 64) (HSC : Hid (ScanIs bs rs m)) :
    Calls Tryz.prog 5 #[.pointer (some ⟨g, 0, none⟩), .int .i64 num] w (OpenPost g mb room num (-1) fs rs (fileSt num (framesB 0 rs) (framesB 0 rs).length) w) := by
  obtain ⟨rfl, r, hr, hno⟩ := id HSC.out
  rcases fileSt_cases HS.out with ⟨rfl, rfl⟩ | ⟨f, rfl, rfl, rfl, rfl, hne⟩
  · have h3 := congrArg List.length hr
    rw [List.length_append] at h3
    have hfr : framesB 0 rs = [] := List.eq_nil_of_length_eq_zero (by simp at h3; omega)
    have hrs : rs = [] := List.eq_nil_of_length_eq_zero (by have := framesB_len rs 0; rw [hfr] at this; simp at this; omega)
    subst hrs
    exact open_clean g mb room (-1) [] num [] w HD h1 h2 (Lib.hid rfl) (Lib.hid rfl)
  · have hfn : findF [f] f.num = some f := by simp [findF]
    by_cases hm : (framesB 0 rs).length < f.bs.length
    · have := open_trunc g mb room (-1) [] [] f f.num rs _ w HD (Lib.hid hfn) h1 h2 HSC hm (Lib.hid rfl) (Lib.hid rfl)
      have e : syncLog (cutLogs [] f [] (framesB 0 rs).length) = fileSt f.num (framesB 0 rs) (framesB 0 rs).length := by
        unfold cutLogs fileSt
        by_cases h0 : framesB 0 rs = []
        · rw [if_pos h0, if_pos (by rw [h0]; rfl)]
          rfl
        · rw [if_neg h0, if_neg (fun h => h0 (List.eq_nil_of_length_eq_zero h))]
          have ht : f.bs.take (framesB 0 rs).length = framesB 0 rs := by rw [hr, List.take_left]
          rw [ht]
          rfl
      rw [e] at this
      exact this
    · have hr0 : r = [] := by
        have h3 := congrArg List.length hr
        rw [List.length_append] at h3
        exact List.eq_nil_of_length_eq_zero (by omega)
      rw [hr0, List.append_nil] at hr
      have := open_clean g mb room (-1) [f] f.num rs w HD h1 h2 (Lib.hid (by unfold fileBs; rw [hfn]; exact hr)) (Lib.hid rfl)
      have e : syncLog ([f].map Fl.log) = fileSt f.num (framesB 0 rs) (framesB 0 rs).length := by
        unfold fileSt
        rw [if_neg (by rw [← hr]; exact hne), ← hr]
        rfl
      rw [e] at this
      exact this
end Go.Proofs.YtgjbbobphfejoaaGreatDoor

/- journal: a log, its disk of one file, and what else is kept. -/
namespace Go.Proofs.YtgjbbobphfejoaaGreatDoor
open Go.RowKit

section
variable {W : World} {N5 N6 g mb gl room : Nat} {num : Int} {off : Bool} {plan : Int} {st : List (Int × List UInt8 × Nat)} {len : Nat} {up : Bool} {J : World → Prop} {w w' : World}
end
end Go.Proofs.YtgjbbobphfejoaaGreatDoor

/- More helpers of worldmintref01: Bound, Has. -/
namespace Go.Proofs.YtgjbbobphfejoaaGreatDoor
open Go.RowKit

end Go.Proofs.YtgjbbobphfejoaaGreatDoor

/- journal: small calls. -/
namespace Go.Proofs.YtgjbbobphfejoaaGreatDoor
open Go.RowKit

def FreshPost (room : Nat) (w : World) (e : Ending) (w' : World) : Prop := ∃ g mb, e = .returned (.pointer (some ⟨g, 0, none⟩)) ∧ w.heap.size ≤ g ∧ w.heap.size ≤ mb ∧ DskAt w' g mb room false (-1) [] ∧ Below w.heap.size w w'
set_option maxRecDepth 100000 in
theorem fresh_any (room : Nat) (w : World) (hr : room ≤ 16777216) :
    Calls Tryz.prog 4 #[.int .i64 (room : Int)] w (FreshPost room w) := by
  have HN := Lib.hid (newDisk_any room _ rfl w hr)
  clear hr
  go_enter Tryz.func4, Tryz.ntmps4
  go_wp2_with fail
  refine HN.out.mono ?_
  rintro e w1 ⟨g, mb, rfl, h1, h2, h3, h4⟩
  have H3 := Lib.hid h3
  clear h3
  go_wp2
  go_ret
  exact ⟨g, mb, rfl, h1, h2, H3.out, h4⟩
/-- A crash without a turned bit. -/
theorem crash_cut (a b : List UInt8) (K : List Int) : ∃ k, crashB (a ++ b) a.length K (-1) = a ++ b.take k := by
  refine ⟨keptB K (a ++ b).length a.length, ?_⟩
  unfold crashB
  rw [if_neg (by omega), List.take_length_add_append]
end Go.Proofs.YtgjbbobphfejoaaGreatDoor
