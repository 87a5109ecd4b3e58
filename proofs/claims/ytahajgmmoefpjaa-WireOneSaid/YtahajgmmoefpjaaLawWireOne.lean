/- For every slice of bytes, list, place, byte and list of kinds worldmintlaw02.WireOne returns true. No condition. -/
import Derived.Test.YtahajgmmoefpjaaWireLives
import Derived.Test.YtahajgmmoefpjaaRefHelp2
import Derived.Test.YtahajgmmoefpjaaWireCut
import Derived.Deep.RegionHeld3
import Derived.Test.YtahajgmmoefpjaaLaw
namespace Go.Proofs.Ytahajgmmoefpjaa
open Go.ChangeShapes Go.WideShapes Go.ChangeAt Go.RowKit Go.ChangeMaps


set_option maxRecDepth 100000 in
set_option maxHeartbeats 8000000 in
theorem WireOne_walk (W : World) (A0 : Option Addr) (n0 c0 : Nat) (f0 : Nat → Int) (hA0 : A0 = none → n0 = 0) (hn0 : n0 ≤ c0) (hc0 : c0 ≤ 9223372036854775807) (hR0 : Rd W W.heap.size A0 n0 (fun j => .int .u8 (f0 j))) (hw0 : Hid (∀ j, j < n0 → (Lit.int .u8 (f0 j)).wf = true)) (A1 : Option Addr) (n1 c1 : Nat) (f1 : Nat → Int) (hA1 : A1 = none → n1 = 0) (hn1 : n1 ≤ c1) (hc1 : c1 ≤ 9223372036854775807) (hR1 : Rd W W.heap.size A1 n1 (fun j => .int .i64 (f1 j))) (hw1 : Hid (∀ j, j < n1 → (Lit.int .i64 (f1 j)).wf = true)) (a2 : Int) (ha2 : Hid ((Lit.int .i64 a2).wf = true)) (a3 : Int) (ha3 : Hid ((Lit.int .u8 a3).wf = true)) (A4 : Option Addr) (n4 c4 : Nat) (f4 : Nat → Int) (_hA4 : A4 = none → n4 = 0) (_hn4 : n4 ≤ c4) (_hc4 : c4 ≤ 9223372036854775807) (hR4 : Rd W W.heap.size A4 n4 (fun j => .int .i64 (f4 j))) (hw4 : Hid (∀ j, j < n4 → (Lit.int .i64 (f4 j)).wf = true)) :
    Calls Try.prog 8 #[.slice A0 n0 c0, .slice A1 n1 c1, .int .i64 a2, .int .u8 a3, .slice A4 n4 c4] W fun e w' => e = .returned (.bool true) ∧ Below W.heap.size W w' := by
  obtain ⟨hr20, hr21⟩ := wf_i64 ha2.out
  obtain ⟨b3, rfl⟩ := byte_of_wf ha3.out
  have HF1 := Lib.hid (fun j (hj : j < n1) => (wf_i64 (hw1.out j hj) : InI (f1 j)))
  have hb := Below.refl W.heap.size W
  go_enter Try.func8, Try.ntmps8
  go_wp2_with fail
  refine (vals_any A1 n1 c1 f1 W hA1 hR1 hn1 hc1 HF1).mono ?_
  rintro e w1 ⟨Av, N, cv, vs, rfl, hk8, hkc, hcm, hOv, HG, hb1⟩
  replace hb := bt hb hb1
  obtain ⟨_, hkc2, hcm2, hV⟩ := hOv.row
  have HL := Lib.hid hV.1
  have HFIT := Lib.hid (fit_of_good HG.out)
  clear hb1
  go_wp2_with fail
  refine (encode_any _ _ _ vs _ hV HFIT (by omega) hkc2 hcm2).mono ?_
  rintro e w2 ⟨A2, n2, c2, rfl, hnc2, hcm2', hn2, HX2, hown2, hr2, hb2⟩
  have hsm : n2 ≤ 480 := by
    have h1 := flatV_small HG.out
    rw [← encTo_all vs N (by rw [HL.out]; exact Nat.le_refl _), HX2.out, HL.out] at h1
    omega
  have hs12 := hb2.size
  have hsW1 := hb.size
  rcases Nat.eq_zero_or_pos n2 with h0 | h0
  · have t0 : (n2 : Int) ≤ 0 := by omega
    clear h0
    have hb12 := hb2
    replace hb := bt hb hb2
    have HXT := HX2
    have hownT := hown2
    generalize encTo vs N = T at *
    obtain ⟨wz, rfl⟩ : ∃ x, x = w2 := ⟨_, rfl⟩
    have hrT := (rd_bytes hownT).2.2
    clear hb2 hown2 hr2 HX2
    go_wp2_with fail
    refine (read_any _ _ _ _ _ HXT hrT (by omega)).mono ?_
    rintro e w4 ⟨gr, rfl, hgr, hR4, hb4, _⟩
    have HR4 := Lib.hid hR4
    have hwz4 := hb4.size
    have hbz : Below wz.heap.size wz w4 := hb4
    have HO4 := Lib.hid (OneAt.start (T := T) (by rw [HXT.out]; omega))
    have hVB : w1.heap.size ≤ wz.heap.size := hb12.size
    have hVz := hV.below hb12 (Nat.le_refl _)
    have hbWz := hb
    obtain ⟨B, hB⟩ : ∃ B, B = w4.heap.size := ⟨_, rfl⟩
    rw [← hB] at HR4
    have hgrB := HR4.out.lt
    clear hR4 hb4 hownT hb hB
    go_wp2
    go_loopw [14, 15] (fun gv v wr => ∃ i : Nat, ∃ (got : List V) (rest : List UInt8) (err : Int), i ≤ N ∧ v = .int .i64 (i : Int) ∧ VOwn wr B gv i got ∧ Hid (OneAt T got rest err) ∧ Hid (Rdr wr B gr rest err) ∧ Below wz.heap.size wz wr) (fun _ v _ => N - (intOf v).toNat)
    case atStart => exact ⟨0, [], T, 0, by omega, rfl, VOwn.nil _ _, HO4, HR4, hbz⟩
    case round =>
      clear HR4 HO4 hbz
      obtain ⟨i, got, rest, err, hi, rfl, hO, HO, HR, hbr⟩ := hrel
      obtain ⟨v14, rfl⟩ : ∃ x, x = u14 := ⟨_, rfl⟩
      have hbase : B ≤ wr.heap.size := HR.out.lt.2
      have hgrz : wz.heap.size ≤ gr := hgr
      by_cases hlt : i < N
      · obtain ⟨bb, off, v, s, t, hA', hbB, HV, c0', _, _, _, _, _, _⟩ := (hVz.below hbr hVB).at_ hlt
        subst hA'
        have hst := Lib.hid (HO.out.step v.kind)
        have hi0 : (0 : Int) ≤ (i : Int) := by omega
        have hi1 : (i : Int) < (N : Int) := by omega
        go_wp2_with fail
        refine (readv_any _ _ v.kind _ _ _ HR (by have := HO.out.len; omega)).mono ?_
        rintro e w7 ⟨s7, t7, rfl, fs7, ft7, hbi7, hni7, hR7, ho7⟩
        have hO7 := hO.grown ho7 (fun r e => by cases e; omega)
        have hw7 := ho7.size
        obtain ⟨g9, c9, w9, HA9, hO9, hg9, hb9⟩ := hO7.snoc _ s7 t7 hbi7 hni7 (fs7.more hbase) (ft7.more hbase) (fun b off hp e hh => by have := fs7 b off hp e; have := hO.lt b hh.symm; omega) (fun b off hp e hh => by have := ft7 b off hp e; have := hO.lt b hh.symm; omega) (by omega) (by omega)
        have hR9 := Lib.hid (hR7.grown hg9 (fun r e => by have := (VOwn.base_le hO7 r e); omega))
        have hbr7 := below_of_only hbr ho7 hbr.size (by omega)
        have hbr9 : Below wz.heap.size wz w9 := hbr7.grown hg9 hbr7.size (fun r e => by have := (VOwn.base_le hO7 r e); omega)
        unfold vCells at HA9 ⊢
        clear hO hO7 hR7 hbi7 hni7 hg9 hb9 fs7 ft7 ho7 hbr7
        go_wp2_with (at_builtin; refine wpList_append_run HA9.out rfl rfl rfl rfl ?_)
        exact ⟨⟨i + 1, _, _, _, by omega, by go_num, hO9, hst, hR9, hbr9⟩, by simp [intOf]; omega⟩
      · obtain rfl : i = N := by omega
        obtain ⟨Ag, cg, rfl⟩ := hO.slice
        obtain ⟨_, hkcg, hcmg, hVg⟩ := hO.row
        have HFg := Lib.hid HO.out.fit
        have HLg := Lib.hid hVg.1
        have hbq : Below W.heap.size W wr := hbWz.trans (hbr.mono hbWz.size)
        replace hrT := hrT.all hbr
        clear hO hbr
        rcases Classical.em (endI rest err = 0) with hE | hE
        all_goals
          first
            | (have qE : (endI rest err == 0) = true := by (rw [hE]; rfl)
               have HEQ := Lib.hid (show encTo got i = T by rw [encTo_all got i (by rw [HLg.out]; exact Nat.le_refl _)]; exact (HO.out.done hE).symm)
               clear hE
               go_wp2_with (first
                 | (go_at_call 25; ((with_reducible refine (rend_any _ _ _ _ _ HR).mono ?_); rintro e w' ⟨rfl, rfl⟩))
                 | (go_at_call 35; ((with_reducible refine (encode_any _ _ _ got _ hVg HFg (by omega) hkcg hcmg).mono ?_); rintro e w8 ⟨A8, n8, c8, rfl, hnc8, hcm8, hn8, HX8, hown8, hr8, hb8⟩; replace hbq := bt hbq hb8; replace hrT := hrT.all hb8; clear hb8))
                 | (go_at_call 30; ((with_reducible refine (sameBytes_true _ _ _ _ _ _ _ _ _ HEQ.out HX8 HXT hr8 hrT (by omega) (by omega)).mono ?_); rintro e w9 ⟨rfl, hb9⟩; replace hbq := bt hbq hb9; clear hb9))))
            | (have qE : (endI rest err == 0) = false := by simpa using hE
               clear hE
               go_wp2_with (first
                 | (go_at_call 25; ((with_reducible refine (rend_any _ _ _ _ _ HR).mono ?_); rintro e w' ⟨rfl, rfl⟩))))
        all_goals
          refine (few_list _ _ _ 60 60 rfl _ _ hA0 (hR0.all hbq) hn0 hc0 (by decide) (bytes_wf hw0)).mono ?_
          rintro e w10 ⟨A10, c10, n10, fb, rfl, hnc10, hcm10, hm10, HK10, HX10, HE10, hown10, hr10, hb10⟩
          have hRk := hR4.all (bt hbq hb10)
          replace hbq := bt hbq hb10
          clear hb10 HR
          go_wp2_with fail
          refine (read_any _ _ _ _ _ HX10 hr10 (by omega)).mono ?_
          rintro e w11 ⟨gs, rfl, hgs, hRs, hb11, _⟩
          have HRs := Lib.hid hRs
          have hw10 := hb11.size
          have HOs := Lib.hid (OneAt.start (T := fb) (by rw [HX10.out]; omega))
          obtain ⟨B2, hB2⟩ : ∃ B, B = w11.heap.size := ⟨_, rfl⟩
          rw [← hB2] at HRs
          have hgsB := HRs.out.lt
          clear hRs hB2 hown10
          go_wp2
          go_loopw [14, 17] (fun gv v wr => ∃ i : Nat, ∃ (got : List V) (rest : List UInt8) (err : Int), i ≤ n4 ∧ i ≤ 10 ∧ v = .int .i64 (i : Int) ∧ VOwn wr B2 gv i got ∧ Hid (OneAt fb got rest err) ∧ Hid (Rdr wr B2 gs rest err) ∧ Below w10.heap.size w10 wr) (fun _ v _ => n4 - (intOf v).toNat)
          case atStart => exact ⟨0, [], fb, 0, by omega, by omega, rfl, VOwn.nil _ _, HOs, HRs, hb11⟩
          case round =>
            clear HRs HOs hb11
            obtain ⟨i, got, rest, err, hi, hi10, rfl, hO, HO, HR, hbr⟩ := hrel
            obtain ⟨v14, rfl⟩ : ∃ x, x = u14 := ⟨_, rfl⟩
            have hbase : B2 ≤ wr.heap.size := HR.out.lt.2
            rcases (show (i < n4 ∧ i < 10 ∧ endI rest err ≠ 0) ∨ (i < n4 ∧ i < 10 ∧ endI rest err = 0) ∨ (i < n4 ∧ ¬ i < 10 ∧ endI rest err = 0) ∨ (i < n4 ∧ ¬ i < 10 ∧ endI rest err ≠ 0) ∨ (¬ i < n4 ∧ endI rest err = 0) ∨ (¬ i < n4 ∧ endI rest err ≠ 0) by omega) with ⟨hlt, hl10, hE⟩ | ⟨hlt, hl10, hE⟩ | ⟨hlt, hl10, hE⟩ | ⟨hlt, hl10, hE⟩ | ⟨hlt, hE⟩ | ⟨hlt, hE⟩
            · have qE : (endI rest err != 0) = true := by simpa using hE
              have hl10' : decide ((i : Int) < 10) = true := by simp; omega
              obtain ⟨bb, off, rfl, hbB, c0'⟩ := (hRk.all hbr).at_ hlt
              obtain ⟨hk1, hk2⟩ := wf_i64 (hw4.out i hlt)
              have hi0 : (0 : Int) ≤ (i : Int) := by omega
              have hi1 : (i : Int) < (n4 : Int) := by omega
              clear hE
              go_wp2_with (first
                | (go_at_call 25; ((with_reducible refine (rend_any _ _ _ _ _ HR).mono ?_); rintro e w' ⟨rfl, rfl⟩))
                | (go_at_call 11; ((with_reducible refine (around_nat _ 6 6 _ (by omega) hk1 hk2 (by omega) (by omega)).mono ?_); rintro e w' ⟨kd, rfl, hkd, _, rfl⟩; have hst := Lib.hid (HO.out.step (kd : Int)))))
              refine (readv_any _ _ (kd : Int) _ _ _ HR (by have := HO.out.len; omega)).mono ?_
              rintro e w7 ⟨s7, t7, rfl, fs7, ft7, hbi7, hni7, hR7, ho7⟩
              have hO7 := hO.grown ho7 (fun r e => by cases e; omega)
              have hw7 := ho7.size
              obtain ⟨g9, c9, w9, HA9, hO9, hg9, hb9⟩ := hO7.snoc _ s7 t7 hbi7 hni7 (fs7.more hbase) (ft7.more hbase) (fun b off hp e hh => by have := fs7 b off hp e; have := hO.lt b hh.symm; omega) (fun b off hp e hh => by have := ft7 b off hp e; have := hO.lt b hh.symm; omega) (by omega) (by omega)
              have hR9 := Lib.hid (hR7.grown hg9 (fun r e => by have := (VOwn.base_le hO7 r e); omega))
              have hbr7 := below_of_only hbr ho7 hbr.size (by omega)
              have hbr9 : Below w10.heap.size w10 w9 := hbr7.grown hg9 hbr7.size (fun r e => by have := (VOwn.base_le hO7 r e); omega)
              unfold vCells at HA9 ⊢
              clear hO hO7 hR7 hbi7 hni7 hg9 hb9 fs7 ft7 ho7 hbr7
              go_wp2_with (at_builtin; refine wpList_append_run HA9.out rfl rfl rfl rfl ?_)
              exact ⟨⟨i + 1, _, _, _, by omega, by omega, by go_num, hO9, hst, hR9, hbr9⟩, by simp [intOf]; omega⟩
            all_goals
              obtain ⟨Ag2, cg2, rfl⟩ := hO.slice
              obtain ⟨_, hkcg, hcmg, hVg⟩ := hO.row
              have HFg := Lib.hid HO.out.fit
              have HLg := Lib.hid hVg.1
              replace hbq := bt hbq hbr
              have hrT := hr10.all hbr
              have HXT := HX10
              clear hO hbr
              first
                | (have qE : (endI rest err != 0) = false := by (rw [hE]; rfl)
                   have HEQ := Lib.hid (show encTo got i = fb by rw [encTo_all got i (by rw [HLg.out]; exact Nat.le_refl _)]; exact (HO.out.done hE).symm)
                   clear hE
                   go_wp2_with (first
                     | (go_at_call 25; ((with_reducible refine (rend_any _ _ _ _ _ HR).mono ?_); rintro e w' ⟨rfl, rfl⟩))
                     | (go_at_call 35; ((with_reducible refine (encode_any _ _ _ got _ hVg HFg (by omega) hkcg hcmg).mono ?_); rintro e w8 ⟨A8, n8, c8, rfl, hnc8, hcm8, hn8, HX8, hown8, hr8, hb8⟩; replace hbq := bt hbq hb8; replace hrT := hrT.all hb8; clear hb8))
                     | (go_at_call 30; ((with_reducible refine (sameBytes_true _ _ _ _ _ _ _ _ _ HEQ.out HX8 HXT hr8 hrT (by omega) (by omega)).mono ?_); rintro e w9 ⟨rfl, hb9⟩; replace hbq := bt hbq hb9; clear hb9))
                     | (go_at_call 17; ((with_reducible refine (lives2_any _).mono ?_); rintro e wl ⟨rfl, hbl⟩; replace hbq := bt hbq hbl; clear hbl)))
                   go_ret
                   exact ⟨rfl, hbq⟩)
                | (have qE : (endI rest err != 0) = true := by simpa using hE
                   clear hE
                   go_wp2_with (first
                     | (go_at_call 25; ((with_reducible refine (rend_any _ _ _ _ _ HR).mono ?_); rintro e w' ⟨rfl, rfl⟩))
                     | (go_at_call 17; ((with_reducible refine (lives2_any _).mono ?_); rintro e wl ⟨rfl, hbl⟩; replace hbq := bt hbq hbl; clear hbl)))
                   go_ret
                   exact ⟨rfl, hbq⟩)
  · have t0 : 0 < (n2 : Int) := by omega
    go_wp2_with fail
    refine (around_nat a2 n2 _ _ rfl (by omega) (by omega) (by omega) (by omega)).mono ?_
    rintro e w' ⟨kk, rfl, hkk, _, rfl⟩
    obtain ⟨g2, rfl, hg2, hgl2⟩ := own_some hown2 h0
    obtain ⟨hc2, hf2⟩ := own_byte hown2 hkk
    have hownT := own_byte_set hown2 kk b3
    have hb12 := hb2.setCell (p := ⟨g2, kk, none⟩) hg2 (.int .u8 ((b3.toNat : Nat) : Int))
    replace hb := (bt hb hb2).setCell (p := ⟨g2, kk, none⟩) (by simp; omega) (.int .u8 ((b3.toNat : Nat) : Int))
    have HXT : Hid (((encTo vs N).set kk b3).length = n2) := Lib.hid (by rw [List.length_set]; exact HX2.out)
    have HH := Lib.hid (And.intro hownT (And.intro hb12 hb))
    clear hownT hb12 hb
    go_wp2_with fail
    obtain ⟨hownT, hb12, hb⟩ := HH.out
    generalize (encTo vs N).set kk b3 = T at *
    generalize w2.setCell ⟨g2, kk, none⟩ (.int .u8 ((b3.toNat : Nat) : Int)) = wz at *
    have hrT := (rd_bytes hownT).2.2
    clear hb2 hown2 hr2 HX2 hc2 hf2 HH
    refine (read_any _ _ _ _ _ HXT hrT (by omega)).mono ?_
    rintro e w4 ⟨gr, rfl, hgr, hR4, hb4, _⟩
    have HR4 := Lib.hid hR4
    have hwz4 := hb4.size
    have hbz : Below wz.heap.size wz w4 := hb4
    have HO4 := Lib.hid (OneAt.start (T := T) (by rw [HXT.out]; omega))
    have hVB : w1.heap.size ≤ wz.heap.size := hb12.size
    have hVz := hV.below hb12 (Nat.le_refl _)
    have hbWz := hb
    obtain ⟨B, hB⟩ : ∃ B, B = w4.heap.size := ⟨_, rfl⟩
    rw [← hB] at HR4
    have hgrB := HR4.out.lt
    clear hR4 hb4 hownT hb hB
    go_wp2
    go_loopw [14, 15] (fun gv v wr => ∃ i : Nat, ∃ (got : List V) (rest : List UInt8) (err : Int), i ≤ N ∧ v = .int .i64 (i : Int) ∧ VOwn wr B gv i got ∧ Hid (OneAt T got rest err) ∧ Hid (Rdr wr B gr rest err) ∧ Below wz.heap.size wz wr) (fun _ v _ => N - (intOf v).toNat)
    case atStart => exact ⟨0, [], T, 0, by omega, rfl, VOwn.nil _ _, HO4, HR4, hbz⟩
    case round =>
      clear HR4 HO4 hbz
      obtain ⟨i, got, rest, err, hi, rfl, hO, HO, HR, hbr⟩ := hrel
      obtain ⟨v14, rfl⟩ : ∃ x, x = u14 := ⟨_, rfl⟩
      have hbase : B ≤ wr.heap.size := HR.out.lt.2
      have hgrz : wz.heap.size ≤ gr := hgr
      by_cases hlt : i < N
      · obtain ⟨bb, off, v, s, t, hA', hbB, HV, c0', _, _, _, _, _, _⟩ := (hVz.below hbr hVB).at_ hlt
        subst hA'
        have hst := Lib.hid (HO.out.step v.kind)
        have hi0 : (0 : Int) ≤ (i : Int) := by omega
        have hi1 : (i : Int) < (N : Int) := by omega
        go_wp2_with fail
        refine (readv_any _ _ v.kind _ _ _ HR (by have := HO.out.len; omega)).mono ?_
        rintro e w7 ⟨s7, t7, rfl, fs7, ft7, hbi7, hni7, hR7, ho7⟩
        have hO7 := hO.grown ho7 (fun r e => by cases e; omega)
        have hw7 := ho7.size
        obtain ⟨g9, c9, w9, HA9, hO9, hg9, hb9⟩ := hO7.snoc _ s7 t7 hbi7 hni7 (fs7.more hbase) (ft7.more hbase) (fun b off hp e hh => by have := fs7 b off hp e; have := hO.lt b hh.symm; omega) (fun b off hp e hh => by have := ft7 b off hp e; have := hO.lt b hh.symm; omega) (by omega) (by omega)
        have hR9 := Lib.hid (hR7.grown hg9 (fun r e => by have := (VOwn.base_le hO7 r e); omega))
        have hbr7 := below_of_only hbr ho7 hbr.size (by omega)
        have hbr9 : Below wz.heap.size wz w9 := hbr7.grown hg9 hbr7.size (fun r e => by have := (VOwn.base_le hO7 r e); omega)
        unfold vCells at HA9 ⊢
        clear hO hO7 hR7 hbi7 hni7 hg9 hb9 fs7 ft7 ho7 hbr7
        go_wp2_with (at_builtin; refine wpList_append_run HA9.out rfl rfl rfl rfl ?_)
        exact ⟨⟨i + 1, _, _, _, by omega, by go_num, hO9, hst, hR9, hbr9⟩, by simp [intOf]; omega⟩
      · obtain rfl : i = N := by omega
        obtain ⟨Ag, cg, rfl⟩ := hO.slice
        obtain ⟨_, hkcg, hcmg, hVg⟩ := hO.row
        have HFg := Lib.hid HO.out.fit
        have HLg := Lib.hid hVg.1
        have hbq : Below W.heap.size W wr := hbWz.trans (hbr.mono hbWz.size)
        replace hrT := hrT.all hbr
        clear hO hbr
        rcases Classical.em (endI rest err = 0) with hE | hE
        all_goals
          first
            | (have qE : (endI rest err == 0) = true := by (rw [hE]; rfl)
               have HEQ := Lib.hid (show encTo got i = T by rw [encTo_all got i (by rw [HLg.out]; exact Nat.le_refl _)]; exact (HO.out.done hE).symm)
               clear hE
               go_wp2_with (first
                 | (go_at_call 25; ((with_reducible refine (rend_any _ _ _ _ _ HR).mono ?_); rintro e w' ⟨rfl, rfl⟩))
                 | (go_at_call 35; ((with_reducible refine (encode_any _ _ _ got _ hVg HFg (by omega) hkcg hcmg).mono ?_); rintro e w8 ⟨A8, n8, c8, rfl, hnc8, hcm8, hn8, HX8, hown8, hr8, hb8⟩; replace hbq := bt hbq hb8; replace hrT := hrT.all hb8; clear hb8))
                 | (go_at_call 30; ((with_reducible refine (sameBytes_true _ _ _ _ _ _ _ _ _ HEQ.out HX8 HXT hr8 hrT (by omega) (by omega)).mono ?_); rintro e w9 ⟨rfl, hb9⟩; replace hbq := bt hbq hb9; clear hb9))))
            | (have qE : (endI rest err == 0) = false := by simpa using hE
               clear hE
               go_wp2_with (first
                 | (go_at_call 25; ((with_reducible refine (rend_any _ _ _ _ _ HR).mono ?_); rintro e w' ⟨rfl, rfl⟩))))
        all_goals
          refine (few_list _ _ _ 60 60 rfl _ _ hA0 (hR0.all hbq) hn0 hc0 (by decide) (bytes_wf hw0)).mono ?_
          rintro e w10 ⟨A10, c10, n10, fb, rfl, hnc10, hcm10, hm10, HK10, HX10, HE10, hown10, hr10, hb10⟩
          have hRk := hR4.all (bt hbq hb10)
          replace hbq := bt hbq hb10
          clear hb10 HR
          go_wp2_with fail
          refine (read_any _ _ _ _ _ HX10 hr10 (by omega)).mono ?_
          rintro e w11 ⟨gs, rfl, hgs, hRs, hb11, _⟩
          have HRs := Lib.hid hRs
          have hw10 := hb11.size
          have HOs := Lib.hid (OneAt.start (T := fb) (by rw [HX10.out]; omega))
          obtain ⟨B2, hB2⟩ : ∃ B, B = w11.heap.size := ⟨_, rfl⟩
          rw [← hB2] at HRs
          have hgsB := HRs.out.lt
          clear hRs hB2 hown10
          go_wp2
          go_loopw [14, 17] (fun gv v wr => ∃ i : Nat, ∃ (got : List V) (rest : List UInt8) (err : Int), i ≤ n4 ∧ i ≤ 10 ∧ v = .int .i64 (i : Int) ∧ VOwn wr B2 gv i got ∧ Hid (OneAt fb got rest err) ∧ Hid (Rdr wr B2 gs rest err) ∧ Below w10.heap.size w10 wr) (fun _ v _ => n4 - (intOf v).toNat)
          case atStart => exact ⟨0, [], fb, 0, by omega, by omega, rfl, VOwn.nil _ _, HOs, HRs, hb11⟩
          case round =>
            clear HRs HOs hb11
            obtain ⟨i, got, rest, err, hi, hi10, rfl, hO, HO, HR, hbr⟩ := hrel
            obtain ⟨v14, rfl⟩ : ∃ x, x = u14 := ⟨_, rfl⟩
            have hbase : B2 ≤ wr.heap.size := HR.out.lt.2
            rcases (show (i < n4 ∧ i < 10 ∧ endI rest err ≠ 0) ∨ (i < n4 ∧ i < 10 ∧ endI rest err = 0) ∨ (i < n4 ∧ ¬ i < 10 ∧ endI rest err = 0) ∨ (i < n4 ∧ ¬ i < 10 ∧ endI rest err ≠ 0) ∨ (¬ i < n4 ∧ endI rest err = 0) ∨ (¬ i < n4 ∧ endI rest err ≠ 0) by omega) with ⟨hlt, hl10, hE⟩ | ⟨hlt, hl10, hE⟩ | ⟨hlt, hl10, hE⟩ | ⟨hlt, hl10, hE⟩ | ⟨hlt, hE⟩ | ⟨hlt, hE⟩
            · have qE : (endI rest err != 0) = true := by simpa using hE
              have hl10' : decide ((i : Int) < 10) = true := by simp; omega
              obtain ⟨bb, off, rfl, hbB, c0'⟩ := (hRk.all hbr).at_ hlt
              obtain ⟨hk1, hk2⟩ := wf_i64 (hw4.out i hlt)
              have hi0 : (0 : Int) ≤ (i : Int) := by omega
              have hi1 : (i : Int) < (n4 : Int) := by omega
              clear hE
              go_wp2_with (first
                | (go_at_call 25; ((with_reducible refine (rend_any _ _ _ _ _ HR).mono ?_); rintro e w' ⟨rfl, rfl⟩))
                | (go_at_call 11; ((with_reducible refine (around_nat _ 6 6 _ (by omega) hk1 hk2 (by omega) (by omega)).mono ?_); rintro e w' ⟨kd, rfl, hkd, _, rfl⟩; have hst := Lib.hid (HO.out.step (kd : Int)))))
              refine (readv_any _ _ (kd : Int) _ _ _ HR (by have := HO.out.len; omega)).mono ?_
              rintro e w7 ⟨s7, t7, rfl, fs7, ft7, hbi7, hni7, hR7, ho7⟩
              have hO7 := hO.grown ho7 (fun r e => by cases e; omega)
              have hw7 := ho7.size
              obtain ⟨g9, c9, w9, HA9, hO9, hg9, hb9⟩ := hO7.snoc _ s7 t7 hbi7 hni7 (fs7.more hbase) (ft7.more hbase) (fun b off hp e hh => by have := fs7 b off hp e; have := hO.lt b hh.symm; omega) (fun b off hp e hh => by have := ft7 b off hp e; have := hO.lt b hh.symm; omega) (by omega) (by omega)
              have hR9 := Lib.hid (hR7.grown hg9 (fun r e => by have := (VOwn.base_le hO7 r e); omega))
              have hbr7 := below_of_only hbr ho7 hbr.size (by omega)
              have hbr9 : Below w10.heap.size w10 w9 := hbr7.grown hg9 hbr7.size (fun r e => by have := (VOwn.base_le hO7 r e); omega)
              unfold vCells at HA9 ⊢
              clear hO hO7 hR7 hbi7 hni7 hg9 hb9 fs7 ft7 ho7 hbr7
              go_wp2_with (at_builtin; refine wpList_append_run HA9.out rfl rfl rfl rfl ?_)
              exact ⟨⟨i + 1, _, _, _, by omega, by omega, by go_num, hO9, hst, hR9, hbr9⟩, by simp [intOf]; omega⟩
            all_goals
              obtain ⟨Ag2, cg2, rfl⟩ := hO.slice
              obtain ⟨_, hkcg, hcmg, hVg⟩ := hO.row
              have HFg := Lib.hid HO.out.fit
              have HLg := Lib.hid hVg.1
              replace hbq := bt hbq hbr
              have hrT := hr10.all hbr
              have HXT := HX10
              clear hO hbr
              first
                | (have qE : (endI rest err != 0) = false := by (rw [hE]; rfl)
                   have HEQ := Lib.hid (show encTo got i = fb by rw [encTo_all got i (by rw [HLg.out]; exact Nat.le_refl _)]; exact (HO.out.done hE).symm)
                   clear hE
                   go_wp2_with (first
                     | (go_at_call 25; ((with_reducible refine (rend_any _ _ _ _ _ HR).mono ?_); rintro e w' ⟨rfl, rfl⟩))
                     | (go_at_call 35; ((with_reducible refine (encode_any _ _ _ got _ hVg HFg (by omega) hkcg hcmg).mono ?_); rintro e w8 ⟨A8, n8, c8, rfl, hnc8, hcm8, hn8, HX8, hown8, hr8, hb8⟩; replace hbq := bt hbq hb8; replace hrT := hrT.all hb8; clear hb8))
                     | (go_at_call 30; ((with_reducible refine (sameBytes_true _ _ _ _ _ _ _ _ _ HEQ.out HX8 HXT hr8 hrT (by omega) (by omega)).mono ?_); rintro e w9 ⟨rfl, hb9⟩; replace hbq := bt hbq hb9; clear hb9))
                     | (go_at_call 17; ((with_reducible refine (lives2_any _).mono ?_); rintro e wl ⟨rfl, hbl⟩; replace hbq := bt hbq hbl; clear hbl)))
                   go_ret
                   exact ⟨rfl, hbq⟩)
                | (have qE : (endI rest err != 0) = true := by simpa using hE
                   clear hE
                   go_wp2_with (first
                     | (go_at_call 25; ((with_reducible refine (rend_any _ _ _ _ _ HR).mono ?_); rintro e w' ⟨rfl, rfl⟩))
                     | (go_at_call 17; ((with_reducible refine (lives2_any _).mono ?_); rintro e wl ⟨rfl, hbl⟩; replace hbq := bt hbq hbl; clear hbl)))
                   go_ret
                   exact ⟨rfl, hbq⟩)


set_option maxRecDepth 100000 in
theorem WireOne_lifted (os : Os) (started : os.Started) (H : Type) (enc : TypeId × Value → H) :
    ReturnsInHanded {} Try.checked os 8 .any (Rows.wireOneSpec.pre6 enc Try.prog Try.f8 Rows.wireOneRow.domain false) (Rows.wireOneSpec.post enc Try.prog Try.f8 false true false false) := by
  refine returnsInHanded_of_change (C := Try.checked) Try.own started (by kernel_rfl) Try.func8
    (ChangeSpec.witness6 (enc := enc) (C := Try.checked) false ⟨#[], #[.slice none 0 0, .slice none 0 0, .int .i64 0, .int .u8 0, .slice none 0 0], []⟩ 8 (by kernel_rfl) (by kernel_rfl) (by kernel_rfl) (by kernel_rfl)) ?_
  intro W base args ds gs before hval0 hW _ _
  have hval : ∀ (j : Nat) t v, Try.f8.params[j]? = some t → args[j]? = some v → Value.okWide Try.prog W .any base t v := hval0
  have hW' := hW
  obtain ⟨p, q, hT0, hV, rfl, hfz, hnd⟩ := hW
  have hT : DataW.TrodAll enc Try.prog W 0 (fun _ => true) true Try.f8.params.toList args.toList ds p := hT0
  rw [Try.params8] at hT hval
  obtain ⟨v0, vs0, d0, ds0, p0, q0, hargs0, rfl, rfl, h0, r0⟩ := trodAll_cons hT
  obtain ⟨v1, vs1, d1, ds1, p1, q1, hargs1, rfl, rfl, h1, r1⟩ := trodAll_cons r0
  obtain ⟨v2, vs2, d2, ds2, p2, q2, hargs2, rfl, rfl, h2, r2⟩ := trodAll_cons r1
  obtain ⟨v3, vs3, d3, ds3, p3, q3, hargs3, rfl, rfl, h3, r3⟩ := trodAll_cons r2
  obtain ⟨v4, vs4, d4, ds4, p4, q4, hargs4, rfl, rfl, h4, r4⟩ := trodAll_cons r3
  obtain ⟨rfl, rfl, rfl⟩ := trodAll_nil r4
  obtain rfl : args = #[v0, v1, v2, v3, v4] := by cases args; simp_all
  obtain ⟨A0, n0, c0, f0, rfl, hA0, hn0, hc0, hR0, hw0⟩ := open_sl Try.underlying24 Try.underlying5 (by kernel_rfl) (hval 0 24 v0 rfl rfl) h0
  obtain ⟨A1, n1, c1, f1, rfl, hA1, hn1, hc1, hR1, hw1⟩ := open_sl Try.underlying33 Try.underlying3 (by kernel_rfl) (hval 1 33 v1 rfl rfl) h1
  obtain ⟨a2, rfl, -, -, w2⟩ := open_int Try.underlying3 (hval 2 3 v2 rfl rfl) h2
  obtain ⟨a3, rfl, -, -, w3⟩ := open_int Try.underlying5 (hval 3 5 v3 rfl rfl) h3
  obtain ⟨A4, n4, c4, f4, rfl, hA4, hn4, hc4, hR4, hw4⟩ := open_sl Try.underlying33 Try.underlying3 (by kernel_rfl) (hval 4 33 v4 rfl rfl) h4
  refine (WireOne_walk W A0 n0 c0 f0 hA0 hn0 hc0 hR0 hw0 A1 n1 c1 f1 hA1 hn1 hc1 hR1 hw1 a2 w2 a3 w3 A4 n4 c4 f4 hA4 hn4 hc4 hR4 hw4).mono fun e W' ⟨he, hb⟩ => ?_
  subst he
  exact ⟨_, rfl, law_post Try.laidOut (by kernel_rfl) (by kernel_rfl) Try.underlying4 rfl hW' rfl hb⟩

theorem WireOne_holds : Rows.WireOneSaid :=
  OpenClaim.holds_of_wide 8 Try.f8 rfl rfl rfl rfl rfl rfl rfl ⟨rfl, rfl, rfl, rfl, rfl⟩ rfl rfl rfl rfl rfl (by kernel_rfl) Try.func8 (by kernel_rfl)
    (of_decide_eq_true (by kernel_rfl)) (by unfold Func.isWrapper; first | (rw [if_pos (by decide +kernel)]; kernel_rfl) | (rw [if_neg (by decide +kernel)]; exact ⟨rfl, rfl⟩))
    (fun os started H enc _ => WireOne_lifted os started H enc)

end Go.Proofs.Ytahajgmmoefpjaa
