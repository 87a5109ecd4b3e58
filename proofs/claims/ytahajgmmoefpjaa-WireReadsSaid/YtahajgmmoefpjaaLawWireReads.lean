/- For every slice of bytes, list, place, byte and list of kinds worldmintlaw02.WireReads returns true. No condition. -/
import Derived.Test.YtahajgmmoefpjaaWireLives
import Derived.Test.YtahajgmmoefpjaaRefHelp2
import Derived.Test.YtahajgmmoefpjaaWireRefR2
import Derived.Test.YtahajgmmoefpjaaLaw
namespace Go.Proofs.Ytahajgmmoefpjaa
open Go.ChangeShapes Go.WideShapes Go.ChangeAt Go.RowKit Go.ChangeMaps


set_option maxRecDepth 100000 in
set_option maxHeartbeats 8000000 in
theorem WireReads_walk (W : World) (A0 : Option Addr) (n0 c0 : Nat) (f0 : Nat → Int) (hA0 : A0 = none → n0 = 0) (hn0 : n0 ≤ c0) (hc0 : c0 ≤ 9223372036854775807) (hR0 : Rd W W.heap.size A0 n0 (fun j => .int .u8 (f0 j))) (hw0 : Hid (∀ j, j < n0 → (Lit.int .u8 (f0 j)).wf = true)) (A1 : Option Addr) (n1 c1 : Nat) (f1 : Nat → Int) (hA1 : A1 = none → n1 = 0) (hn1 : n1 ≤ c1) (hc1 : c1 ≤ 9223372036854775807) (hR1 : Rd W W.heap.size A1 n1 (fun j => .int .i64 (f1 j))) (hw1 : Hid (∀ j, j < n1 → (Lit.int .i64 (f1 j)).wf = true)) (a2 : Int) (ha2 : Hid ((Lit.int .i64 a2).wf = true)) (a3 : Int) (ha3 : Hid ((Lit.int .u8 a3).wf = true)) (A4 : Option Addr) (n4 c4 : Nat) (f4 : Nat → Int) (_hA4 : A4 = none → n4 = 0) (_hn4 : n4 ≤ c4) (_hc4 : c4 ≤ 9223372036854775807) (hR4 : Rd W W.heap.size A4 n4 (fun j => .int .i64 (f4 j))) (hw4 : Hid (∀ j, j < n4 → (Lit.int .i64 (f4 j)).wf = true)) :
    Calls Try.prog 4 #[.slice A0 n0 c0, .slice A1 n1 c1, .int .i64 a2, .int .u8 a3, .slice A4 n4 c4] W fun e w' => e = .returned (.bool true) ∧ Below W.heap.size W w' := by
  obtain ⟨hr20, hr21⟩ := wf_i64 ha2.out
  obtain ⟨b3, rfl⟩ := byte_of_wf ha3.out
  have HF1 := Lib.hid (fun j (hj : j < n1) => (wf_i64 (hw1.out j hj) : InI (f1 j)))
  have hb := Below.refl W.heap.size W
  go_enter Try.func4, Try.ntmps4
  go_wp2_with fail
  refine (vals_any A1 n1 c1 f1 W hA1 hR1 hn1 hc1 HF1).mono ?_
  rintro e w1 ⟨Av, N, cv, vs, rfl, hk8, hkc, hcm, hOv, HG, hb1⟩
  replace hb := bt hb hb1
  obtain ⟨_, hkc2, hcm2, hV⟩ := hOv.row
  have HL := Lib.hid hV.1
  have HFIT := Lib.hid (fit_of_good HG.out)
  clear hb1
  go_wp2_with fail
  refine (rencode_any _ _ _ vs _ hV HFIT (by omega)).mono ?_
  rintro e w2 ⟨A2, n2, c2, rfl, HX2, hown2, hb2⟩
  have hsm : n2 ≤ 480 := by
    have h1 := flatV_small HG.out
    rw [← encTo_all vs N (by rw [HL.out]; exact Nat.le_refl _), HX2.out, HL.out] at h1
    omega
  have hs12 := hb2.size
  have hsW1 := hb.size
  have hnc2' := (rd_bytes hown2).2.1
  have hcm2' := own_cap hown2
  have hnil2 := own_nil hown2
  rcases Nat.eq_zero_or_pos n2 with h0 | h0
  · have t0 : (n2 : Int) ≤ 0 := by omega
    clear h0
    replace hb := bt hb hb2
    have HXT := HX2
    have hownT := hown2
    generalize encTo vs N = T at *
    have hrT := (rd_bytes hownT).2.2
    clear hb2 hown2 HX2
    go_wp2_with fail
    refine (few_list _ _ _ 60 60 rfl _ _ hA0 (hR0.all hb) hn0 hc0 (by decide) (bytes_wf hw0)).mono ?_
    rintro e w3 ⟨A3, c3, n3, fb, rfl, hnc3, hcm3, hm3, HK3, HX3, HE3, hown3, hr3, hb3⟩
    have hrT3 := hrT.all hb3
    have hbA := bt hb hb3
    have hnil3 : A3 = none → c3 = 0 := own_nil hown3
    have hal : Below w3.heap.size w3 (w3.alloc (.cells #[.slice A3 n3 c3, .slice A2 n2 c2] 24)) := (Below.refl _ _).alloc (Nat.le_refl _) _
    have HX : Hid (∀ i, i < 2 → ∃ (A : Option Addr) (n c : Nat) (T : List UInt8), (w3.alloc (.cells #[.slice A3 n3 c3, .slice A2 n2 c2] 24)).cell? ⟨w3.heap.size, i, none⟩ = some (.slice A n c) ∧ T.length = n ∧ n ≤ 1000 ∧ Rd (w3.alloc (.cells #[.slice A3 n3 c3, .slice A2 n2 c2] 24)) (w3.alloc (.cells #[.slice A3 n3 c3, .slice A2 n2 c2] 24)).heap.size A n (vByte T) ∧ n ≤ c ∧ c ≤ 9223372036854775807 ∧ (A = none → c = 0)) := Lib.hid (by
      intro i hi
      rcases (show i = 0 ∨ i = 1 by omega) with rfl | rfl
      · exact ⟨A3, n3, c3, fb, by simp, HX3.out, by omega, hr3.all hal, hnc3, hcm3, hnil3⟩
      · exact ⟨A2, n2, c2, T, by simp, HXT.out, by omega, hrT3.all hal, hnc2', hcm2', hnil2⟩)
    have hbz := bt hbA hal
    clear hal hb3 hown3 hr3 hrT3 hrT hb
    go_wp2
    obtain ⟨wz, hwz⟩ : ∃ wz, wz = w3.alloc (.cells #[.slice A3 n3 c3, .slice A2 n2 c2] 24) := ⟨_, rfl⟩
    rw [← hwz] at HX hbz
    have hsz : w3.heap.size < wz.heap.size := by rw [hwz]; simp
    rw [← hwz]
    clear hwz hbA
    go_loopw [13] (fun v wr => ∃ i : Nat, i ≤ 2 ∧ v = .int .i64 (i : Int) ∧ Below wz.heap.size wz wr) (fun v _ => 2 - (intOf v).toNat)
    case atStart => exact ⟨0, by omega, rfl, Below.refl _ _⟩
    case round =>
      obtain ⟨i, hi2, rfl, hbr⟩ := hrel
      by_cases hlt : i < 2
      · obtain ⟨A, n, c, T, hc0, hT, hn1000, hRd0, hnc, hcm, hnil⟩ := HX.out i hlt
        have hcell := (hbr.cell (p := ⟨w3.heap.size, i, none⟩) hsz).trans hc0
        have HT := Lib.hid hT
        have hRd := hRd0.all hbr
        have hi0 : (0 : Int) ≤ (i : Int) := by omega
        have hi1 : (i : Int) < 2 := by omega
        clear hc0 hT hRd0
        obtain ⟨wo, rfl⟩ : ∃ x, x = wr := ⟨_, rfl⟩
        go_wp2_with fail
        refine (read_any _ _ _ _ _ HT hRd (by omega)).mono ?_
        rintro e w5 ⟨gr, rfl, hgr, hR5, hb5, _⟩
        have hbr5 := bt hbr hb5
        have hcell5 := (hb5.cell (p := ⟨w3.heap.size, i, none⟩) (by have := hbr.size; simp; omega)).trans hcell
        have hRd5 := hRd.all hb5
        have hal5 : Below w5.heap.size w5 (w5.alloc (.cells #[.slice A n c, .int .i64 0] 44)) := (Below.refl _ _).alloc (Nat.le_refl _) _
        have hQ5 : RRdr (w5.alloc (.cells #[.slice A n c, .int .i64 0] 44)) (w5.heap.size + 1) w5.heap.size T 0 := ⟨by omega, by simp, A, n, c, Blk.new _ _ _, hnc, hcm, fun _ => ⟨HT.out, by omega, (hRd5.alloc (Nat.le_refl _) _).more (by omega), hnil⟩⟩
        have HQ := Lib.hid hQ5
        have HR := Lib.hid (hR5.all hal5)
        have HO : Hid (∃ got, OneAt T got T 0) := Lib.hid ⟨[], OneAt.start (by rw [HT.out]; omega)⟩
        have hbr6 := bt hbr5 hal5
        have hgrw := hR5.lt
        have hs5 := hbr5.size
        have hwo := hbr.size
        clear hb5 hQ5 hR5 hal5 hRd5 hbr5 hRd hcell
        go_wp2
        go_loopw [16, 17] (fun v _ wr => ∃ k : Nat, ∃ (rest : List UInt8) (err : Int), k ≤ n4 ∧ k ≤ 10 ∧ v = .int .i64 (k : Int) ∧ Hid (∃ got, OneAt T got rest err) ∧ Hid (Rdr wr w5.heap.size gr rest err) ∧ Hid (RRdr wr (w5.heap.size + 1) w5.heap.size rest err) ∧ Below wz.heap.size wz wr) (fun v _ _ => n4 - (intOf v).toNat)
        case atStart => exact ⟨0, T, 0, by omega, by omega, rfl, HO, HR, HQ, hbr6⟩
        case round =>
          clear HO HR HQ hbr6 hcell5
          obtain ⟨k, rest, err, hk, hk10, rfl, HO, HR, HQ, hbk⟩ := hrel
          rcases (show (k < n4 ∧ k < 10) ∨ (k < n4 ∧ ¬ k < 10) ∨ ¬ k < n4 by omega) with ⟨hlk, hl10⟩ | ⟨hlk, hl10⟩ | hlk
          · have hl10' : decide ((k : Int) < 10) = true := by simp; omega
            have hRk := (hR4.all hbz).all hbk
            obtain ⟨bb, off, rfl, hbB, c0'⟩ := hRk.at_ hlk
            obtain ⟨hk1, hk2⟩ := wf_i64 (hw4.out k hlk)
            have hlen : rest.length ≤ 1000 := by obtain ⟨got, hh⟩ := HO.out; exact hh.len
            have hk0 : (0 : Int) ≤ (k : Int) := by omega
            have hk1' : (k : Int) < (n4 : Int) := by omega
            clear hRk
            go_wp2_with (first
              | (go_at_call 11; ((with_reducible refine (around_nat _ 6 6 _ (by omega) hk1 hk2 (by omega) (by omega)).mono ?_); rintro e w' ⟨kd, rfl, hkd, _, rfl⟩)))
            refine (readv_any _ _ (kd : Int) _ _ _ HR (by omega)).mono ?_
            rintro e w6 ⟨s6, t6, rfl, fs6, ft6, hbi6, hni6, hR6, ho6⟩
            have hQ6 := HQ.out.other HR.out (by omega) ho6
            have HQ6 := Lib.hid hQ6
            have HO2 : Hid (∃ got, OneAt T got (readV (kd : Int) rest err).2.2 (readV (kd : Int) rest err).1) := Lib.hid (by obtain ⟨got, hh⟩ := HO.out; exact ⟨_, hh.step (kd : Int)⟩)
            go_wp2_with fail
            refine (qread_any _ _ (kd : Int) _ _ _ HQ6 (by omega)).mono ?_
            rintro e w7 ⟨s7, t7, rfl, hbi7, hni7, hQ7, ho7⟩
            have hR7 := hR6.otherQ HQ6.out (by omega) ho7
            have hwk := HR.out.lt
            have hwk2 := HQ.out.lt
            replace hbi6 := hbi6.grown ho7 (fun b off hp e hh => by have := fs6 b off hp e; cases hh; omega)
            replace hni6 := hni6.grown ho7 (fun b off hp e hh => by have := ft6 b off hp e; cases hh; omega)
            have hbk7 : Below wz.heap.size wz w7 := below_of_only (below_of_only hbk ho6 hbk.size (by omega)) ho7 (Nat.le_trans hbk.size ho6.size) (by omega)
            clear hQ6 HQ6 hR6 ho6 ho7 fs6 ft6
            go_wp2_with fail
            refine (same_any _ s6 t6 s7 t7 _ hbi6 hni6 hbi7 hni7).mono ?_
            rintro e w8 ⟨rfl, hb8⟩
            have HR8 := Lib.hid (hR7.all hb8)
            have HQ8 := Lib.hid (hQ7.all hb8)
            have hbk8 := hbk7.trans (hb8.mono hbk7.size)
            have qn : (endI (readV (kd : Int) rest err).2.2 (readV (kd : Int) rest err).1 != endI (readV (kd : Int) rest err).2.2 (readV (kd : Int) rest err).1) = false := by simp
            clear hR7 hQ7 hb8 hbk7 hbi6 hni6 hbi7 hni7
            go_wp2_with (first
              | (go_at_call 25; ((with_reducible refine (rend_any _ _ _ _ _ HR8).mono ?_); rintro e w' ⟨rfl, rfl⟩))
              | (go_at_call 26; ((with_reducible refine (qend_any _ _ _ _ _ HQ8).mono ?_); rintro e w' ⟨rfl, rfl⟩)))
            exact ⟨⟨k + 1, _, _, by omega, by omega, by go_num, HO2, HR8, HQ8, hbk8⟩, by simp [intOf]; omega⟩
          all_goals
            go_wp2
            exact ⟨⟨i + 1, by omega, by go_num, hbk⟩, by simp [intOf]; omega⟩
      · obtain rfl : i = 2 := by omega
        have hbq := hbz.trans (hbr.mono hbz.size)
        go_wp2_with (first
          | (go_at_call 17; ((with_reducible refine (lives2_any _).mono ?_); rintro e wl ⟨rfl, hbl⟩; replace hbq := bt hbq hbl; clear hbl)))
        go_ret
        exact ⟨rfl, hbq⟩
  · have t0 : 0 < (n2 : Int) := by omega
    go_wp2_with fail
    refine (around_nat a2 n2 _ _ rfl (by omega) (by omega) (by omega) (by omega)).mono ?_
    rintro e w' ⟨kk, rfl, hkk, _, rfl⟩
    obtain ⟨g2, rfl, hg2, hgl2⟩ := own_some hown2 h0
    obtain ⟨hc2, hf2⟩ := own_byte hown2 hkk
    have hownT := own_byte_set hown2 kk b3
    replace hb := (bt hb hb2).setCell (p := ⟨g2, kk, none⟩) (by simp; omega) (.int .u8 ((b3.toNat : Nat) : Int))
    have HXT : Hid (((encTo vs N).set kk b3).length = n2) := Lib.hid (by rw [List.length_set]; exact HX2.out)
    have HH := Lib.hid (And.intro hownT hb)
    clear hownT hb
    go_wp2_with fail
    obtain ⟨hownT, hb⟩ := HH.out
    generalize (encTo vs N).set kk b3 = T at *
    generalize w2.setCell ⟨g2, kk, none⟩ (.int .u8 ((b3.toNat : Nat) : Int)) = wy at *
    have hrT := (rd_bytes hownT).2.2
    clear hb2 hown2 HX2 hc2 hf2 HH
    refine (few_list _ _ _ 60 60 rfl _ _ hA0 (hR0.all hb) hn0 hc0 (by decide) (bytes_wf hw0)).mono ?_
    rintro e w3 ⟨A3, c3, n3, fb, rfl, hnc3, hcm3, hm3, HK3, HX3, HE3, hown3, hr3, hb3⟩
    have hrT3 := hrT.all hb3
    have hbA := bt hb hb3
    have hnil3 : A3 = none → c3 = 0 := own_nil hown3
    have hal : Below w3.heap.size w3 (w3.alloc (.cells #[.slice A3 n3 c3, .slice (some ⟨g2, 0, none⟩) n2 c2] 24)) := (Below.refl _ _).alloc (Nat.le_refl _) _
    have HX : Hid (∀ i, i < 2 → ∃ (A : Option Addr) (n c : Nat) (T : List UInt8), (w3.alloc (.cells #[.slice A3 n3 c3, .slice (some ⟨g2, 0, none⟩) n2 c2] 24)).cell? ⟨w3.heap.size, i, none⟩ = some (.slice A n c) ∧ T.length = n ∧ n ≤ 1000 ∧ Rd (w3.alloc (.cells #[.slice A3 n3 c3, .slice (some ⟨g2, 0, none⟩) n2 c2] 24)) (w3.alloc (.cells #[.slice A3 n3 c3, .slice (some ⟨g2, 0, none⟩) n2 c2] 24)).heap.size A n (vByte T) ∧ n ≤ c ∧ c ≤ 9223372036854775807 ∧ (A = none → c = 0)) := Lib.hid (by
      intro i hi
      rcases (show i = 0 ∨ i = 1 by omega) with rfl | rfl
      · exact ⟨A3, n3, c3, fb, by simp, HX3.out, by omega, hr3.all hal, hnc3, hcm3, hnil3⟩
      · exact ⟨some ⟨g2, 0, none⟩, n2, c2, T, by simp, HXT.out, by omega, hrT3.all hal, hnc2', hcm2', hnil2⟩)
    have hbz := bt hbA hal
    clear hal hb3 hown3 hr3 hrT3 hrT hb
    go_wp2
    obtain ⟨wz, hwz⟩ : ∃ wz, wz = w3.alloc (.cells #[.slice A3 n3 c3, .slice (some ⟨g2, 0, none⟩) n2 c2] 24) := ⟨_, rfl⟩
    rw [← hwz] at HX hbz
    have hsz : w3.heap.size < wz.heap.size := by rw [hwz]; simp
    rw [← hwz]
    clear hwz hbA
    go_loopw [13] (fun v wr => ∃ i : Nat, i ≤ 2 ∧ v = .int .i64 (i : Int) ∧ Below wz.heap.size wz wr) (fun v _ => 2 - (intOf v).toNat)
    case atStart => exact ⟨0, by omega, rfl, Below.refl _ _⟩
    case round =>
      obtain ⟨i, hi2, rfl, hbr⟩ := hrel
      by_cases hlt : i < 2
      · obtain ⟨A, n, c, T, hc0, hT, hn1000, hRd0, hnc, hcm, hnil⟩ := HX.out i hlt
        have hcell := (hbr.cell (p := ⟨w3.heap.size, i, none⟩) hsz).trans hc0
        have HT := Lib.hid hT
        have hRd := hRd0.all hbr
        have hi0 : (0 : Int) ≤ (i : Int) := by omega
        have hi1 : (i : Int) < 2 := by omega
        clear hc0 hT hRd0
        obtain ⟨wo, rfl⟩ : ∃ x, x = wr := ⟨_, rfl⟩
        go_wp2_with fail
        refine (read_any _ _ _ _ _ HT hRd (by omega)).mono ?_
        rintro e w5 ⟨gr, rfl, hgr, hR5, hb5, _⟩
        have hbr5 := bt hbr hb5
        have hcell5 := (hb5.cell (p := ⟨w3.heap.size, i, none⟩) (by have := hbr.size; simp; omega)).trans hcell
        have hRd5 := hRd.all hb5
        have hal5 : Below w5.heap.size w5 (w5.alloc (.cells #[.slice A n c, .int .i64 0] 44)) := (Below.refl _ _).alloc (Nat.le_refl _) _
        have hQ5 : RRdr (w5.alloc (.cells #[.slice A n c, .int .i64 0] 44)) (w5.heap.size + 1) w5.heap.size T 0 := ⟨by omega, by simp, A, n, c, Blk.new _ _ _, hnc, hcm, fun _ => ⟨HT.out, by omega, (hRd5.alloc (Nat.le_refl _) _).more (by omega), hnil⟩⟩
        have HQ := Lib.hid hQ5
        have HR := Lib.hid (hR5.all hal5)
        have HO : Hid (∃ got, OneAt T got T 0) := Lib.hid ⟨[], OneAt.start (by rw [HT.out]; omega)⟩
        have hbr6 := bt hbr5 hal5
        have hgrw := hR5.lt
        have hs5 := hbr5.size
        have hwo := hbr.size
        clear hb5 hQ5 hR5 hal5 hRd5 hbr5 hRd hcell
        go_wp2
        go_loopw [16, 17] (fun v _ wr => ∃ k : Nat, ∃ (rest : List UInt8) (err : Int), k ≤ n4 ∧ k ≤ 10 ∧ v = .int .i64 (k : Int) ∧ Hid (∃ got, OneAt T got rest err) ∧ Hid (Rdr wr w5.heap.size gr rest err) ∧ Hid (RRdr wr (w5.heap.size + 1) w5.heap.size rest err) ∧ Below wz.heap.size wz wr) (fun v _ _ => n4 - (intOf v).toNat)
        case atStart => exact ⟨0, T, 0, by omega, by omega, rfl, HO, HR, HQ, hbr6⟩
        case round =>
          clear HO HR HQ hbr6 hcell5
          obtain ⟨k, rest, err, hk, hk10, rfl, HO, HR, HQ, hbk⟩ := hrel
          rcases (show (k < n4 ∧ k < 10) ∨ (k < n4 ∧ ¬ k < 10) ∨ ¬ k < n4 by omega) with ⟨hlk, hl10⟩ | ⟨hlk, hl10⟩ | hlk
          · have hl10' : decide ((k : Int) < 10) = true := by simp; omega
            have hRk := (hR4.all hbz).all hbk
            obtain ⟨bb, off, rfl, hbB, c0'⟩ := hRk.at_ hlk
            obtain ⟨hk1, hk2⟩ := wf_i64 (hw4.out k hlk)
            have hlen : rest.length ≤ 1000 := by obtain ⟨got, hh⟩ := HO.out; exact hh.len
            have hk0 : (0 : Int) ≤ (k : Int) := by omega
            have hk1' : (k : Int) < (n4 : Int) := by omega
            clear hRk
            go_wp2_with (first
              | (go_at_call 11; ((with_reducible refine (around_nat _ 6 6 _ (by omega) hk1 hk2 (by omega) (by omega)).mono ?_); rintro e w' ⟨kd, rfl, hkd, _, rfl⟩)))
            refine (readv_any _ _ (kd : Int) _ _ _ HR (by omega)).mono ?_
            rintro e w6 ⟨s6, t6, rfl, fs6, ft6, hbi6, hni6, hR6, ho6⟩
            have hQ6 := HQ.out.other HR.out (by omega) ho6
            have HQ6 := Lib.hid hQ6
            have HO2 : Hid (∃ got, OneAt T got (readV (kd : Int) rest err).2.2 (readV (kd : Int) rest err).1) := Lib.hid (by obtain ⟨got, hh⟩ := HO.out; exact ⟨_, hh.step (kd : Int)⟩)
            go_wp2_with fail
            refine (qread_any _ _ (kd : Int) _ _ _ HQ6 (by omega)).mono ?_
            rintro e w7 ⟨s7, t7, rfl, hbi7, hni7, hQ7, ho7⟩
            have hR7 := hR6.otherQ HQ6.out (by omega) ho7
            have hwk := HR.out.lt
            have hwk2 := HQ.out.lt
            replace hbi6 := hbi6.grown ho7 (fun b off hp e hh => by have := fs6 b off hp e; cases hh; omega)
            replace hni6 := hni6.grown ho7 (fun b off hp e hh => by have := ft6 b off hp e; cases hh; omega)
            have hbk7 : Below wz.heap.size wz w7 := below_of_only (below_of_only hbk ho6 hbk.size (by omega)) ho7 (Nat.le_trans hbk.size ho6.size) (by omega)
            clear hQ6 HQ6 hR6 ho6 ho7 fs6 ft6
            go_wp2_with fail
            refine (same_any _ s6 t6 s7 t7 _ hbi6 hni6 hbi7 hni7).mono ?_
            rintro e w8 ⟨rfl, hb8⟩
            have HR8 := Lib.hid (hR7.all hb8)
            have HQ8 := Lib.hid (hQ7.all hb8)
            have hbk8 := hbk7.trans (hb8.mono hbk7.size)
            have qn : (endI (readV (kd : Int) rest err).2.2 (readV (kd : Int) rest err).1 != endI (readV (kd : Int) rest err).2.2 (readV (kd : Int) rest err).1) = false := by simp
            clear hR7 hQ7 hb8 hbk7 hbi6 hni6 hbi7 hni7
            go_wp2_with (first
              | (go_at_call 25; ((with_reducible refine (rend_any _ _ _ _ _ HR8).mono ?_); rintro e w' ⟨rfl, rfl⟩))
              | (go_at_call 26; ((with_reducible refine (qend_any _ _ _ _ _ HQ8).mono ?_); rintro e w' ⟨rfl, rfl⟩)))
            exact ⟨⟨k + 1, _, _, by omega, by omega, by go_num, HO2, HR8, HQ8, hbk8⟩, by simp [intOf]; omega⟩
          all_goals
            go_wp2
            exact ⟨⟨i + 1, by omega, by go_num, hbk⟩, by simp [intOf]; omega⟩
      · obtain rfl : i = 2 := by omega
        have hbq := hbz.trans (hbr.mono hbz.size)
        go_wp2_with (first
          | (go_at_call 17; ((with_reducible refine (lives2_any _).mono ?_); rintro e wl ⟨rfl, hbl⟩; replace hbq := bt hbq hbl; clear hbl)))
        go_ret
        exact ⟨rfl, hbq⟩


set_option maxRecDepth 100000 in
theorem WireReads_lifted (os : Os) (started : os.Started) (H : Type) (enc : TypeId × Value → H) :
    ReturnsInHanded {} Try.checked os 4 .any (Rows.wireReadsSpec.pre6 enc Try.prog Try.f4 Rows.wireReadsRow.domain false) (Rows.wireReadsSpec.post enc Try.prog Try.f4 false true false false) := by
  refine returnsInHanded_of_change (C := Try.checked) Try.own started (by kernel_rfl) Try.func4
    (ChangeSpec.witness6 (enc := enc) (C := Try.checked) false ⟨#[], #[.slice none 0 0, .slice none 0 0, .int .i64 0, .int .u8 0, .slice none 0 0], []⟩ 8 (by kernel_rfl) (by kernel_rfl) (by kernel_rfl) (by kernel_rfl)) ?_
  intro W base args ds gs before hval0 hW _ _
  have hval : ∀ (j : Nat) t v, Try.f4.params[j]? = some t → args[j]? = some v → Value.okWide Try.prog W .any base t v := hval0
  have hW' := hW
  obtain ⟨p, q, hT0, hV, rfl, hfz, hnd⟩ := hW
  have hT : DataW.TrodAll enc Try.prog W 0 (fun _ => true) true Try.f4.params.toList args.toList ds p := hT0
  rw [Try.params4] at hT hval
  obtain ⟨v0, vs0, d0, ds0, p0, q0, hargs0, rfl, rfl, h0, r0⟩ := trodAll_cons hT
  obtain ⟨v1, vs1, d1, ds1, p1, q1, hargs1, rfl, rfl, h1, r1⟩ := trodAll_cons r0
  obtain ⟨v2, vs2, d2, ds2, p2, q2, hargs2, rfl, rfl, h2, r2⟩ := trodAll_cons r1
  obtain ⟨v3, vs3, d3, ds3, p3, q3, hargs3, rfl, rfl, h3, r3⟩ := trodAll_cons r2
  obtain ⟨v4, vs4, d4, ds4, p4, q4, hargs4, rfl, rfl, h4, r4⟩ := trodAll_cons r3
  obtain ⟨rfl, rfl, rfl⟩ := trodAll_nil r4
  obtain rfl : args = #[v0, v1, v2, v3, v4] := by cases args; simp_all
  obtain ⟨A0, n0, c0, f0, rfl, hA0, hn0, hc0, hR0, hw0⟩ := open_sl Try.underlying24 Try.underlying5 (by kernel_rfl) (hval 0 24 v0 rfl rfl) h0
  obtain ⟨A1, n1, c1, f1, rfl, hA1, hn1, hc1, hR1, hw1⟩ := open_sl Try.underlying33 Try.underlying3 (by kernel_rfl) (hval 1 33 v1 rfl rfl) h1
  obtain ⟨a2, rfl, -, -, w2⟩ := open_int Try.underlying3 (hval 2 3 v2 rfl rfl) h2
  obtain ⟨a3, rfl, -, -, w3⟩ := open_int Try.underlying5 (hval 3 5 v3 rfl rfl) h3
  obtain ⟨A4, n4, c4, f4, rfl, hA4, hn4, hc4, hR4, hw4⟩ := open_sl Try.underlying33 Try.underlying3 (by kernel_rfl) (hval 4 33 v4 rfl rfl) h4
  refine (WireReads_walk W A0 n0 c0 f0 hA0 hn0 hc0 hR0 hw0 A1 n1 c1 f1 hA1 hn1 hc1 hR1 hw1 a2 w2 a3 w3 A4 n4 c4 f4 hA4 hn4 hc4 hR4 hw4).mono fun e W' ⟨he, hb⟩ => ?_
  subst he
  exact ⟨_, rfl, law_post Try.laidOut (by kernel_rfl) (by kernel_rfl) Try.underlying4 rfl hW' rfl hb⟩

theorem WireReads_holds : Rows.WireReadsSaid :=
  OpenClaim.holds_of_wide 4 Try.f4 rfl rfl rfl rfl rfl rfl rfl ⟨rfl, rfl, rfl, rfl, rfl⟩ rfl rfl rfl rfl rfl (by kernel_rfl) Try.func4 (by kernel_rfl)
    (of_decide_eq_true (by kernel_rfl)) (by unfold Func.isWrapper; first | (rw [if_pos (by decide +kernel)]; kernel_rfl) | (rw [if_neg (by decide +kernel)]; exact ⟨rfl, rfl⟩))
    (fun os started H enc _ => WireReads_lifted os started H enc)

end Go.Proofs.Ytahajgmmoefpjaa
