/- For every list, place and byte worldmintlaw02.WirePrefix returns true. No condition. -/
import Derived.Test.YtahajgmmoefpjaaWireLives
import Derived.Test.YtahajgmmoefpjaaRefHelp2
import Derived.Test.YtahajgmmoefpjaaWireCut
import Derived.Deep.RegionHeld3
import Derived.Test.YtahajgmmoefpjaaLaw
namespace Go.Proofs.Ytahajgmmoefpjaa
open Go.ChangeShapes Go.WideShapes Go.ChangeAt Go.RowKit Go.ChangeMaps


set_option maxRecDepth 100000 in
set_option maxHeartbeats 2000000 in
theorem WirePrefix_walk (W : World) (A0 : Option Addr) (n0 c0 : Nat) (f0 : Nat → Int) (hA0 : A0 = none → n0 = 0) (hn0 : n0 ≤ c0) (hc0 : c0 ≤ 9223372036854775807) (hR0 : Rd W W.heap.size A0 n0 (fun j => .int .i64 (f0 j))) (hw0 : Hid (∀ j, j < n0 → (Lit.int .i64 (f0 j)).wf = true)) (a1 : Int) (ha1 : Hid ((Lit.int .i64 a1).wf = true)) (a2 : Int) (ha2 : Hid ((Lit.int .u8 a2).wf = true)) :
    Calls Try.prog 9 #[.slice A0 n0 c0, .int .i64 a1, .int .u8 a2] W fun e w' => e = .returned (.bool true) ∧ Below W.heap.size W w' := by
  obtain ⟨hr10, hr11⟩ := wf_i64 ha1.out
  obtain ⟨b2, rfl⟩ := byte_of_wf ha2.out
  obtain ⟨i8, hi8, hz08, hz18, hz28⟩ := info_parts info_u8
  have HF0 := Lib.hid (fun j (hj : j < n0) => (wf_i64 (hw0.out j hj) : InI (f0 j)))
  have hb := Below.refl W.heap.size W
  go_enter Try.func9, Try.ntmps9
  go_wp2_with fail
  refine (vals_any A0 n0 c0 f0 W hA0 hR0 hn0 hc0 HF0).mono ?_
  rintro e w1 ⟨A1, N, c1, vs, rfl, hk8, hkc, hcm, hO, HG, hb1⟩
  replace hb := bt hb hb1
  obtain ⟨_, hkc2, hcm2, hV⟩ := hO.row
  have HL := Lib.hid hV.1
  have HFIT := Lib.hid (fit_of_good HG.out)
  go_wp2_with fail
  refine (encode_any _ _ _ vs _ hV HFIT (by omega) hkc2 hcm2).mono ?_
  rintro e w2 ⟨A2, n2, c2, rfl, hnc2, hcm2', hn2, HX2, hown2, hr2, hb2⟩
  rw [encTo_all vs N (by rw [HL.out]; exact Nat.le_refl _), ← encFrom_zero] at HX2 hr2
  have hb1W := hb
  replace hb := bt hb hb2
  have hb12 := hb2
  have hs12 := hb2.size
  have hsm : n2 ≤ 480 := by
    have h1 := flatV_small HG.out
    rw [← encFrom_zero, HX2.out, HL.out] at h1
    omega
  have HLR : Hid (∀ i, (encFrom vs i).length ≤ 480) := Lib.hid (by
    intro i
    have h2 : (encFrom vs i).length ≤ (vs.flatMap encV).length := by
      unfold encFrom
      conv => rhs; rw [← List.take_append_drop i vs, List.flatMap_append, List.length_append]
      omega
    have h3 := HX2.out
    rw [encFrom_zero] at h3
    omega)
  clear hb2 hb1
  rcases Nat.eq_zero_or_pos n2 with h0 | h0
  · subst h0
    go_wp2_with fail
    refine (read_any none 0 0 [] _ (Lib.hid rfl) Rd.nil (by decide)).mono ?_
    rintro e w3 ⟨g3, rfl, hg3, hR3, hb3, _⟩
    replace hb := bt hb hb3
    have HR3 := Lib.hid hR3
    clear hR3 hb3
    go_wp2_with fail
    refine (rend_any _ _ _ _ _ HR3).mono ?_
    rintro e w4 ⟨rfl, rfl⟩
    rw [show endI [] 0 = 0 from rfl]
    go_wp2_with fail
    refine (lives2_any _).mono ?_
    rintro e wl ⟨rfl, hbl⟩
    go_wp2
    go_ret
    exact ⟨rfl, bt hb hbl⟩
  · have t0 : ((n2 : Int) == 0) = false := by simp; omega
    go_wp2_with fail
    refine (around_nat a1 n2 _ _ rfl (by omega) (by omega) (by omega) (by omega)).mono ?_
    rintro e w' ⟨cut, rfl, hcut, _, rfl⟩
    have hcut' : cut ≤ c2 := by omega
    go_wp2_with fail
    have hrc : Rd w2 w2.heap.size A2 cut (vByte ((encFrom vs 0).take cut)) := (hr2.less (by omega)).congr (fun j hj => by simp [vByte, hj])
    have HXc : Hid (((encFrom vs 0).take cut).length = cut) := Lib.hid (by rw [List.length_take, HX2.out]; omega)
    refine (read_any _ _ _ _ _ HXc hrc (by omega)).mono ?_
    rintro e w3 ⟨gr, rfl, hgr, hR3, hb3, _⟩
    replace hb := bt hb hb3
    replace hb12 := bt hb12 hb3
    replace hr2 := hr2.all hb3
    have HR3 := Lib.hid hR3
    have hs3 := hb3.size
    clear hR3 hb3 hrc hown2
    go_wp2_with fail
    refine (few_bytes _ _ _ n2 _ rfl _ _ HX2 hr2 hnc2 hcm2' (by omega)).mono ?_
    rintro e w4 ⟨A4, c4, n4, bs4, rfl, hnc4, hcm4, _, HK4, HX4, HE4, hown4, hr4, hb4⟩
    obtain rfl : n4 = n2 := by have := HK4.out; omega
    obtain rfl : bs4 = encFrom vs 0 := by rw [HE4.out]; exact List.take_of_length_le (by rw [HX2.out]; exact Nat.le_refl _)
    obtain ⟨g5, c5, w5, hap, hown5, hg5, _, _⟩ := run_append_one (P := Try.prog) w4 w3.heap.size 24 24 5 i8 _ 1 Try.underlying24 hi8 hz08 hz18 hz28 rfl _ _ _ hown4 (.int .u8 ((b2.toNat : Nat) : Int)) rfl (by unfold maxLen; omega) (by omega) hb4.size
    have HA5 := Lib.hid hap
    have hb35 : Below w3.heap.size w3 w5 := hb4.grown hg5 hb4.size (fun r e => (hown4.lt r e).1)
    have hown5' : w5.ownsRow w3.heap.size 5 1 (.slice (some ⟨g5, 0, none⟩) (n4 + 1) c5) (n4 + 1) ((encFrom vs 0 ++ [b2]).map fun b => Value.int .u8 ((b.toNat : Nat) : Int)) := by rw [List.map_append]; exact hown5
    have hr5 := (rd_bytes hown5').2.2
    replace hb := bt hb hb35
    replace hb12 := bt hb12 hb35
    replace HR3 := Lib.hid (HR3.out.all hb35)
    have hs5 := hb35.size
    clear hap hown5 hg5 hb4 hown4 hr4 hown5' hb35 hr2
    go_wp2_with (at_builtin; refine wpList_append_run HA5.out rfl rfl rfl rfl ?_)
    refine (read_any _ _ _ (encFrom vs 0 ++ [b2]) _ (Lib.hid (by rw [List.length_append, HX2.out]; rfl)) hr5 (by omega)).mono ?_
    rintro e w6 ⟨gl, rfl, hgl, hR6, hb6, _⟩
    replace hb := bt hb hb6
    replace hb12 := bt hb12 hb6
    replace HR3 := Lib.hid (HR3.out.all hb6)
    have HR6 := Lib.hid hR6
    obtain ⟨Bl, hBl⟩ : ∃ B, B = w6.heap.size := ⟨_, rfl⟩
    rw [← hBl] at HR6
    have hne : gr ≠ gl := by have := HR3.out.lt; omega
    have hCut : CutAt vs 0 ((encFrom vs 0).take cut) 0 := .inr ⟨rfl, cut, by rw [HX2.out]; exact hcut, rfl⟩
    have hlc : ((encFrom vs 0).take cut).length ≤ 480 := by rw [HXc.out]; omega
    have HCut := Lib.hid hCut
    have hW1 := hb1W
    clear hR6 hb6 hr5 HA5 hBl hCut
    go_wp2
    go_loopw [12] (fun v wr => ∃ i : Nat, ∃ (rest : List UInt8) (err : Int), i ≤ N ∧ v = .int .i64 (i : Int) ∧ Hid (CutAt vs i rest err) ∧ rest.length ≤ 480 ∧ Hid (Rdr wr w3.heap.size gr rest err) ∧ Hid (Rdr wr Bl gl (encFrom vs i ++ [b2]) 0) ∧ Below w1.heap.size w1 wr) (fun v _ => N - (intOf v).toNat)
    case atStart => exact ⟨0, _, _, by omega, rfl, HCut, hlc, HR3, HR6, hb12⟩
    case round =>
      clear HR3 HR6 hb12 HCut hlc
      obtain ⟨i, rest, err, hi, rfl, HC, hlr, HR, HS, hbr⟩ := hrel
      by_cases hlt : i < N
      · obtain ⟨bb, off, v, s, t, hA', hbB, HV, c0', _, _, _, _, _, _⟩ := (hV.below hbr (Nat.le_refl _)).at_ hlt
        subst hA'
        have HSU := Lib.hid (encFrom_succ vs i (by rw [HL.out]; exact hlt))
        have hst := HC.out.step HG.out (by rw [HL.out]; exact hlt)
        rw [← HV.out] at HSU hst
        have hgood : GoodV v := by rw [HV.out]; exact good_at HG.out (by rw [HL.out]; exact hlt)
        have hi0 : (0 : Int) ≤ (i : Int) := by omega
        have hi1 : (i : Int) < (N : Int) := by omega
        go_wp2_with fail
        refine (readv_any _ _ _ _ _ _ HR (by omega)).mono ?_
        rintro e w7 ⟨s7, t7, rfl, _, _, _, _, hR7, ho7⟩
        obtain ⟨rest2, err2, hC2, hl2, hR2⟩ : ∃ rest2 err2, CutAt vs (i + 1) rest2 err2 ∧ rest2.length ≤ 480 ∧ Rdr w7 w3.heap.size gr rest2 err2 := by
          rcases hst with h3 | ⟨h00, cc, hcc, hrr⟩
          · exact ⟨[], 3, .inl rfl, by simp, by rw [h3] at hR7; exact hR7.any (by decide) _⟩
          · refine ⟨_, _, .inr ⟨rfl, cc, hcc, rfl⟩, ?_, by rw [h00, hrr] at hR7; exact hR7⟩
            rw [List.length_take]
            have := HLR.out (i + 1)
            omega
        have hS7 := HS.out.other HR.out (Ne.symm hne) ho7
        have hbr7 := below_of_only hbr ho7 hbr.size (by have := hbr.size; omega)
        have hc7 : w7.cell? ⟨bb, off + i * 5, none⟩ = some (.int .i64 v.kind) := (World.cell?_of_block (w := wr) (ho7.block bb (by have := hbr.size; omega) (by simp; omega))).trans c0'
        rw [HSU.out, List.append_assoc] at hS7
        have HS7 := Lib.hid hS7
        have HR2 := Lib.hid hR2
        have HC2 := Lib.hid hC2
        clear hst hR7 hS7 hR2 hC2 c0'
        go_wp2_with fail
        refine (readv_any _ _ _ _ _ _ HS7 (by rw [← List.append_assoc, ← HSU.out, List.length_append]; have := HLR.out i; simp; omega)).mono ?_
        rw [readV_enc hgood]
        rintro e w8 ⟨s8, t8, rfl, _, _, _, _, hR8, ho8⟩
        have hR9 := Lib.hid (HR2.out.other HS7.out hne ho8)
        have hbr8 := below_of_only hbr7 ho8 hbr7.size (by have := hbr.size; omega)
        have HR8 := Lib.hid hR8
        clear hR8 hc7
        go_wp2
        exact ⟨⟨i + 1, rest2, err2, by omega, by go_num, HC2, hl2, hR9, HR8, hbr8⟩, by simp [intOf]; omega⟩
      · obtain rfl : i = N := by omega
        have herr := HC.out.done (by rw [HL.out]; exact Nat.le_refl _)
        subst herr
        rw [encFrom_end vs i (by rw [HL.out]; exact Nat.le_refl _), List.nil_append] at HS
        have hbW := hW1.trans (hbr.mono hW1.size)
        go_wp2_with fail
        refine (rend_any _ _ _ _ _ HR).mono ?_
        rintro e w7 ⟨rfl, rfl⟩
        rw [show endI rest 3 = 3 from rfl]
        go_wp2_with fail
        refine (rend_any _ _ _ _ _ HS).mono ?_
        rintro e w7 ⟨rfl, rfl⟩
        rw [show endI [b2] 0 = 2 from rfl]
        go_wp2_with fail
        refine (around_nat a1 6 _ _ rfl (by omega) (by omega) (by omega) (by omega)).mono ?_
        rintro e w' ⟨kd, rfl, hkd, _, rfl⟩
        go_wp2_with fail
        refine (readv_any _ _ _ _ _ _ HR (by omega)).mono ?_
        rw [readV_err (by decide)]
        rintro e w8 ⟨s8, t8, rfl, fs8, ft8, hb8, hn8, hR8, ho8⟩
        unfold vCells
        have hal : Below w8.heap.size w8 (w8.alloc (.cells #[.int .i64 (kd : Int), .int .u64 ((0 : Nat) : Int), .int .i64 0, .slice s8.1 s8.2.1 s8.2.2, .slice t8.1 t8.2.1 t8.2.2] 47)) := (Below.refl _ _).alloc (Nat.le_refl _) _
        have hbW8 := bt (below_of_only hbW ho8 hbW.size (by have := hW1.size; omega)) hal
        have HR9 := Lib.hid (hR8.all hal)
        replace hb8 := hb8.all hal
        replace hn8 := hn8.all hal
        simp only at hb8 hn8
        go_wp2_with fail
        refine (same_any ⟨kd, 0, 0, [], []⟩ s8 t8 (none, 0, 0) (none, 0, 0) _ hb8 hn8 (BIn.nil _ _) (NIn.nil _ _)).mono ?_
        rintro e w9 ⟨rfl, hb9⟩
        replace hbW8 := bt hbW8 hb9
        replace HR9 := Lib.hid (HR9.out.all hb9)
        clear hb9 hal hb8 hn8
        go_wp2_with fail
        refine (rend_any _ _ _ _ _ HR9).mono ?_
        rintro e w10 ⟨rfl, rfl⟩
        rw [show endI [] 3 = 3 from rfl]
        go_wp2_with fail
        refine (lives2_any _).mono ?_
        rintro e wl ⟨rfl, hbl⟩
        go_wp2
        go_ret
        exact ⟨rfl, bt hbW8 hbl⟩


set_option maxRecDepth 100000 in
theorem WirePrefix_lifted (os : Os) (started : os.Started) (H : Type) (enc : TypeId × Value → H) :
    ReturnsInHanded {} Try.checked os 9 .any (Rows.wirePrefixSpec.pre6 enc Try.prog Try.f9 Rows.wirePrefixRow.domain false) (Rows.wirePrefixSpec.post enc Try.prog Try.f9 false true false false) := by
  refine returnsInHanded_of_change (C := Try.checked) Try.own started (by kernel_rfl) Try.func9
    (ChangeSpec.witness6 (enc := enc) (C := Try.checked) false ⟨#[], #[.slice none 0 0, .int .i64 0, .int .u8 0], []⟩ 8 (by kernel_rfl) (by kernel_rfl) (by kernel_rfl) (by kernel_rfl)) ?_
  intro W base args ds gs before hval0 hW _ _
  have hval : ∀ (j : Nat) t v, Try.f9.params[j]? = some t → args[j]? = some v → Value.okWide Try.prog W .any base t v := hval0
  have hW' := hW
  obtain ⟨p, q, hT0, hV, rfl, hfz, hnd⟩ := hW
  have hT : DataW.TrodAll enc Try.prog W 0 (fun _ => true) true Try.f9.params.toList args.toList ds p := hT0
  rw [Try.params9] at hT hval
  obtain ⟨v0, vs0, d0, ds0, p0, q0, hargs0, rfl, rfl, h0, r0⟩ := trodAll_cons hT
  obtain ⟨v1, vs1, d1, ds1, p1, q1, hargs1, rfl, rfl, h1, r1⟩ := trodAll_cons r0
  obtain ⟨v2, vs2, d2, ds2, p2, q2, hargs2, rfl, rfl, h2, r2⟩ := trodAll_cons r1
  obtain ⟨rfl, rfl, rfl⟩ := trodAll_nil r2
  obtain rfl : args = #[v0, v1, v2] := by cases args; simp_all
  obtain ⟨A0, n0, c0, f0, rfl, hA0, hn0, hc0, hR0, hw0⟩ := open_sl Try.underlying33 Try.underlying3 (by kernel_rfl) (hval 0 33 v0 rfl rfl) h0
  obtain ⟨a1, rfl, -, -, w1⟩ := open_int Try.underlying3 (hval 1 3 v1 rfl rfl) h1
  obtain ⟨a2, rfl, -, -, w2⟩ := open_int Try.underlying5 (hval 2 5 v2 rfl rfl) h2
  refine (WirePrefix_walk W A0 n0 c0 f0 hA0 hn0 hc0 hR0 hw0 a1 w1 a2 w2).mono fun e W' ⟨he, hb⟩ => ?_
  subst he
  exact ⟨_, rfl, law_post Try.laidOut (by kernel_rfl) (by kernel_rfl) Try.underlying4 rfl hW' rfl hb⟩

theorem WirePrefix_holds : Rows.WirePrefixSaid :=
  OpenClaim.holds_of_wide 9 Try.f9 rfl rfl rfl rfl rfl rfl rfl ⟨rfl, rfl, rfl, rfl, rfl⟩ rfl rfl rfl rfl rfl (by kernel_rfl) Try.func9 (by kernel_rfl)
    (of_decide_eq_true (by kernel_rfl)) (by unfold Func.isWrapper; first | (rw [if_pos (by decide +kernel)]; kernel_rfl) | (rw [if_neg (by decide +kernel)]; exact ⟨rfl, rfl⟩))
    (fun os started H enc _ => WirePrefix_lifted os started H enc)

end Go.Proofs.Ytahajgmmoefpjaa
