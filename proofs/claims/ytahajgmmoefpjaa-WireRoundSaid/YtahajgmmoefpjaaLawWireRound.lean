/- For every list, word and number worldmintlaw02.WireRound returns true. No condition. -/
import Derived.Test.YtahajgmmoefpjaaWireLives
import Derived.Test.YtahajgmmoefpjaaRefHelp2
import Derived.Test.YtahajgmmoefpjaaWireAppend
import Derived.Deep.RegionHeld3
import Derived.Test.YtahajgmmoefpjaaLaw
namespace Go.Proofs.Ytahajgmmoefpjaa
open Go.ChangeShapes Go.WideShapes Go.ChangeAt Go.RowKit Go.ChangeMaps


set_option maxRecDepth 100000 in
set_option maxHeartbeats 2000000 in
theorem WireRound_walk (W : World) (A0 : Option Addr) (n0 c0 : Nat) (f0 : Nat → Int) (hA0 : A0 = none → n0 = 0) (hn0 : n0 ≤ c0) (hc0 : c0 ≤ 9223372036854775807) (hR0 : Rd W W.heap.size A0 n0 (fun j => .int .i64 (f0 j))) (hw0 : Hid (∀ j, j < n0 → (Lit.int .i64 (f0 j)).wf = true)) (a1 : Int) (ha1 : Hid ((Lit.int .u64 a1).wf = true)) (a2 : Int) (ha2 : Hid ((Lit.int .i64 a2).wf = true)) :
    Calls Try.prog 7 #[.slice A0 n0 c0, .int .u64 a1, .int .i64 a2] W fun e w' => e = .returned (.bool true) ∧ Below W.heap.size W w' := by
  have u1 := wf_u64 ha1.out
  obtain ⟨hr20, hr21⟩ := wf_i64 ha2.out
  obtain ⟨u, rfl⟩ := Int.eq_ofNat_of_zero_le u1.1
  have HF0 := Lib.hid (fun j (hj : j < n0) => (wf_i64 (hw0.out j hj) : InI (f0 j)))
  have hb := Below.refl W.heap.size W
  go_enter Try.func7, Try.ntmps7
  go_wp2_with fail
  refine (vals_any A0 n0 c0 f0 W hA0 hR0 hn0 hc0 HF0).mono ?_
  rintro e w1 ⟨A1, k, c1, vs, rfl, hk8, hkc, hcm, hO, HG, hb1⟩
  replace hb := bt hb hb1
  have gu : GoodV ⟨0, u, 0, [], []⟩ := good0 (by omega)
  have gn : GoodV ⟨1, 0, a2, [], []⟩ := good1 ⟨hr20, hr21⟩
  obtain ⟨g, cap, w2, HA, hO2, hg2, hb2⟩ := VOwn.append (m := 2) (xs := [⟨0, u, 0, [], []⟩, ⟨1, 0, a2, [], []⟩]) hO (fun _ => (none, 0, 0)) (fun _ => (none, 0, 0)) (by decide) rfl (fun j hj => by
    rcases (show j = 0 ∨ j = 1 by omega) with rfl | rfl
    all_goals exact ⟨BIn.nil _ _, NIn.nil _ _, Far.nil _, Far.nil _, fun b off h => absurd h (by simp), fun b off h => absurd h (by simp)⟩) (by omega) hb1.size
    #[.int .i64 0, .int .u64 (u : Int), .int .i64 0, .slice none 0 0, .slice none 0 0, .int .i64 1, .int .u64 0, .int .i64 a2, .slice none 0 0, .slice none 0 0] rfl
  have HG2 : Hid (∀ y ∈ vs ++ [(⟨0, u, 0, [], []⟩ : V), ⟨1, 0, a2, [], []⟩], GoodV y) := Lib.hid (by
    intro y hy
    rcases List.mem_append.1 hy with h | h
    · exact HG.out y h
    · simp at h
      rcases h with rfl | rfl
      · exact gu
      · exact gn)
  generalize vs ++ [(⟨0, u, 0, [], []⟩ : V), ⟨1, 0, a2, [], []⟩] = all at *
  replace hb := hb.trans hb2
  have hb2W := hb
  obtain ⟨N, hN⟩ : ∃ N, N = k + 2 := ⟨_, rfl⟩
  rw [← hN] at HA hO2
  have hN10 : N ≤ 10 := by omega
  clear hb1 hO hg2 hb2 gu gn hN
  go_wp2_with (at_builtin; refine wpList_append_run HA.out rfl rfl rfl rfl ?_)
  obtain ⟨_, hkc2, hcm2, hV⟩ := hO2.row
  have HL := Lib.hid hV.1
  have HFIT := Lib.hid (fit_of_good HG2.out)
  clear HA
  refine (encode_any _ _ _ all _ hV HFIT (by omega) hkc2 hcm2).mono ?_
  rintro e w3 ⟨A3, n3, c3, rfl, hnc3, hcm3, hn3, HX3, hown3, hr3, hb3⟩
  replace hb := bt hb hb3
  have hs23 := hb3.size
  go_wp2_with fail
  refine (read_any _ _ _ _ _ HX3 hr3 (by omega)).mono ?_
  rintro e w4 ⟨gr, rfl, hgr, hR4, hb4, _⟩
  have hb24 : Below w2.heap.size w2 w4 := bt hb3 hb4
  rw [encTo_all all N (by rw [HL.out]; exact Nat.le_refl _), ← encFrom_zero] at hR4
  have HR4 := Lib.hid hR4
  have hlr : ∀ i, (encFrom all i).length ≤ 1000000 := by
    intro i
    have h1 := encTo_len all HFIT.out N (by rw [HL.out]; exact Nat.le_refl _)
    rw [encTo_all all N (by rw [HL.out]; exact Nat.le_refl _)] at h1
    have h2 : (encFrom all i).length ≤ (all.flatMap encV).length := by
      unfold encFrom
      conv => rhs; rw [← List.take_append_drop i all, List.flatMap_append, List.length_append]
      omega
    omega
  have HLR := Lib.hid hlr
  obtain ⟨B, hB⟩ : ∃ B, B = w4.heap.size := ⟨_, rfl⟩
  rw [← hB] at HR4
  clear hR4 hb4 hb3 hlr hr3 hown3 hB
  go_wp2
  go_loopw [9] (fun v wr => ∃ i : Nat, i ≤ N ∧ v = .int .i64 (i : Int) ∧ Hid (Rdr wr B gr (encFrom all i) 0) ∧ Below w2.heap.size w2 wr) (fun v _ => N - (intOf v).toNat)
  case atStart => exact ⟨0, by omega, rfl, HR4, hb24⟩
  case round =>
    clear HR4 hb24
    obtain ⟨i, hi, rfl, HR, hbr⟩ := hrel
    by_cases hlt : i < N
    · obtain ⟨bb, off, v, s, t, hA', hbB, HV, c0, c1, c2, c3', c4, hs, ht⟩ := (hV.below hbr (Nat.le_refl _)).at_ hlt
      cases hA'
      have hgood : GoodV v := by rw [HV.out]; exact good_at HG2.out (by rw [HL.out]; exact hlt)
      have HSU := Lib.hid (encFrom_succ all i (by rw [HL.out]; exact hlt))
      rw [← HV.out] at HSU
      rw [HSU.out] at HR
      have hi0 : (0 : Int) ≤ (i : Int) := by omega
      have hi1 : (i : Int) < (N : Int) := by omega
      have hbig : (encV v ++ encFrom all (i + 1)).length ≤ 17592186044416 := by rw [← HSU.out]; have := HLR.out i; omega
      have HRE := Lib.hid (readV_enc hgood (encFrom all (i + 1)))
      rw [Nat.zero_add] at c0 c1 c2 c3' c4
      go_wp2
      go_region_held3 (fun w' => w'.cell? ⟨g, i * 5, none⟩ = some (.int .i64 v.kind) ∧ w'.cell? ⟨g, i * 5 + 1, none⟩ = some (.int .u64 (v.u : Int)) ∧ w'.cell? ⟨g, i * 5 + 2, none⟩ = some (.int .i64 v.n) ∧ w'.cell? ⟨g, i * 5 + 3, none⟩ = some (.slice s.1 s.2.1 s.2.2) ∧ w'.cell? ⟨g, i * 5 + 4, none⟩ = some (.slice t.1 t.2.1 t.2.2))
        (first | exact ⟨c0, c1, c2, c3', c4⟩ | exact ⟨(kk _).trans c0, (kk _).trans c1, (kk _).trans c2, (kk _).trans c3', (kk _).trans c4⟩)
        (first
          | (go_at_call 23; ((refine (readv_any B gr v.kind _ 0 _ (Lib.hid HR.out.drew) hbig).mono ?_); rw [HRE.out]; rintro e w5 ⟨s', t', rfl, fs, ft, hbi, hni, hR5, ho5⟩; replace ho5 := only_undrew ho5; have kk : ∀ o, w5.cell? ⟨g, o, none⟩ = wr.cell? ⟨g, o, none⟩ := (fun o => World.cell?_of_block (w := wr) (ho5.block g (by have := hbr.size; omega) (by simp; omega)))))
          | (go_at_call 22; ((refine (same_any v s' t' s t _ hbi hni ((hs.out.keep (fun b hb => ho5.block b (by have := hbr.size; omega) (by simp; omega))).more (Nat.le_trans hbr.size ho5.size)) ((ht.out.keep (fun b hb => ho5.block b (by have := hbr.size; omega) (by simp; omega))).more (Nat.le_trans hbr.size ho5.size))).mono ?_); rintro e w6 ⟨rfl, hb6⟩; have k6 := kk; replace kk : ∀ o, w6.cell? ⟨g, o, none⟩ = wr.cell? ⟨g, o, none⟩ := (fun o => (hb6.cell (p := ⟨g, o, none⟩) (by have := hbr.size; have := ho5.size; simp; omega)).trans (k6 o)))))
      all_goals
        have hR6 := Lib.hid (hR5.all hb6)
        have hb7 : Below w2.heap.size w2 w6 := (below_of_only hbr ho5 hbr.size (by omega)).trans (hb6.mono (Nat.le_trans hbr.size ho5.size))
        clear hR5 hb6 kk k6 hbi hni c0 c1 c2 c3' c4
        go_wp2
        exact ⟨⟨i + 1, by omega, by go_num, hR6, hb7⟩, by simp [intOf]; omega⟩
    · obtain rfl : i = N := by omega
      rw [encFrom_end all i (by rw [HL.out]; exact Nat.le_refl _)] at HR
      have hbW := hb2W.trans (hbr.mono hb2W.size)
      go_wp2_with fail
      refine (rend_any _ _ _ _ _ HR).mono ?_
      rintro e w7 ⟨rfl, rfl⟩
      rw [show endI [] 0 = 0 from rfl]
      go_wp2_with fail
      refine (lives2_any _).mono ?_
      rintro e wl ⟨rfl, hbl⟩
      go_wp2
      go_ret
      exact ⟨rfl, bt hbW hbl⟩


set_option maxRecDepth 100000 in
theorem WireRound_lifted (os : Os) (started : os.Started) (H : Type) (enc : TypeId × Value → H) :
    ReturnsInHanded {} Try.checked os 7 .any (Rows.wireRoundSpec.pre6 enc Try.prog Try.f7 Rows.wireRoundRow.domain false) (Rows.wireRoundSpec.post enc Try.prog Try.f7 false true false false) := by
  refine returnsInHanded_of_change (C := Try.checked) Try.own started (by kernel_rfl) Try.func7
    (ChangeSpec.witness6 (enc := enc) (C := Try.checked) false ⟨#[], #[.slice none 0 0, .int .u64 0, .int .i64 0], []⟩ 8 (by kernel_rfl) (by kernel_rfl) (by kernel_rfl) (by kernel_rfl)) ?_
  intro W base args ds gs before hval0 hW _ _
  have hval : ∀ (j : Nat) t v, Try.f7.params[j]? = some t → args[j]? = some v → Value.okWide Try.prog W .any base t v := hval0
  have hW' := hW
  obtain ⟨p, q, hT0, hV, rfl, hfz, hnd⟩ := hW
  have hT : DataW.TrodAll enc Try.prog W 0 (fun _ => true) true Try.f7.params.toList args.toList ds p := hT0
  rw [Try.params7] at hT hval
  obtain ⟨v0, vs0, d0, ds0, p0, q0, hargs0, rfl, rfl, h0, r0⟩ := trodAll_cons hT
  obtain ⟨v1, vs1, d1, ds1, p1, q1, hargs1, rfl, rfl, h1, r1⟩ := trodAll_cons r0
  obtain ⟨v2, vs2, d2, ds2, p2, q2, hargs2, rfl, rfl, h2, r2⟩ := trodAll_cons r1
  obtain ⟨rfl, rfl, rfl⟩ := trodAll_nil r2
  obtain rfl : args = #[v0, v1, v2] := by cases args; simp_all
  obtain ⟨A0, n0, c0, f0, rfl, hA0, hn0, hc0, hR0, hw0⟩ := open_sl Try.underlying33 Try.underlying3 (by kernel_rfl) (hval 0 33 v0 rfl rfl) h0
  obtain ⟨a1, rfl, -, -, w1⟩ := open_int Try.underlying22 (hval 1 22 v1 rfl rfl) h1
  obtain ⟨a2, rfl, -, -, w2⟩ := open_int Try.underlying3 (hval 2 3 v2 rfl rfl) h2
  refine (WireRound_walk W A0 n0 c0 f0 hA0 hn0 hc0 hR0 hw0 a1 w1 a2 w2).mono fun e W' ⟨he, hb⟩ => ?_
  subst he
  exact ⟨_, rfl, law_post Try.laidOut (by kernel_rfl) (by kernel_rfl) Try.underlying4 rfl hW' rfl hb⟩

theorem WireRound_holds : Rows.WireRoundSaid :=
  OpenClaim.holds_of_wide 7 Try.f7 rfl rfl rfl rfl rfl rfl rfl ⟨rfl, rfl, rfl, rfl, rfl⟩ rfl rfl rfl rfl rfl (by kernel_rfl) Try.func7 (by kernel_rfl)
    (of_decide_eq_true (by kernel_rfl)) (by unfold Func.isWrapper; first | (rw [if_pos (by decide +kernel)]; kernel_rfl) | (rw [if_neg (by decide +kernel)]; exact ⟨rfl, rfl⟩))
    (fun os started H enc _ => WireRound_lifted os started H enc)

end Go.Proofs.Ytahajgmmoefpjaa
