/- A record that does not fit is refused with ErrFull and changes nothing; one that is too long with ErrLimit (JournalFull). -/
import Derived.Test.YtldmokjpfnakkaaGJournalFull6

/- The walk of JournalFull. -/
namespace Go.Proofs.Ytldmokjpfnakkaa
open Go.ChangeShapes Go.WideShapes Go.ChangeAt Go.RowKit Go.ChangeMaps

def FreshPost (room : Nat) (w : World) (e : Ending) (w' : World) : Prop := ∃ g mb, e = .returned (.pointer (some ⟨g, 0, none⟩)) ∧ w.heap.size ≤ g ∧ w.heap.size ≤ mb ∧ DskAt w' g mb room false (-1) [] ∧ Below w.heap.size w w'
set_option maxRecDepth 100000 in
theorem fresh_any (room : Nat) (w : World) (hr : room ≤ 16777216) :
    Calls Try.prog 29 #[.int .i64 (room : Int)] w (FreshPost room w) := by
  have HN := Lib.hid (newDisk_any room _ rfl w hr)
  clear hr
  go_enter Try.func29, Try.ntmps29
  go_wp2_with fail
  refine HN.out.mono ?_
  rintro e w1 ⟨g, mb, rfl, h1, h2, h3, h4⟩
  have H3 := Lib.hid h3
  clear h3
  go_wp2
  go_ret
  exact ⟨g, mb, rfl, h1, h2, H3.out, h4⟩
theorem llen_any (gl g : Nat) (num : Int) (len : Nat) (up : Bool) (w : World) (HL : Hid (LogAt w gl g num len up)) : Calls Try.prog 33 #[.pointer (some ⟨gl, 0, none⟩)] w fun e w' => e = .returned (.int .i64 (len : Int)) ∧ w = w' := by
  obtain ⟨-, -, h2, -⟩ := HL.out.cells
  go_enter Try.func33, Try.ntmps33
  go_wp2
  go_ret
  exact ⟨rfl, rfl⟩
theorem lup_any (gl g : Nat) (num : Int) (len : Nat) (up : Bool) (w : World) (HL : Hid (LogAt w gl g num len up)) : Calls Try.prog 34 #[.pointer (some ⟨gl, 0, none⟩)] w fun e w' => e = .returned (.bool up) ∧ w = w' := by
  obtain ⟨-, -, -, h3, -⟩ := HL.out.cells
  go_enter Try.func34, Try.ntmps34
  go_wp2
  go_ret
  exact ⟨rfl, rfl⟩

set_option maxRecDepth 100000 in
set_option maxHeartbeats 8000000 in
theorem JournalFull_walk (W : World) (a0 : Int) (ha0 : Hid ((Lit.int .i64 a0).wf = true)) (A1 : Option Addr) (n1 c1 : Nat) (f1 : Nat → Int) (_hA1 : A1 = none → n1 = 0) (_hn1 : n1 ≤ c1) (_hc1 : c1 ≤ 9223372036854775807) (hR1 : Rd W W.heap.size A1 n1 (fun j => .int .i64 (f1 j))) (hw1 : Hid (∀ j, j < n1 → (Lit.int .i64 (f1 j)).wf = true)) :
    Calls Try.prog 6 #[.int .i64 a0, .slice A1 n1 c1] W fun e w' => e = .returned (.bool true) ∧ Below W.heap.size W w' := by
  have hb := Below.refl W.heap.size W
  go_enter Try.func6, Try.ntmps6
  clear hb
  obtain ⟨bit1, bit2⟩ := wf_i64 ha0.out
  go_wp2_with fail
  refine (around_nat a0 120 _ _ rfl bit1 bit2 (by decide) (by decide)).mono ?_
  rintro e w1 ⟨room, rfl, hroom, -, rfl⟩
  go_wp2_with fail
  refine (fresh_any room _ (by omega)).mono ?_
  rintro e w2 ⟨g, mb, rfl, hg2, hmb2, hD2, hb2⟩
  go_wp2_with fail
  refine (open_clean g mb room (-1) [] 63 [] _ (Lib.hid hD2) (by decide) (by decide) (Lib.hid rfl) (Lib.hid rfl)).mono ?_
  rintro e w3 ⟨gl, v3, L3, fs3, rfl, hgl3, hL3, hv3, hbs3, -, hst3, hD3, m3, hF3, hng3⟩
  --@1
  replace hst3 : fs3.map Fl.log = [] := hst3
  obtain rfl : fs3 = [] := by simpa using hst3
  replace hD3 : DskAt w3 g mb room false (-1) [] := hD3
  replace hL3 : LogAt w3 gl g 63 0 true := hL3
  have hbl3 : ∀ b, DskF g mb [] b → b = g ∨ b = mb := by
    rintro b (e | e | ⟨f, hf, -⟩)
    · exact .inl e
    · exact .inr e
    · cases hf
  have hB3 : Below W.heap.size W w3 := m3.below hb2 hb2.size (fun b hb => (hbl3 b hb).elim (fun e => e ▸ hg2) (fun e => e ▸ hmb2))
  have hw2 := hb2.size
  obtain ⟨A3, c3, rfl⟩ := hv3.slice
  clear hst3 hv3 hbs3 m3 hF3 hD2 hb2
  go_wp2_with fail
  refine (records2_any _ _ _ f1 _ (hR1.all hB3) (by omega) (Lib.hid (fun j hj => wf_i64 (hw1.out j hj)))).mono ?_
  rintro e w4 ⟨v4, X, rfl, hX4, hrs4, hb4, hlow4⟩
  obtain ⟨A10, c10, rfl⟩ := hX4.slice
  have hlx : X.length ≤ 6 := by rw [← bsOf_length, hrs4, recsOf_len]; omega
  have HSM : Hid (∀ z ∈ X, z.bs.length ≤ 10) := Lib.hid (fun z hz => recsOf_small n1 f1 z.bs (by rw [← hrs4]; exact List.mem_map.2 ⟨z, hz, rfl⟩))
  obtain ⟨nx, hnx⟩ : ∃ nx, X.length = nx := ⟨_, rfl⟩
  have hI4 : FullI W w3.heap.size w4.heap.size g mb gl room (.slice A10 X.length c10) (.slice none 0 0) X [] w4 := ⟨⟨[], hD3.all hb4, rfl, fun b hb => .inl (hD3.ltF b hb), fun b hb => (hbl3 b hb).elim (fun e => e ▸ hg2) (fun e => e ▸ hmb2), hng3⟩, Blk.all hL3 hb4, ⟨by omega, Blk.lt hL3, hb4.size⟩, hX4, LsOwn.nil _ _, fun z hz => (hX4.2 z hz).inI (hlow4 z hz), fun _ h => absurd h (by simp), fun b e => (hX4.1.lt b e).2, Nat.le_refl _, bt hB3 hb4⟩
  rw [hnx] at hI4 ⊢ hlx
  have HI4 := Lib.hid hI4
  have HNX := Lib.hid hnx
  generalize w3.heap.size = N5 at *
  clear hD3 hL3 hng3 hbl3 hB3 hw2 hgl3 hX4 hrs4 hlow4 hb4 hI4 hnx hg2 hmb2
  obtain ⟨N6, hN6⟩ : ∃ N6, w4.heap.size = N6 := ⟨_, rfl⟩
  rw [hN6] at HI4
  clear hN6
  go_wp2
  --@2
  go_loopw [11, 12] (fun v i wr => ∃ (q kk : Nat) (K : List Bz), q ≤ nx ∧ kk ≤ q ∧ i = .int .i64 (q : Int) ∧ (∃ AK cK, v = .slice AK kk cK) ∧ Hid (K.length = kk) ∧ Hid (FullI W N5 N6 g mb gl room (.slice A10 nx c10) v X K wr)) (fun _ i _ => nx - (intOf i).toNat)
  case atStart => exact ⟨0, 0, [], by omega, by omega, rfl, ⟨none, 0, rfl⟩, Lib.hid rfl, HI4⟩
  case round =>
    obtain ⟨q, kk, K, hq, hkk, rfl, ⟨AK, cK, rfl⟩, HK, HI⟩ := hrel
    by_cases hlt : q < nx
    · obtain ⟨⟨fs, hD, hst, hsep, hW, hgl⟩, hlog, hglo, hXs, hKs, hxin, hkin, -, hn6, hbel⟩ := id HI.out
      obtain ⟨u, hu⟩ : ∃ u, sumL fs = u := ⟨_, rfl⟩
      have hur : u ≤ room := by rw [← hu]; exact hD.used_le
      have HU := Lib.hid hu
      have HD := Lib.hid hD
      have HST := Lib.hid hst
      have HSEP := Lib.hid hsep
      have HWB := Lib.hid hW
      have HGL := Lib.hid hgl
      rw [HK.out] at hlog
      have HLOG := Lib.hid hlog
      obtain ⟨b, off, z, hbe, hbl, hcz, hz, hrz⟩ := (hXs.r.rd).cell hlt
      have HXR := Lib.hid (hXs.r.rd)
      have HZ := Lib.hid hz
      have HZOK := Lib.hid (hXs.2 z (List.mem_of_getElem? hz))
      have HZN := Lib.hid hrz.len
      have HZR := Lib.hid hrz.rd
      have hzn : z.n ≤ 10 := by
        have := HSM.out z (List.mem_of_getElem? hz)
        have := hrz.len
        omega
      clear hu hD hst hsep hW hgl hlog hXs hKs hxin hkin hn6 hz hrz
      subst hbe
      go_wp2_with fail
      refine (used_any _ _ _ _ _ _ _ HD).mono ?_
      rintro e w5 ⟨rfl, rfl⟩
      rw [HU.out]
      go_wp2_with fail
      refine (frame_any _ _ _ _ z.bs _ HZN (by omega) (by omega) (by omega) HZR.out).mono ?_
      rintro e w5 ⟨A5, n5, c5, rfl, HN5, -, hb5⟩
      have HI5 := Lib.hid (HI.out.all hb5)
      --@3
      have hcz5 : w5.cell? ⟨b, off + q, none⟩ = some (.slice z.A z.n z.c) := (hb5.cell (p := ⟨b, off + q, none⟩) hbl).trans hcz
      have hbl5 : b < w5.heap.size := Nat.lt_of_lt_of_le hbl hb5.size
      have HD5 := Lib.hid (HD.out.all hb5)
      have HLOG5 : Hid (LogAt w5 gl g 63 kk true) := Lib.hid (Blk.all HLOG.out hb5)
      have HZR5 := Lib.hid (HZR.out.all hb5)
      have hn5 : n5 ≤ 50 := by
        have h1 := frameB_len (k := (kk : Int)) (bs := z.bs) ⟨by omega, by omega⟩ (by rw [HZN.out]; omega)
        rw [HN5.out, HZN.out] at h1
        omega
      have hn5p : 0 < n5 := by rw [← HN5.out]; exact frameB_pos _ _
      clear hcz hbl hb5 HD HLOG HZR HI
      by_cases hfull : room < u + n5
      · go_wp2_with fail
        refine (logAppend_full gl g mb room 63 kk (-1) fs _ _ _ z.bs _ HLOG5 HD5 (by omega) HZN HZR5 (by omega) (by decide) (by decide) (by rw [HU.out, HN5.out]; exact hfull)).mono ?_
        rintro e w6 ⟨rfl, hb6⟩
        have HI6 := Lib.hid (HI5.out.all hb6)
        have HD6 := Lib.hid (HD5.out.all hb6)
        have HLOG6 : Hid (LogAt w6 gl g 63 kk true) := Lib.hid (Blk.all HLOG5.out hb6)
        clear hb6 hcz5 hbl5 HD5 HLOG5 HI5
        go_wp2_with (first
          | (go_at_call 31; ((with_reducible refine (used_any _ _ _ _ _ _ _ HD6).mono ?_); rintro e w7 ⟨rfl, rfl⟩; rw [HU.out]))
          | (go_at_call 33; ((with_reducible refine (llen_any _ _ _ _ _ _ HLOG6).mono ?_); rintro e w7 ⟨rfl, rfl⟩))
          | (go_at_call 34; ((with_reducible refine (lup_any _ _ _ _ _ _ HLOG6).mono ?_); rintro e w7 ⟨rfl, rfl⟩)))
        exact ⟨⟨q + 1, kk, K, by omega, by omega, by go_num, ⟨_, _, rfl⟩, HK, HI6⟩, by simp [intOf]; omega⟩
      · --@4
        obtain ⟨st, hst1, hst2⟩ := stK_app HST.out z.bs
        rw [bsOf_length, HK.out] at hst1
        rw [← bsOf_snoc] at hst2
        go_wp2_with fail
        refine (logAppend_ok gl g mb room 63 kk (-1) fs st _ _ _ z.bs _ HLOG5 HD5 HGL.out (by omega) HZN HZR5 (by omega) (by decide) (by decide) (by rw [HU.out, HN5.out]; omega) (Lib.hid hst1) (Lib.hid rfl) (Lib.hid rfl)).mono ?_
        rintro e w6 ⟨rfl, hnext⟩
        replace hnext : LogNext gl g mb room 63 false (-1) (K.length + 1) true fs (syncLog st) w5 w6 := by rw [HK.out]; exact hnext
        obtain ⟨hd6, hl6, hx6, hk6, hb6, hn66⟩ := HI5.out.app (z := z) HD5.out HSEP.out HWB.out HGL.out hnext hst2
        obtain ⟨fs6, hD6, hst6, -⟩ := id hd6
        have HU6 : Hid (sumL fs6 = u + n5) := Lib.hid (by
          rw [stK_sum hst6, bsOf_snoc, framesB_snoc, List.length_append, Nat.zero_add, bsOf_length, HK.out, HN5.out, ← stK_sum HST.out, HU.out])
        have HD6 := Lib.hid hD6
        have HLOG6 : Hid (LogAt w6 gl g 63 (kk + 1) true) := Lib.hid (by rw [← HK.out]; exact hl6)
        obtain ⟨b', off', z', hbe, hbl6, hcz6, hz', -⟩ := (hx6.r.rd).cell hlt
        injection hbe with hbe
        injection hbe with hbe1 hbe2 _
        subst hbe1 hbe2
        rw [HZ.out] at hz'
        injection hz' with hz'
        subst hz'
        have hzm := List.mem_of_getElem? HZ.out
        obtain ⟨gk, capk, w7, hrun, hk7, hg7, -⟩ := hk6.snoc (ty := 27) z (hx6.2 z hzm) (by rw [HK.out]; omega) hn66
        have HI7 := Lib.hid (HI5.out.kept hzm hd6 hl6 hx6 hk6 hb6 hn66 hk7 hg7)
        rw [HK.out] at hrun HI7
        have HRUN := Lib.hid hrun
        have HK7 := Lib.hid (show (K ++ [z]).length = kk + 1 by rw [List.length_append, HK.out]; rfl)
        obtain ⟨-, hl7, -⟩ := HI7.out
        rw [HK7.out] at hl7
        have HLOG7 := Lib.hid hl7
        have hfit : ¬ room < u + n5 := hfull
        clear hnext hd6 hl6 hx6 hk6 hb6 hn66 hD6 hst6 hrun hk7 hg7 hl7 hst1 hst2 hcz5 hbl5 hzm hfull
        go_wp2_with (first
          | (go_at_call 31; ((with_reducible refine (used_any _ _ _ _ _ _ _ HD6).mono ?_); rintro e w7 ⟨rfl, rfl⟩; rw [HU6.out]))
          | (at_builtin; refine wpList_append_run HRUN.out rfl rfl rfl rfl ?_)
          | (go_at_call 33; ((with_reducible refine (llen_any _ _ _ _ _ _ HLOG7).mono ?_); rintro e w8 ⟨rfl, rfl⟩))
          | (go_at_call 34; ((with_reducible refine (lup_any _ _ _ _ _ _ HLOG7).mono ?_); rintro e w8 ⟨rfl, rfl⟩)))
        exact ⟨⟨q + 1, kk + 1, K ++ [z], by omega, by omega, by go_num, ⟨_, _, rfl⟩, HK7, HI7⟩, by simp [intOf]; omega⟩
    · obtain rfl : q = nx := by omega
      obtain ⟨⟨fs, hD, hst, hsep, hW, hgl⟩, hlog, hglo, -, hKs, hxin, hkin, -, hn6, hbel⟩ := id HI.out
      go_wp2_with fail
      refine (open_clean g mb room (-1) fs 63 (bsOf K) _ (Lib.hid hD) (by decide) (by decide) (Lib.hid (stK_file hst)) (Lib.hid rfl)).mono ?_
      rintro e w5 ⟨gl5, v5, L5, fs5, rfl, -, -, hL5, hbs5, -, -, hD5, m5, hF5, -⟩
      --@5
      have hK5 := hKs.modT (fun z hz => hxin z (hkin z hz)) m5 hD.noRow (fun b h1 h2 hf => by rcases hsep b hf with h | h <;> omega)
      have hB5 := m5.below hbel hbel.size hW
      obtain ⟨A5, c5, rfl⟩ := hL5.slice
      have hkk6 : kk ≤ 6 := by omega
      have hl5 : L5.length ≤ 6 := by rw [← bsOf_length, hbs5, bsOf_length, HK.out]; exact hkk6
      have HR5 := Lib.hid hL5.r.rd
      have HK5 := Lib.hid hK5.r.rd
      have HBS5 := Lib.hid hbs5
      clear hD hst hsep hW hgl hlog hglo hKs hxin hkin hn6 hbel m5 hF5 hL5 hK5 hbs5 HI
      go_wp2_with fail
      refine (open_nil 0 _).mono ?_
      rintro e w6 ⟨rfl, rfl⟩
      go_wp2_with fail
      refine (open_arg g mb room _ _ fs5 64 _ (Lib.hid hD5) (by decide)).mono ?_
      rintro e w6 ⟨rfl, rfl⟩
      clear hD5
      go_wp2_with fail
      refine (sameLists_any _ _ _ _ _ _ L5 K _ HR5 HK5 (by omega) (by omega)).mono ?_
      rintro e w6 ⟨rfl, hb6⟩
      have hd : decide (bsOf L5 = bsOf K) = true := by rw [decide_eq_true_iff]; exact HBS5.out
      rw [hd]
      have hB6 := bt hB5 hb6
      clear hd hb6 HR5 HK5 hB5
      obtain ⟨i0, hi, hz0, hz1, hz2⟩ := info_parts info_u8
      obtain ⟨w7, hmk, -, hb7, -⟩ := make_all (P := Try.prog) w6 23 5 i0 _ 1 Try.underlying23 hi hz0 hz1 hz2 rfl .i64 .i64 65537 (by decide) (by unfold maxLen; decide)
      have hB7 := bt hB6 hb7
      clear hi hz0 hz1 hz2 hb7 hB6
      replace hmk : (Instr.makeSlice 23 (.int .i64 65537) (.int .i64 65537)).run Try.prog w6 = .ok (.slice (some ⟨w6.heap.size, 0, none⟩) 65537 65537) w7 := hmk
      go_wp2_with fail
      refine (logAppend_limit gl _ _ _ _ (by decide)).mono ?_
      rintro e w8 ⟨rfl, hb8⟩
      have hB8 := bt hB7 hb8
      clear hmk hb8 hB7
      go_wp2_with fail
      refine (jlives_any _).mono ?_
      rintro e w9 ⟨rfl, hb9⟩
      go_wp2
      go_ret
      exact ⟨rfl, bt hB8 hb9⟩

end Go.Proofs.Ytldmokjpfnakkaa

/- A record that does not fit is refused with ErrFull and changes nothing; one that is too long with ErrLimit (JournalFull). -/
namespace Go.Proofs.Ytldmokjpfnakkaa
open Go.ChangeShapes Go.WideShapes Go.ChangeAt Go.RowKit Go.ChangeMaps

set_option maxRecDepth 100000 in
theorem JournalFull_lifted (os : Os) (started : os.Started) (H : Type) (enc : TypeId × Value → H) :
    ReturnsInHanded {} Try.checked os 6 .any (Rows.journalFullSpec.pre6 enc Try.prog Try.f6 Rows.journalFullRow.domain false) (Rows.journalFullSpec.post enc Try.prog Try.f6 false true false false) := by
  refine returnsInHanded_of_change (C := Try.checked) Try.own started (by kernel_rfl) Try.func6
    (ChangeSpec.witness6 (enc := enc) (C := Try.checked) false ⟨#[], #[.int .i64 0, .slice none 0 0], []⟩ 8 (by kernel_rfl) (by kernel_rfl) (by kernel_rfl) (by kernel_rfl)) ?_
  intro W base args ds gs before hval0 hW _ _
  have hval : ∀ (j : Nat) t v, Try.f6.params[j]? = some t → args[j]? = some v → Value.okWide Try.prog W .any base t v := hval0
  have hW' := hW
  obtain ⟨p, q, hT0, hV, rfl, hfz, hnd⟩ := hW
  have hT : DataW.TrodAll enc Try.prog W 0 (fun _ => true) true Try.f6.params.toList args.toList ds p := hT0
  rw [Try.params6] at hT hval
  obtain ⟨v0, vs0, d0, ds0, p0, q0, hargs0, rfl, rfl, h0, r0⟩ := trodAll_cons hT
  obtain ⟨v1, vs1, d1, ds1, p1, q1, hargs1, rfl, rfl, h1, r1⟩ := trodAll_cons r0
  obtain ⟨rfl, rfl, rfl⟩ := trodAll_nil r1
  obtain rfl : args = #[v0, v1] := by cases args; simp_all
  obtain ⟨a0, rfl, -, -, w0⟩ := open_int Try.underlying3 (hval 0 3 v0 rfl rfl) h0
  obtain ⟨A1, n1, c1, f1, rfl, hA1, hn1, hc1, hR1, hw1⟩ := open_sl Try.underlying22 Try.underlying3 (by kernel_rfl) (hval 1 22 v1 rfl rfl) h1
  refine (JournalFull_walk W a0 w0 A1 n1 c1 f1 hA1 hn1 hc1 hR1 hw1).mono fun e W' ⟨he, hb⟩ => ?_
  subst he
  exact ⟨_, rfl, law_post Try.laidOut (by kernel_rfl) (by kernel_rfl) Try.underlying4 rfl hW' rfl hb⟩

theorem JournalFull_holds : Rows.JournalFullSaid :=
  OpenClaim.holds_of_wide 6 Try.f6 rfl rfl rfl rfl rfl rfl rfl ⟨rfl, rfl, rfl, rfl, rfl⟩ rfl rfl rfl rfl rfl (by kernel_rfl) Try.func6 (by kernel_rfl)
    (of_decide_eq_true (by kernel_rfl)) (by unfold Func.isWrapper; first | (rw [if_pos (by decide +kernel)]; kernel_rfl) | (rw [if_neg (by decide +kernel)]; exact ⟨rfl, rfl⟩))
    (fun os started H enc _ => JournalFull_lifted os started H enc)

end Go.Proofs.Ytldmokjpfnakkaa
