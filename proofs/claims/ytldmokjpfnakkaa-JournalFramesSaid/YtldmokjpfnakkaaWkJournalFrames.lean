/- The walk of JournalFrames. -/
import Derived.Test.YtldmokjpfnakkaaJrnLives
import Derived.Test.YtldmokjpfnakkaaRefHelp2
import Derived.Test.YtldmokjpfnakkaaLaw
import Derived.Test.YtldmokjpfnakkaaJrnMore
namespace Go.Proofs.Ytldmokjpfnakkaa
open Go.ChangeShapes Go.WideShapes Go.ChangeAt Go.RowKit Go.ChangeMaps

theorem frames_le2 (L : List Bz) (hs : ∀ z ∈ L, z.bs.length ≤ 200) (hn : L.length ≤ 7) : ∀ k, k ≤ L.length → (framesB 0 (bsOf (L.take k))).length ≤ 240 * k := by
  intro k
  induction k with
  | zero => intro _; simp [bsOf, framesB]
  | succ k ih =>
    intro hk
    have h1 := ih (by omega)
    rw [← List.take_append_getElem (show k < L.length by omega), bsOf_snoc, framesB_snoc, List.length_append]
    have h2 := frameB_len (k := ((0 + (bsOf (L.take k)).length : Nat) : Int)) (bs := (L[k]'(by omega)).bs) (by rw [bsOf_length, List.length_take]; exact ⟨by omega, by omega⟩) (by have := hs _ (List.getElem_mem (show k < L.length by omega)); omega)
    have h3 := hs _ (List.getElem_mem (show k < L.length by omega))
    omega
theorem bsOf_take (L : List Bz) (k : Nat) : bsOf (L.take k) = (bsOf L).take k := by simp [bsOf]

set_option maxRecDepth 100000 in
set_option maxHeartbeats 8000000 in
theorem JournalFrames_walk (W : World) (A0 : Option Addr) (n0 c0 : Nat) (f0 : Nat → Int) (_hA0 : A0 = none → n0 = 0) (_hn0 : n0 ≤ c0) (_hc0 : c0 ≤ 9223372036854775807) (hR0 : Rd W W.heap.size A0 n0 (fun j => .int .i64 (f0 j))) (hw0 : Hid (∀ j, j < n0 → (Lit.int .i64 (f0 j)).wf = true)) (a1 : Int) (ha1 : Hid ((Lit.int .i64 a1).wf = true)) (A2 : Option Addr) (n2 c2 : Nat) (f2 : Nat → Int) (hA2 : A2 = none → n2 = 0) (hn2 : n2 ≤ c2) (hc2 : c2 ≤ 9223372036854775807) (hR2 : Rd W W.heap.size A2 n2 (fun j => .int .u8 (f2 j))) (hw2 : Hid (∀ j, j < n2 → (Lit.int .u8 (f2 j)).wf = true)) (A3 : Option Addr) (n3 c3 : Nat) (f3 : Nat → Int) (hA3 : A3 = none → n3 = 0) (hn3 : n3 ≤ c3) (hc3 : c3 ≤ 9223372036854775807) (hR3 : Rd W W.heap.size A3 n3 (fun j => .int .u8 (f3 j))) (hw3 : Hid (∀ j, j < n3 → (Lit.int .u8 (f3 j)).wf = true)) :
    Calls Try.prog 3 #[.slice A0 n0 c0, .int .i64 a1, .slice A2 n2 c2, .slice A3 n3 c3] W fun e w' => e = .returned (.bool true) ∧ Below W.heap.size W w' := by
  have hb := Below.refl W.heap.size W
  go_enter Try.func3, Try.ntmps3
  clear hb
  obtain ⟨bit1, bit2⟩ := wf_i64 ha1.out
  go_wp2_with fail
  refine (few_list _ _ _ 200 _ rfl f2 _ hA2 hR2 hn2 hc2 (by decide) (bytes_wf hw2)).mono ?_
  rintro e w1 ⟨A10, c10, n10, bs, rfl, hnc10, hc10, hn10, -, HL10, -, hown1, hr1, hb1⟩
  have hz1 := (Bts.of_own hown1).1
  clear hown1
  go_wp2_with fail
  refine (frame_any a1 _ _ _ bs _ HL10 bit1 bit2 (by omega) hr1).mono ?_
  rintro e w2 ⟨A11, n11, c11, rfl, HN11, hown11, hb2⟩
  have hr11 := (rd_bytes hown11).2.2
  have hr2 := hr1.all hb2
  have hz2 := hz1.all hb2
  have hB2 := bt hb1 hb2
  have hn11 : n11 ≤ 240 := by
    have h1 := frameB_len (k := a1) (bs := bs) ⟨bit1, bit2⟩ (by rw [HL10.out]; omega)
    rw [HN11.out, HL10.out] at h1
    omega
  clear hb1 hb2 hr1 hz1 hown11
  go_wp2_with fail
  refine (rframe_any a1 _ _ _ bs _ HL10 bit1 bit2 (by omega) hr2).mono ?_
  rintro e w3 ⟨A12, n12, c12, rfl, HN12, hown12, hb3⟩
  have hr12 := (rd_bytes hown12).2.2
  have hr11' := hr11.all hb3
  have hz3 := hz2.all hb3
  have hB3 := bt hB2 hb3
  have hn12 : n12 ≤ 240 := by have := HN11.out; have := HN12.out; omega
  clear hb3 hr2 hz2 hB2 hr11 hown12
  go_wp2_with fail
  refine (sameBytes_true _ _ _ _ _ _ (frameB a1 bs) (frameB a1 bs) _ rfl HN11 HN12 hr11' hr12 (by omega) (by omega)).mono ?_
  rintro e w4 ⟨rfl, hb4⟩
  have hz4 := hz3.all hb4
  have hB4 := bt hB3 hb4
  clear hb4 hz3 hB3 hr11' hr12 hn12
  go_wp2_with fail
  refine (records_any _ _ _ f0 _ (hR0.all hB4) (by omega) (Lib.hid (fun j hj => wf_i64 (hw0.out j hj)))).mono ?_
  rintro e w5 ⟨v5, L5, rfl, hL5, hrs5, hb5⟩
  have hlx : L5.length ≤ 6 := by rw [← bsOf_length, hrs5, recsOf_len]; omega
  have hz5 : Bz.ok w5 ⟨A10, n10, c10, bs⟩ := hz4.all hb5
  have hB5 := bt hB4 hb5
  obtain ⟨g6, cap6, w6, hrun, hL6, hg6, -⟩ := hL5.snoc (ty := 27) ⟨A10, n10, c10, bs⟩ hz5 (by omega) hb5.size
  have hB6 := hB5.grown hg6 hB5.size (fun r e => by have := (hL5.1.lt r e).1; have := hB4.size; omega)
  have HSM : Hid (∀ z ∈ L5 ++ [⟨A10, n10, c10, bs⟩], z.bs.length ≤ 200) := Lib.hid (by
    intro z hz
    rcases List.mem_append.1 hz with hz | hz
    · have := recsOf_small n0 f0 z.bs (by rw [← hrs5]; exact List.mem_map.2 ⟨z, hz, rfl⟩)
      omega
    · simp at hz
      subst hz
      have := HL10.out
      simp only
      omega)
  have HRUN := Lib.hid hrun
  have HNX := Lib.hid (show (L5 ++ [(⟨A10, n10, c10, bs⟩ : Bz)]).length = L5.length + 1 by simp)
  have HX := Lib.hid hL6.r.rd
  have hR3' := Lib.hid (hR3.all hB6)
  clear hz5 hz4 hB4 hB5 hb5 hL5 hrs5 hrun hL6 hg6
  generalize L5 ++ [⟨A10, n10, c10, bs⟩] = X at *
  --@1
  go_wp2_with (at_builtin; refine wpList_append_run HRUN.out rfl rfl rfl rfl ?_)
  obtain ⟨nx, hnx⟩ : ∃ nx, L5.length + 1 = nx := ⟨_, rfl⟩
  rw [hnx] at HX HNX ⊢
  have hnx7 : nx ≤ 7 := by omega
  clear hnx HRUN
  go_loopw [11, 12] (fun v i wr => ∃ (k na : Nat), k ≤ nx ∧ na ≤ 240 * k ∧ i = .int .i64 (k : Int) ∧ Hid ((framesB 0 (bsOf (X.take k))).length = na) ∧ wr.ownsRow w6.heap.size 5 1 v na ((framesB 0 (bsOf (X.take k))).map fun b => Value.int .u8 ((b.toNat : Nat) : Int)) ∧ Below w6.heap.size w6 wr) (fun _ i _ => nx - (intOf i).toNat)
  case atStart => exact ⟨0, 0, by omega, by omega, rfl, Lib.hid rfl, World.ownsRow_nil _ _ _ _, Below.refl _ _⟩
  case round =>
    obtain ⟨k, na, hk, hna, rfl, HNA, hown, hb⟩ := hrel
    obtain ⟨v11, rfl⟩ : ∃ x, x = u11 := ⟨_, rfl⟩
    by_cases hlt : k < nx
    · obtain ⟨b, off, z, hbe, hbl, hcz, hz, hrz⟩ := (HX.out.all hb).cell hlt
      injection hbe with hbe
      injection hbe with hbe1 hbe2 _
      subst hbe1 hbe2
      rw [Nat.zero_add] at hcz
      have HZ := Lib.hid hz
      have HZN := Lib.hid hrz.len
      have hzn : z.n ≤ 200 := by
        have := HSM.out z (List.mem_of_getElem? hz)
        have := hrz.len
        omega
      have hrd := hrz.rd
      clear hz hrz
      go_wp2_with fail
      refine (frame_any _ _ _ _ z.bs _ HZN (by omega) (by omega) (by omega) hrd).mono ?_
      rintro e w7 ⟨A7, n7, c7, rfl, HN7, hown7, hb7⟩
      have hn7 : n7 ≤ 240 := by
        have := frameB_len (k := (k : Int)) (bs := z.bs) ⟨by omega, by omega⟩ (by have := HZN.out; omega)
        have := HN7.out
        have := HZN.out
        omega
      have hx7 := hb.trans (hb7.mono hb.size)
      obtain ⟨A8, n8, c8, w8, HA, HN8, hown8, hb8⟩ := own_many (c := c7) (own_keep hown hb7) HN7.out (rd_bytes hown7).2.2 (by omega) hx7.size
      have HNX3 := Lib.hid (frames_next HZ.out)
      have HO3 := Lib.hid (show w8.ownsRow w6.heap.size 5 1 (.slice A8 n8 c8) n8 ((framesB 0 (bsOf (X.take (k + 1)))).map fun b => Value.int .u8 ((b.toNat : Nat) : Int)) by rw [HNX3.out]; exact hown8)
      have HN33 := Lib.hid (show (framesB 0 (bsOf (X.take (k + 1)))).length = n8 by rw [HNX3.out, List.length_append, HNA.out, HN7.out, HN8.out])
      have hn3 : n8 ≤ 240 * (k + 1) := by rw [HN8.out]; omega
      have HX3 := Lib.hid (hx7.trans hb8)
      clear hown hown7 hown8 hb7 hb8 hx7 HNX3 hrd hb
      go_wp2_with (at_builtin; refine wpList_append_run HA.out rfl rfl rfl rfl ?_)
      exact ⟨⟨k + 1, n8, by omega, hn3, by go_num, HN33, HO3.out, HX3.out⟩, by simp [intOf]; omega⟩
    · obtain rfl : k = nx := by omega
      --@2
      have hEX : X.take k = X := List.take_of_length_le (by rw [HNX.out]; exact Nat.le_refl _)
      rw [hEX] at hown HNA
      obtain ⟨A11', c11', rfl⟩ := own_slice hown
      clear hEX
      go_wp2_with fail
      refine (few_list _ _ _ 30 _ rfl f3 _ hA3 (hR3'.out.all hb) hn3 hc3 (by decide) (bytes_wf hw3)).mono ?_
      rintro e w9 ⟨A9, c9, n9, rs, rfl, -, -, hn9, -, HL9, -, -, hr9, hb9⟩
      have hx9 := hb.trans (hb9.mono hb.size)
      obtain ⟨A8, n8, c8, w8, HA, HN8, hown8, hb8⟩ := own_many (c := c9) (own_keep hown hb9) HL9.out hr9 (by omega) hx9.size
      have hx8 := hx9.trans hb8
      have HSB := Lib.hid (Sb.own hown8)
      have hn8 : n8 ≤ 2000 := by rw [HN8.out]; omega
      have HXX := Lib.hid (HX.out.all hx8)
      have hBB := bt hB6 hx8
      clear hown hb9 hx9 hown8 hb8 hr9 hb hB6 hx8 HX
      go_wp2_with (at_builtin; refine wpList_append_run HA.out rfl rfl rfl rfl ?_)
      refine (scan_any _ _ _ _ _ HSB (by omega)).mono ?_
      rintro e w14 ⟨v14, L14, m14, rfl, hL14, hs14, hb14⟩
      obtain ⟨A14, c14, rfl⟩ := hL14.slice
      have HSB' := Lib.hid (HSB.out.all hb14)
      have hB14 := bt hBB hb14
      have HXX' := Lib.hid (HXX.out.all hb14)
      have hlen : (framesB 0 (bsOf X) ++ rs).length = n8 := HSB.out.1
      have hl14 : L14.length ≤ 2000 := scan_len hs14 (by rw [hlen]; exact hn8)
      obtain ⟨hpre, hge⟩ := hs14.ahead (x := bsOf X) (rest := rs) (by rw [hlen]; omega) rfl
      rw [HNA.out] at hge
      have HLEN := Lib.hid hlen
      have hxle : k ≤ L14.length := by
        have := hpre.length_le
        rw [bsOf_length, bsOf_length, HNX.out] at this
        exact this
      have HTK : Hid (bsOf (L14.take k) = bsOf X) := Lib.hid (by
        rw [bsOf_take]
        rw [List.prefix_iff_eq_take, bsOf_length, HNX.out] at hpre
        exact hpre.symm)
      have HS14 := Lib.hid hs14
      have HL14 := Lib.hid hL14
      have hcap14 := own_cap hL14.1
      have hlc14 : L14.length ≤ c14 := (hL14.at_).2.2.1
      clear hlen hpre hs14 hL14 hb14 HSB HXX hBB HA
      go_wp2_with fail
      refine (rscan_any _ _ _ _ _ HSB' (by omega)).mono ?_
      rintro e w15 ⟨v15, L15, m15, rfl, hL15, hs15, hb15⟩
      obtain ⟨A15, c15, rfl⟩ := hL15.slice
      have hB15 := bt hB14 hb15
      have hl15 : L15.length ≤ 2000 := scan_len hs15 (by rw [HLEN.out]; exact hn8)
      obtain ⟨e1, e2⟩ := ScanIs.unique (by rw [HLEN.out]; omega) HS14.out hs15
      subst e2
      have HE1 := Lib.hid e1
      have HR14 := Lib.hid ((HL14.out.all hb15).r.rd)
      have HR15 := Lib.hid (hL15.rd)
      have HX15 := Lib.hid (HXX'.out.all hb15)
      clear hb15 hs15 hL15 e1 hB14 HXX' HSB' HL14 HS14
      go_wp2_with fail
      --@3
      refine (sameLists_any _ _ _ _ _ _ L14 L15 _ HR14 HR15 (by omega) (by omega)).mono ?_
      rintro e w16 ⟨rfl, hb16⟩
      have hd : decide (bsOf L14 = bsOf L15) = true := by rw [decide_eq_true_iff]; exact HE1.out
      rw [hd]
      have HR16 := Lib.hid ((HR14.out.all hb16).take hxle)
      have HX16 := Lib.hid (HX15.out.all hb16)
      have hB16 := bt hB15 hb16
      clear hd hb16 HR14 HR15 HX15 hB15
      go_wp2_with fail
      --@4
      refine (sameLists_any _ _ _ _ _ _ (L14.take k) X _ HR16 HX16 (by omega) (by omega)).mono ?_
      rintro e w17 ⟨rfl, hb17⟩
      have hd : decide (bsOf (L14.take k) = bsOf X) = true := by rw [decide_eq_true_iff]; exact HTK.out
      rw [hd]
      have hB17 := bt hB16 hb17
      clear hd hb17
      go_wp2_with fail
      refine (jlives_any _).mono ?_
      rintro e w18 ⟨rfl, hb18⟩
      go_wp2
      go_ret
      exact ⟨rfl, bt hB17 hb18⟩

end Go.Proofs.Ytldmokjpfnakkaa
