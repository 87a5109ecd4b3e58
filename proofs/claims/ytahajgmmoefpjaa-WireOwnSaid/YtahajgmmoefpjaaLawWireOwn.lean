/- For every slice of bytes and list worldmintlaw02.WireOwn returns true. No condition. -/
import Derived.Test.YtahajgmmoefpjaaWireLives
import Derived.Test.YtahajgmmoefpjaaRefHelp2
import Derived.Test.YtahajgmmoefpjaaWireMore
import Derived.Test.YtahajgmmoefpjaaLaw
namespace Go.Proofs.Ytahajgmmoefpjaa
open Go.ChangeShapes Go.WideShapes Go.ChangeAt Go.RowKit Go.ChangeMaps


set_option maxRecDepth 100000 in
set_option maxHeartbeats 2000000 in
theorem WireOwn_walk (W : World) (A0 : Option Addr) (n0 c0 : Nat) (f0 : Nat → Int) (hA0 : A0 = none → n0 = 0) (hn0 : n0 ≤ c0) (hc0 : c0 ≤ 9223372036854775807) (hR0 : Rd W W.heap.size A0 n0 (fun j => .int .u8 (f0 j))) (hw0 : Hid (∀ j, j < n0 → (Lit.int .u8 (f0 j)).wf = true)) (A1 : Option Addr) (n1 c1 : Nat) (f1 : Nat → Int) (hA1 : A1 = none → n1 = 0) (hn1 : n1 ≤ c1) (hc1 : c1 ≤ 9223372036854775807) (hR1 : Rd W W.heap.size A1 n1 (fun j => .int .i64 (f1 j))) (hw1 : Hid (∀ j, j < n1 → (Lit.int .i64 (f1 j)).wf = true)) :
    Calls Try.prog 5 #[.slice A0 n0 c0, .slice A1 n1 c1] W fun e w' => e = .returned (.bool true) ∧ Below W.heap.size W w' := by
  have hb := Below.refl W.heap.size W
  go_enter Try.func5, Try.ntmps5
  go_wp2_with fail
  refine (few_list _ _ _ 30 30 rfl _ _ hA0 hR0 hn0 hc0 (by decide) (bytes_wf hw0)).mono ?_
  rintro e w1 ⟨A1', c1', n1', bs, rfl, hnc1, hcm1, hm1, HK1, HX1, HE1, hown1, hr1, hb1⟩
  have L1 := Lib.hid (fun k e => (hown1.lt k e).2)
  have hRW := hR1
  replace hb := bt hb hb1
  replace hR1 := hR1.all hb1
  have hwI : ∀ j, j < n1 → -9223372036854775808 ≤ f1 j ∧ f1 j ≤ 9223372036854775807 := fun j hj => wf_i64 (hw1.out j hj)
  have HWI := Lib.hid hwI
  clear hb1 hwI
  go_wp2_with fail
  refine (ints_list _ _ _ 10 10 rfl _ _ hA1 hR1 hn1 hc1 (by decide)).mono ?_
  rintro e w2 ⟨A2, c2, n2, xs, rfl, hnc2, hcm2, hm2, HK2, HX2, HE2, hown2, hr2, hb2⟩
  have L2 := Lib.hid (fun k e => (hown2.lt k e).2)
  have hxs : ∀ j : Nat, -9223372036854775808 ≤ xs[j]?.getD 0 ∧ xs[j]?.getD 0 ≤ 9223372036854775807 := by
    intro j
    rw [HE2.out]
    by_cases hj : j < n2
    · have := HWI.out j (by have := HK2.out; omega)
      simpa [hj] using this
    · simp [hj]
  have HXS := Lib.hid hxs
  have hbW := hb.size
  replace hb := bt hb hb2
  replace hR1 := hR1.all hb2
  replace hr1 := hr1.all hb2
  replace hown1 := own_keep hown1 hb2
  have hbX := hb2.size
  have HW0 := Lib.hid (Wr.new w2)
  have hbw : Below w2.heap.size w2 (w2.alloc (.cells #[.slice none 0 0] 26)) := (Below.refl _ w2).alloc (Nat.le_refl _) _
  clear hb2 hxs
  go_wp2_with fail
  refine (wraw_any _ _ [] bs _ _ _ w2.heap.size _ HW0 HX1 (by omega) (hr1.alloc (Nat.le_refl _) _) (Nat.le_refl _) (by decide)).mono ?_
  rintro e w3 ⟨rfl, hW, hb3⟩
  rw [List.nil_append] at hW
  replace HW0 := Lib.hid hW
  replace hbw := hbw.trans hb3
  have hlr : (encRaw bs).length ≤ 40 := by
    unfold encRaw
    rw [List.length_append]
    have := varint_len10 (n := bs.length) (by have := HX1.out; omega)
    have := HX1.out
    omega
  have hlr2 : (encRaw bs ++ encInts xs).length ≤ 150 := by
    rw [List.length_append, ← encIntsTo_all xs n2 (by rw [HX2.out]; exact Nat.le_refl _)]
    have := encIntsTo_len xs (by have := HX2.out; omega) HXS.out n2 (by rw [HX2.out]; exact Nat.le_refl _)
    omega
  clear hW hb3
  go_wp2_with fail
  refine (wints_any _ _ _ xs _ _ _ w2.heap.size _ HW0 HX2 (by omega) (hr2.below hbw (Nat.le_refl _)) (Nat.le_refl _) (by omega) HXS).mono ?_
  rintro e w4 ⟨rfl, hW, hb4⟩
  replace HW0 := Lib.hid hW
  replace hbw := hbw.trans hb4
  clear hW hb4
  go_wp2_with fail
  refine (wdone_any _ _ _ _ HW0 (by omega)).mono ?_
  rintro e w5 ⟨A5, n5, c5, rfl, hnc5, hcm5, HX5, hown5, hr5, hb5⟩
  have L5 := Lib.hid (fun k e => (hown5.lt k e).2)
  have HWI5 := Lib.hid (HW0.out.within.below hb5)
  have hsz4 := hbw.size
  replace hbw := hbw.trans (hb5.mono hbw.size)
  replace hown1 := own_keep hown1 hbw
  replace hown2 := own_keep hown2 hbw
  replace hR1 := hR1.all hbw
  replace hb := bt hb hbw
  have hsz5 := hb5.size
  have h5n : n5 ≤ 150 := by rw [← HX5.out]; exact hlr2
  obtain ⟨A6, c6, w6, HA6, hnc6, hcm6, hown6, hr6, hb6⟩ := copy_run w5 A5 n5 c5 _ HX5.out hr5 (by omega)
  clear hbw hb5 HW0 hr1 hr2 hr5
  go_wp2_with (at_builtin; refine wpList_append_run HA6.out rfl rfl rfl rfl ?_)
  replace hown1 := own_keep hown1 hb6
  replace hown2 := own_keep hown2 hb6
  replace hown5 := own_keep hown5 hb6
  replace hR1 := hR1.all hb6
  replace hb := bt hb hb6
  replace HWI5 := Lib.hid (HWI5.out.below hb6)
  have hsz6 := hb6.size
  clear hb6 HA6 hr6
  obtain ⟨wz, rfl⟩ : ∃ x, x = w6 := ⟨_, rfl⟩
  clear hR1
  go_wp2
  go_loopw [10] (fun v wr => ∃ k : Nat, ∃ bx : List UInt8, k ≤ n1' ∧ v = .int .i64 (k : Int) ∧ wr.ownsRow W.heap.size 5 1 (.slice A1' n1' c1') n1' (bx.map fun b => Value.int .u8 ((b.toNat : Nat) : Int)) ∧ wz.grownBy wr (Value.slice A1' n1' c1').ownBlock) (fun v _ => n1' - (intOf v).toNat)
  case atStart => exact ⟨0, _, by omega, rfl, hown1, only_refl _ _⟩
  case round =>
    obtain ⟨k, bx, hk, rfl, hox, hgx⟩ := hrel
    clear hown1
    by_cases hlt : k < n1'
    · obtain ⟨g, rfl, hgb, hgl⟩ := own_some hox (by omega)
      obtain ⟨hc, hf⟩ := own_byte hox hlt
      have hst := Lib.hid (own_byte_set hox k 7)
      have hgs := Lib.hid (only_set (p := ⟨g, k, none⟩) hgx (.inl rfl) (.int .u8 7))
      go_wp2
      exact ⟨⟨k + 1, _, by omega, by go_num, hst.out, hgs.out⟩, by simp [intOf]; omega⟩
    · have hxl := hox.lt
      obtain ⟨wz1, rfl⟩ : ∃ x, x = wr := ⟨_, rfl⟩
      clear hox
      replace hown2 := own_grown hown2 hgx (fun r e => L1.out r e)
      replace hown5 := own_grown hown5 hgx (fun r e => by have := L1.out r e; omega)
      replace hown6 := own_grown hown6 hgx (fun r e => by have := L1.out r e; omega)
      replace HWI5 := Lib.hid (HWI5.out.grown hgx (fun r e => .inl (by have := L1.out r e; omega)))
      replace hb := below_grown hb hgx hb.size (fun r e => (hxl r e).1)
      clear hgx hxl
      go_wp2
      go_loopw [11] (fun v wr => ∃ k : Nat, ∃ bx : List Int, k ≤ n2 ∧ v = .int .i64 (k : Int) ∧ wr.ownsRow w1.heap.size 3 1 (.slice A2 n2 c2) n2 (bx.map (Value.int .i64)) ∧ wz1.grownBy wr (Value.slice A2 n2 c2).ownBlock) (fun v _ => n2 - (intOf v).toNat)
      case atStart => exact ⟨0, _, by omega, rfl, hown2, only_refl _ _⟩
      case round =>
        obtain ⟨k, bx, hk, rfl, hox, hgx⟩ := hrel
        clear hown2
        by_cases hlt : k < n2
        · obtain ⟨g, rfl, hgb, hgl⟩ := own_some hox (by omega)
          obtain ⟨hc, hf⟩ := own_int hox hlt
          have hst := Lib.hid (own_int_set hox k 7)
          have hgs := Lib.hid (only_set (p := ⟨g, k, none⟩) hgx (.inl rfl) (.int .i64 7))
          go_wp2
          exact ⟨⟨k + 1, _, by omega, by go_num, hst.out, hgs.out⟩, by simp [intOf]; omega⟩
        · have hxl := hox.lt
          obtain ⟨wz2, rfl⟩ : ∃ x, x = wr := ⟨_, rfl⟩
          clear hox
          replace hown5 := own_grown hown5 hgx (fun r e => by have := L2.out r e; omega)
          replace hown6 := own_grown hown6 hgx (fun r e => by have := L2.out r e; omega)
          replace HWI5 := Lib.hid (HWI5.out.grown hgx (fun r e => .inl (by have := L2.out r e; omega)))
          replace hb := below_grown hb hgx hb.size (fun r e => by have := (hxl r e).1; omega)
          clear hgx hxl
          go_wp2
          go_loopw [12] (fun v wr => ∃ k : Nat, ∃ bx : List UInt8, k ≤ n5 ∧ v = .int .i64 (k : Int) ∧ wr.ownsRow w4.heap.size 5 1 (.slice A5 n5 c5) n5 (bx.map fun b => Value.int .u8 ((b.toNat : Nat) : Int)) ∧ wz2.grownBy wr (Value.slice A5 n5 c5).ownBlock) (fun v _ => n5 - (intOf v).toNat)
          case atStart => exact ⟨0, _, by omega, rfl, hown5, only_refl _ _⟩
          case round =>
            obtain ⟨k, bx, hk, rfl, hox, hgx⟩ := hrel
            clear hown5
            by_cases hlt : k < n5
            · obtain ⟨g, rfl, hgb, hgl⟩ := own_some hox (by omega)
              obtain ⟨hc, hf⟩ := own_byte hox hlt
              have hst := Lib.hid (own_byte_set hox k 9)
              have hgs := Lib.hid (only_set (p := ⟨g, k, none⟩) hgx (.inl rfl) (.int .u8 9))
              go_wp2
              exact ⟨⟨k + 1, _, by omega, by go_num, hst.out, hgs.out⟩, by simp [intOf]; omega⟩
            · have hxl := hox.lt
              obtain ⟨wz3, rfl⟩ : ∃ x, x = wr := ⟨_, rfl⟩
              clear hox
              replace hown6 := own_grown hown6 hgx (fun r e => L5.out r e)
              replace HWI5 := Lib.hid (HWI5.out.grown hgx (fun r e => .inr (hxl r e).1))
              have hbs := hb.size
              replace hb := below_grown hb hgx hb.size (fun r e => by have := (hxl r e).1; omega)
              have HW5 := Lib.hid HWI5.out.wr
              clear hgx hxl HWI5 hbs
              go_wp2_with fail
              refine (wdone_any _ _ _ _ HW5 (by omega)).mono ?_
              rintro e w7 ⟨A7, n7, c7, rfl, hnc7, hcm7, HX7, hown7, hr7, hb7⟩
              replace hown6 := own_keep hown6 hb7
              replace hb := bt hb hb7
              have h7n : n7 ≤ 150 := by rw [← HX7.out]; exact hlr2
              clear hb7 HW5
              go_wp2_with fail
              refine (sameBytes_true _ _ _ _ _ _ _ _ _ rfl HX7 HX5 hr7 (rd_bytes hown6).2.2 (by omega) (by omega)).mono ?_
              rintro e w8 ⟨rfl, hb8⟩
              replace hown6 := own_keep hown6 hb8
              replace hb := bt hb hb8
              obtain ⟨A9, c9, w9, HA9, hnc9, hcm9, hown9, hr9, hb9⟩ := copy_run w8 A6 n5 c6 _ HX5.out (rd_bytes hown6).2.2 (by omega)
              clear hb8 hown7 hr7
              go_wp2_with (at_builtin; refine wpList_append_run HA9.out rfl rfl rfl rfl ?_)
              have h8W := hb.size
              have hb8s := Nat.le_trans hb.size hb9.size
              replace hb := bt hb hb9
              have L9 := Lib.hid (fun k e => (hown9.lt k e).2)
              clear hb9 HA9 hown6
              refine (read_any _ _ _ _ _ HX5 hr9 (by omega)).mono ?_
              rintro e w10 ⟨gr, rfl, hgr, _, hb10, HRR⟩
              have hgl := hb10.size
              replace hown9 := own_keep hown9 hb10
              replace hb := bt hb hb10
              clear hb10 hr9
              obtain ⟨wz, rfl⟩ : ∃ x, x = w10 := ⟨_, rfl⟩
              go_wp2
              go_loopw [15] (fun v wr => ∃ k : Nat, ∃ bx : List UInt8, k ≤ n5 ∧ v = .int .i64 (k : Int) ∧ wr.ownsRow w8.heap.size 5 1 (.slice A9 n5 c9) n5 (bx.map fun b => Value.int .u8 ((b.toNat : Nat) : Int)) ∧ wz.grownBy wr (Value.slice A9 n5 c9).ownBlock) (fun v _ => n5 - (intOf v).toNat)
              case atStart => exact ⟨0, _, by omega, rfl, hown9, only_refl _ _⟩
              case round =>
                obtain ⟨k, bx, hk, rfl, hox, hgx⟩ := hrel
                clear hown9
                by_cases hlt : k < n5
                · obtain ⟨g, rfl, hgb, hgl⟩ := own_some hox (by omega)
                  obtain ⟨hc, hf⟩ := own_byte hox hlt
                  have hst := Lib.hid (own_byte_set hox k 255)
                  have hgs := Lib.hid (only_set (p := ⟨g, k, none⟩) hgx (.inl rfl) (.int .u8 255))
                  go_wp2
                  exact ⟨⟨k + 1, _, by omega, by go_num, hst.out, hgs.out⟩, by simp [intOf]; omega⟩
                · have hxl := hox.lt
                  obtain ⟨wz4, rfl⟩ : ∃ x, x = wr := ⟨_, rfl⟩
                  clear hox
                  have HR := Lib.hid (HRR.out wz4 ((Within.refl _ _ _).grown hgx (fun r e => .inl (L9.out r e)) (Nat.le_refl _)))
                  replace hb := below_grown hb hgx hb.size (fun r e => by have := (hxl r e).1; have := h8W; omega)
                  clear hgx hxl HRR
                  go_wp2_with fail
                  refine (rraw_any _ _ _ _ _ HR).mono ?_
                  rw [show readRaw (encRaw bs ++ encInts xs) 0 = (0, bs, encInts xs) from decRaw_enc (by rw [HX1.out]; omega) _]
                  rintro e w11 ⟨A11, n11, c11, rfl, hnc11, hcm11, _, HX11, hown11, hR11, ho11⟩
                  have hsB := HR.out.lt
                  have hb11 := below_of_only hb ho11 hb.size (by have := hb8s; omega)
                  have hs10 := hb.size
                  replace hb := hb11
                  replace HR := Lib.hid hR11
                  have h11n : n11 ≤ 30 := by rw [← HX11.out, HX1.out]; exact hm1
                  clear hb11 hR11 ho11
                  obtain ⟨wz, rfl⟩ : ∃ x, x = w11 := ⟨_, rfl⟩
                  go_wp2
                  go_loopw [17] (fun v wr => ∃ k : Nat, ∃ bx : List UInt8, k ≤ n11 ∧ v = .int .i64 (k : Int) ∧ wr.ownsRow wz4.heap.size 5 1 (.slice A11 n11 c11) n11 (bx.map fun b => Value.int .u8 ((b.toNat : Nat) : Int)) ∧ wz.grownBy wr (Value.slice A11 n11 c11).ownBlock) (fun v _ => n11 - (intOf v).toNat)
                  case atStart => exact ⟨0, _, by omega, rfl, hown11, only_refl _ _⟩
                  case round =>
                    obtain ⟨k, bx, hk, rfl, hox, hgx⟩ := hrel
                    clear hown11
                    by_cases hlt : k < n11
                    · obtain ⟨g, rfl, hgb, hgl⟩ := own_some hox (by omega)
                      obtain ⟨hc, hf⟩ := own_byte hox hlt
                      have hst := Lib.hid (own_byte_set hox k 1)
                      have hgs := Lib.hid (only_set (p := ⟨g, k, none⟩) hgx (.inl rfl) (.int .u8 1))
                      go_wp2
                      exact ⟨⟨k + 1, _, by omega, by go_num, hst.out, hgs.out⟩, by simp [intOf]; omega⟩
                    · have hxl := hox.lt
                      obtain ⟨wz5, rfl⟩ : ∃ x, x = wr := ⟨_, rfl⟩
                      clear hox
                      replace HR := Lib.hid (HR.out.grown hgx (fun r e => by have := (hxl r e).1; omega))
                      replace hb := below_grown hb hgx hb.size (fun r e => by have := (hxl r e).1; omega)
                      clear hgx hxl
                      have hli : (encInts xs).length ≤ 150 := by rw [List.length_append] at hlr2; omega
                      go_wp2_with fail
                      refine (rints_any _ _ _ _ _ HR (by omega)).mono ?_
                      rw [show readInts (encInts xs) 0 = (0, xs, []) from by
                        have := decInts_enc (l := xs) (by rw [HX2.out]; omega) (fun n hn => by
                          obtain ⟨j, hj, rfl⟩ := List.getElem_of_mem hn
                          have := HXS.out j
                          simpa [InI, hj] using this) []
                        rw [List.append_nil] at this
                        exact this]
                      rintro e w12 ⟨A12, n12, c12, rfl, hnc12, hcm12, hn12, HX12, hown12, hR12, ho12⟩
                      have hr12 := (rd_ints hown12).2.2
                      replace hb := below_of_only hb ho12 hb.size (by have := hb8s; omega)
                      replace HR := Lib.hid hR12
                      have hRn := hRW.all hb
                      clear hR12 ho12
                      go_wp2_with fail
                      refine (ints_list _ _ _ 10 10 rfl _ _ hA1 hRn hn1 hc1 (by decide)).mono ?_
                      rintro e w13 ⟨A13, c13, n13, ys, rfl, hnc13, hcm13, hm13, HK13, HX13, HE13, hown13, hr13, hb13⟩
                      replace hr12 := hr12.all hb13
                      replace hb := bt hb hb13
                      replace HR := Lib.hid (HR.out.all hb13)
                      have HY : Hid (xs = ys) := Lib.hid (by rw [HE2.out, HE13.out, HK2.out, HK13.out])
                      clear hb13 hRn
                      go_wp2_with fail
                      refine (sameInts_true _ _ _ _ _ _ _ _ _ HY.out HX12 HX13 hr12 hr13 (by omega) (by omega)).mono ?_
                      rintro e w14 ⟨rfl, hb14⟩
                      replace hb := bt hb hb14
                      replace HR := Lib.hid (HR.out.all hb14)
                      clear hb14
                      go_wp2_with fail
                      refine (rend_any _ _ _ _ _ HR).mono ?_
                      rintro e w15 ⟨rfl, rfl⟩
                      rw [show endI [] 0 = 0 from rfl]
                      go_wp2_with fail
                      refine (lives2_any _).mono ?_
                      rintro e wl ⟨rfl, hbl⟩
                      go_wp2
                      go_ret
                      exact ⟨rfl, bt hb hbl⟩


set_option maxRecDepth 100000 in
theorem WireOwn_lifted (os : Os) (started : os.Started) (H : Type) (enc : TypeId × Value → H) :
    ReturnsInHanded {} Try.checked os 5 .any (Rows.wireOwnSpec.pre6 enc Try.prog Try.f5 Rows.wireOwnRow.domain false) (Rows.wireOwnSpec.post enc Try.prog Try.f5 false true false false) := by
  refine returnsInHanded_of_change (C := Try.checked) Try.own started (by kernel_rfl) Try.func5
    (ChangeSpec.witness6 (enc := enc) (C := Try.checked) false ⟨#[], #[.slice none 0 0, .slice none 0 0], []⟩ 8 (by kernel_rfl) (by kernel_rfl) (by kernel_rfl) (by kernel_rfl)) ?_
  intro W base args ds gs before hval0 hW _ _
  have hval : ∀ (j : Nat) t v, Try.f5.params[j]? = some t → args[j]? = some v → Value.okWide Try.prog W .any base t v := hval0
  have hW' := hW
  obtain ⟨p, q, hT0, hV, rfl, hfz, hnd⟩ := hW
  have hT : DataW.TrodAll enc Try.prog W 0 (fun _ => true) true Try.f5.params.toList args.toList ds p := hT0
  rw [Try.params5] at hT hval
  obtain ⟨v0, vs0, d0, ds0, p0, q0, hargs0, rfl, rfl, h0, r0⟩ := trodAll_cons hT
  obtain ⟨v1, vs1, d1, ds1, p1, q1, hargs1, rfl, rfl, h1, r1⟩ := trodAll_cons r0
  obtain ⟨rfl, rfl, rfl⟩ := trodAll_nil r1
  obtain rfl : args = #[v0, v1] := by cases args; simp_all
  obtain ⟨A0, n0, c0, f0, rfl, hA0, hn0, hc0, hR0, hw0⟩ := open_sl Try.underlying24 Try.underlying5 (by kernel_rfl) (hval 0 24 v0 rfl rfl) h0
  obtain ⟨A1, n1, c1, f1, rfl, hA1, hn1, hc1, hR1, hw1⟩ := open_sl Try.underlying33 Try.underlying3 (by kernel_rfl) (hval 1 33 v1 rfl rfl) h1
  refine (WireOwn_walk W A0 n0 c0 f0 hA0 hn0 hc0 hR0 hw0 A1 n1 c1 f1 hA1 hn1 hc1 hR1 hw1).mono fun e W' ⟨he, hb⟩ => ?_
  subst he
  exact ⟨_, rfl, law_post Try.laidOut (by kernel_rfl) (by kernel_rfl) Try.underlying4 rfl hW' rfl hb⟩

theorem WireOwn_holds : Rows.WireOwnSaid :=
  OpenClaim.holds_of_wide 5 Try.f5 rfl rfl rfl rfl rfl rfl rfl ⟨rfl, rfl, rfl, rfl, rfl⟩ rfl rfl rfl rfl rfl (by kernel_rfl) Try.func5 (by kernel_rfl)
    (of_decide_eq_true (by kernel_rfl)) (by unfold Func.isWrapper; first | (rw [if_pos (by decide +kernel)]; kernel_rfl) | (rw [if_neg (by decide +kernel)]; exact ⟨rfl, rfl⟩))
    (fun os started H enc _ => WireOwn_lifted os started H enc)

end Go.Proofs.Ytahajgmmoefpjaa
