/- For every two words, shift and label worldmintlaw02.WireHash returns true. No condition. -/
import Derived.Test.YtahajgmmoefpjaaWireLives
import Derived.Test.YtahajgmmoefpjaaRefHelp2
import Derived.Test.YtahajgmmoefpjaaHashBytes
import Derived.Test.YtahajgmmoefpjaaHashInj
import Derived.Test.YtahajgmmoefpjaaLaw
namespace Go.Proofs.Ytahajgmmoefpjaa
open Go.ChangeShapes Go.WideShapes Go.ChangeAt Go.RowKit Go.ChangeMaps

theorem varint_inj {m n : Nat} (hm : m ≤ 18446744073709551615) (hn : n ≤ 18446744073709551615) (h : varint m = varint n) : m = n := by
  have h1 := decU_enc hm []
  have h2 := decU_enc hn []
  rw [h, h2] at h1
  injection h1 with _ h1
  injection h1 with h1
  exact h1.symm
theorem wire_hash (label : List UInt8) {m n : Nat} (hl : (varint m).length = (varint n).length) (h8 : (varint m).length ≤ 8) (hm : m ≤ 18446744073709551615) (hn : n ≤ 18446744073709551615) :
    (bytesI label (varint m) == bytesI label (varint n)) = (((m : Nat) : Int) == ((n : Nat) : Int)) := by
  have h0 := varint_pos m
  rw [Bool.eq_iff_iff, beq_iff_eq, beq_iff_eq, bytes_one label hl (g := 0) (by unfold nwords; omega) (fun j hj => by
    unfold group
    rw [List.drop_eq_nil_of_le (by omega), List.drop_eq_nil_of_le (by omega)])]
  constructor
  · intro h; rw [varint_inj hm hn h]
  · intro h; rw [show m = n by omega]

set_option maxRecDepth 100000 in
set_option maxHeartbeats 2000000 in
theorem WireHash_walk (W : World) (a0 : Int) (ha0 : Hid ((Lit.int .u64 a0).wf = true)) (a1 : Int) (ha1 : Hid ((Lit.int .u64 a1).wf = true)) (a2 : Int) (ha2 : Hid ((Lit.int .i64 a2).wf = true)) (s3 : ByteArray) (hs3 : s3.size ≤ 9223372036854775807) :
    Calls Try.prog 10 #[.int .u64 a0, .int .u64 a1, .int .i64 a2, .string s3] W fun e w' => e = .returned (.bool true) ∧ Below W.heap.size W w' := by
  have u0 := wf_u64 ha0.out
  have u1 := wf_u64 ha1.out
  obtain ⟨hr20, hr21⟩ := wf_i64 ha2.out
  obtain ⟨a, rfl⟩ := Int.eq_ofNat_of_zero_le u0.1
  obtain ⟨b, rfl⟩ := Int.eq_ofNat_of_zero_le u1.1
  have hb := Below.refl W.heap.size W
  go_enter Try.func10, Try.ntmps10
  go_wp2_with fail
  refine (around_nat a2 56 _ _ rfl (by omega) (by omega) (by omega) (by omega)).mono ?_
  rintro e w' ⟨j, rfl, hj, _, rfl⟩
  have hk : ∀ x : Nat, x ≤ 18446744073709551615 → x / 2 ^ (8 + j) < 72057594037927936 := fun x hx => Nat.div_lt_of_lt_mul (by
    have : 2 ^ 8 ≤ 2 ^ (8 + j) := Nat.pow_le_pow_right (by decide) (by omega)
    have : 2 ^ 8 * 72057594037927936 ≤ 2 ^ (8 + j) * 72057594037927936 := Nat.mul_le_mul this (Nat.le_refl _)
    omega)
  have hka := hk a (by omega)
  have hkb := hk b (by omega)
  clear hk
  have HKA : Hid (((a / 2 ^ (8 + j) : Nat) : Int) = (a : Int) / 2 ^ (8 + j)) := Lib.hid (by rw [Int.natCast_ediv, Int.natCast_pow]; rfl)
  have HKB : Hid (((b / 2 ^ (8 + j) : Nat) : Int) = (b : Int) / 2 ^ (8 + j)) := Lib.hid (by rw [Int.natCast_ediv, Int.natCast_pow]; rfl)
  have HW0 := Lib.hid (Wr.new W)
  replace hb := hb.alloc (Nat.le_refl _) (.cells #[.slice none 0 0] 26)
  go_wp2_with fail
  rw [← HKA.out, ← HKB.out]
  generalize a / 2 ^ (8 + j) = m at *
  generalize b / 2 ^ (8 + j) = n at *
  have hlm : (varint m).length ≤ 8 := varint_len 7 (by omega)
  have hln : (varint n).length ≤ 8 := varint_len 7 (by omega)
  clear HKA HKB
  refine (wuint_any _ _ [] m _ rfl _ HW0 (by omega) (by decide)).mono ?_
  rintro e w1 ⟨rfl, hW, hb1⟩
  rw [List.nil_append] at hW
  replace hb := hb.trans hb1
  have hbx : Below w1.heap.size w1 (w1.alloc (.cells #[.slice none 0 0] 26)) := (Below.refl _ w1).alloc (Nat.le_refl _) _
  have HX0 := Lib.hid (Wr.new w1)
  clear hb1 HW0
  go_wp2_with fail
  refine (wuint_any _ _ [] n _ rfl _ HX0 (by omega) (by decide)).mono ?_
  rintro e w2 ⟨rfl, hX, hb1⟩
  rw [List.nil_append] at hX
  replace hbx := hbx.trans hb1
  have HW1 := Lib.hid (hW.all hbx)
  replace hb := bt hb hbx
  clear hb1 HX0 hbx
  go_wp2_with fail
  refine (wdone_any _ _ _ _ HW1 (by omega)).mono ?_
  rintro e w3 ⟨A3, n3, c3, rfl, hnc3, hcm3, HX3, _, hr3, hb3⟩
  have HX1 := Lib.hid (hX.all hb3)
  replace hb := bt hb hb3
  clear hb3 HW1
  go_wp2_with fail
  refine (wdone_any _ _ _ _ HX1 (by omega)).mono ?_
  rintro e w4 ⟨A4, n4, c4, rfl, hnc4, hcm4, HX4, _, hr4, hb4⟩
  replace hr3 := hr3.all hb4
  replace hb := bt hb hb4
  clear hb4 HX1 hX hW
  go_wp2_with fail
  refine (short_any _ 20 20 rfl _ hs3 (by decide)).mono ?_
  rintro e w5 ⟨rfl, rfl⟩
  have hls : (shortB s3 20).size ≤ 20 := by rw [shortB_size]; omega
  generalize shortB s3 20 = s at *
  have h3 : n3 ≤ 8 := by rw [← HX3.out]; exact hlm
  have h4 : n4 ≤ 8 := by rw [← HX4.out]; exact hln
  have h30 : 0 < n3 := by rw [← HX3.out]; exact varint_pos m
  by_cases hne : n3 = n4
  · subst hne
    have q1 : (((n3 : Nat) : Int) != ((n3 : Nat) : Int)) = false := by simp
    have HQ := Lib.hid (show (bytesI s.data.toList (varint m) == bytesI s.data.toList (varint n)) = (((m : Nat) : Int) == ((n : Nat) : Int)) from wire_hash _ (by rw [HX3.out, HX4.out]) hlm (by omega) (by omega))
    go_wp2_with fail
    refine (hbytes_any _ _ _ _ _ (varint m) _ HX3 (by omega) hnc3 (by omega) (Nat.le_refl _) hr3).mono ?_
    rintro e w6 ⟨rfl, hb6⟩
    replace hr4 := hr4.all hb6
    replace hb := bt hb hb6
    go_wp2_with fail
    refine (hbytes_any _ _ _ _ _ (varint n) _ HX4 (by omega) hnc4 (by omega) (Nat.le_refl _) hr4).mono ?_
    rintro e w7 ⟨rfl, hb7⟩
    replace hb := bt hb hb7
    have q2 : ((((m : Nat) : Int) == ((n : Nat) : Int)) == (((m : Nat) : Int) == ((n : Nat) : Int))) = true := by simp
    have hq := HQ.out
    clear HQ hb6 hb7
    go_wp2_with fail
    refine (lives2_any _).mono ?_
    rintro e wl ⟨rfl, hbl⟩
    go_wp2
    go_ret
    exact ⟨rfl, bt hb hbl⟩
  · have q1 : (((n3 : Nat) : Int) != ((n4 : Nat) : Int)) = true := by simp; omega
    have q2 : (((m : Nat) : Int) != ((n : Nat) : Int)) = true := by
      simp
      intro he
      obtain rfl : m = n := by omega
      exact hne (by rw [← HX3.out, HX4.out])
    go_wp2_with fail
    refine (lives2_any _).mono ?_
    rintro e wl ⟨rfl, hbl⟩
    go_wp2
    go_ret
    exact ⟨rfl, bt hb hbl⟩


set_option maxRecDepth 100000 in
theorem WireHash_lifted (os : Os) (started : os.Started) (H : Type) (enc : TypeId × Value → H) :
    ReturnsInHanded {} Try.checked os 10 .any (Rows.wireHashSpec.pre6 enc Try.prog Try.f10 Rows.wireHashRow.domain false) (Rows.wireHashSpec.post enc Try.prog Try.f10 false true false false) := by
  refine returnsInHanded_of_change (C := Try.checked) Try.own started (by kernel_rfl) Try.func10
    (ChangeSpec.witness6 (enc := enc) (C := Try.checked) false ⟨#[], #[.int .u64 0, .int .u64 0, .int .i64 0, .string ⟨#[]⟩], []⟩ 8 (by kernel_rfl) (by kernel_rfl) (by kernel_rfl) (by kernel_rfl)) ?_
  intro W base args ds gs before hval0 hW _ _
  have hval : ∀ (j : Nat) t v, Try.f10.params[j]? = some t → args[j]? = some v → Value.okWide Try.prog W .any base t v := hval0
  have hW' := hW
  obtain ⟨p, q, hT0, hV, rfl, hfz, hnd⟩ := hW
  have hT : DataW.TrodAll enc Try.prog W 0 (fun _ => true) true Try.f10.params.toList args.toList ds p := hT0
  rw [Try.params10] at hT hval
  obtain ⟨v0, vs0, d0, ds0, p0, q0, hargs0, rfl, rfl, h0, r0⟩ := trodAll_cons hT
  obtain ⟨v1, vs1, d1, ds1, p1, q1, hargs1, rfl, rfl, h1, r1⟩ := trodAll_cons r0
  obtain ⟨v2, vs2, d2, ds2, p2, q2, hargs2, rfl, rfl, h2, r2⟩ := trodAll_cons r1
  obtain ⟨v3, vs3, d3, ds3, p3, q3, hargs3, rfl, rfl, h3, r3⟩ := trodAll_cons r2
  obtain ⟨rfl, rfl, rfl⟩ := trodAll_nil r3
  obtain rfl : args = #[v0, v1, v2, v3] := by cases args; simp_all
  obtain ⟨a0, rfl, -, -, w0⟩ := open_int Try.underlying22 (hval 0 22 v0 rfl rfl) h0
  obtain ⟨a1, rfl, -, -, w1⟩ := open_int Try.underlying22 (hval 1 22 v1 rfl rfl) h1
  obtain ⟨a2, rfl, -, -, w2⟩ := open_int Try.underlying3 (hval 2 3 v2 rfl rfl) h2
  obtain ⟨s3, rfl, -, -, hs3⟩ := open_string Try.underlying9 (hval 3 9 v3 rfl rfl) h3
  refine (WireHash_walk W a0 w0 a1 w1 a2 w2 s3 (by simpa [maxLen] using hs3)).mono fun e W' ⟨he, hb⟩ => ?_
  subst he
  exact ⟨_, rfl, law_post Try.laidOut (by kernel_rfl) (by kernel_rfl) Try.underlying4 rfl hW' rfl hb⟩

theorem WireHash_holds : Rows.WireHashSaid :=
  OpenClaim.holds_of_wide 10 Try.f10 rfl rfl rfl rfl rfl rfl rfl ⟨rfl, rfl, rfl, rfl, rfl⟩ rfl rfl rfl rfl rfl (by kernel_rfl) Try.func10 (by kernel_rfl)
    (of_decide_eq_true (by kernel_rfl)) (by unfold Func.isWrapper; first | (rw [if_pos (by decide +kernel)]; kernel_rfl) | (rw [if_neg (by decide +kernel)]; exact ⟨rfl, rfl⟩))
    (fun os started H enc _ => WireHash_lifted os started H enc)

end Go.Proofs.Ytahajgmmoefpjaa
