/- For every label, list of integers, place and byte worldmintlaw01.HashOneLabel returns true. No condition. -/
import Derived.Test.YtapihehmlihdaaaHashRef
import Derived.Test.YtapihehmlihdaaaHashLives
import Derived.Test.YtapihehmlihdaaaRefHelp
import Derived.Test.YtapihehmlihdaaaHashInj
import Derived.Deep.RegionHeld3
import Derived.Test.YtapihehmlihdaaaLaw
namespace Go.Proofs.Ytapihehmlihdaaa
open Go.ChangeShapes Go.WideShapes Go.ChangeAt Go.RowKit Go.ChangeMaps

theorem set_xor (l : List UInt8) (j : Nat) (b : UInt8) (hj : j < l.length) : l = l.set j (xorB (l[j]?.getD 0) b) ↔ ((b.toNat : Nat) : Int) = 0 := by
  constructor
  · intro h
    have h1 := congrArg (fun l : List UInt8 => l[j]?.getD 0) h
    simp only [hj, List.getElem?_set_self, Option.getD_some, List.getElem?_eq_getElem] at h1
    unfold xorB at h1
    have h2 : b = 0 := by
      have := congrArg (fun x => l[j] ^^^ x) h1
      simp only [UInt8.xor_self, ← UInt8.xor_assoc, UInt8.zero_xor] at this
      exact this.symm
    subst h2
    rfl
  · intro h
    have h2 : b = 0 := UInt8.toNat_inj.1 (by simpa using h)
    subst h2
    unfold xorB
    simp [hj]

set_option maxHeartbeats 1000000 in
theorem HashOneLabel_walk (W : World) (s0 : ByteArray) (hs0 : s0.size ≤ 9223372036854775807) (A1 : Option Addr) (n1 c1 : Nat) (f1 : Nat → Int) (hA1 : A1 = none → n1 = 0) (hn1 : n1 ≤ c1) (hc1 : c1 ≤ 9223372036854775807) (hR1 : Rd W W.heap.size A1 n1 (fun j => .int .i64 (f1 j))) (_hw1 : Hid (∀ j, j < n1 → (Lit.int .i64 (f1 j)).wf = true)) (a2 : Int) (ha2 : Hid ((Lit.int .i64 a2).wf = true)) (a3 : Int) (ha3 : Hid ((Lit.int .u8 a3).wf = true)) :
    Calls Try.prog 7 #[.string s0, .slice A1 n1 c1, .int .i64 a2, .int .u8 a3] W fun e w' => e = .returned (.bool true) ∧ Below W.heap.size W w' := by
  obtain ⟨hr10, hr11⟩ := wf_i64 ha2.out
  obtain ⟨b3, rfl⟩ := byte_of_wf ha3.out
  have hls : (shortB s0 29).size ≤ 29 := by rw [shortB_size]; omega
  obtain ⟨L, hLe⟩ : ∃ L, shortB s0 29 ++ (⟨#[120]⟩ : ByteArray) = L := ⟨_, rfl⟩
  obtain ⟨n, hn⟩ : ∃ n, L.size = n := ⟨_, rfl⟩
  have HL8 := Lib.hid (show L.data.toList.length = n by rw [← hn]; simp)
  have hL3 : n = (shortB s0 29).size + 1 := by rw [← hn, ← hLe, ByteArray.size_append]; rfl
  have hL1 : 1 ≤ n := by omega
  have hL2 : n ≤ 30 := by omega
  clear hL3
  have hb := Below.refl W.heap.size W
  go_enter Try.func7, Try.ntmps7
  go_wp2_with (first
    | (go_at_call 12; ((with_reducible refine (ints_list _ _ _ 6 6 rfl _ _ hA1 (hR1.all hb) hn1 hc1 (by decide)).mono ?_); rintro e w1 ⟨A', c', k, xs, rfl, hkc, hcm, hkm, HK, HX, HE, hown, hr, hb1⟩; replace hb := bt hb hb1; clear hb1; obtain ⟨c8, w8, hconv, hk8, hc8, hz8, hb8, hr8⟩ := conv_bytes_cap (P := Try.prog) w1 9 30 5 L Try.underlying9 Try.underlying30 Try.underlying5 (by omega); rw [hn] at hconv hk8 hr8; have HZ := Lib.hid hz8; clear hz8; replace hr := hr.all hb8; replace hb := bt hb hb8; clear hb8))
    | (go_at_call 11; ((with_reducible refine (short_any _ 29 29 rfl _ hs0 (by decide)).mono ?_); rintro e w' ⟨rfl, rfl⟩)))
  clear hLe hconv hn
  generalize L.data.toList = X at *
  refine (few_bytes _ _ _ 30 30 rfl X _ HL8 (hr8.more (by have := HZ.out; omega)) hk8 hc8 (by decide)).mono ?_
  rintro e w7 ⟨A7, c7, k7, bs7, rfl, hkc7, hcm7, hkm7, HK7, HX7, HE7, hown7, hr7, hb3⟩
  replace hr8 := hr8.below hb3 (by have := HZ.out; omega)
  replace hr := hr.below hb3 (Nat.le_refl _)
  have hW8 := hb.size
  replace hb := bt hb hb3
  have hs7 := hb3.size
  clear hb3
  obtain rfl : k7 = n := by have := HK7.out; omega
  obtain ⟨g7, rfl, hg7, hg7'⟩ := own_some hown7 (by omega)
  obtain rfl : bs7 = X := by rw [HE7.out, List.take_of_length_le (by have := HL8.out; omega)]
  go_wp2_with fail
  refine (around_nat _ k7 _ _ (by omega) (by omega) (by omega) (by omega) (by omega)).mono ?_
  rintro e w' ⟨j, rfl, hj, HKK, rfl⟩
  obtain ⟨hcl, hfz⟩ := own_byte hown7 hj
  have hx1 := xor_u8 (bs7[j]?.getD 0) b3
  have hi0 : (0 : Int) ≤ (j : Int) := by omega
  have hi1 : (j : Int) < (k7 : Int) := by omega
  have hst := own_byte_set hown7 j (xorB (bs7[j]?.getD 0) b3)
  go_wp2_with fail
  have hrx : Rd (w7.setCell ⟨g7, j, none⟩ (Value.int .u8 (((xorB (bs7[j]?.getD 0) b3).toNat : Nat) : Int))) (w1.heap.size + 1) (some ⟨w1.heap.size, 0, none⟩) k7 (vByte bs7) := hr8.keep fun b hb => Below.heap_setCell _ _ _ _ (by have := HZ.out; simp; omega)
  have hrw : Rd (w7.setCell ⟨g7, j, none⟩ (Value.int .u8 (((xorB (bs7[j]?.getD 0) b3).toNat : Nat) : Int))) w8.heap.size A' k (vInt xs) := hr.keep fun b hb => Below.heap_setCell _ _ _ _ (by simp; omega)
  have hbx := hb.setCell (p := ⟨g7, j, none⟩) (by simp; omega) (.int .u8 (((xorB (bs7[j]?.getD 0) b3).toNat : Nat) : Int))
  have hsx : w8.heap.size ≤ (w7.setCell ⟨g7, j, none⟩ (Value.int .u8 (((xorB (bs7[j]?.getD 0) b3).toNat : Nat) : Int))).heap.size := by simpa using hs7
  have hry := (rd_bytes hst).2.2
  have HLy := Lib.hid (show (bs7.set j (xorB (bs7[j]?.getD 0) b3)).length = k7 by have := HX7.out; simp; omega)
  have hd : ((sumI bs7 xs == sumI (bs7.set j (xorB (bs7[j]?.getD 0) b3)) xs) == (((b3.toNat : Nat) : Int) == 0)) = true := by
    have hlt : j < bs7.length := by have := HX7.out; omega
    rw [beq_iff_eq, Bool.eq_iff_iff, beq_iff_eq, beq_iff_eq]
    rw [label_one xs (g := j / 8) (by simp) (by unfold nwords; omega) (fun i hi => by rw [group_set i hi])]
    exact set_xor bs7 j b3 hlt
  clear hown7 hcl hfz hx1 hr7 hr8 hst hr
  generalize w7.setCell ⟨g7, j, none⟩ (Value.int .u8 (((xorB (bs7[j]?.getD 0) b3).toNat : Nat) : Int)) = wz at *
  generalize bs7.set j (xorB (bs7[j]?.getD 0) b3) = Y at *
  replace hrx := hrx.more (B' := wz.heap.size) (by have := HZ.out; omega)
  replace hrw := hrw.more hsx
  have cX := fun (w' : World) (h : Below wz.heap.size wz w') => conv_str (P := Try.prog) (c := c8) Try.underlying30 Try.underlying5 Try.underlying9 HX7.out (hrx.all h)
  have cY := fun (w' : World) (h : Below wz.heap.size wz w') => conv_str (P := Try.prog) (c := c7) Try.underlying30 Try.underlying5 Try.underlying9 HLy.out (hry.all h)
  have CX := Lib.hid cX
  have CY := Lib.hid cY
  clear cX cY
  have hsX : (⟨bs7.toArray⟩ : ByteArray).size ≤ 30 := by have := HX7.out; show bs7.toArray.size ≤ 30; simp; omega
  have hsY : (⟨Y.toArray⟩ : ByteArray).size ≤ 30 := by have := HLy.out; show Y.toArray.size ≤ 30; simp; omega
  go_region_held3 (fun w' => Below wz.heap.size wz w' ∧ Sem.run Try.prog (convert 30 9 (.slice (some ⟨w1.heap.size, 0, none⟩) k7 c8)) w' = .ok (.string ⟨bs7.toArray⟩) w' ∧ Sem.run Try.prog (convert 30 9 (.slice (some ⟨g7, 0, none⟩) k7 c7)) w' = .ok (.string ⟨Y.toArray⟩) w') (first | exact ⟨(Below.refl _ wz).drew, CX.out _ (Below.refl _ wz).drew, CY.out _ (Below.refl _ wz).drew⟩ | exact ⟨hS2, CX.out _ hS2, CY.out _ hS2⟩ | assumption)
    (first
      | (go_at_call 13; have hS1 := (‹Below wz.heap.size wz _ ∧ _›).1; ((with_reducible refine (hsum_any ⟨bs7.toArray⟩ _ _ _ _ xs _ HX (by omega) (by omega) (Nat.le_refl _) (hrw.all hS1)).mono ?_); rintro e wy ⟨rfl, hb3⟩; have hS2 := bt hS1 hb3; clear hS1 hb3))
      | (go_at_call 13; have hS1 := (‹Below wz.heap.size wz _ ∧ _›).1; ((with_reducible refine (hsum_any ⟨Y.toArray⟩ _ _ _ _ xs _ HX (by omega) (by omega) (Nat.le_refl _) (hrw.all hS1)).mono ?_); rintro e wy ⟨rfl, hb3⟩; have hS2 := bt hS1 hb3; clear hS1 hb3))
      | (go_at_call 15; have hS1 := (‹Below wz.heap.size wz _ ∧ _›).1; ((with_reducible refine (lives_any _).mono ?_); rintro e wy ⟨rfl, hb3⟩; have hS2 := bt hS1 hb3; clear hS1 hb3)))
  all_goals go_wp2
  all_goals go_ret
  all_goals exact ⟨rfl, bt hbx ‹Below wz.heap.size wz _›⟩

set_option maxRecDepth 100000 in
theorem HashOneLabel_lifted (os : Os) (started : os.Started) (H : Type) (enc : TypeId × Value → H) :
    ReturnsInHanded {} Try.checked os 7 .any (Rows.hashOneLabelSpec.pre6 enc Try.prog Try.f7 Rows.hashOneLabelRow.domain false) (Rows.hashOneLabelSpec.post enc Try.prog Try.f7 false true false false) := by
  refine returnsInHanded_of_change (C := Try.checked) Try.own started (by kernel_rfl) Try.func7
    (ChangeSpec.witness6 (enc := enc) (C := Try.checked) false ⟨#[], #[.string ⟨#[]⟩, .slice none 0 0, .int .i64 0, .int .u8 0], []⟩ 8 (by kernel_rfl) (by kernel_rfl) (by kernel_rfl) (by kernel_rfl)) ?_
  intro W base args ds gs before hval0 hW _ _
  have hval : ∀ (j : Nat) t v, Try.f7.params[j]? = some t → args[j]? = some v → Value.okWide Try.prog W .any base t v := hval0
  have hW' := hW
  obtain ⟨p, q, hT0, hV, rfl, hfz, hnd⟩ := hW
  have hT : DataW.TrodAll enc Try.prog W 0 (fun _ => true) true Try.f7.params.toList args.toList ds p := hT0
  rw [Try.params7] at hT hval
  obtain ⟨v0, vs0, d0, ds0, p0, q0, hargs0, rfl, rfl, h0, r0⟩ := trodAll_cons hT
  obtain ⟨v1, vs1, d1, ds1, p1, q1, hargs1, rfl, rfl, h1, r1⟩ := trodAll_cons r0
  obtain ⟨v2, vs2, d2, ds2, p2, q2, hargs2, rfl, rfl, h2, r2⟩ := trodAll_cons r1
  obtain ⟨v3, vs3, d3, ds3, p3, q3, hargs3, rfl, rfl, h3, r3⟩ := trodAll_cons r2
  obtain ⟨rfl, rfl, rfl⟩ := trodAll_nil r3
  obtain rfl : args = #[v0, v1, v2, v3] := by cases args; simp_all
  obtain ⟨s0, rfl, -, -, hs0⟩ := open_string Try.underlying9 (hval 0 9 v0 rfl rfl) h0
  obtain ⟨A1, n1, c1, f1, rfl, hA1, hn1, hc1, hR1, hw1⟩ := open_sl Try.underlying22 Try.underlying3 (by kernel_rfl) (hval 1 22 v1 rfl rfl) h1
  obtain ⟨a2, rfl, -, -, w2⟩ := open_int Try.underlying3 (hval 2 3 v2 rfl rfl) h2
  obtain ⟨a3, rfl, -, -, w3⟩ := open_int Try.underlying5 (hval 3 5 v3 rfl rfl) h3
  refine (HashOneLabel_walk W s0 (by simpa [maxLen] using hs0) A1 n1 c1 f1 hA1 hn1 hc1 hR1 hw1 a2 w2 a3 w3).mono fun e W' ⟨he, hb⟩ => ?_
  subst he
  exact ⟨_, rfl, law_post Try.laidOut (by kernel_rfl) (by kernel_rfl) Try.underlying4 rfl hW' rfl hb⟩

theorem HashOneLabel_holds : Rows.HashOneLabelSaid :=
  OpenClaim.holds_of_wide 7 Try.f7 rfl rfl rfl rfl rfl rfl rfl ⟨rfl, rfl, rfl, rfl, rfl⟩ rfl rfl rfl rfl rfl (by kernel_rfl) Try.func7 (by kernel_rfl)
    (of_decide_eq_true (by kernel_rfl)) (by unfold Func.isWrapper; first | (rw [if_pos (by decide +kernel)]; kernel_rfl) | (rw [if_neg (by decide +kernel)]; exact ⟨rfl, rfl⟩))
    (fun os started H enc _ => HashOneLabel_lifted os started H enc)

end Go.Proofs.Ytapihehmlihdaaa
