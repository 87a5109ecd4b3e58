/- For every seed, label, position, word and number worldmintlaw04.DiceWords returns true. No condition. -/
import Derived.Test.YtklkppmmnlachaaDiceLives
import Derived.Test.YtklkppmmnlachaaDiceRefRoll
import Derived.Test.YtklkppmmnlachaaRefHelp
import Derived.Test.YtklkppmmnlachaaHashInj
import Derived.Deep.RegionHeld3
import Derived.Test.YtklkppmmnlachaaLaw
namespace Go.Proofs.Ytklkppmmnlachaa
open Go.ChangeShapes Go.WideShapes Go.ChangeAt Go.RowKit Go.ChangeMaps

theorem two_lits (W : World) (t t' : TypeId) (a b c d x y : Int) (ha : InU a) (hb : InU b) (hc : InU c) (hd : InU d) (hx : x ≤ 9223372036854775807) (hy : y ≤ 9223372036854775807) :
    (∀ i, i < 4 → ∃ v, (0 ≤ v ∧ v ≤ 18446744073709551615) ∧ ((W.alloc (.cells #[.int .u64 a, .int .u64 b, .int .u64 c, .int .u64 d] t)).alloc (.cells #[.int .i64 x, .int .i64 y] t')).cell? ⟨W.heap.size, i, none⟩ = some (.int .u64 v)) ∧
    (∀ i, i < 2 → ∃ v, v ≤ 9223372036854775807 ∧ ((W.alloc (.cells #[.int .u64 a, .int .u64 b, .int .u64 c, .int .u64 d] t)).alloc (.cells #[.int .i64 x, .int .i64 y] t')).cell? ⟨W.heap.size + 1, i, none⟩ = some (.int .i64 v)) ∧
    Below W.heap.size W ((W.alloc (.cells #[.int .u64 a, .int .u64 b, .int .u64 c, .int .u64 d] t)).alloc (.cells #[.int .i64 x, .int .i64 y] t')) ∧
    ((W.alloc (.cells #[.int .u64 a, .int .u64 b, .int .u64 c, .int .u64 d] t)).alloc (.cells #[.int .i64 x, .int .i64 y] t')).heap.size = W.heap.size + 2 := by
  unfold InU at ha hb hc hd
  refine ⟨fun i hi => ?_, fun i hi => ?_, ?_, by simp⟩
  · have e : ∀ p : Addr, p.block = W.heap.size → ((W.alloc (.cells #[.int .u64 a, .int .u64 b, .int .u64 c, .int .u64 d] t)).alloc (.cells #[.int .i64 x, .int .i64 y] t')).cell? p = (W.alloc (.cells #[.int .u64 a, .int .u64 b, .int .u64 c, .int .u64 d] t)).cell? p := fun p hp => ((Below.refl _ _).alloc (Nat.le_refl _) _).cell (by simp; omega)
    rcases (show i = 0 ∨ i = 1 ∨ i = 2 ∨ i = 3 by omega) with rfl | rfl | rfl | rfl
    · exact ⟨a, ⟨by omega, by omega⟩, by rw [e _ rfl]; simp⟩
    · exact ⟨b, ⟨by omega, by omega⟩, by rw [e _ rfl]; simp⟩
    · exact ⟨c, ⟨by omega, by omega⟩, by rw [e _ rfl]; simp⟩
    · exact ⟨d, ⟨by omega, by omega⟩, by rw [e _ rfl]; simp⟩
  · have e : (W.alloc (.cells #[.int .u64 a, .int .u64 b, .int .u64 c, .int .u64 d] t)).heap.size = W.heap.size + 1 := by simp
    rw [← e]
    generalize W.alloc (.cells #[.int .u64 a, .int .u64 b, .int .u64 c, .int .u64 d] t) = W1
    rcases (show i = 0 ∨ i = 1 by omega) with rfl | rfl
    · exact ⟨x, hx, by simp⟩
    · exact ⟨y, hy, by simp⟩
  · exact ((Below.refl _ _).alloc (Nat.le_refl _) _).alloc (by simp) _

set_option maxRecDepth 100000 in
set_option maxHeartbeats 1000000 in
theorem DiceWords_walk (W : World) (A0 : Option Addr) (n0 c0 : Nat) (f0 : Nat → Int) (hA0 : A0 = none → n0 = 0) (hn0 : n0 ≤ c0) (hc0 : c0 ≤ 9223372036854775807) (hR0 : Rd W W.heap.size A0 n0 (fun j => .int .u8 (f0 j))) (hw0 : Hid (∀ j, j < n0 → (Lit.int .u8 (f0 j)).wf = true)) (s1 : ByteArray) (hs1 : s1.size ≤ 9223372036854775807) (a2 : Int) (_ha2 : Hid ((Lit.int .i64 a2).wf = true)) (a3 : Int) (ha3 : Hid ((Lit.int .u64 a3).wf = true)) (a4 : Int) (ha4 : Hid ((Lit.int .i64 a4).wf = true)) :
    Calls Try.prog 5 #[.slice A0 n0 c0, .string s1, .int .i64 a2, .int .u64 a3, .int .i64 a4] W fun e w' => e = .returned (.bool true) ∧ Below W.heap.size W w' := by
  obtain ⟨hr40, hr41⟩ := wf_i64 ha4.out
  have u3 := wf_u64 ha3.out
  have hb := Below.refl W.heap.size W
  go_enter Try.func5, Try.ntmps5
  go_wp2_with (first
    | (go_at_call 14; ((with_reducible refine (few_list _ _ _ 40 40 rfl _ _ hA0 (hR0.all hb) hn0 hc0 (by decide) (bytes_wf hw0)).mono ?_); rintro e w2 ⟨A2, c2, k2, bs, rfl, hkc2, hcm2, hkm2, HK2, HX2, HE2, hown2, hr2, hb1⟩; replace hb := bt hb hb1; clear hb1))
    | (go_at_call 20; ((with_reducible refine (short_any _ 20 20 rfl _ hs1 (by decide)).mono ?_); rintro e w' ⟨rfl, rfl⟩)))
  have hls : (shortB s1 20).size ≤ 20 := by rw [shortB_size]; omega
  generalize shortB s1 20 = s at *
  go_wp2_with (first
    | (go_at_call 21; ((with_reducible refine (rword_any _ _ _ _ bs _ _ HX2 (by omega) hkc2 (by omega) hr2).mono ?_); rintro e w3 ⟨rfl, hb3⟩; replace hb := bt hb hb3; replace hr2 := hr2.all hb3; clear hb3))
    | (go_at_call 22; ((with_reducible refine (word_any _ _ _ _ bs _ _ HX2 (by omega) hkc2 (by omega) hr2).mono ?_); rintro e w3 ⟨rfl, hb3⟩; replace hb := bt hb hb3; replace hr2 := hr2.all hb3; clear hb3))
    | (go_at_call 18; ((with_reducible refine (sides_any _ _ hr40 hr41).mono ?_); rintro e w3 ⟨rfl, rfl⟩)))
  obtain ⟨hcW, hcS, hbz, hz⟩ := two_lits w3 22 3 a3 (wordS bs s.data.toList a2) (18446744073709551615 - a3 % 64) (a3 % 100) a4 (sidesI a4) ⟨by omega, by omega⟩ (stream_in _ _) ⟨by omega, by omega⟩ ⟨by omega, by omega⟩ hr41 (by have := sidesI_range a4; omega)
  generalize (w3.alloc (.cells #[.int .u64 a3, .int .u64 (wordS bs s.data.toList a2), .int .u64 (18446744073709551615 - a3 % 64), .int .u64 (a3 % 100)] 22)).alloc (.cells #[.int .i64 a4, .int .i64 (sidesI a4)] 3) = wz at *
  have HCW := Lib.hid hcW
  have HCS := Lib.hid hcS
  replace hb := bt hb hbz
  clear hcW hcS hbz hr2 hown2
  go_loopw [16, 17, 18, 19, 20] (fun i _ _ _ _ wr => ∃ j : Nat, j ≤ 8 ∧ i = .int .i64 (j : Int) ∧ Below wz.heap.size wz wr) (fun i _ _ _ _ _ => 8 - (intOf i).toNat)
  case atStart => exact ⟨0, by omega, rfl, Below.refl _ _⟩
  case round =>
    obtain ⟨j, hj, rfl, hbr⟩ := hrel
    by_cases hlt : j < 8
    · obtain ⟨p, hp, tp⟩ : ∃ p : Nat, p < 4 ∧ (j : Int).tmod 4 = (p : Int) := ⟨j % 4, by omega, by rw [Int.tmod_eq_emod_of_nonneg (by omega)]; omega⟩
      obtain ⟨q, hq, tq⟩ : ∃ q : Nat, q < 2 ∧ (j : Int).tdiv 4 = (q : Int) := ⟨j / 4, by omega, by rw [Int.tdiv_eq_ediv_of_nonneg (by omega)]; omega⟩
      obtain ⟨x, hx, hcx0⟩ := HCW.out p hp
      obtain ⟨n, hn, hcn0⟩ := HCS.out q hq
      have hcx := (hbr.cell (p := ⟨w3.heap.size, p, none⟩) (by simp; omega)).trans hcx0
      have hcn := (hbr.cell (p := ⟨w3.heap.size + 1, q, none⟩) (by simp; omega)).trans hcn0
      have hp0 : (0 : Int) ≤ (p : Int) := by omega
      have hp1 : (p : Int) < 4 := by omega
      have hq0 : (0 : Int) ≤ (q : Int) := by omega
      have hq1 : (q : Int) < 2 := by omega
      clear hcx0 hcn0
      go_wp2
      go_quiet ((go_at_call 12; exact (reduce_any x n _ hx.1 hx.2 hn).mono (fun e w'' h => ⟨h.1, _, h.2.symm⟩)))
      have hbr2 := below_drewN hbr nq
      have hcx2 : (wr.drewN nq).cell? ⟨w3.heap.size, p, none⟩ = some (.int .u64 x) := hcx
      have hcn2 : (wr.drewN nq).cell? ⟨w3.heap.size + 1, q, none⟩ = some (.int .i64 n) := hcn
      generalize wr.drewN nq = wr2 at *
      clear hcx hcn hbr
      go_wp2
      go_quiet ((go_at_call 23; exact (rreduce_any x n _ hx.1 hx.2 hn).mono (fun e w'' h => ⟨h.1, _, h.2.symm⟩)))
      clear tp tq
      have e1 : (redVal x n != redVal x n) = false := by simp
      have e2 : (redOk x n != redOk x n) = false := by simp
      go_wp2
      exact ⟨⟨j + 1, by omega, by go_num, below_drewN hbr2 _⟩, by simp [intOf]; omega⟩
    · obtain rfl : j = 8 := by omega
      replace hb := bt hb hbr
      go_wp2_with (first | (go_at_call 13; ((with_reducible refine (lives4_any _).mono ?_); rintro e w3 ⟨rfl, hb3⟩; replace hb := bt hb hb3; clear hb3)))
      go_ret
      exact ⟨rfl, hb⟩

set_option maxRecDepth 100000 in
theorem DiceWords_lifted (os : Os) (started : os.Started) (H : Type) (enc : TypeId × Value → H) :
    ReturnsInHanded {} Try.checked os 5 .any (Rows.diceWordsSpec.pre6 enc Try.prog Try.f5 Rows.diceWordsRow.domain false) (Rows.diceWordsSpec.post enc Try.prog Try.f5 false true false false) := by
  refine returnsInHanded_of_change (C := Try.checked) Try.own started (by kernel_rfl) Try.func5
    (ChangeSpec.witness6 (enc := enc) (C := Try.checked) false ⟨#[], #[.slice none 0 0, .string ⟨#[]⟩, .int .i64 0, .int .u64 0, .int .i64 0], []⟩ 8 (by kernel_rfl) (by kernel_rfl) (by kernel_rfl) (by kernel_rfl)) ?_
  intro W base args ds gs before hval0 hW _ _
  have hval : ∀ (j : Nat) t v, Try.f5.params[j]? = some t → args[j]? = some v → Value.okWide Try.prog W .any base t v := hval0
  have hW' := hW
  obtain ⟨p, q, hT0, hV, rfl, hfz, hnd⟩ := hW
  have hT : DataW.TrodAll enc Try.prog W 0 (fun _ => true) true Try.f5.params.toList args.toList ds p := hT0
  rw [Try.params5] at hT hval
  obtain ⟨v0, vs0, d0, ds0, p0, q0, hargs0, rfl, rfl, h0, r0⟩ := trodAll_cons hT
  obtain ⟨v1, vs1, d1, ds1, p1, q1, hargs1, rfl, rfl, h1, r1⟩ := trodAll_cons r0
  obtain ⟨v2, vs2, d2, ds2, p2, q2, hargs2, rfl, rfl, h2, r2⟩ := trodAll_cons r1
  obtain ⟨v3, vs3, d3, ds3, p3, q3, hargs3, rfl, rfl, h3, r3⟩ := trodAll_cons r2
  obtain ⟨v4, vs4, d4, ds4, p4, q4, hargs4, rfl, rfl, h4, r4⟩ := trodAll_cons r3
  obtain ⟨rfl, rfl, rfl⟩ := trodAll_nil r4
  obtain rfl : args = #[v0, v1, v2, v3, v4] := by cases args; simp_all
  obtain ⟨A0, n0, c0, f0, rfl, hA0, hn0, hc0, hR0, hw0⟩ := open_sl Try.underlying28 Try.underlying5 (by kernel_rfl) (hval 0 28 v0 rfl rfl) h0
  obtain ⟨s1, rfl, -, -, hs1⟩ := open_string Try.underlying9 (hval 1 9 v1 rfl rfl) h1
  obtain ⟨a2, rfl, -, -, w2⟩ := open_int Try.underlying3 (hval 2 3 v2 rfl rfl) h2
  obtain ⟨a3, rfl, -, -, w3⟩ := open_int Try.underlying22 (hval 3 22 v3 rfl rfl) h3
  obtain ⟨a4, rfl, -, -, w4⟩ := open_int Try.underlying3 (hval 4 3 v4 rfl rfl) h4
  refine (DiceWords_walk W A0 n0 c0 f0 hA0 hn0 hc0 hR0 hw0 s1 (by simpa [maxLen] using hs1) a2 w2 a3 w3 a4 w4).mono fun e W' ⟨he, hb⟩ => ?_
  subst he
  exact ⟨_, rfl, law_post Try.laidOut (by kernel_rfl) (by kernel_rfl) Try.underlying4 rfl hW' rfl hb⟩

theorem DiceWords_holds : Rows.DiceWordsSaid :=
  OpenClaim.holds_of_wide 5 Try.f5 rfl rfl rfl rfl rfl rfl rfl ⟨rfl, rfl, rfl, rfl, rfl⟩ rfl rfl rfl rfl rfl (by kernel_rfl) Try.func5 (by kernel_rfl)
    (of_decide_eq_true (by kernel_rfl)) (by unfold Func.isWrapper; first | (rw [if_pos (by decide +kernel)]; kernel_rfl) | (rw [if_neg (by decide +kernel)]; exact ⟨rfl, rfl⟩))
    (fun os started H enc _ => DiceWords_lifted os started H enc)

end Go.Proofs.Ytklkppmmnlachaa
