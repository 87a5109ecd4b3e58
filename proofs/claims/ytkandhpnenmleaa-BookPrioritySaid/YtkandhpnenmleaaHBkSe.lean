/- book: sort.Search with place's closure. -/
import Derived.Test.YtkandhpnenmleaaHBkPl

namespace Go.Proofs.Ytkandhpnenmleaa
open Go.RowKit

set_option maxHeartbeats 1000000 in
theorem search_any (p5 p2 p3 n : Nat) (p : Nat → Bool) (w : World) (hn : n ≤ 1000000) (hf : Hid (∀ w', Below w.heap.size w w' → ∀ i : Nat, i < n → Calls Try.prog 65 #[.int .i64 (i : Int), .pointer (some ⟨p5, 0, none⟩), .pointer (some ⟨p2, 0, none⟩), .pointer (some ⟨p3, 0, none⟩)] w' fun e w'' => e = .returned (.bool (p i)) ∧ Below w'.heap.size w' w'')) (hm : Hid (∀ a b, a ≤ b → b < n → p a = true → p b = true)) :
    Calls Try.prog 64 #[.int .i64 (n : Int), .func (.func 65) #[] #[.pointer (some ⟨p5, 0, none⟩), .pointer (some ⟨p2, 0, none⟩), .pointer (some ⟨p3, 0, none⟩)]] w fun e w' => ∃ r : Nat, e = .returned (.int .i64 (r : Int)) ∧ r ≤ n ∧ (∀ i, i < r → p i = false) ∧ (∀ i, r ≤ i → i < n → p i = true) ∧ Below w.heap.size w w' := by
  go_enter Try.func64, Try.ntmps64
  go_wp2
  go_loopw [5, 6] (fun iv jv wr => ∃ lo hi : Nat, lo ≤ hi ∧ hi ≤ n ∧ iv = .int .i64 (lo : Int) ∧ jv = .int .i64 (hi : Int) ∧ Hid ((∀ i, i < lo → p i = false) ∧ (∀ i, hi ≤ i → i < n → p i = true)) ∧ Hid (Below w.heap.size w wr)) (fun iv jv _ => (intOf jv).toNat - (intOf iv).toNat)
  case atStart => exact ⟨0, n, by omega, Nat.le_refl _, rfl, rfl, Lib.hid ⟨fun i hi => absurd hi (by omega), fun i h1 h2 => absurd h2 (by omega)⟩, Lib.hid (Below.refl _ _)⟩
  case round =>
    obtain ⟨lo, hi, h1, h2, rfl, rfl, HP, HB⟩ := hrel
    by_cases hlt : lo < hi
    · have hlt' : (lo : Int) < (hi : Int) := by omega
      obtain ⟨md, hmd⟩ : ∃ md, (lo + hi) / 2 = md := ⟨_, rfl⟩
      have hw : ((lo : Int) + (hi : Int)) / 2 = (md : Int) := by omega
      have hm1 : lo ≤ md := by omega
      have hm2 : md < hi := by omega
      clear hmd
      obtain ⟨r, hr⟩ : ∃ r, p md = r := ⟨_, rfl⟩
      have hc := hf.out _ HB.out md (by omega)
      rw [hr] at hc
      have HC := Lib.hid hc
      clear hc
      have HR := Lib.hid hr
      clear hr
      have HM := Lib.hid hm1
      have HM2 := Lib.hid hm2
      clear hm1 hm2
      cases r
      · go_wp2_with (go_at_call 65; (refine (HC.out).mono ?_); rintro e w1 ⟨rfl, hb1⟩)
        have HB1 := Lib.hid (bt HB.out hb1)
        clear hb1
        have hlow : ∀ i, i < md + 1 → p i = false := by
          intro i hi1
          cases hpi : p i with
          | false => rfl
          | true =>
            have := hm.out i md (by omega) (by have := HM2.out; omega) hpi
            rw [HR.out] at this
            cases this
        exact ⟨⟨md + 1, hi, by have := HM2.out; omega, h2, rfl, rfl, Lib.hid ⟨hlow, HP.out.2⟩, HB1⟩, by have := HM.out; have := HM2.out; simp [intOf]; omega⟩
      · go_wp2_with (go_at_call 65; (refine (HC.out).mono ?_); rintro e w1 ⟨rfl, hb1⟩)
        have HB1 := Lib.hid (bt HB.out hb1)
        clear hb1
        exact ⟨⟨lo, md, HM.out, by have := HM2.out; omega, rfl, rfl, Lib.hid ⟨HP.out.1, fun i h3 h4 => hm.out md i h3 h4 HR.out⟩, HB1⟩, by have := HM.out; have := HM2.out; simp [intOf]; omega⟩
    · have hlt' : ¬ (lo : Int) < (hi : Int) := by omega
      go_wp2
      go_ret
      exact ⟨lo, rfl, by omega, HP.out.1, fun i h3 h4 => HP.out.2 i (by omega) h4, HB.out⟩
end Go.Proofs.Ytkandhpnenmleaa
