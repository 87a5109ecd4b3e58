/- The documented examples (worldmintlaw01.lives). -/
import Derived.Test.YtapihehmlihdaaaHashBytes
namespace Go.Proofs.Ytapihehmlihdaaa
open Go.RowKit

theorem hsum_lit1 (label : ByteArray) (x : Int) (w : World) (hlab : label.size ≤ 140737488351232) :
    Calls Try.prog 13 #[.string label, .slice (some ⟨w.heap.size, 0, none⟩) 1 1] (w.alloc (.cells #[.int .i64 x] 3)) fun e w' => e = .returned (.int .u64 (sumI label.data.toList [x])) ∧ Below w.heap.size w w' :=
  (hsum_any label _ 1 1 (w.heap.size + 1) [x] _ rfl hlab (by decide) (by simp) (fun _ => ⟨_, _, rfl, by omega, fun j hj => by
    obtain rfl : j = 0 := by omega
    simp [vInt]⟩)).mono fun e w' ⟨he, hb⟩ => ⟨he, ((Below.refl _ w).alloc (Nat.le_refl _) _).trans (hb.mono (by simp))⟩
theorem hsum_lit2 (label : ByteArray) (x y : Int) (w : World) (hlab : label.size ≤ 140737488351232) :
    Calls Try.prog 13 #[.string label, .slice (some ⟨w.heap.size, 0, none⟩) 2 2] (w.alloc (.cells #[.int .i64 x, .int .i64 y] 3)) fun e w' => e = .returned (.int .u64 (sumI label.data.toList [x, y])) ∧ Below w.heap.size w w' :=
  (hsum_any label _ 2 2 (w.heap.size + 1) [x, y] _ rfl hlab (by decide) (by simp) (fun _ => ⟨_, _, rfl, by omega, fun j hj => by
    rcases (show j = 0 ∨ j = 1 by omega) with rfl | rfl <;> simp [vInt]⟩)).mono fun e w' ⟨he, hb⟩ => ⟨he, ((Below.refl _ w).alloc (Nat.le_refl _) _).trans (hb.mono (by simp))⟩

set_option maxHeartbeats 1000000 in
theorem lives_any (w : World) : Calls Try.prog 15 #[] w fun e w' => e = .returned (.bool true) ∧ Below w.heap.size w w' := by
  have d1 : (sumI [97] [5] != sumI [97] [6]) = true := by decide +kernel
  have d2 : (bytesI [97] [1, 2] == sumI [97] [513, 2]) = true := by decide +kernel
  have d3 : (pairI 1 2 != pairI 1 3) = true := by decide +kernel
  have hab : ∀ W : World, Calls Try.prog 17 #[.string ⟨#[97]⟩, .slice (some ⟨W.heap.size, 0, none⟩) 2 2] (W.alloc (.cells #[.int .u8 1, .int .u8 2] 5)) fun e w' => e = .returned (.int .u64 (bytesI [97] [1, 2])) ∧ Below W.heap.size W w' := fun W =>
    (hbytes_any ⟨#[97]⟩ _ 2 2 (W.heap.size + 1) [1, 2] _ rfl (by decide) (by decide) (by decide) (by simp) (fun _ => ⟨_, _, rfl, by omega, fun j hj => by
      rcases (show j = 0 ∨ j = 1 by omega) with rfl | rfl <;> simp [vByte]⟩)).mono fun e w' ⟨he, hb⟩ => ⟨he, ((Below.refl _ W).alloc (Nat.le_refl _) _).trans (hb.mono (by simp))⟩
  have HAB := Lib.hid hab; clear hab
  have hb := Below.refl w.heap.size w
  go_enter Try.func15, Try.ntmps15
  go_wp2_with (first
    | (go_at_call 13; ((with_reducible refine (hsum_lit1 ⟨#[97]⟩ _ _ (by decide)).mono ?_); rintro e w1 ⟨rfl, hb1⟩; replace hb := bt hb hb1; clear hb1))
    | (go_at_call 13; ((with_reducible refine (hsum_lit2 ⟨#[97]⟩ _ _ _ (by decide)).mono ?_); rintro e w3 ⟨rfl, hb3⟩; replace hb := bt hb hb3; clear hb3))
    | (go_at_call 17; ((with_reducible refine (HAB.out _).mono ?_); rintro e w2 ⟨rfl, hb2⟩; replace hb := bt hb hb2; clear hb2))
    | (go_at_call 19; ((with_reducible refine (hpair_any _ _ _).mono ?_); rintro e w4 ⟨rfl, hb4⟩; replace hb := bt hb hb4; clear hb4)))
  go_ret
  exact ⟨rfl, hb⟩

end Go.Proofs.Ytapihehmlihdaaa
