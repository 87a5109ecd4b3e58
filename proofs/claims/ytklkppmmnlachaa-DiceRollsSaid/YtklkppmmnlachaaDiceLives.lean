/- The documented examples (worldmintlaw04.lives). -/
import Derived.Test.YtklkppmmnlachaaDiceMore
import Derived.Lib.SlBytesConst
namespace Go.Proofs.Ytklkppmmnlachaa
open Go.RowKit

theorem redOk_one {w : Int} (hw : InU w) : redOk w 1 = true := by
  rw [redOk_iff (by decide)]
  obtain ⟨_, h⟩ := hw
  omega
theorem roll_one (key at_ : Int) : rollVal key at_ 1 = 0 ∧ rollErr key at_ 1 = 0 ∧ rollAt key at_ 1 = atAdd at_ 1 := by
  obtain ⟨h1, h2, h3⟩ := roll_some (key := key) (at_ := at_) (n := 1) (i := 0) (by decide) (fun j hj => absurd hj (by omega)) (by decide) (redOk_one (stream_in _ _))
  refine ⟨?_, h2, h3⟩
  rw [h1]
  have := redVal_range (w := streamI key (atAdd at_ 0)) (n := 1) (by decide)
  omega

set_option maxRecDepth 100000 in
set_option maxHeartbeats 1000000 in
theorem lives4_any (w : World) : Calls Try.prog 13 #[] w fun e w' => e = .returned (.bool true) ∧ Below w.heap.size w w' := by
  have v1 : redVal 10 4 = 2 := by decide +kernel
  have o1 : redOk 10 4 = true := by decide +kernel
  have o2 : redOk 18446744073709551615 3 = false := by decide +kernel
  have o3 : redOk 18446744073709551615 4 = true := by decide +kernel
  obtain ⟨r1, r2, r3⟩ := roll_one (bytesI [108] [115]) 0
  have a1 : atAdd 0 1 = 1 := by decide +kernel
  rw [a1] at r3
  obtain ⟨w1, hw1⟩ : ∃ w1, w.alloc (.cells #[.int .u8 115] 5 (1, 2)) = w1 := ⟨_, rfl⟩
  have kc : (convert 28 28 (.slice (some ⟨w.heap.size, 0, none⟩) 1 1)).run Try.prog (w.alloc (.cells #[.int .u8 115] 5)) = .ok (.slice (some ⟨w.heap.size, 0, none⟩) 1 1) w1 := by
    rw [← hw1]
    exact Lib.run_convert_bytes_const (P := Try.prog) w 28 5 #[.int .u8 115] 1 1 Try.underlying28 Try.underlying5
  have hb1 : Below w.heap.size w w1 := by rw [← hw1]; exact (Below.refl _ w).alloc (Nat.le_refl _) _
  have hR0 : Rd w1 w1.heap.size (some ⟨w.heap.size, 0, none⟩) 1 (vByte [115]) := fun _ => ⟨_, _, rfl, by rw [← hw1]; simp, fun j hj => by
    obtain rfl : j = 0 := by omega
    rw [← hw1, World.cell?_alloc_mark]
    simp [vByte]⟩
  clear hw1
  go_enter Try.func13, Try.ntmps13
  go_wp2_with (first
    | (go_at_call 12; ((with_reducible refine (reduce_any _ _ _ (by decide) (by decide) (by decide)).mono ?_); rintro e w' ⟨rfl, rfl⟩))
    | (go_at_call 15; ((with_reducible refine (dnew_any ⟨#[108]⟩ _ 1 1 [115] _ (Lib.hid rfl) (by decide) (by decide) (by decide) hR0).mono ?_); rintro e w2 ⟨gd, rfl, hg2, hD2, hb2⟩; have HD := Lib.hid hD2; have hgw : w.heap.size ≤ gd := Nat.le_trans hb1.size hg2; replace hb1 := bt hb1 hb2; clear hD2 hb2))
    | (go_at_call 17; ((with_reducible refine (roll_any _ _ _ _ _ HD (Lib.hid ⟨by decide, by decide⟩) (by decide)).mono ?_); rintro e w4 ⟨rfl, hD4, ho4⟩; replace hb1 := below_of_only hb1 ho4 hb1.size hgw; replace HD := Lib.hid hD4; clear hD4 ho4))
    | (go_at_call 19; ((with_reducible refine (at_any _ _ _ _ HD).mono ?_); rintro e w' ⟨rfl, rfl⟩)))
  go_ret
  exact ⟨rfl, hb1⟩

end Go.Proofs.Ytklkppmmnlachaa
