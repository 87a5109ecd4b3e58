/- The walks of dice.wordAt, words and its iterator, Roll. -/
import Derived.Test.YtklkppmmnlachaaHashBytes
import Derived.Test.YtklkppmmnlachaaDiceReduce
import Derived.Test.YtklkppmmnlachaaRange
namespace Go.Proofs.Ytklkppmmnlachaa
open Go.RowKit Go.Shelf
attribute [local go_sem] Oper.semAt_some

/-- A word of the stream. -/
def wordB : List UInt8 := [119, 111, 114, 100]
def streamI (key at_ : Int) : Int := sumI wordB [toI key, at_]
/-- The position i steps on. -/
def atAdd (at_ : Int) (i : Nat) : Int := wrap64 (at_ + i)
theorem atAdd_succ (at_ : Int) (i : Nat) : wrap64 (atAdd at_ i + 1) = atAdd at_ (i + 1) := by unfold atAdd wrap64; omega
theorem atAdd_zero {at_ : Int} (h : -9223372036854775808 ≤ at_ ∧ at_ ≤ 9223372036854775807) : atAdd at_ 0 = at_ := by unfold atAdd wrap64; omega

set_option maxRecDepth 100000 in
set_option maxHeartbeats 400000 in
theorem wordAt_any (key at_ : Int) (w : World) :
    Calls Try.prog 53 #[.int .u64 key, .int .i64 at_] w fun e w' => e = .returned (.int .u64 (streamI key at_)) ∧ Below w.heap.size w w' := by
  have hR : Rd (w.alloc (.cells #[.int .i64 (wrap64 key), .int .i64 at_] 3)) (w.heap.size + 1) (some ⟨w.heap.size, 0, none⟩) 2 (vInt [toI key, at_]) := fun _ => ⟨_, _, rfl, by omega, fun j hj => by
    rcases (show j = 0 ∨ j = 1 by omega) with rfl | rfl <;> simp [vInt, toI]⟩
  go_enter Try.func53, Try.ntmps53
  go_wp2_with (go_at_call 54; refine (hsum_any ⟨#[119, 111, 114, 100]⟩ _ 2 2 (w.heap.size + 1) [toI key, at_] _ rfl (by decide) (by decide) (by simp) hR).mono ?_; rintro e w4 ⟨rfl, hb4⟩)
  go_ret
  exact ⟨rfl, ((Below.refl _ w).alloc (Nat.le_refl _) _).trans (hb4.mono (by simp))⟩

set_option maxRecDepth 100000 in
set_option maxHeartbeats 1000000 in
theorem dwords1_in (l Bd gd : Nat) (key at0 : Int) (J Jx : Nat → World → Prop)
    (hJ : Hid (∀ i W, J i W → W.cell? ⟨Bd, 0, none⟩ = some (.pointer (some ⟨gd, 0, none⟩)) ∧ W.cell? ⟨gd, 0, none⟩ = some (.int .u64 key) ∧ W.cell? ⟨gd, 1, none⟩ = some (.int .i64 (atAdd at0 i)) ∧ W.frozen? ⟨gd, 1, none⟩ = false))
    (hB : Hid (∀ i W W', J i W → Below W.heap.size W W' → J i W'))
    (hY : Hid (∀ i W, J i W → i < 128 → YieldAt Fence.wide 4 Try.prog l #[.int .u64 (streamI key (atAdd at0 i))] (W.setCell ⟨gd, 1, none⟩ (.int .i64 (atAdd at0 (i + 1)))) fun e W' =>
      (e = .returned (.bool true) ∧ J (i + 1) W') ∨ (e = .returned (.bool false) ∧ Jx (i + 1) W')))
    (W : World) (h0 : J 0 W) :
    CallsIn Fence.wide 5 Try.prog 68 #[.func (.yield l) #[] #[], .pointer (some ⟨Bd, 0, none⟩)] W fun e W' => (∃ v, e = .returned v) ∧ (J 128 W' ∨ ∃ i, i < 128 ∧ Jx (i + 1) W') := by
  refine callsIn_of_wp Try.func68 rfl trivial ?_ rfl
  simp only [Try.ntmps68, List.size_toArray, List.length_cons, List.length_nil, Nat.reduceAdd, Nat.reduceSub, Array.replicate_succ, Array.replicate_zero, List.push_toArray, List.append_toArray, List.nil_append, List.cons_append]
  gi_wp2
  gi_loopw [4] (fun v wr => ∃ i : Nat, i ≤ 128 ∧ v = .int .i64 (i : Int) ∧ J i wr) (fun v _ => 128 - (intOf v).toNat)
  case atStart => exact ⟨0, by omega, rfl, h0⟩
  case round =>
    obtain ⟨i, hi, rfl, hJi⟩ := hrel
    by_cases hlt : i < 128
    · obtain ⟨hc0, hc1, hc2, hf2⟩ := hJ.out i wr hJi
      gi_wp2
      gi_region_with (refine ⟨trivial, ?_⟩; gi_at_call 53; refine (callsIn_wide.2 (wordAt_any _ _ _)).mono ?_; rintro e w4 ⟨rfl, hb4⟩)
      all_goals
        have hb5 : Below wr.heap.size wr w4 := ⟨hb4.os, hb4.tape, hb4.output, hb4.size, hb4.block⟩
        have hJ4 := hB.out i wr w4 hJi hb5
        obtain ⟨hd0, hd1, hd2, hg2⟩ := hJ.out i w4 hJ4
        have hat := atAdd_succ at0 i
        obtain ⟨fn, tmps, assign, body, hy, hR3⟩ := hY.out i w4 hJ4 hlt
        clear hb4 hb5 hc0 hc1 hc2 hf2
        gi_wp2
        refine hR3.mono ?_
        rintro e W3 (⟨rfl, hJ3⟩ | ⟨rfl, hJx3⟩)
        · gi_wp2
          exact ⟨⟨i + 1, by omega, by go_num, hJ3⟩, by simp [intOf]; omega⟩
        · gi_wp2
          refine bodyPost_ret (results_none rfl _ _ _) rfl ?_
          exact ⟨⟨_, rfl⟩, .inr ⟨i, hlt, hJx3⟩⟩
    · obtain rfl : i = 128 := by omega
      gi_wp2
      go_end0
      exact ⟨⟨_, rfl⟩, .inl hJi⟩

end Go.Proofs.Ytklkppmmnlachaa
