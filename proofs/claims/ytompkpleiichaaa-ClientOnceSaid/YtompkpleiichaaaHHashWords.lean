/- The walks of hash.mix, worldmintref01.mix, hash.wordsOf and its iterator. -/
import Derived.RangeFuncNested
import Derived.RangeFuncBound
import Derived.RangeFuncCalls
import Derived.RangeFuncLeaves
import Derived.RangeFuncBox
import Derived.Shelf.Abstract
import Derived.Shelf.RegionOpen
import Derived.WalkKit
import Derived.OwnWalkIn
import Derived.TacticsInMore
import Derived.LoopNIn
import Derived.LoopIn
import Derived.Lib.Hide
import Derived.Test.YtompkpleiichaaaProg
import Derived.Test.YtompkpleiichaaaHG2
import Derived.Test.YtompkpleiichaaaHMem

namespace Go.Proofs.Ytompkpleiichaaa
open Go.RowKit Go.Shelf
attribute [local go_sem] Oper.semAt_some

set_option maxHeartbeats 400000 in
theorem mix_any (a b : Int) (w : World) :
    Calls Try.prog 51 #[.int .u64 a, .int .u64 b] w fun e w' => e = .returned (.int .u64 (mixI a b)) ∧ w = w' := by
  go_enter Try.func51, Try.ntmps51
  go_wp2
  go_ret
  exact ⟨rfl, rfl⟩

set_option maxHeartbeats 400000 in
theorem rmix_any (a b : Int) (w : World) :
    Calls Try.prog 74 #[.int .u64 a, .int .u64 b] w fun e w' => e = .returned (.int .u64 (mixI a b)) ∧ w = w' := by
  go_enter Try.func74, Try.ntmps74
  go_wp2
  go_ret
  refine ⟨?_, rfl⟩
  rw [mixI_alt]; rfl

set_option maxHeartbeats 400000 in
theorem wordsOf_in (F : Fence) (n : Nat) (h25 : F.fn 50) (hro : F.round = none) (A : Option Addr) (len cap : Nat) (w : World) :
    CallsIn F n Try.prog 50 #[.slice A len cap] w fun e w' => e = .returned (.func (.func 72) #[] #[.pointer (some ⟨w.heap.size, 0, none⟩)]) ∧ w.alloc (.cells #[.slice A len cap] 23) = w' := by
  refine callsIn_of_wp Try.func50 rfl h25 ?_ hro
  simp only [Try.ntmps50, List.size_toArray, List.length_cons, List.length_nil, Nat.reduceAdd, Nat.reduceSub, Array.replicate_succ, Array.replicate_zero, List.push_toArray, List.append_toArray, List.nil_append, List.cons_append]
  gi_wp2
  go_ret
  exact ⟨rfl, rfl⟩

/-- The blocks that the iterator reads. -/
def WordsKept (A : Option Addr) (len Bs : Nat) (k : Nat) : Prop := k = Bs ∨ (0 < len ∧ ∃ ad, A = some ad ∧ k = ad.block)

set_option maxRecDepth 100000 in
set_option maxHeartbeats 1000000 in
theorem words1_in (F : Fence) (n : Nat) (h28 : F.fn 72) (hro : F.round = none) (hn : 1 ≤ n) (l Bs B len cap : Nat) (A : Option Addr) (bs : List UInt8) (HL : Hid (bs.length = len)) (hlc : len ≤ cap) (hmax : len ≤ 140737488351232)
    (J Jx : List Int → World → Prop)
    (hY : Hid (∀ pre x W, J pre W → pre.length < nwords bs → YieldAt F (n - 1) Try.prog l #[.int .u64 x] W fun e W' =>
      (e = .returned (.bool true) ∧ J (pre ++ [x]) W' ∧ Keeps (WordsKept A len Bs) W W') ∨ (e = .returned (.bool false) ∧ Jx (pre ++ [x]) W')))
    (W : World) (HB : Hid (W.cell? ⟨Bs, 0, none⟩ = some (.slice A len cap))) (hR : Rd W B A len (vByte bs)) (h0 : J [] W) :
    CallsIn F n Try.prog 72 #[.func (.yield l) #[] #[], .pointer (some ⟨Bs, 0, none⟩)] W fun e W' => (∃ v, e = .returned v) ∧
      ((∃ ys, ys = wordsI bs ∧ J ys W') ∨ (∃ pre, True ∧ Jx pre W')) := by
  refine callsIn_of_wp Try.func72 rfl h28 ?_ hro
  simp only [Try.ntmps72, List.size_toArray, List.length_cons, List.length_nil, Nat.reduceAdd, Nat.reduceSub, Array.replicate_succ, Array.replicate_zero, List.push_toArray, List.append_toArray, List.nil_append, List.cons_append]
  gi_wp2
  gi_loopw [3] (fun v wr => ∃ k s : Nat, Hid (s = 8 * k) ∧ s < len + 8 ∧ v = .int .i64 (s : Int) ∧ J (wordsTo bs k) wr ∧ Keeps (WordsKept A len Bs) W wr)
    (fun v _ => len + 8 - (intOf v).toNat)
  case atStart => exact ⟨0, 0, rfl, by omega, rfl, h0, Keeps.refl _ _⟩
  case round =>
    obtain ⟨k, s, hs, hk, rfl, hJs, hnx⟩ := hrel
    have hBs : wr.cell? ⟨Bs, 0, none⟩ = some (.slice A len cap) := (hnx.cell (p := ⟨Bs, 0, none⟩) (.inl rfl)).trans HB.out
    by_cases hlt : s < len
    · obtain ⟨b, off, rfl, hb, hc0⟩ := hR (by omega)
      have Hc : Hid (∀ j, j < (group bs k).length → wr.cell? ⟨b, off + s + j, none⟩ = some (.int .u8 (((group bs k)[j]?.getD 0).toNat : Nat))) := by
        intro j hj
        rw [group_length] at hj
        rw [hnx.cell (p := ⟨b, off + s + j, none⟩) (.inr ⟨by omega, _, rfl, rfl⟩), Nat.add_assoc, hc0 (s + j) (by have := HL.out; have := hs.out; omega)]
        simp only [vByte, group, hs.out, List.getElem?_take, List.getElem?_drop]
        rw [if_pos (by omega)]
      have Hl : Hid ((group bs k).length = min 8 (len - s)) := by show _ = _; rw [group_length, HL.out, hs.out]
      clear hc0
      by_cases h8 : s + 8 ≤ len
      · gi_wp2
        gi_loop [4, 22] (fun v i => ∃ j : Nat, j ≤ 8 ∧ i = .int .i64 (j : Int) ∧ v = .int .u64 ((wordN ((group bs k).take j) : Nat) : Int))
          (fun _ i => 8 - (intOf i).toNat)
        case atStart => exact ⟨0, by omega, rfl, by simp [wordN]⟩
        case round =>
          obtain ⟨j, hj, rfl, rfl⟩ := hrel
          by_cases hj8 : j < 8
          · have hcj := Hc.out j (by have := Hl.out; omega)
            have HS := Lib.hid (word_step (group bs k) j (by omega) (by have := Hl.out; omega))
            gi_wp2
            exact ⟨⟨j + 1, by omega, by go_num, congrArg (Value.int .u64) HS.out⟩, by simp [intOf]; omega⟩
          · obtain rfl : j = 8 := by omega
            obtain ⟨fn, tmps, assign, body, hy, hR3⟩ := hY.out _ ((wordN ((group bs k).take (8)) : Nat) : Int) wr hJs (by rw [wordsTo_length]; unfold nwords; have := HL.out; have := hs.out; omega)
            gi_wp2
            refine hR3.mono ?_
            rintro e W3 (⟨rfl, hJ3, hk3⟩ | ⟨rfl, hJx3⟩)
            · gi_wp2
              exact ⟨⟨k + 1, s + 8, by show _ = _; rw [hs.out]; omega, by omega, by go_num, by rw [wordsTo_succ]; rw [group_take _ _ _ (by have := Hl.out; omega)] at hJ3; exact hJ3, hnx.trans hk3⟩, by simp [intOf]; omega⟩
            · gi_wp2
              refine bodyPost_ret (results_none rfl _ _ _) rfl ?_
              exact ⟨⟨_, rfl⟩, .inr ⟨_, trivial, hJx3⟩⟩
      · gi_wp2
        gi_loop [4, 22] (fun v i => ∃ j : Nat, j ≤ len - s ∧ i = .int .i64 (j : Int) ∧ v = .int .u64 ((wordN ((group bs k).take j) : Nat) : Int))
          (fun _ i => len - s - (intOf i).toNat)
        case atStart => exact ⟨0, by omega, rfl, by simp [wordN]⟩
        case round =>
          obtain ⟨j, hj, rfl, rfl⟩ := hrel
          by_cases hj8 : j < len - s
          · have hcj := Hc.out j (by have := Hl.out; omega)
            have HS := Lib.hid (word_step (group bs k) j (by omega) (by have := Hl.out; omega))
            gi_wp2
            exact ⟨⟨j + 1, by omega, by go_num, congrArg (Value.int .u64) HS.out⟩, by simp [intOf]; omega⟩
          · obtain rfl : j = len - s := by omega
            obtain ⟨fn, tmps, assign, body, hy, hR3⟩ := hY.out _ ((wordN ((group bs k).take (len - s)) : Nat) : Int) wr hJs (by rw [wordsTo_length]; unfold nwords; have := HL.out; have := hs.out; omega)
            gi_wp2
            refine hR3.mono ?_
            rintro e W3 (⟨rfl, hJ3, hk3⟩ | ⟨rfl, hJx3⟩)
            · gi_wp2
              exact ⟨⟨k + 1, s + 8, by show _ = _; rw [hs.out]; omega, by omega, by go_num, by rw [wordsTo_succ]; rw [group_take _ _ _ (by have := Hl.out; omega)] at hJ3; exact hJ3, hnx.trans hk3⟩, by simp [intOf]; omega⟩
            · gi_wp2
              refine bodyPost_ret (results_none rfl _ _ _) rfl ?_
              exact ⟨⟨_, rfl⟩, .inr ⟨_, trivial, hJx3⟩⟩
    · gi_wp2
      go_end0
      exact ⟨⟨_, rfl⟩, .inl ⟨_, by unfold wordsI nwords; congr 1; have := HL.out; have := hs.out; omega, hJs⟩⟩

theorem words_stops (F : Fence) (n : Nat) (h28 : F.fn 72) (hro : F.round = none) (hn : 1 ≤ n) (Bs B len cap : Nat) (A : Option Addr) (bs : List UInt8) (hl : bs.length = len) (hlc : len ≤ cap) (hmax : len ≤ 140737488351232)
    (w : World) (hBs : Bs < w.heap.size) (hB : B ≤ w.heap.size) (hc : w.cell? ⟨Bs, 0, none⟩ = some (.slice A len cap)) (hR : Rd w B A len (vByte bs)) :
    SeqStopsK F n Try.prog 72 #[.pointer (some ⟨Bs, 0, none⟩)] (fun x : Int => #[Value.int .u64 x]) (Keeps (WordsKept A len Bs)) (fun ys => ys = wordsI bs) (fun _ => True) (nwords bs) w := fun l J Jx W hW _ _ hY h0 =>
  words1_in F n h28 hro hn l Bs B len cap A bs hl hlc hmax J Jx hY W ((hW.cell (p := ⟨Bs, 0, none⟩) hBs).trans hc) (hR.below hW hB) h0

end Go.Proofs.Ytompkpleiichaaa
