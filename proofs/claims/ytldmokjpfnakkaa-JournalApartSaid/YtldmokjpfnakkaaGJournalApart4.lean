/- Part 4 of the texts that JournalApart needs: HashSum HashBytes HashRef JrnFrame JrnRef JrnFirst Range JrnScan. -/
import Derived.Maps.AppendAt
import Derived.RangeFuncNested
import Derived.RangeFuncBound
import Derived.RangeFuncCalls
import Derived.RangeFuncLeaves
import Derived.RangeFuncBox
import Derived.Shelf.Abstract
import Derived.Shelf.RegionOpen
import Derived.WalkKit
import Derived.OwnWalkIn
import Derived.TacticsInMore
import Derived.LoopNIn
import Derived.LoopIn
import Derived.Test.YtldmokjpfnakkaaGJournalApart3

/- The walk of hash.Sum. -/
namespace Go.Proofs.Ytldmokjpfnakkaa
open Go.RowKit Go.Shelf
attribute [local go_sem] Oper.semAt_some

set_option maxRecDepth 100000 in
set_option maxHeartbeats 1000000 in
theorem hsum_any (label : ByteArray) (A : Option Addr) (len cap B : Nat) (ws : List Int) (w : World) (HL : Hid (ws.length = len)) (hlab : label.size ≤ 140737488351232) (hmax : len ≤ 140737488351232)
    (hB : B ≤ w.heap.size) (hR : Rd w B A len (vInt ws)) :
    Calls Try.prog 49 #[.string label, .slice A len cap] w fun e w' => e = .returned (.int .u64 (sumI label.data.toList ws)) ∧ Below w.heap.size w w' := by
  obtain ⟨c1, w1, hconv, hc1, hz1, hb1, hr1⟩ := conv_bytes (P := Try.prog) (w.alloc (.cells #[.int .u64 0] 42)) 9 23 5 label Try.underlying9 Try.underlying23 Try.underlying5
  rw [World.size_alloc] at hconv hz1 hb1 hr1
  have HZ := Lib.hid hz1; clear hz1
  refine (callsIn_wide (n := 5)).1 ?_
  refine callsIn_of_wp_marks Try.func49 rfl trivial ?_ rfl
  simp only [Try.ntmps49, List.size_toArray, List.length_cons, List.length_nil, Nat.reduceAdd, Nat.reduceSub, Array.replicate_succ, Array.replicate_zero, List.push_toArray, List.append_toArray, List.nil_append, List.cons_append]
  gi_wp2_with (refine ⟨trivial, ?_⟩; gi_at_call 48; refine (wordsOf_in Fence.wide _ trivial rfl _ _ _ _).mono ?_; rintro e w' ⟨rfl, rfl⟩)
  have bS1 : Boxed w1 w.heap.size 42 (.int .u64 0) := (hb1.block _ (by omega)).trans (Boxed.new w 42 (.int .u64 0))
  have bN := Boxed.new w1 23 (.slice (some ⟨w.heap.size + 1, 0, none⟩) label.size c1)
  have hB1 : Below w.heap.size w w1 := ((Below.refl _ w).alloc (Nat.le_refl _) (.cells #[.int .u64 0] 42)).trans (hb1.mono (by omega))
  have hB2 := hB1.alloc (by have := HZ.out; omega) (.cells #[.slice (some ⟨w.heap.size + 1, 0, none⟩) label.size c1] 23)
  refine wpIn_rangeFunc_ownG rfl (by decide) (gf := 67) (lb := #[.pointer (some ⟨w1.heap.size, 0, none⟩)]) rfl trivial (enters_of Try.func67 (by kernel_rfl) rfl)
    (words_stops Fence.wide _ trivial rfl (by decide) w1.heap.size (w.heap.size + 1 + 1) label.size c1 _ label.data.toList (by simp) hc1 hlab _ (by simp) (by have := HZ.out; simp; omega) bN.cell (hr1.alloc (by have := HZ.out; omega) _))
    (fun h k => h.trans k) ?hKb (Below.refl _ _) (fun _ => rfl)
    (fun pre W => Boxed W w.heap.size 42 (.int .u64 (mixAll 0 pre)) ∧ Below w.heap.size w W)
    (fun _ _ _ => False)
    (OwnFrom.and (Own.from (boxed_own _ _ _) _) (ownFrom_below (Nat.le_refl _) (by have := HZ.out; simp; omega)))
    (fun _ _ _ _ _ hs _ _ => hs)
    ⟨bS1.alloc _, hB2⟩
    (fun x => { tmps := #[.string label, .slice A len cap, undef, undef, .int .u64 0, .pointer (some ⟨w.heap.size, 0, none⟩), .int .u64 x, undef, undef, .string label, .slice (some ⟨w.heap.size + 1, 0, none⟩) label.size c1, .func (.func 67) #[] #[.pointer (some ⟨w1.heap.size, 0, none⟩)], .int .u64 x, undef, undef, undef, undef, undef, undef, undef, undef, undef, undef, undef, undef, undef, undef, undef, undef, undef, undef, undef, undef, undef, undef, undef, undef, undef, undef], defers := [] }) ?assign ?body ?done ?stop
  case hKb =>
    intro W l o o' hl hW _ _ k hk
    have hz := HZ.out
    rw [World.size_alloc] at hl
    refine World.putObj_heap_other ?_
    rcases hk with rfl | ⟨_, ad, h, rfl⟩
    · omega
    · injection h with h; subst h; simp; omega
  case assign =>
    intro l x W K hK
    gi_wp2
    exact hK
  case body =>
    rintro l pre x W ⟨hS, hB'⟩ _
    have hc := hS.cell
    have hf := hS.frozen
    gi_wp2_with (refine ⟨trivial, ?_⟩; gi_at_call 68; refine (CallsIn.inRound l (callsIn_wide.2 (mix_any _ _ _))).mono ?_; rintro e w' ⟨rfl, rfl⟩)
    refine ⟨(KeepsOthers.setCell _ _ _).from _, fun k hk => Below.heap_setCell _ _ _ _ ?_, by rw [mixAll_snoc]; exact hS.set _, hB'.setCell (p := ⟨w.heap.size, 0, none⟩) (Nat.le_refl _) _⟩
    have hz := HZ.out
    rcases hk with rfl | ⟨_, ad, h, rfl⟩
    · simp; omega
    · injection h with h; subst h; simp
  case done =>
    rintro D ys W hD rfl ⟨hS, hB'⟩ hK
    have hc := hS.cell
    have hf := hS.frozen
    gi_wp2_with (refine ⟨trivial, ?_⟩; gi_at_call 68; refine (callsIn_wide.2 (mix_any _ _ _)).mono ?_; rintro e w' ⟨rfl, rfl⟩)
    gi_loopw [8, 28] (fun _ i wr => ∃ j : Nat, j ≤ len ∧ i = .int .i64 (j : Int) ∧ Boxed wr w.heap.size 42 (.int .u64 (sumTo label.data.toList len ws j)) ∧ Below w.heap.size w wr ∧ Hid (wr.heap[D]? = some (.deferred (some []))))
      (fun _ i _ => len - (intOf i).toNat)
    case atStart =>
      exact ⟨0, by omega, rfl, by rw [sumTo_zero]; exact (hS.set _).set _, (hB'.setCell (p := ⟨w.heap.size, 0, none⟩) (Nat.le_refl _) _).setCell (p := ⟨w.heap.size, 0, none⟩) (Nat.le_refl _) _, (KeepsOthers.setCell _ _ _).same D _ ((KeepsOthers.setCell _ _ _).same D _ hK rfl) rfl⟩
    case round =>
      obtain ⟨j, hj, rfl, hS3, hB3, hK3⟩ := hrel
      have hc3 := hS3.cell
      have hf3 := hS3.frozen
      by_cases hlt : j < len
      · obtain ⟨b, off, rfl, hb, hcl⟩ := (hR.below hB3 hB).at_ hlt
        have hcl' : wr.cell? ⟨b, off + j, none⟩ = some (.int .i64 (ws[j]?.getD 0)) := hcl
        have HT := Lib.hid (sumTo_succ label.data.toList len ws j (by have := HL.out; omega))
        clear hcl
        gi_wp2_with (refine ⟨trivial, ?_⟩; gi_at_call 68; refine (callsIn_wide.2 (mix_any _ _ _)).mono ?_; rintro e w' ⟨rfl, rfl⟩)
        exact ⟨⟨j + 1, by omega, by go_num, by rw [HT.out]; exact hS3.set _, hB3.setCell (p := ⟨w.heap.size, 0, none⟩) (Nat.le_refl _) _, (KeepsOthers.setCell _ _ _).same D _ hK3.out rfl⟩, by simp [intOf]; omega⟩
      · obtain rfl : j = len := by omega
        gi_wp2_with (refine ⟨trivial, ?_⟩; gi_at_call 68; refine (callsIn_wide.2 (mix_any _ _ _)).mono ?_; rintro e w' ⟨rfl, rfl⟩)
        refine ⟨by simp, .inl ⟨_, _, rfl, run_takeDeferred hK3.out, ?_⟩⟩
        refine ⟨_, results_tmp rfl _ _ _, ?_, hB3.trans (belowK_b (w := w) (Nat.le_refl _) wr D _ _ (by have := HZ.out; simp at hD; omega) hK3.out rfl rfl)⟩
        rw [← sumTo_all _ _ _ HL.out]
        rfl
  case stop =>
    rintro D c pre W _ _ h _
    exact h.elim

end Go.Proofs.Ytldmokjpfnakkaa

/- The walks of hash.Bytes and hash.Pair. -/
namespace Go.Proofs.Ytldmokjpfnakkaa
open Go.RowKit Go.Shelf
attribute [local go_sem] Oper.semAt_some

theorem infoInt : (Try.prog.info? 3).map (fun i => (i.zero, i.size, i.bytes)) = some (some (.int .i64 0), 1, 8) := by kernel_rfl

theorem bytes_snoc_get (l : List UInt8) (x : UInt8) (j : Nat) (hj : j < l.length + 1) :
    (l.map (fun b => Value.int .u8 ((b.toNat : Nat) : Int)) ++ [Value.int .u8 ((x.toNat : Nat) : Int)])[j]? = some (vByte (l ++ [x]) j) := by
  simp only [vByte]
  rcases Nat.lt_or_ge j l.length with h | h
  · rw [List.getElem?_append_left (by simpa using h), List.getElem?_append_left (by simpa using h)]
    simp [h]
  · obtain rfl : j = l.length := by omega
    simp
theorem map_snoc_get (g : Int → Int) (l : List Int) (x : Int) (j : Nat) (hj : j < l.length + 1) :
    (l.map (fun y => Value.int .i64 (g y)) ++ [Value.int .i64 x])[j]? = some (vInt (l.map g ++ [x]) j) := by
  simp only [vInt]
  rcases Nat.lt_or_ge j l.length with h | h
  · rw [List.getElem?_append_left (by simpa using h), List.getElem?_append_left (by simpa using h)]
    simp [h]
  · obtain rfl : j = l.length := by omega
    simp

set_option maxRecDepth 100000 in
set_option maxHeartbeats 1000000 in
theorem hbytes_any (label : ByteArray) (A : Option Addr) (len cap B : Nat) (bs : List UInt8) (w : World) (HL : Hid (bs.length = len)) (hlab : label.size ≤ 140737488351232) (hlc : len ≤ cap) (hmax : len ≤ 35184372088832)
    (hB : B ≤ w.heap.size) (hR : Rd w B A len (vByte bs)) :
    Calls Try.prog 28 #[.string label, .slice A len cap] w fun e w' => e = .returned (.int .u64 (bytesI label.data.toList bs)) ∧ Below w.heap.size w w' := by
  obtain ⟨i0, hi, hz0, hz1, hz2⟩ := info_parts infoInt
  obtain ⟨w1, hmk, hown1, hb1, hz⟩ := make_rd (P := Try.prog) w 22 3 i0 _ 8 Try.underlying22 hi hz0 hz1 hz2 .i64 .i64 (len / 8 + 2) (by omega) (by unfold maxLen; omega)
  rw [show ((len / 8 + 2 : Nat) : Int) = (len : Int) / 8 + 2 from by omega] at hmk
  have HZ := Lib.hid hz; clear hz
  refine (callsIn_wide (n := 5)).1 ?_
  refine callsIn_of_wp_marks Try.func28 rfl trivial ?_ rfl
  simp only [Try.ntmps28, List.size_toArray, List.length_cons, List.length_nil, Nat.reduceAdd, Nat.reduceSub, Array.replicate_succ, Array.replicate_zero, List.push_toArray, List.append_toArray, List.nil_append, List.cons_append]
  gi_wp2_with (refine ⟨trivial, ?_⟩; gi_at_call 48; refine (wordsOf_in Fence.wide _ trivial rfl _ _ _ _).mono ?_; rintro e w' ⟨rfl, rfl⟩)
  have bX := Boxed.new w1 22 (.slice (some ⟨w.heap.size, 0, none⟩) 0 (len / 8 + 2))
  have bN := Boxed.new (w1.alloc (.cells #[.slice (some ⟨w.heap.size, 0, none⟩) 0 (len / 8 + 2)] 22)) 23 (.slice A len cap)
  rw [World.size_alloc] at bN
  have hB2 := (hb1.alloc (by have := HZ.out; omega) (.cells #[.slice (some ⟨w.heap.size, 0, none⟩) 0 (len / 8 + 2)] 22)).alloc (by have := HZ.out; simp; omega) (.cells #[.slice A len cap] 23)
  refine wpIn_rangeFunc_ownG rfl (by decide) (gf := 67) (lb := #[.pointer (some ⟨w1.heap.size + 1, 0, none⟩)]) rfl trivial (enters_of Try.func67 (by kernel_rfl) rfl)
    (words_stops Fence.wide _ trivial rfl (by decide) (w1.heap.size + 1) B len cap A bs HL.out hlc (by omega) _ (by simp) (by have := HZ.out; simp; omega) bN.cell (hR.below hB2 hB))
    (fun h k => h.trans k) ?hKb (Below.refl _ _) (fun _ => rfl)
    (fun (pre : List Int) W => (∃ v, Boxed W w1.heap.size 22 v ∧ W.ownsRow w.heap.size 3 1 v pre.length (pre.map fun x => Value.int .i64 (toI x)) ∧ True) ∧ Boxed W (w1.heap.size + 1) 23 (.slice A len cap) ∧ Below w.heap.size w W)
    (fun _ _ _ => False)
    (OwnFrom.and (Own.from (holdsRow_own w.heap.size w1.heap.size 22 3 1 (fun pre : List Int => pre.length) (fun pre : List Int => pre.map fun x => Value.int .i64 (toI x)) (fun _ _ => True)) _) (OwnFrom.and (Own.from (boxed_own _ _ _) _) (ownFrom_below (Nat.le_refl _) (by have := HZ.out; simp; omega))))
    (fun _ _ _ _ _ hs _ _ => hs)
    ⟨⟨_, bX.alloc _, (hown1.alloc _).alloc _, trivial⟩, bN, hB2⟩
    (fun x => { tmps := #[.string label, .slice A len cap, undef, undef, .int .u64 0, .pointer (some ⟨w1.heap.size, 0, none⟩), .int .u64 x, .slice A len cap, .int .i64 ↑len, .int .i64 (↑len / 8), .int .i64 (↑len / 8 + 2), .slice (some ⟨w.heap.size, 0, none⟩) 0 (len / 8 + 2), .slice A len cap, .func (.func 67) #[] #[.pointer (some ⟨w1.heap.size + 1, 0, none⟩)], .int .u64 x, undef, undef, undef, undef, undef, undef, undef, undef, undef, undef, undef, undef], defers := [] }) ?assign ?body ?done ?stop
  case hKb =>
    intro W l o o' hl hW _ _ k hk
    have hz := HZ.out
    simp only [World.size_alloc] at hl
    refine World.putObj_heap_other ?_
    rcases hk with rfl | ⟨h0, ad, h, rfl⟩
    · omega
    · obtain ⟨b, off, h', hb, _⟩ := hR h0
      rw [h] at h'
      injection h' with h'; subst h'; simp; omega
  case assign =>
    intro l x W K hK
    gi_wp2
    exact hK
  case body =>
    rintro l pre x W ⟨⟨v, hv, hrow, _⟩, hN, hB'⟩ hlt
    have hc := hv.cell
    have hnw : 8 * nwords bs ≤ len + 7 := by unfold nwords; have := HL.out; omega
    obtain ⟨g, c', w3, hap, hown3, hg3, hat3, hs3⟩ := run_append_one (P := Try.prog) W w.heap.size 22 22 3 i0 _ 8 Try.underlying22 hi hz0 hz1 hz2 rfl v pre.length _ hrow (.int .i64 (wrap64 x)) rfl (by unfold maxLen; omega) (by omega) hB'.size
    have hv3 : Boxed w3 w1.heap.size 22 v := hv.kept hg3 (hv.not_row (by decide) hrow)
    have hc3 := hv3.cell
    have hf3 := hv3.frozen
    have HA := Lib.hid hap; clear hap
    have hlt3 := hv.lt
    gi_wp2_with (gi_at_builtin; refine wpListIn_append_run HA.out rfl rfl rfl rfl ?_)
    have hne : ∀ k, v.ownBlock = some k → w.heap.size ≤ k ∧ k < W.heap.size := hrow.lt
    have hz := HZ.out
    refine ⟨((KeepsOthers.of_grownBy hg3 (own_cells hrow)).trans (KeepsOthers.setCell _ _ _)).from _, ?_, ⟨_, hv3.set _, ?_, trivial⟩, (hN.kept hg3 (hN.not_row (by decide) hrow)).other (by omega) _, (hB'.grown hg3 hB'.size (fun k e => (hne k e).1)).setCell (p := ⟨w1.heap.size, 0, none⟩) (by simp; omega) _⟩
    · intro k hk
      have hkW : k < W.heap.size ∧ k ≠ w1.heap.size ∧ some k ≠ v.ownBlock := by
        rcases hk with rfl | ⟨h0, ad, h, rfl⟩
        · exact ⟨hN.lt, by omega, hN.not_row (by decide) hrow⟩
        · obtain ⟨b, off, h', hb, _⟩ := hR h0
          rw [h] at h'
          injection h' with h'; subst h'
          refine ⟨by have := hB'.size; simp; omega, by simp; omega, fun e => ?_⟩
          have := (hne _ e.symm).1
          simp at this; omega
      exact (Below.heap_setCell _ _ _ _ (by simpa using hkW.2.1)).trans (hg3.block k hkW.1 hkW.2.2)
    · have := hown3.kept (grownBy_setCell' w3 w1.heap.size (.slice (some ⟨g, 0, none⟩) (pre.length + 1) c')) (.inr (hv3.not_row (by decide) hown3).symm)
      simpa [toI] using this
  case done =>
    rintro D ys W hD rfl ⟨⟨v, hv, hrow, _⟩, hN, hB'⟩ hK
    have hc := hv.cell
    have hnw : 8 * nwords bs ≤ len + 7 := by unfold nwords; have := HL.out; omega
    have hwl : (wordsI bs).length = nwords bs := wordsTo_length _ _
    have HW := Lib.hid hwl; clear hwl
    obtain ⟨g, c', w3, hap, hown3, hg3, hat3, hs3⟩ := run_append_one (P := Try.prog) W w.heap.size 22 22 3 i0 _ 8 Try.underlying22 hi hz0 hz1 hz2 rfl v _ _ hrow (.int .i64 len) rfl (by have := HW.out; unfold maxLen; omega) (by have := HW.out; omega) hB'.size
    have HA := Lib.hid hap; clear hap
    have hne : ∀ k, v.ownBlock = some k → w.heap.size ≤ k ∧ k < W.heap.size := hrow.lt
    have hB3 : Below w.heap.size w w3 := hB'.grown hg3 hB'.size (fun k e => (hne k e).1)
    have hR3 : Rd w3 w3.heap.size (some ⟨g, 0, none⟩) ((wordsI bs).length + 1) (vInt ((wordsI bs).map toI ++ [((bs.length : Nat) : Int)])) := (Rd.of_own hown3 (f := vInt ((wordsI bs).map toI ++ [((bs.length : Nat) : Int)])) (by
      intro j hj
      rw [← HL.out]
      exact map_snoc_get toI (wordsI bs) _ j hj)).2.2
    gi_wp2_with (first
      | (gi_at_builtin; refine wpListIn_append_run HA.out rfl rfl rfl rfl ?_)
      | (refine ⟨trivial, ?_⟩; gi_at_call 49; refine (callsIn_wide.2 (hsum_any _ _ _ _ w3.heap.size ((wordsI bs).map toI ++ [((bs.length : Nat) : Int)]) _ (by show _ = _; simp) hlab (by have := HW.out; omega) (Nat.le_refl _) hR3)).mono ?_; rintro e w4 ⟨rfl, hb4⟩))
    have hK4 : w4.heap[D]? = some (.deferred (some [])) := by
      have hlD := (Array.getElem?_eq_some_iff.1 hK).1
      refine (hb4.block D (by omega)).trans ((hg3.block D hlD (fun e => ?_)).trans hK)
      have := own_cells hrow D _ e.symm hK
      simp [Obj.isCells] at this
    refine ⟨by simp, .inl ⟨_, _, rfl, run_takeDeferred hK4, ?_⟩⟩
    have hz := HZ.out
    refine ⟨_, results_tmp rfl _ _ _, rfl, (hB3.trans (hb4.mono hB3.size)).trans (belowK_b (w := w) (Nat.le_refl _) w4 D _ _ (by simp at hD; omega) hK4 rfl rfl)⟩
  case stop =>
    rintro D c pre W _ _ h _
    exact h.elim


end Go.Proofs.Ytldmokjpfnakkaa

/- The walks of worldmintref01.Words, Sum, Bytes and Pair. -/
namespace Go.Proofs.Ytldmokjpfnakkaa
open Go.RowKit

theorem infoU64 : (Try.prog.info? 42).map (fun i => (i.zero, i.size, i.bytes)) = some (some (.int .u64 0), 1, 8) := by kernel_rfl

set_option maxRecDepth 100000 in
set_option maxHeartbeats 1000000 in
theorem rwords_any (A : Option Addr) (len cap B : Nat) (bs : List UInt8) (w : World) (HL : Hid (bs.length = len)) (_hlc : len ≤ cap) (hmax : len ≤ 35184372088832) (hB : B ≤ w.heap.size) (hR : Rd w B A len (vByte bs)) :
    Calls Try.prog 61 #[.slice A len cap] w fun e w' => ∃ A' c', e = .returned (.slice A' (nwords bs) c') ∧ w'.ownsRow w.heap.size 42 1 (.slice A' (nwords bs) c') (nwords bs) ((wordsI bs).map (Value.int .u64)) ∧ Below w.heap.size w w' := by
  obtain ⟨i0, hi, hz0, hz1, hz2⟩ := info_parts infoU64
  go_enter Try.func61, Try.ntmps61
  go_wp2
  go_loopw [3, 4] (fun v i wr => ∃ k s : Nat, Hid (s = 8 * k) ∧ s < len + 8 ∧ i = .int .i64 (s : Int) ∧ wr.ownsRow w.heap.size 42 1 v k ((wordsTo bs k).map (Value.int .u64)) ∧ Below w.heap.size w wr) (fun _ i _ => len + 8 - (intOf i).toNat)
  case atStart => exact ⟨0, 0, rfl, by omega, rfl, World.ownsRow_nil _ _ _ _, Below.refl _ _⟩
  case round =>
    obtain ⟨k, s, hs, hk, rfl, hown, hb⟩ := hrel
    obtain ⟨v3, rfl⟩ : ∃ x, x = u3 := ⟨_, rfl⟩
    by_cases hlt : s < len
    · obtain ⟨b, off, rfl, hbB, hc0⟩ := (hR.below hb hB) (by omega)
      have Hc : Hid (∀ r, r < (group bs k).length → wr.cell? ⟨b, off + (s + r), none⟩ = some (.int .u8 (((group bs k)[r]?.getD 0).toNat : Nat))) := by
        intro j hj
        rw [group_length] at hj
        rw [hc0 (s + j) (by have := HL.out; have := hs.out; omega)]
        simp only [vByte, group, hs.out, List.getElem?_take, List.getElem?_drop]
        rw [if_pos (by omega)]
      have Hl : Hid ((group bs k).length = min 8 (len - s)) := by show _ = _; rw [group_length, HL.out, hs.out]
      clear hc0
      by_cases h8 : s + 8 ≤ len
      · go_wp2
        go_loop [5, 6] (fun v i => ∃ r : Nat, r ≤ 8 ∧ i = .int .i64 ((s : Int) + r - 1) ∧ v = .int .u64 ((wordN ((group bs k).drop r) : Nat) : Int)) (fun _ i => (intOf i - s + 1).toNat)
        case atStart => exact ⟨8, by omega, by go_num, by rw [List.drop_eq_nil_of_le (by have := Hl.out; omega)]; rfl⟩
        case round =>
          obtain ⟨r, hr, rfl, rfl⟩ := hrel
          cases r with
          | zero =>
            obtain ⟨g, c', w3, hap, hown3, hg3, hat3, hs3⟩ := run_append_one (P := Try.prog) wr w.heap.size 98 98 42 i0 _ 8 Try.underlying98 hi hz0 hz1 hz2 rfl v3 k _ hown (.int .u64 ((wordN (group bs k) : Nat) : Int)) rfl (by have := hs.out; unfold maxLen; omega) (by have := hs.out; omega) hb.size
            have HA := Lib.hid hap; clear hap
            go_wp2_with (at_builtin; refine wpList_append_run HA.out rfl rfl rfl rfl ?_)
            refine ⟨⟨k + 1, s + 8, by show _ = _; rw [hs.out]; omega, by omega, by go_num, ?_, hb.grown hg3 hb.size (fun k e => (hown.lt k e).1)⟩, by simp [intOf]; omega⟩
            rw [wordsTo_succ, List.map_append]
            exact hown3
          | succ r =>
            have hcj := Hc.out r (by have := Hl.out; omega)
            have HS := Lib.hid (word_back (group bs k) r (by have := Hl.out; omega) (by have := Hl.out; omega))
            have e1 : (s : Int) + ((r + 1 : Nat) : Int) - 1 = ((s + r : Nat) : Int) := by omega
            rw [e1]
            go_wp2
            refine ⟨⟨r, by omega, by go_num, congrArg (Value.int .u64) HS.out⟩, by simp [intOf]; omega⟩
      · go_wp2
        go_loop [5, 6] (fun v i => ∃ r : Nat, r ≤ len - s ∧ i = .int .i64 ((s : Int) + r - 1) ∧ v = .int .u64 ((wordN ((group bs k).drop r) : Nat) : Int)) (fun _ i => (intOf i - s + 1).toNat)
        case atStart => exact ⟨len - s, by omega, by go_num, by rw [List.drop_eq_nil_of_le (by have := Hl.out; omega)]; rfl⟩
        case round =>
          obtain ⟨r, hr, rfl, rfl⟩ := hrel
          cases r with
          | zero =>
            obtain ⟨g, c', w3, hap, hown3, hg3, hat3, hs3⟩ := run_append_one (P := Try.prog) wr w.heap.size 98 98 42 i0 _ 8 Try.underlying98 hi hz0 hz1 hz2 rfl v3 k _ hown (.int .u64 ((wordN (group bs k) : Nat) : Int)) rfl (by have := hs.out; unfold maxLen; omega) (by have := hs.out; omega) hb.size
            have HA := Lib.hid hap; clear hap
            go_wp2_with (at_builtin; refine wpList_append_run HA.out rfl rfl rfl rfl ?_)
            refine ⟨⟨k + 1, s + 8, by show _ = _; rw [hs.out]; omega, by omega, by go_num, ?_, hb.grown hg3 hb.size (fun k e => (hown.lt k e).1)⟩, by simp [intOf]; omega⟩
            rw [wordsTo_succ, List.map_append]
            exact hown3
          | succ r =>
            have hcj := Hc.out r (by have := Hl.out; omega)
            have HS := Lib.hid (word_back (group bs k) r (by have := Hl.out; omega) (by have := Hl.out; omega))
            have e1 : (s : Int) + ((r + 1 : Nat) : Int) - 1 = ((s + r : Nat) : Int) := by omega
            rw [e1]
            go_wp2
            refine ⟨⟨r, by omega, by go_num, congrArg (Value.int .u64) HS.out⟩, by simp [intOf]; omega⟩
    · obtain ⟨A', c', rfl⟩ := own_slice hown
      have HN := Lib.hid (show nwords bs = k by unfold nwords; have := HL.out; have := hs.out; omega)
      go_wp2
      go_ret
      unfold wordsI
      rw [HN.out]
      exact ⟨A', c', rfl, hown, hb⟩

/-- The state behind the first j words of the label. -/
def labTo (label : List UInt8) (j : Nat) : Int := mixAll 0 (wordsTo label j)
theorem labTo_succ (label : List UInt8) (j : Nat) : labTo label (j + 1) = mixI (labTo label j) (wordAt label j) := by unfold labTo; rw [wordsTo_succ, mixAll_snoc]
theorem labTo_all (label : List UInt8) (n : Nat) (ws : List Int) : sumTo label n ws 0 = mixI (mixI (labTo label (nwords label)) (label.length : Nat)) (n : Nat) := rfl

set_option maxRecDepth 100000 in
set_option maxHeartbeats 1000000 in
theorem rsum_any (label : ByteArray) (A : Option Addr) (len cap B : Nat) (ws : List Int) (w : World) (HL : Hid (ws.length = len)) (hlab : label.size ≤ 35184372088832) (hmax : len ≤ 140737488351232)
    (hB : B ≤ w.heap.size) (hR : Rd w B A len (vInt ws)) :
    Calls Try.prog 62 #[.string label, .slice A len cap] w fun e w' => e = .returned (.int .u64 (sumI label.data.toList ws)) ∧ Below w.heap.size w w' := by
  obtain ⟨c1, w1, hconv, hc1, hz1, hb1, hr1⟩ := conv_bytes (P := Try.prog) w 9 23 5 label Try.underlying9 Try.underlying23 Try.underlying5
  have HZ := Lib.hid hz1; clear hz1
  go_enter Try.func62, Try.ntmps62
  go_wp2_with (go_at_call 61; refine (rwords_any _ _ _ (w.heap.size + 1) label.data.toList _ (by show _ = _; simp) hc1 hlab (by have := HZ.out; omega) hr1).mono ?_; rintro e w2 ⟨A', c', rfl, hown2, hb2⟩)
  have hb12 : Below w.heap.size w w2 := hb1.trans (hb2.mono hb1.size)
  have hr2 : Rd w2 w2.heap.size A' (nwords label.data.toList) (fun j => .int .u64 (wordAt label.data.toList j)) := (Rd.of_own hown2 (f := fun j => .int .u64 (wordAt label.data.toList j)) (by
    intro j hj
    simp [wordsI, wordsTo, hj])).2.2
  have hnw : nwords label.data.toList ≤ label.size := by unfold nwords; simp; omega
  generalize hN : nwords label.data.toList = nw at *
  have HN := Lib.hid hN; clear hN
  go_loop [5, 7] (fun v i => ∃ k : Nat, k ≤ nw ∧ i = .int .i64 (k : Int) ∧ v = .int .u64 (labTo label.data.toList k)) (fun _ i => nw - (intOf i).toNat)
  case atStart => exact ⟨0, by omega, rfl, rfl⟩
  case round =>
    obtain ⟨k, hk, rfl, rfl⟩ := hrel
    by_cases hlt : k < nw
    · obtain ⟨b, off, rfl, hbB, hc⟩ := hr2.at_ hlt
      have HS := Lib.hid (labTo_succ label.data.toList k)
      go_wp2_with (go_at_call 72; refine (rmix_any _ _ _).mono ?_; rintro e w' ⟨rfl, rfl⟩)
      exact ⟨⟨k + 1, by omega, by go_num, congrArg (Value.int .u64) HS.out.symm⟩, by simp [intOf]; omega⟩
    · obtain rfl : k = nw := by omega
      have HT := Lib.hid (labTo_all label.data.toList len ws)
      go_wp2_with (go_at_call 72; refine (rmix_any _ _ _).mono ?_; rintro e w' ⟨rfl, rfl⟩)
      go_loop [5, 8] (fun v i => ∃ j : Nat, j ≤ len ∧ i = .int .i64 (j : Int) ∧ v = .int .u64 (sumTo label.data.toList len ws j)) (fun _ i => len - (intOf i).toNat)
      case atStart => exact ⟨0, by omega, rfl, congrArg (Value.int .u64) (by rw [HT.out, HN.out]; simp)⟩
      case round =>
        obtain ⟨j, hj, rfl, rfl⟩ := hrel
        by_cases hlt : j < len
        · obtain ⟨b, off, rfl, hbB, hc⟩ := (hR.below hb12 hB).at_ hlt
          have hc' : w2.cell? ⟨b, off + j, none⟩ = some (.int .i64 (ws[j]?.getD 0)) := hc
          clear hc
          have HS := Lib.hid (sumTo_succ label.data.toList len ws j (by have := HL.out; omega))
          go_wp2_with (go_at_call 72; refine (rmix_any _ _ _).mono ?_; rintro e w' ⟨rfl, rfl⟩)
          exact ⟨⟨j + 1, by omega, by go_num, congrArg (Value.int .u64) HS.out.symm⟩, by simp [intOf]; omega⟩
        · obtain rfl : j = len := by omega
          have HE := Lib.hid (sumTo_all label.data.toList j ws HL.out)
          go_wp2_with (go_at_call 72; refine (rmix_any _ _ _).mono ?_; rintro e w' ⟨rfl, rfl⟩)
          go_ret
          rw [← HE.out]
          exact ⟨rfl, hb12⟩

set_option maxRecDepth 100000 in
set_option maxHeartbeats 1000000 in
theorem rbytes_any (label : ByteArray) (A : Option Addr) (len cap B : Nat) (bs : List UInt8) (w : World) (HL : Hid (bs.length = len)) (hlab : label.size ≤ 35184372088832) (hlc : len ≤ cap) (hmax : len ≤ 35184372088832)
    (hB : B ≤ w.heap.size) (hR : Rd w B A len (vByte bs)) :
    Calls Try.prog 41 #[.string label, .slice A len cap] w fun e w' => e = .returned (.int .u64 (bytesI label.data.toList bs)) ∧ Below w.heap.size w w' := by
  obtain ⟨i0, hi, hz0, hz1, hz2⟩ := info_parts infoInt
  go_enter Try.func41, Try.ntmps41
  go_wp2_with (go_at_call 61; refine (rwords_any _ _ _ B bs _ HL hlc hmax hB hR).mono ?_; rintro e w2 ⟨A', c', rfl, hown2, hb2⟩)
  have hr2 : Rd w2 w2.heap.size A' (nwords bs) (fun j => .int .u64 (wordAt bs j)) := (Rd.of_own hown2 (f := fun j => .int .u64 (wordAt bs j)) (by
    intro j hj
    simp [wordsI, wordsTo, hj])).2.2
  have hnw : 8 * nwords bs ≤ len + 7 := by unfold nwords; have := HL.out; omega
  clear hown2
  generalize hN : nwords bs = nw at *
  have HN := Lib.hid hN; clear hN
  go_loopw [6, 7] (fun v i wr => ∃ k : Nat, k ≤ nw ∧ i = .int .i64 (k : Int) ∧ wr.ownsRow w2.heap.size 3 1 v k ((wordsTo bs k).map fun x => Value.int .i64 (toI x)) ∧ Below w2.heap.size w2 wr) (fun _ i _ => nw - (intOf i).toNat)
  case atStart => exact ⟨0, by omega, rfl, World.ownsRow_nil _ _ _ _, Below.refl _ _⟩
  case round =>
    obtain ⟨k, hk, rfl, hown, hb⟩ := hrel
    obtain ⟨v6, rfl⟩ : ∃ x, x = u6 := ⟨_, rfl⟩
    by_cases hlt : k < nw
    · obtain ⟨b, off, rfl, hbB, hc⟩ := (hr2.below hb (Nat.le_refl _)).at_ hlt
      obtain ⟨g, c3, w3, hap, hown3, hg3, hat3, hs3⟩ := run_append_one (P := Try.prog) wr w2.heap.size 22 22 3 i0 _ 8 Try.underlying22 hi hz0 hz1 hz2 rfl v6 k _ hown (.int .i64 (wrap64 (wordAt bs k))) rfl (by unfold maxLen; omega) (by omega) hb.size
      have HA := Lib.hid hap; clear hap
      go_wp2_with (at_builtin; refine wpList_append_run HA.out rfl rfl rfl rfl ?_)
      refine ⟨⟨k + 1, by omega, by go_num, ?_, hb.grown hg3 hb.size (fun k e => (hown.lt k e).1)⟩, by simp [intOf]; omega⟩
      rw [wordsTo_succ, List.map_append]
      exact hown3
    · obtain rfl : k = nw := by omega
      obtain ⟨g, c3, w3, hap, hown3, hg3, hat3, hs3⟩ := run_append_one (P := Try.prog) wr w2.heap.size 22 22 3 i0 _ 8 Try.underlying22 hi hz0 hz1 hz2 rfl v6 k _ hown (.int .i64 len) rfl (by unfold maxLen; omega) (by omega) hb.size
      have HA := Lib.hid hap; clear hap
      have hb3 : Below w2.heap.size w2 w3 := hb.grown hg3 hb.size (fun k e => (hown.lt k e).1)
      have hw : wordsTo bs k = wordsI bs := by unfold wordsI; rw [HN.out]
      have hl : (wordsI bs).length = k := by rw [← hw]; exact wordsTo_length _ _
      have hR3 : Rd w3 w3.heap.size (some ⟨g, 0, none⟩) (k + 1) (vInt ((wordsI bs).map toI ++ [((bs.length : Nat) : Int)])) := (Rd.of_own hown3 (f := vInt ((wordsI bs).map toI ++ [((bs.length : Nat) : Int)])) (by
        intro j hj
        rw [← HL.out, hw]
        exact map_snoc_get toI (wordsI bs) _ j (by omega))).2.2
      have HW := Lib.hid hl
      clear hw hl
      go_wp2_with (first
        | (at_builtin; refine wpList_append_run HA.out rfl rfl rfl rfl ?_)
        | (go_at_call 62; refine (rsum_any _ _ _ _ w3.heap.size ((wordsI bs).map toI ++ [((bs.length : Nat) : Int)]) _ (by show _ = _; have := HW.out; simp; omega) hlab (by omega) (Nat.le_refl _) hR3).mono ?_; rintro e w4 ⟨rfl, hb4⟩))
      go_ret
      exact ⟨rfl, (hb2.trans (hb3.mono hb2.size)).trans (hb4.mono (Nat.le_trans hb2.size hb3.size))⟩

end Go.Proofs.Ytldmokjpfnakkaa

/- journal: the walk of Frame; the reference's Core and Frame. -/
namespace Go.Proofs.Ytldmokjpfnakkaa
open Go.RowKit

theorem Wr.mod {w w' : World} {B gd : Nat} {bs : List UInt8} {F : Nat → Prop} (h : Wr w B gd bs) (m : Mod F w w') (hF : ∀ b, b < w.heap.size → ¬ F b) : Wr w' B gd bs := by
  obtain ⟨h0, A, n, c, h1, h2, h3⟩ := h
  exact ⟨h0, A, n, c, h1, m.blk h2 (hF _ h2.lt), m.own h3 (fun g e => hF g (h3.lt g e).2)⟩
set_option maxRecDepth 100000 in
set_option maxHeartbeats 1000000 in
theorem frame_any (k : Int) (A : Option Addr) (n c : Nat) (bs : List UInt8) (w : World) (HL : Hid (bs.length = n)) (hk1 : -9223372036854775808 ≤ k) (hk2 : k ≤ 9223372036854775807) (hn : n ≤ 1099511627776) (hR : Rd w w.heap.size A n (vByte bs)) :
    Calls Try.prog 12 #[.int .i64 k, .slice A n c] w (RetB (frameB k bs) w) := by
  have HR := Lib.hid hR
  clear hR
  have HK := Lib.hid (coreB_len (k := k) (bs := bs) ⟨hk1, hk2⟩ (by rw [HL.out]; omega))
  have hl1 : (encInt k).length ≤ 10 := encInt_len hk1 hk2
  have HW1 := Lib.hid (Wr.new w)
  have HB1 := Lib.hid ((Below.refl w.heap.size w).alloc (Nat.le_refl _) (.cells #[.slice none 0 0] 37))
  have hsz : (w.alloc (.cells #[.slice none 0 0] 37)).heap.size = w.heap.size + 1 := World.size_alloc _ _
  have HSZ := Lib.hid hsz
  clear hsz
  go_enter Try.func12, Try.ntmps12
  go_wp2_with fail
  refine (wint_any w.heap.size w.heap.size [] k _ HW1 hk1 hk2 (by simp)).mono ?_
  rintro e w2 ⟨rfl, hW2, hb2⟩
  have hB2 := HB1.out.trans hb2
  have hz2 := hW2.lt.2
  clear hb2
  go_wp2_with fail
  refine (wraw_any w.heap.size w.heap.size _ bs _ n _ w.heap.size _ (Lib.hid hW2) HL (by omega) (HR.out.below hB2 (Nat.le_refl _)) (Nat.le_refl _) (by simp only [List.nil_append]; omega)).mono ?_
  rintro e w3 ⟨rfl, hW3, hb3⟩
  have hB3 := hB2.trans hb3
  have hz3 := hW3.lt.2
  replace hW3 : Wr w3 w.heap.size w.heap.size (coreB k bs) := by simpa [coreB] using hW3
  clear hb3 hB2 hz2 hW2 HW1 HB1 HSZ
  have hb4 := (Below.refl w3.heap.size w3).alloc (Nat.le_refl _) (.cells #[.slice none 0 0] 37)
  have hV4 := WrV.new w3
  have hW4 := hW3.all hb4
  have hB4 := hB3.trans (hb4.mono (by omega))
  have hsz4 : (w3.alloc (.cells #[.slice none 0 0] 37)).heap.size = w3.heap.size + 1 := World.size_alloc _ _
  have HSZ4 := Lib.hid hsz4
  clear hb4 hsz4
  go_wp2_with fail
  generalize w3.alloc (.cells #[.slice none 0 0] 37) = w4 at *
  refine (wdone_any w.heap.size w.heap.size (coreB k bs) _ (Lib.hid hW4) (by have := HK.out; have := HL.out; omega)).mono ?_
  rintro e w5 ⟨A5, n5, c5, rfl, hnc5, hc5, HN5, hown5, hR5, hb5⟩
  have hn5 : n5 ≤ n + 20 := by have := HK.out; have := HL.out; have := HN5.out; omega
  have hV5 := hV4.all hb5
  have hW5 := hW4.all hb5
  have hB5 := hB4.trans (hb5.mono (by have := HSZ4.out; omega))
  have hF5 : ∀ b off, A5 = some ⟨b, off, none⟩ → 0 < n5 → ¬ WF w3.heap.size (.slice none 0 0) b := by
    intro b off e hp hf
    obtain ⟨g, eg, hg, _⟩ := own_some hown5 hp
    rw [e] at eg
    injection eg with eg
    injection eg with eg _ _
    rcases hf with rfl | hf
    · have := HSZ4.out
      omega
    · cases hf
  have HF5 := Lib.hid hF5
  clear hF5 hown5 hb5 hV4 hW4 hB4
  go_wp2_with fail
  refine (wrawV_any w3.heap.size _ [] (coreB k bs) _ n5 _ _ (Lib.hid hV5) HN5 (by omega) hR5 HF5.out (by simp)).mono ?_
  rintro e w6 ⟨rfl, v6, hV6, m6, o6⟩
  have hW6 : Wr w6 w.heap.size w.heap.size (coreB k bs) := by
    obtain ⟨h0, A, n, c, h1, h2, h3⟩ := hW3
    obtain ⟨g0, A', n', c', g1, g2, g3⟩ := hW5
    exact ⟨g0, A', n', c', g1, m6.blk g2 (by
      rintro (e | e)
      · have := h2.lt
        omega
      · cases e), m6.own g3 (by
      rintro g e (e2 | e2)
      · exact absurd (Ty.of_own g3 e) (fun ht => by rw [e2] at ht; exact absurd (Ty.unique hV5.1.ty ht) (by decide))
      · cases e2)⟩
  have hB6 := m6.below hB5 hB5.size (by
    rintro b (rfl | e)
    · have := hB3.size; exact this
    · cases e)
  have hV6' : WrV w6 w3.heap.size v6 (encRaw (coreB k bs)) := by simpa using hV6
  have HO6 : Hid (∀ b, v6.ownBlock = some b → w.heap.size ≤ b) := Lib.hid (fun b e => by
    rcases o6 with o | o
    · rw [o] at e
      cases e
    · have := o b e
      have := hB5.size
      omega)
  clear hV6 m6 hV5 hW5 hB5 hR5 HF5 HN5 o6
  go_wp2_with fail
  refine (wdone_any w.heap.size w.heap.size (coreB k bs) _ (Lib.hid hW6) (by have := HK.out; have := HL.out; omega)).mono ?_
  rintro e w7 ⟨A7, n7, c7, rfl, hnc7, hc7, HN7, hown7, hR7, hb7⟩
  have hn7 : n7 ≤ n + 20 := by have := HK.out; have := HL.out; have := HN7.out; omega
  have hV7 := hV6'.all hb7
  have hB7 := hB6.trans (hb7.mono hB6.size)
  clear hown7 hb7 hV6' hB6 hW6
  go_wp2_with fail
  refine (hbytes_any _ _ n7 _ _ (coreB k bs) _ HN7 (by decide) (by omega) (by omega) (Nat.le_refl _) hR7).mono ?_
  rintro e w8 ⟨rfl, hb8⟩
  have hV8 := hV7.all hb8
  have hB8 := hB7.trans (hb8.mono hB7.size)
  clear hb8 hV7 hB7 hR7
  go_wp2_with fail
  refine (wuintV_any w3.heap.size v6 (encRaw (coreB k bs)) (recN (coreB k bs)) _ (recN_eq _) _ (Lib.hid hV8) (recN_lt _) (by have := (encRaw_len (bs := coreB k bs) (by have := HN7.out; omega)).2; have := HN7.out; omega)).mono ?_
  rintro e w9 ⟨rfl, v9, hV9, m9, o9⟩
  have hB9 := m9.below hB8 hB8.size (by
    rintro b (rfl | e)
    · have := hB3.size; exact this
    · exact HO6.out b e)
  go_wp2_with fail
  refine (wdone_any 0 w3.heap.size (frameB k bs) _ (Lib.hid hV9.wr) (by have := frameB_len (k := k) (bs := bs) ⟨hk1, hk2⟩ (by rw [HL.out]; omega); have := HL.out; omega)).mono ?_
  rintro e w10 ⟨A10, n10, c10, rfl, hnc10, hc10, HN10, hown10, hR10, hb10⟩
  go_wp2
  go_ret
  exact ⟨A10, n10, c10, rfl, HN10, own_lower hown10 hB9.size, hB9.trans (hb10.mono hB9.size)⟩
end Go.Proofs.Ytldmokjpfnakkaa

/- journal: the reference's Core and Frame; bytes.HasPrefix. -/
namespace Go.Proofs.Ytldmokjpfnakkaa
open Go.RowKit

set_option maxRecDepth 100000 in
set_option maxHeartbeats 1000000 in
theorem rcore_any (k : Int) (A : Option Addr) (n c : Nat) (bs : List UInt8) (w : World) (HL : Hid (bs.length = n)) (hk1 : -9223372036854775808 ≤ k) (hk2 : k ≤ 9223372036854775807) (hn : n ≤ 1099511627776) (hR : Rd w w.heap.size A n (vByte bs)) :
    Calls Try.prog 38 #[.int .i64 k, .slice A n c] w (RetB (coreB k bs) w) := by
  have HR := Lib.hid hR
  clear hR
  have HK := Lib.hid (encRaw_len (bs := bs) (by rw [HL.out]; omega))
  have hl1 : (encInt k).length ≤ 10 := encInt_len hk1 hk2
  go_enter Try.func38, Try.ntmps38
  go_wp2_with fail
  refine (eint_any _ _ hk1 hk2).mono ?_
  rintro e w1 ⟨A1, n1, c1, rfl, HN1, hown1, hb1⟩
  have hz1 := hb1.size
  go_wp2_with fail
  refine (eraw_any _ _ _ bs _ HL (by omega) (HR.out.all hb1)).mono ?_
  rintro e w2 ⟨A2, n2, c2, rfl, HN2, hown2, hb2⟩
  have hz2 := hb2.size
  obtain ⟨A3, n3, c3, w3, hap, HN3, hown3, hg3⟩ := own_many (c := c2) (own_keep hown1 hb2) HN2.out (rd_bytes hown2).2.2 (by rw [← HN1.out, ← HN2.out]; have := HK.out; have := HL.out; omega) (by omega)
  have HO := Lib.hid hown3
  have HG := Lib.hid ((hb1.trans (hb2.mono hz1)).trans hg3)
  clear hown1 hown2 hown3 hb1 hb2 hg3
  go_wp2_with (at_builtin; refine wpList_append_run hap.out rfl rfl rfl rfl ?_)
  go_ret
  refine ⟨A3, n3, c3, rfl, Lib.hid ?_, HO.out, HG.out⟩
  have := HO.out.1
  simpa [coreB] using this

set_option maxRecDepth 100000 in
set_option maxHeartbeats 1000000 in
theorem rframe_any (k : Int) (A : Option Addr) (n c : Nat) (bs : List UInt8) (w : World) (HL : Hid (bs.length = n)) (hk1 : -9223372036854775808 ≤ k) (hk2 : k ≤ 9223372036854775807) (hn : n ≤ 1099511627776) (hR : Rd w w.heap.size A n (vByte bs)) :
    Calls Try.prog 13 #[.int .i64 k, .slice A n c] w (RetB (frameB k bs) w) := by
  have HR := Lib.hid hR
  clear hR
  have HK := Lib.hid (coreB_len (k := k) (bs := bs) ⟨hk1, hk2⟩ (by rw [HL.out]; omega))
  have HK2 := Lib.hid (encRaw_len (bs := coreB k bs) (by have := HK.out; have := HL.out; omega))
  have HK3 := Lib.hid (varint_len10 (recN_lt (coreB k bs)))
  go_enter Try.func13, Try.ntmps13
  go_wp2_with fail
  refine (rcore_any k _ n _ bs _ HL hk1 hk2 hn HR.out).mono ?_
  rintro e w1 ⟨A1, n1, c1, rfl, HN1, hown1, hb1⟩
  have hz1 := hb1.size
  have hn1 : n1 ≤ n + 20 := by have := HK.out; have := HL.out; have := HN1.out; omega
  obtain ⟨-, hnc1, hr1⟩ := rd_bytes hown1
  clear hown1
  go_wp2_with fail
  refine (eraw_any _ _ _ (coreB k bs) _ HN1 (by omega) hr1).mono ?_
  rintro e w2 ⟨A2, n2, c2, rfl, HN2, hown2, hb2⟩
  have hz2 := hb2.size
  have hr2 := hr1.all hb2
  have hB2 := hb1.trans (hb2.mono hz1)
  have hn2 : n2 ≤ n + 30 := by have := HK2.out; have := HN1.out; have := HN2.out; omega
  clear hr1 hb1 hb2
  go_wp2_with fail
  refine (rbytes_any _ _ n1 _ _ (coreB k bs) _ HN1 (by decide) (by omega) (by omega) (Nat.le_refl _) hr2).mono ?_
  rintro e w3 ⟨rfl, hb3⟩
  have hz3 := hb3.size
  replace hown2 := own_keep hown2 hb3
  have hB3 := hB2.trans (hb3.mono (by omega))
  clear hB2 hb3 hr2
  go_wp2_with fail
  refine (euint_any (recN (coreB k bs)) _ (recN_eq _) _ (recN_lt _)).mono ?_
  rintro e w4 ⟨A4, n4, c4, rfl, HN4, hown4, hb4⟩
  have hz4 := hb4.size
  have hn4 : n4 ≤ 10 := by have := HK3.out; have := HN4.out; omega
  obtain ⟨A5, n5, c5, w5, hap, HN5, hown5, hg5⟩ := own_many (c := c4) (own_keep hown2 hb4) HN4.out (rd_bytes hown4).2.2 (by omega) (by omega)
  have HO := Lib.hid (own_lower hown5 (show w.heap.size ≤ w1.heap.size from hz1))
  have HG := Lib.hid ((hB3.trans (hb4.mono (by omega))).trans (hg5.mono hz1))
  clear hown2 hown4 hown5 hB3 hb4 hg5
  go_wp2_with (at_builtin; refine wpList_append_run hap.out rfl rfl rfl rfl ?_)
  go_ret
  refine ⟨A5, n5, c5, rfl, Lib.hid ?_, HO.out, HG.out⟩
  have := HO.out.1
  simpa [frameB] using this

/-- A prefix, decided. -/
def preB (xs ys : List UInt8) : Bool := decide (ys <+: xs)
set_option maxRecDepth 100000 in
set_option maxHeartbeats 400000 in
theorem bequal_any (A A' : Option Addr) (n m c c' : Nat) (xs ys : List UInt8) (w : World) (hx : xs.length = n) (hy : ys.length = m) (hR : Rd w w.heap.size A n (vByte xs)) (hR' : Rd w w.heap.size A' m (vByte ys)) :
    Calls Try.prog 82 #[.slice A n c, .slice A' m c'] w fun e w' => e = .returned (.bool (decide (xs = ys))) ∧ w = w' := by
  have h1 := conv_str (P := Try.prog) (c := c) (src := 23) (dst := 9) Try.underlying23 Try.underlying5 Try.underlying9 hx hR
  have h2 := conv_str (P := Try.prog) (c := c') (src := 23) (dst := 9) Try.underlying23 Try.underlying5 Try.underlying9 hy hR'
  clear hR hR' hx hy
  go_enter Try.func82, Try.ntmps82
  go_wp2
  go_ret
  refine ⟨?_, rfl⟩
  show Ending.returned (.bool (xs == ys)) = _
  congr 2
  rw [Bool.eq_iff_iff]
  simp
set_option maxRecDepth 100000 in
set_option maxHeartbeats 400000 in
theorem hasPre_any (A A' : Option Addr) (n m c c' : Nat) (xs ys : List UInt8) (w : World) (hx : Hid (xs.length = n)) (hy : Hid (ys.length = m)) (hnc : n ≤ c) (_hc : c ≤ 9223372036854775807) (hm : 0 < m) (hR : Rd w w.heap.size A n (vByte xs)) (hR' : Rd w w.heap.size A' m (vByte ys)) :
    Calls Try.prog 74 #[.slice A n c, .slice A' m c'] w fun e w' => e = .returned (.bool (preB xs ys)) ∧ w = w' := by
  by_cases hmn : m ≤ n
  · obtain ⟨b, off, rfl, hb, hcl⟩ := hR (by omega)
    have HR : Hid (Rd w w.heap.size (some ⟨b, off, none⟩) m (vByte (xs.take m))) := Lib.hid ((hR.less hmn).congr (fun j hj => by simp [vByte, hj]))
    have HR' := Lib.hid hR'
    have HP := Lib.hid (show preB xs ys = decide (xs.take m = ys) by
      unfold preB
      rw [decide_eq_decide, List.prefix_iff_eq_take, hy.out]
      exact eq_comm)
    have HX := Lib.hid (show (xs.take m).length = m by rw [List.length_take, hx.out]; omega)
    clear hR hR' hcl
    go_enter Try.func74, Try.ntmps74
    go_wp2_with (go_at_call 82; ((with_reducible refine (bequal_any _ _ _ _ _ _ (xs.take m) ys _ HX.out hy.out HR.out HR'.out).mono ?_); rintro e w2 ⟨rfl, rfl⟩))
    go_ret
    rw [HP.out]
    exact ⟨rfl, rfl⟩
  · have HP := Lib.hid (show preB xs ys = false by
      unfold preB
      rw [decide_eq_false_iff_not]
      intro hp
      have := hp.length_le
      rw [hx.out, hy.out] at this
      omega)
    clear hR hR'
    have h1 : decide (m ≤ n) = false := by simpa using hmn
    go_enter Try.func74, Try.ntmps74
    go_wp2
    go_ret
    rw [HP.out]
    exact ⟨rfl, rfl⟩
end Go.Proofs.Ytldmokjpfnakkaa

/- journal: the walk of first. -/
namespace Go.Proofs.Ytldmokjpfnakkaa
open Go.RowKit

/-- A slice of bytes that is read, nil with no capacity. -/
def Sb (w : World) (A : Option Addr) (n c : Nat) (bs : List UInt8) : Prop :=
  bs.length = n ∧ n ≤ c ∧ c ≤ 9223372036854775807 ∧ (A = none ∧ c = 0 ∨ ∃ b off, A = some ⟨b, off, none⟩ ∧ b < w.heap.size ∧ ∀ j, j < n → w.cell? ⟨b, off + j, none⟩ = some (vByte bs j))
theorem Sb.rd {w : World} {A : Option Addr} {n c : Nat} {bs : List UInt8} (h : Sb w A n c bs) : Rd w w.heap.size A n (vByte bs) := by
  intro hn
  obtain ⟨h1, h2, h3, ⟨h4, h5⟩ | ⟨b, off, h4, h5⟩⟩ := h
  · omega
  · exact ⟨b, off, h4, h5.1, h5.2⟩
theorem Sb.all {w w' : World} {A : Option Addr} {n c : Nat} {bs : List UInt8} (h : Sb w A n c bs) (hb : Below w.heap.size w w') : Sb w' A n c bs := by
  obtain ⟨h1, h2, h3, ⟨h4, h5⟩ | ⟨b, off, h4, h5⟩⟩ := h
  · exact ⟨h1, h2, h3, .inl ⟨h4, h5⟩⟩
  · exact ⟨h1, h2, h3, .inr ⟨b, off, h4, Nat.lt_of_lt_of_le h5.1 hb.size, fun j hj => (hb.cell (p := ⟨b, off + j, none⟩) h5.1).trans (h5.2 j hj)⟩⟩
/-- What first returns. -/
def FirstPost (k : Int) (bs : List UInt8) (w : World) (e : Ending) (w' : World) : Prop :=
  (e = .returned (.tuple #[.slice none 0 0, .int .i64 0, .bool false]) ∧ FirstIs k bs none ∧ Below w.heap.size w w') ∨
  ∃ (z : Bz) (m : Nat), e = .returned (.tuple #[.slice z.A z.n z.c, .int .i64 (m : Int), .bool true]) ∧ z.ok w' ∧ FirstIs k bs (some z.bs) ∧ Hid (m = (frameB k z.bs).length) ∧ z.low w.heap.size ∧ Below w.heap.size w w'
theorem readU_len (bs : List UInt8) (e : Int) : (readU bs e).2.2.length ≤ bs.length := by
  unfold readU
  split
  · exact (decU_lt bs 0 0 (by omega) (by decide)).2
  · exact Nat.zero_le _
theorem readRaw_len (bs : List UInt8) (e : Int) : (readRaw bs e).2.1.length ≤ bs.length := by
  unfold readRaw
  split
  · have h := (decU_lt bs 0 0 (by omega) (by decide)).2
    unfold decRaw
    split
    · exact Nat.zero_le _
    · split
      · exact Nat.zero_le _
      · exact Nat.le_trans (List.length_take_le' _ _) h
  · exact Nat.zero_le _
theorem inRec_len (c : List UInt8) : (inRec c).2.1.length ≤ c.length := Nat.le_trans (readRaw_len _ _) (readU_len _ _)
theorem first_no1 {k : Int} {bs : List UInt8} {n : Nat} (hk1 : -9223372036854775808 ≤ k) (hk2 : k ≤ 9223372036854775807) (hl : bs.length = n) (hn : n ≤ 9223372036854775807) (h : n < (varint (szB bs)).length + szB bs ∨ n < (varint (szB bs)).length) : FirstIs k bs none := by
  intro x r hx
  have := (first_parts ⟨hk1, hk2⟩ hx (by omega)).2.1
  omega
theorem first_no2 {k : Int} {bs : List UInt8} {n : Nat} (hk1 : -9223372036854775808 ≤ k) (hk2 : k ≤ 9223372036854775807) (hl : bs.length = n) (hn : n ≤ 9223372036854775807) (h : endI (inRec (innerB bs)).2.2 (inRec (innerB bs)).1 ≠ 0) : FirstIs k bs none := by
  intro x r hx
  have := (first_parts ⟨hk1, hk2⟩ hx (by omega)).2.2.2.1
  rw [this] at h
  exact h rfl
theorem first_no3 {k : Int} {bs rec : List UInt8} {n : Nat} (hk1 : -9223372036854775808 ≤ k) (hk2 : k ≤ 9223372036854775807) (hl : bs.length = n) (hn : n ≤ 9223372036854775807) (hr : (inRec (innerB bs)).2.1 = rec) (h : preB bs (frameB k rec) = false) : FirstIs k bs none := by
  intro x r hx
  have := (first_parts ⟨hk1, hk2⟩ hx (by omega)).2.2.2.1
  rw [this] at hr
  subst hr
  unfold preB at h
  rw [decide_eq_false_iff_not] at h
  exact h ⟨r, hx.symm⟩
theorem first_yes {k : Int} {bs rec : List UInt8} (h : preB bs (frameB k rec) = true) : FirstIs k bs (some rec) := by
  unfold preB at h
  obtain ⟨r, hr⟩ := of_decide_eq_true h
  exact ⟨r, hr.symm⟩
set_option maxRecDepth 100000 in
set_option maxHeartbeats 1000000 in
theorem first_any (k : Int) (A : Option Addr) (n c : Nat) (bs : List UInt8) (w : World) (HS : Hid (Sb w A n c bs)) (hk1 : -9223372036854775808 ≤ k) (hk2 : k ≤ 9223372036854775807) (hn : n ≤ 1099511627776) :
    Calls Try.prog 64 #[.int .i64 k, .slice A n c] w (FirstPost k bs w) := by
  have HL := Lib.hid HS.out.1
  have hnc := HS.out.2.1
  have hc := HS.out.2.2.1
  have HR := Lib.hid HS.out.rd
  have HW0 := Lib.hid (Below.refl w.heap.size w)
  rcases HS.out.2.2.2 with ⟨rfl, rfl⟩ | ⟨b, off, rfl, -⟩
  · have h0 : n = 0 := by omega
    subst h0
    go_enter Try.func64, Try.ntmps64
    go_wp2_with fail
    refine (read_any _ _ _ (bs.take 10) _ (Lib.hid (by rw [List.length_take, HL.out]; omega)) Rd.nil (by omega)).mono ?_
    rintro e w1 ⟨g1, rfl, hg1, hR1, hb1, -⟩
    go_wp2_with fail
    refine (ruint_any _ g1 _ _ _ (Lib.hid hR1)).mono ?_
    rintro e w2 ⟨rfl, -, hg2⟩
    have hb2 := below_of_only hb1 hg2 hb1.size hg1
    clear hg2 hR1 hb1 hg1
    obtain ⟨sz, hsz⟩ : ∃ sz, szB bs = sz := ⟨_, rfl⟩
    have hsz' : (readU (bs.take 10) 0).2.1 = sz := hsz
    rw [hsz']
    have HSZ := Lib.hid hsz
    have hsz1 : sz ≤ 18446744073709551615 := by rw [← hsz']; exact readU_lt _ _
    clear hsz hsz'
    have hW3 := Wr.new w2
    have hb3 := hb2.trans (((Below.refl w2.heap.size w2).alloc (Nat.le_refl _) (.cells #[.slice none 0 0] 37)).mono hb2.size)
    have hz2 := hb2.size
    clear hb2
    go_wp2_with fail
    refine (wuint_any w2.heap.size w2.heap.size [] sz _ rfl _ (Lib.hid hW3) hsz1 (by simp)).mono ?_
    rintro e w4 ⟨rfl, hW4, hb4⟩
    have hB4 := hb3.trans (hb4.mono hz2)
    clear hb4 hb3 hW3
    go_wp2_with fail
    refine (wdone_any _ _ _ _ (Lib.hid hW4) (by have := varint_len10 hsz1; simp only [List.nil_append]; omega)).mono ?_
    rintro e w5 ⟨A5, be, c5, rfl, -, -, HN5, -, -, hb5⟩
    have hB5 := hB4.trans (hb5.mono hB4.size)
    have HBE := Lib.hid (show (varint (szB bs)).length = be by rw [HSZ.out]; simpa using HN5.out)
    have hbe : 0 < be := by rw [← HBE.out]; exact varint_pos _
    clear hb5 hB4 hW4 HN5
    go_wp2
    go_ret3
    exact .inl ⟨rfl, first_no1 hk1 hk2 HL.out (by omega) (by rw [HBE.out]; omega), hB5⟩
  · by_cases h10 : 10 ≤ n
    all_goals (
      go_enter Try.func64, Try.ntmps64
      go_wp2_with fail
      refine (read_any _ _ _ (bs.take 10) _ (Lib.hid (by rw [List.length_take, HL.out]; omega)) ((HR.out.less (by omega)).congr (fun j hj => by simp [vByte, show j < 10 by omega])) (by omega)).mono ?_
      rintro e w1 ⟨g1, rfl, hg1, hR1, hb1, -⟩
      go_wp2_with fail
      refine (ruint_any _ g1 _ _ _ (Lib.hid hR1)).mono ?_
      rintro e w2 ⟨rfl, -, hg2⟩
      have hb2 := below_of_only hb1 hg2 hb1.size hg1
      clear hg2 hR1 hb1 hg1
      obtain ⟨sz, hsz⟩ : ∃ sz, szB bs = sz := ⟨_, rfl⟩
      have hsz' : (readU (bs.take 10) 0).2.1 = sz := hsz
      rw [hsz']
      have HSZ := Lib.hid hsz
      have hsz1 : sz ≤ 18446744073709551615 := by rw [← hsz']; exact readU_lt _ _
      clear hsz hsz'
      have hW3 := Wr.new w2
      have hb3 := hb2.trans (((Below.refl w2.heap.size w2).alloc (Nat.le_refl _) (.cells #[.slice none 0 0] 37)).mono hb2.size)
      have hz2 := hb2.size
      clear hb2
      go_wp2_with fail
      refine (wuint_any w2.heap.size w2.heap.size [] sz _ rfl _ (Lib.hid hW3) hsz1 (by simp)).mono ?_
      rintro e w4 ⟨rfl, hW4, hb4⟩
      have hB4 := hb3.trans (hb4.mono hz2)
      clear hb4 hb3 hW3
      go_wp2_with fail
      refine (wdone_any _ _ _ _ (Lib.hid hW4) (by have := varint_len10 hsz1; simp only [List.nil_append]; omega)).mono ?_
      rintro e w5 ⟨A5, be, c5, rfl, -, -, HN5, -, -, hb5⟩
      have hB5 := hB4.trans (hb5.mono hB4.size)
      have HBE := Lib.hid (show (varint (szB bs)).length = be by rw [HSZ.out]; simpa using HN5.out)
      have hbe : be ≤ 10 := by have := varint_len10 hsz1; have := HN5.out; simp only [List.nil_append] at this; omega
      clear hb5 hB4 hW4 HN5
      by_cases q1 : n < be
      · go_wp2
        go_ret3
        exact .inl ⟨rfl, first_no1 hk1 hk2 HL.out (by omega) (by rw [HBE.out]; omega), hB5⟩
      · have hcv : IntKind.u64.wrap ((n : Int) - (be : Int)) = ((n - be : Nat) : Int) := by rw [wrap_u64]; omega
        by_cases q2 : n - be < sz
        · go_wp2
          go_ret3
          exact .inl ⟨rfl, first_no1 hk1 hk2 HL.out (by omega) (by rw [HBE.out, HSZ.out]; omega), hB5⟩
        · have HIN := Lib.hid (show (innerB bs).length = sz by unfold innerB; rw [HSZ.out, ← HSZ.out, HBE.out, List.length_take, List.length_drop, HL.out, HSZ.out]; omega)
          have HRI : Hid (∀ o', (0 < sz → o' = off + be) → Rd w5 w5.heap.size (some ⟨b, o', none⟩) sz (vByte (innerB bs))) := Lib.hid (fun o' ho hp => by
            obtain ⟨b', off', e, hb', hc'⟩ := (HR.out.all hB5) (by omega)
            injection e with e
            injection e with e1 e2 _
            subst e1 e2
            refine ⟨b, o', rfl, hb', fun j hj => ?_⟩
            rw [ho hp, Nat.add_assoc, hc' (be + j) (by omega)]
            unfold vByte innerB
            rw [HBE.out, HSZ.out, List.getElem?_take, if_pos hj, List.getElem?_drop])
          go_wp2_with fail
          all_goals (
            refine (read_any _ _ _ (innerB bs) _ HIN (HRI.out _ (by omega)) (by omega)).mono ?_
            rintro e w6 ⟨g6, rfl, hg6, hR6, hb6, -⟩
            have hB6 := hB5.trans (hb6.mono hB5.size)
            replace hg6 : w.heap.size ≤ g6 := Nat.le_trans hB5.size hg6
            clear hb6
            go_wp2_with fail
            refine (rint_any _ g6 _ _ _ (Lib.hid hR6)).mono ?_
            rintro e w7 ⟨rfl, hR7, hg7⟩
            have hB7 := below_of_only hB6 hg7 hB6.size hg6
            clear hB6 hg7 hR6
            go_wp2_with fail
            refine (rraw_any _ g6 _ _ _ (Lib.hid hR7)).mono ?_
            rintro e w8 ⟨A8, n8, c8, rfl, hnc8, hc8, hn8, HN8, hown8, hR8, hg8⟩
            have hB8 := below_of_only hB7 hg8 hB7.size hg6
            have hlow7 := hB7.size
            obtain ⟨rec, hrec⟩ : ∃ rec, (inRec (innerB bs)).2.1 = rec := ⟨_, rfl⟩
            replace HN8 : Hid (rec.length = n8) := by rw [← hrec]; exact HN8
            replace hown8 : w8.ownsRow w7.heap.size 5 1 (.slice A8 n8 c8) n8 (rec.map fun b => Value.int .u8 ((b.toNat : Nat) : Int)) := by rw [← hrec]; exact hown8
            have HREC := Lib.hid hrec
            clear hrec hB7 hg8 hR7
            have HBT := Lib.hid (Bts.of_own hown8).1
            have hr8 := (rd_bytes hown8).2.2
            have HLW := Lib.hid (Bz.low.mono (Bz.low_own (bs := rec) hown8) hlow7)
            clear hown8
            go_wp2_with fail
            refine (rend_any _ g6 _ _ _ (Lib.hid hR8)).mono ?_
            rintro e w9 ⟨rfl, rfl⟩
            obtain ⟨en, hen⟩ : ∃ en, endI (inRec (innerB bs)).2.2 (inRec (innerB bs)).1 = en := ⟨_, rfl⟩
            have hen' : endI (readRaw (readU (innerB bs) 0).2.2 (readU (innerB bs) 0).1).2.2 (readRaw (readU (innerB bs) 0).2.2 (readU (innerB bs) 0).1).1 = en := hen
            rw [hen']
            have HEN := Lib.hid hen
            clear hen hen' hR8
            by_cases q3 : en = 0
            · have q4 : (en != 0) = false := by simpa using q3
              clear q3
              have hn8' : n8 ≤ 1099511627776 := by
                have h1 := inRec_len (innerB bs)
                rw [HREC.out, HIN.out] at h1
                have := HN8.out
                omega
              go_wp2_with fail
              refine (frame_any k _ n8 _ rec _ HN8 hk1 hk2 hn8' hr8).mono ?_
              rintro e w10 ⟨A10, n10, c10, rfl, HN10, hown10, hb10⟩
              have hB10 := hB8.trans (hb10.mono hB8.size)
              have HBT10 := Lib.hid (HBT.out.all hb10)
              obtain ⟨-, hnc10, hr10⟩ := rd_bytes hown10
              have hp10 : 0 < n10 := by have := frameB_pos k rec; have := HN10.out; omega
              have hc10 := own_cap hown10
              clear hb10 hown10 hr8 hB8
              cases hpre : preB bs (frameB k rec) with
              | true =>
                have HP := Lib.hid hpre
                go_wp2_with fail
                refine (hasPre_any _ _ _ _ _ _ bs (frameB k rec) _ HL HN10 (by omega) (by omega) hp10 (HR.out.all hB10) hr10).mono ?_
                rintro e w11 ⟨rfl, rfl⟩
                go_wp2
                go_ret3
                exact .inr ⟨⟨A8, n8, c8, rec⟩, n10, rfl, HBT10.out, first_yes HP.out, Lib.hid HN10.out.symm, HLW.out, hB10⟩
              | false =>
                have HP := Lib.hid hpre
                go_wp2_with fail
                refine (hasPre_any _ _ _ _ _ _ bs (frameB k rec) _ HL HN10 (by omega) (by omega) hp10 (HR.out.all hB10) hr10).mono ?_
                rintro e w11 ⟨rfl, rfl⟩
                go_wp2
                go_ret3
                exact .inl ⟨rfl, first_no3 hk1 hk2 HL.out (by omega) HREC.out HP.out, hB10⟩
            · have q4 : (en != 0) = true := by simpa using q3
              go_wp2
              go_ret3
              exact .inl ⟨rfl, first_no2 hk1 hk2 HL.out (by omega) (by rw [HEN.out]; exact q3), hB8⟩))
end Go.Proofs.Ytldmokjpfnakkaa

/- A range over a function whose iterator keeps a state in memory: one law for the caller. -/
namespace Go.Proofs.Ytldmokjpfnakkaa
open Go.RowKit Go.Shelf

/-- How a round's body may be left: going on in the next state, or leaving by a jump. -/
def statePost (B : Nat) (I : World → Prop) (Ix : Code → World → Prop) (W : World) : Exit → Act → World → Prop
  | .normal, _, W' => KeepsFrom B W W' ∧ I W'
  | .ret, _, W' => KeepsFrom B W W' ∧ Ix .ret W'
  | .exit id, _, W' => KeepsFrom B W W' ∧ Ix (.exit id) W'
  | .goto t, _, W' => KeepsFrom B W W' ∧ Ix (.goto t) W'
  | .panic _, _, _ => False
  | .outgrown, _, _ => False

/-- The iterator's promise: 'Iy s x W': it stands at yield with the value x, in state s; a round that goes on leads to 'I (nxt s x)'; R: what the law keeps of the loop's own record. -/
def SeqState {α β : Type} (F : Fence) (n : Nat) (P : Program) (gf : Nat) (lb : Array Value) (encs : α → Array Value) (B : Nat) (I : β → World → Prop) (Iy : β → α → World → Prop) (nxt : β → α → β) (Ix : Code → β → World → Prop) (s0 : β) (Fin : β → Prop) : Prop :=
  ∀ (l : Nat) (R : World → Prop) (Rx : Code → World → Prop), (∀ W W', R W → KeepsFrom B W W' → R W') →
    (∀ s x W, Iy s x W → R W → YieldAt F (n - 1) P l (encs x) W fun e W' => (e = .returned (.bool true) ∧ I (nxt s x) W' ∧ R W') ∨ (e = .returned (.bool false) ∧ ∃ c, Ix c (nxt s x) W' ∧ Rx c W')) →
    ∀ W, I s0 W → R W → CallsIn F n P gf (#[.func (.yield l) #[] #[]] ++ lb) W fun e W' => (∃ v, e = .returned v) ∧ ((∃ s, Fin s ∧ I s W' ∧ R W') ∨ ∃ c s, Ix c s W' ∧ Rx c W')

variable {F : Fence} {n : Nat} {P : Program}

theorem range_state {α β : Type} {g : Operand} {ps : Array Tmp} {assign body : Code} {Q : Exit → Act → World → Prop} {a : Act} {w : World}
    (hro : F.round = none) (h1 : 1 ≤ n) {gf : Nat} {lb : Array Value} (hg : a.eval g = .func (.func gf) #[] lb) (hFg : F.fn gf) (eg : ∀ args w, (callFunc gf args).run P w = .ok (.enter gf args) w)
    {encs : α → Array Value} (hps : ∀ x, (encs x).size = ps.size)
    (I : β → World → Prop) (Iy : β → α → World → Prop) (nxt : β → α → β) (Ix : Code → β → World → Prop) (s0 : β) (Fin : β → Prop)
    (hseq : SeqState F (n - 1) P gf lb encs w.heap.size I Iy nxt Ix s0 Fin)
    (hI : OwnFrom w.heap.size I) (hIy : ∀ x, OwnFrom w.heap.size (fun s => Iy s x)) (hIx : ∀ c, OwnFrom w.heap.size (Ix c)) (h0 : I s0 w) (a₁ : α → Act)
    (hassign : ∀ (l : Nat) (x : α) (W : World) (K : Act → World → Prop), K (a₁ x) W →
      assign.wpIn (F.inRound l) (n - 1 - 1) P (Exit.then K (fun _ _ _ => False)) { tmps := (ps.zip (encs x)).foldl (fun t (p, v) => t.setIfInBounds p v) a.tmps, defers := [] } W)
    (hbody : ∀ (l : Nat) (s : β) (x : α) (W : World), Iy s x W → body.wpIn (F.inRound l) (n - 1 - 1) P (statePost w.heap.size (I (nxt s x)) (fun c => Ix c (nxt s x)) W) (a₁ x) W)
    (hdone : ∀ (D : Nat) (s : β) (W : World), w.heap.size ≤ D → Fin s → I s W → W.heap[D]? = some (.deferred (some [])) → Q .normal { a with defers := { target := .collected D, args := #[] } :: a.defers } W)
    (hstop : ∀ (D : Nat) (c : Code) (s : β) (W : World), w.heap.size ≤ D → Ix c s W → W.heap[D]? = some (.deferred (some [])) → c.wpIn F n P Q { a with defers := { target := .collected D, args := #[] } :: a.defers } W) :
    (Code.rangeFunc g ps assign body).wpIn F n P Q a w := by
  refine wpIn_rangeFunc ?_
  intro fn hfn
  rw [hro]
  obtain ⟨rec, hrec⟩ : ∃ rec : LoopState → Option Code → Loop, rec = fun st pe => { state := st, pending := pe, fn, tmps := a.tmps, params := ps, assign, body, defers := w.heap.size } := ⟨_, rfl⟩
  obtain ⟨W1, hW1⟩ : ∃ W1, (w.alloc (.deferred (some []))).alloc (.loop (rec .ready none)) = W1 := ⟨_, rfl⟩
  have hL1 : W1.heap[w.heap.size + 1]? = some (.loop (rec .ready none)) := by
    rw [← hW1]; have := World.alloc_heap_new (w.alloc (.deferred (some []))) (.loop (rec .ready none)); rwa [World.size_alloc] at this
  have hK1 : W1.heap[w.heap.size]? = some (.deferred (some [])) := by
    rw [← hW1]; exact (Below.heap_alloc _ _ _ (by simp)).trans (World.alloc_heap_new w _)
  have hI1 : I s0 W1 := by rw [← hW1]; exact hI.alloc _ (hI.alloc _ h0)
  refine ⟨w.heap.size + 1, [{ target := .collected w.heap.size, args := #[] }], W1, { target := .fn (.func gf) lb, args := #[.func (.yield (w.heap.size + 1)) #[] #[]] }, W1, gf,
    #[.func (.yield (w.heap.size + 1)) #[] #[]] ++ lb, W1, ?_, ?_, ?_, ?_, fun _ => h1, ?_⟩
  · rw [← hW1, hrec]; exact run_enterLoop_outer _ _ _ _ _
  · simp only [resolve, hg]
    simp [go_sem]
  · intro f' hf'; simp [Target.leads] at hf'; subst hf'; exact hFg
  · simp [invoke, go_sem, eg]
  · -- the record's two blocks are kept by whatever keeps what is no cells
    have hput : ∀ (W : World) (o o' : Obj), W.heap[w.heap.size + 1]? = some o → W.heap[w.heap.size]? = some (.deferred (some [])) →
        (W.putObj (w.heap.size + 1) o').heap[w.heap.size + 1]? = some o' ∧ (W.putObj (w.heap.size + 1) o').heap[w.heap.size]? = some (.deferred (some [])) := fun W o o' hl hk =>
      ⟨World.putObj_heap_same (Array.getElem?_eq_some_iff.1 hl).1, (World.putObj_heap_other (by omega)).trans hk⟩
    refine (hseq (w.heap.size + 1)
      (fun W => W.heap[w.heap.size + 1]? = some (.loop (rec .ready none)) ∧ W.heap[w.heap.size]? = some (.deferred (some [])))
      (fun c W => W.heap[w.heap.size + 1]? = some (.loop (rec .done (some c))) ∧ W.heap[w.heap.size]? = some (.deferred (some [])))
      (fun W W' hR hk => ⟨hk.same _ _ (by omega) hR.1 rfl, hk.same _ _ (Nat.le_refl _) hR.2 rfl⟩) ?_ W1 hI1 ⟨hL1, hK1⟩).mono ?_
    · -- one round
      rintro s x W hi ⟨hl, hk⟩
      have hy := run_yield (P := P) (args := encs x) hl (by rw [hrec]; exact hps x)
      rw [hrec] at hy
      refine ⟨fn, _, assign, body, hy, roundIn_of_wpIn hfn (hassign _ x W _ ⟨_, run_beginRound hl (by rw [hrec]), ?_⟩)⟩
      obtain ⟨hl2, hk2⟩ := hput W _ (.loop { rec .ready none with state := .busy }) hl hk
      refine wpIn_mono (hbody _ s x _ ((hIy x).putObj _ hi (by omega) hl rfl)) ?_
      have fin : ∀ (jump : Option Code) (W3 : World), KeepsFrom w.heap.size (W.putObj (w.heap.size + 1) (.loop { rec .ready none with state := .busy })) W3 →
          (Instr.endRound (w.heap.size + 1) jump).run P W3 = .ok (.bool jump.isNone) (W3.putObj (w.heap.size + 1) (.loop (rec (if jump.isNone then .ready else .done) jump))) ∧
          W3.heap[w.heap.size + 1]? = some (.loop { rec .ready none with state := .busy }) ∧
          (W3.putObj (w.heap.size + 1) (.loop (rec (if jump.isNone then .ready else .done) jump))).heap[w.heap.size + 1]? = some (.loop (rec (if jump.isNone then .ready else .done) jump)) ∧
          (W3.putObj (w.heap.size + 1) (.loop (rec (if jump.isNone then .ready else .done) jump))).heap[w.heap.size]? = some (.deferred (some [])) := fun jump W3 hk3 => by
        have hl3 := hk3.same _ _ (by omega) hl2 rfl
        have hd3 := hk3.same _ _ (Nat.le_refl _) hk2 rfl
        have hrun := run_endRound (P := P) jump hl3
        obtain ⟨h4, h5⟩ := hput W3 _ (.loop (rec (if jump.isNone then .ready else .done) jump)) hl3 hd3
        refine ⟨?_, hl3, h4, h5⟩
        rw [hrun, hrec]
      rintro e a3 W3 hp
      cases e with
      | normal =>
        obtain ⟨hk3, hi3⟩ := hp
        obtain ⟨hr, hl3, hl4, hk4⟩ := fin none W3 hk3
        exact ⟨_, _, hr, .inl ⟨rfl, hI.putObj _ hi3 (by omega) hl3 rfl, hl4, hk4⟩⟩
      | ret =>
        obtain ⟨hk3, hi3⟩ := hp
        obtain ⟨hr, hl3, hl4, hk4⟩ := fin (some .ret) W3 hk3
        exact ⟨_, _, hr, .inr ⟨rfl, .ret, (hIx _).putObj _ hi3 (by omega) hl3 rfl, hl4, hk4⟩⟩
      | exit id =>
        obtain ⟨hk3, hi3⟩ := hp
        obtain ⟨hr, hl3, hl4, hk4⟩ := fin (some (.exit id)) W3 hk3
        exact ⟨_, _, hr, .inr ⟨rfl, .exit id, (hIx _).putObj _ hi3 (by omega) hl3 rfl, hl4, hk4⟩⟩
      | goto t =>
        obtain ⟨hk3, hi3⟩ := hp
        obtain ⟨hr, hl3, hl4, hk4⟩ := fin (some (.goto t)) W3 hk3
        exact ⟨_, _, hr, .inr ⟨rfl, .goto t, (hIx _).putObj _ hi3 (by omega) hl3 rfl, hl4, hk4⟩⟩
      | panic ch => exact hp.elim
      | outgrown => exact hp.elim
    · -- behind the iterator
      rintro e W2 ⟨⟨v, rfl⟩, (⟨s, hS, hi, hl, hk⟩ | ⟨c, s, hi, hl, hk⟩)⟩
      · have hrun := run_endLoop (P := P) hl (by rw [hrec]; simp)
        rw [hrec] at hrun
        exact ⟨none, _, hrun, hdone _ s _ (Nat.le_refl _) hS (hI.putObj _ hi (by omega) hl rfl) ((World.putObj_heap_other (by omega)).trans hk)⟩
      · have hrun := run_endLoop (P := P) hl (by rw [hrec]; simp)
        rw [hrec] at hrun
        exact ⟨some c, _, hrun, hstop _ c s _ (Nat.le_refl _) ((hIx c).putObj _ hi (by omega) hl rfl) ((World.putObj_heap_other (by omega)).trans hk)⟩

end Go.Proofs.Ytldmokjpfnakkaa

/- journal: the walk of records' iterator and of Scan. -/
namespace Go.Proofs.Ytldmokjpfnakkaa
open Go.RowKit Go.Shelf
attribute [local go_sem] Oper.semAt_some

theorem Sb.below {w w' : World} {A : Option Addr} {n c : Nat} {bs : List UInt8} (h : Sb w A n c bs) (hb : Below w.heap.size w w') : Sb w' A n c bs := h.all hb
theorem Sb.skip {w : World} {b off n c m o' : Nat} {bs : List UInt8} (h : Sb w (some ⟨b, off, none⟩) n c bs) (hm : m ≤ n) (ho : c ≠ m → o' = off + m) : Sb w (some ⟨b, o', none⟩) (n - m) (c - m) (bs.drop m) := by
  obtain ⟨h1, h2, h3, ⟨h4, h5⟩ | ⟨b', off', h4, h5⟩⟩ := h
  · cases h4
  · injection h4 with h4
    injection h4 with h4 h6 _
    subst h4 h6
    refine ⟨by rw [List.length_drop, h1], by omega, by omega, .inr ⟨b, o', rfl, h5.1, fun j hj => ?_⟩⟩
    rw [ho (by omega), Nat.add_assoc, h5.2 (m + j) (by omega)]
    unfold vByte
    rw [List.getElem?_drop]
theorem first_drop {k : Int} {r x : List UInt8} {m : Nat} (h : FirstIs k r (some x)) (hm : m = (frameB k x).length) : r = frameB k x ++ r.drop m ∧ m ≤ r.length ∧ 0 < m := by
  obtain ⟨s, rfl⟩ := h
  have := frameB_pos k x
  subst hm
  rw [List.drop_left, List.length_append]
  exact ⟨rfl, by omega, this⟩
def bsOf (L : List Bz) : List (List UInt8) := L.map Bz.bs
theorem bsOf_snoc (L : List Bz) (z : Bz) : bsOf (L ++ [z]) = bsOf L ++ [z.bs] := by simp [bsOf]
theorem bsOf_length (L : List Bz) : (bsOf L).length = L.length := by simp [bsOf]

set_option maxRecDepth 100000 in
set_option maxHeartbeats 1000000 in
theorem recs1_in (l Bs : Nat) (w : World) (bs : List UInt8) (hbs : bs.length ≤ 1099511627776) (J : List Bz → List UInt8 → World → Prop) (Jx : World → Prop)
    (hJ : Hid (∀ L r W, J L r W → ∃ A n c, Blk W Bs 23 #[.slice A n c] ∧ Sb w A n c r ∧ Below w.heap.size w W))
    (hB : Hid (∀ L r W W', J L r W → Below W.heap.size W W' → J L r W'))
    (hS : Hid (∀ L r r' W A n c, J L r W → Sb w A n c r' → J L r' (W.setCell ⟨Bs, 0, none⟩ (.slice A n c))))
    (hY : Hid (∀ L r z (m : Nat) W, J L r W → z.ok W → z.low w.heap.size → L.length ≤ bs.length → m ≤ bs.length → m = (frameB (L.length : Nat) z.bs).length → (framesB 0 (bsOf L)).length + m ≤ bs.length → YieldAt Fence.wide 4 Try.prog l #[.slice z.A z.n z.c, .int .i64 (m : Int)] W fun e W' =>
      (e = .returned (.bool true) ∧ J (L ++ [z]) r W') ∨ (e = .returned (.bool false) ∧ Jx W')))
    (W : World) (h0 : J [] bs W) :
    CallsIn Fence.wide 5 Try.prog 63 #[.func (.yield l) #[] #[], .pointer (some ⟨Bs, 0, none⟩)] W fun e W' => (∃ v, e = .returned v) ∧ ((∃ L r, (bs = framesB 0 (bsOf L) ++ r ∧ FirstIs (L.length : Nat) r none) ∧ J L r W') ∨ Jx W') := by
  refine callsIn_of_wp Try.func63 rfl trivial ?_ rfl
  simp only [Try.ntmps63, List.size_toArray, List.length_cons, List.length_nil, Nat.reduceAdd, Nat.reduceSub, Array.replicate_succ, Array.replicate_zero, List.push_toArray, List.append_toArray, List.nil_append, List.cons_append]
  gi_wp2
  gi_loopw [3] (fun v wr => ∃ (k : Nat) (L : List Bz) (r : List UInt8), k ≤ bs.length ∧ Hid (L.length = k) ∧ v = .int .i64 (k : Int) ∧ Hid (bs = framesB 0 (bsOf L) ++ r) ∧ J L r wr) (fun v _ => bs.length + 1 - (intOf v).toNat)
  case atStart => exact ⟨0, [], bs, Nat.zero_le _, Lib.hid rfl, rfl, Lib.hid rfl, h0⟩
  case round =>
    obtain ⟨k, L, r, hk, HK, rfl, HE, hJr⟩ := hrel
    obtain ⟨A, n, c, hb, hs, hw⟩ := hJ.out L r wr hJr
    have hcell : wr.cell? ⟨Bs, 0, none⟩ = some (.slice A n c) := by simpa using hb.cell 0
    have hrl : (framesB 0 (bsOf L)).length + r.length = bs.length := by rw [← List.length_append, ← HE.out]
    have hn : n ≤ 1099511627776 := by have := hs.1; omega
    have HSb := Lib.hid (hs.below hw)
    clear hb
    gi_wp2_with fail
    refine ⟨trivial, ?_⟩
    refine (callsIn_wide.2 (first_any _ _ _ _ r _ HSb (by omega) (by omega) hn)).mono ?_
    rintro e w1 (⟨rfl, hno, hb1⟩ | ⟨z, m, rfl, hz, hyes, HM, hzl, hb1⟩)
    · have HN := Lib.hid hno
      have hJ1 := hB.out L r wr w1 hJr hb1
      clear hno hb1 hs hw hcell
      gi_wp2
      refine ⟨fun f h => (by cases h), ?_⟩
      gi_wp2
      refine bodyPost_ret (results_none rfl _ _ _) rfl ?_
      exact ⟨⟨_, rfl⟩, .inl ⟨L, r, ⟨HE.out, by rw [HK.out]; exact HN.out⟩, hJ1⟩⟩
    · have hJ1 := hB.out L r wr w1 hJr hb1
      obtain ⟨he, hml, hm0⟩ := first_drop hyes HM.out
      have HD := Lib.hid he
      obtain ⟨fn, tmps, assign, body, hy, hR3⟩ := hY.out L r z m w1 hJ1 hz (hzl.mono hw.size) (by rw [HK.out]; exact hk) (by omega) (by rw [HK.out]; exact HM.out) (by omega)
      clear he hb1 hs hw hcell hyes hzl
      gi_wp2
      refine hR3.mono ?_
      rintro e W3 (⟨rfl, hJ3⟩ | ⟨rfl, hJx3⟩)
      · obtain ⟨A3, n3, c3, hb3, hs3, hw3⟩ := hJ.out _ r W3 hJ3
        have hl3 := hs3.1
        obtain ⟨b3, o3, rfl, -⟩ := hs3.rd (by omega)
        have hcell : W3.cell? ⟨Bs, 0, none⟩ = some (.slice (some ⟨b3, o3, none⟩) n3 c3) := by simpa using hb3.cell 0
        have hfr : W3.frozen? ⟨Bs, 0, none⟩ = false := hb3.frozen 0
        have hnc3 := hs3.2.1
        have hcm3 := hs3.2.2.1
        have hmn3 : m ≤ n3 := by omega
        have HS1 : Hid (J (L ++ [z]) (r.drop m) (W3.setCell ⟨Bs, 0, none⟩ (.slice (if c3 = m then some ⟨b3, o3, none⟩ else some ⟨b3, o3 + m, none⟩) (n3 - m) (c3 - m)))) := Lib.hid (by
          split
          · exact hS.out _ r _ W3 _ _ _ hJ3 (hs3.skip hmn3 (by omega))
          · exact hS.out _ r _ W3 _ _ _ hJ3 (hs3.skip hmn3 (by omega)))
        have HE2 : Hid (bs = framesB 0 (bsOf (L ++ [z])) ++ r.drop m) := Lib.hid (by
          rw [bsOf_snoc, framesB_snoc, List.append_assoc, Nat.zero_add, bsOf_length, HK.out, ← HD.out]
          exact HE.out)
        have hk2 : k + 1 ≤ bs.length := by
          have h1 := framesB_len (bsOf (L ++ [z])) 0
          rw [bsOf_length, List.length_append] at h1
          have h2 := congrArg List.length HE2.out
          rw [List.length_append] at h2
          have := HK.out
          simp at h1
          omega
        have HK2 := Lib.hid (show (L ++ [z]).length = k + 1 by rw [List.length_append, HK.out]; rfl)
        clear hb3 hs3 hw3 hJ3 hJ1 hJr hl3
        gi_wp2
        all_goals exact ⟨⟨k + 1, L ++ [z], r.drop m, hk2, HK2, by go_num, HE2, HS1.out⟩, by simp [intOf]; omega⟩
      · gi_wp2
        refine bodyPost_ret (results_none rfl _ _ _) rfl ?_
        exact ⟨⟨_, rfl⟩, .inr hJx3⟩

/-- Scan's own state: the list, the length, what is left; L: the records so far. -/
structure ScanI (w : World) (L : List Bz) (r : List UInt8) (W : World) : Prop where
  low : ∀ z ∈ L, z.low w.heap.size
  bl : ∃ v, Blk W w.heap.size 27 #[v] ∧ LsOwn W (w.heap.size + 3) v L
  bt : Blk W (w.heap.size + 1) 3 #[.int .i64 (((framesB 0 (bsOf L)).length : Nat) : Int)]
  bb : ∃ A n c, Blk W (w.heap.size + 2) 23 #[.slice A n c] ∧ Sb w A n c r
  below : Below w.heap.size w W
theorem ScanI.mod {w W W' : World} {L : List Bz} {r : List UInt8} {F : Nat → Prop} (h : ScanI w L r W) (m : Mod F W W') (hF : ∀ b, F b → w.heap.size ≤ b ∧ ∀ t, ¬ Ty W b t) : ScanI w L r W' := by
  obtain ⟨h0, ⟨v, h1, h2⟩, h3, ⟨A, n, c, h4, h5⟩, h6⟩ := h
  refine ⟨h0, ⟨v, m.blk h1 (fun hf => (hF _ hf).2 _ h1.ty), h2.mod m (fun g e hf => (hF _ hf).2 _ (Ty.of_own h2.1 e)) (fun b hf => (hF b hf).2 _)⟩, m.blk h3 (fun hf => (hF _ hf).2 _ h3.ty), ⟨A, n, c, m.blk h4 (fun hf => (hF _ hf).2 _ h4.ty), h5⟩, m.below h6 h6.size (fun b hf => (hF b hf).1)⟩
theorem ScanI.all {w W W' : World} {L : List Bz} {r : List UInt8} (h : ScanI w L r W) (hb : Below W.heap.size W W') : ScanI w L r W' := h.mod (F := fun _ => False) (Mod.of_below _ hb) (fun _ hf => hf.elim)
theorem ScanI.own {w : World} {L : List Bz} {r : List UInt8} {B : Nat} (hB : w.heap.size ≤ B) {W W' : World} {row : Option Nat} (h : ScanI w L r W) (hg : W.grownBy W' row) (hr : ∀ r, row = some r → B ≤ r ∧ ∃ o : Obj, W.heap[r]? = some o ∧ o.isCells = false) : ScanI w L r W' := by
  refine h.mod (F := fun b => row = some b) (Mod.of_grown hg (fun g e => .inl e)) (fun b e => ?_)
  obtain ⟨h1, o, h2, h3⟩ := hr b e
  refine ⟨by omega, fun t ht => ?_⟩
  obtain ⟨cs, fr, h4⟩ := ht
  rw [h2] at h4
  injection h4 with h4
  subst h4
  cases h3
theorem ScanI.cut {w W : World} {L : List Bz} {r r' : List UInt8} {A : Option Addr} {n c : Nat} (h : ScanI w L r W) (hs : Sb w A n c r') : ScanI w L r' (W.setCell ⟨w.heap.size + 2, 0, none⟩ (.slice A n c)) := by
  obtain ⟨h0, ⟨v, h1, h2⟩, h3, ⟨A', n', c', h4, h5⟩, h6⟩ := h
  have m : Mod (fun b => b = w.heap.size + 2) W (W.setCell ⟨w.heap.size + 2, 0, none⟩ (.slice A n c)) := (Mod.refl (fun b => b = w.heap.size + 2) W).set (p := ⟨w.heap.size + 2, 0, none⟩) (.inl rfl) _
  refine ⟨h0, ⟨v, m.blk h1 (by omega), h2.mod m (fun g e hf => ?_) (fun b hf ht => ?_)⟩, m.blk h3 (by omega), ⟨A, n, c, by simpa using h4.set_ 0 (.slice A n c), hs⟩, m.below h6 h6.size (fun b hf => by omega)⟩
  · subst hf
    have := (h2.1.lt _ e).1
    omega
  · subst hf
    exact absurd (Ty.unique h4.ty ht) (by decide)

theorem records_in (n : Nat) (A : Option Addr) (len cap : Nat) (w : World) :
    CallsIn Fence.wide n Try.prog 42 #[.slice A len cap] w fun e w' => e = .returned (.func (.func 63) #[] #[.pointer (some ⟨w.heap.size, 0, none⟩)]) ∧ w.alloc (.cells #[.slice A len cap] 23) = w' := by
  refine callsIn_of_wp Try.func42 rfl trivial ?_ rfl
  simp only [Try.ntmps42, List.size_toArray, List.length_cons, List.length_nil, Nat.reduceAdd, Nat.reduceSub, Array.replicate_succ, Array.replicate_zero, List.push_toArray, List.append_toArray, List.nil_append, List.cons_append]
  gi_wp2
  go_ret
  exact ⟨rfl, rfl⟩

theorem scan_state (w : World) (bs : List UInt8) (hbs : bs.length ≤ 1099511627776) (B : Nat) (Ix : Code → List Bz × List UInt8 → World → Prop) :
    SeqState Fence.wide 5 Try.prog 63 #[.pointer (some ⟨w.heap.size + 2, 0, none⟩)] (fun x : Bz × Nat => #[Value.slice x.1.A x.1.n x.1.c, .int .i64 (x.2 : Int)]) B
      (fun s W => ScanI w s.1 s.2 W) (fun s x W => ScanI w s.1 s.2 W ∧ x.1.ok W ∧ x.1.low w.heap.size ∧ s.1.length ≤ bs.length ∧ x.2 ≤ bs.length ∧ x.2 = (frameB (s.1.length : Nat) x.1.bs).length ∧ (framesB 0 (bsOf s.1)).length + x.2 ≤ bs.length) (fun s x => (s.1 ++ [x.1], s.2)) Ix ([], bs) (fun s => bs = framesB 0 (bsOf s.1) ++ s.2 ∧ FirstIs (s.1.length : Nat) s.2 none) := by
  intro l R Rx hR hY W h0 hR0
  refine (recs1_in l (w.heap.size + 2) w bs hbs (fun L r W => ScanI w L r W ∧ R W) (fun W => ∃ c s, Ix c s W ∧ Rx c W) ?_ ?_ ?_ ?_ W ⟨h0, hR0⟩).mono ?_
  · rintro L r W ⟨h, _⟩
    obtain ⟨A, n, c, h4, h5⟩ := h.bb
    exact ⟨A, n, c, h4, h5, h.below⟩
  · rintro L r W W' ⟨h, hr⟩ hb
    exact ⟨h.all hb, hR _ _ hr ⟨hb.size, fun k _ _ hk _ => (hb.block k (Array.getElem?_eq_some_iff.1 hk).1).trans hk⟩⟩
  · rintro L r r' W A n c ⟨h, hr⟩ hs
    exact ⟨h.cut hs, hR _ _ hr ((KeepsOthers.setCell _ _ _).from _)⟩
  · rintro L r z m W ⟨h, hr⟩ hz hzl hL hm hm2 hm3
    obtain ⟨fn, tmps, assign, body, hy, hr3⟩ := hY (L, r) (z, m) W ⟨h, hz, hzl, hL, hm, hm2, hm3⟩ hr
    exact ⟨fn, tmps, assign, body, hy, hr3.mono fun e W' hh => hh.imp (fun ⟨a, b, c⟩ => ⟨a, b, c⟩) (fun ⟨a, c, b⟩ => ⟨a, c, _, b⟩)⟩
  · rintro e W' ⟨he, (⟨L, r, hf, h, hr⟩ | ⟨c, s, hx, hrx⟩)⟩
    · exact ⟨he, .inl ⟨(L, r), hf, h, hr⟩⟩
    · exact ⟨he, .inr ⟨c, s, hx, hrx⟩⟩

/-- What Scan returns. -/
def ScanPost (bs : List UInt8) (w : World) (e : Ending) (w' : World) : Prop :=
  ∃ (v : Value) (L : List Bz) (m : Nat), e = .returned (.tuple #[v, .int .i64 (m : Int)]) ∧ LsOwn w' w.heap.size v L ∧ ScanIs bs (bsOf L) m ∧ Below w.heap.size w w'
def ScanPost2 (bs : List UInt8) (w : World) (e : Ending) (w' : World) : Prop :=
  ∃ (v : Value) (L : List Bz) (m : Nat), e = .returned (.tuple #[v, .int .i64 (m : Int)]) ∧ LsOwn w' w.heap.size v L ∧ ScanIs bs (bsOf L) m ∧ Below w.heap.size w w' ∧ ∀ z ∈ L, z.low w.heap.size
set_option maxRecDepth 100000 in
set_option maxHeartbeats 1000000 in
theorem scan2_any (A : Option Addr) (n c : Nat) (bs : List UInt8) (w : World) (HS : Hid (Sb w A n c bs)) (hn : n ≤ 1099511627776) :
    Calls Try.prog 15 #[.slice A n c] w (ScanPost2 bs w) := by
  have hbs : bs.length ≤ 1099511627776 := by have := HS.out.1; omega
  refine (callsIn_wide (n := 6)).1 ?_
  refine callsIn_of_wp_marks Try.func15 rfl trivial ?_ rfl
  simp only [Try.ntmps15, List.size_toArray, List.length_cons, List.length_nil, Nat.reduceAdd, Nat.reduceSub, Array.replicate_succ, Array.replicate_zero, List.push_toArray, List.append_toArray, List.nil_append, List.cons_append]
  gi_wp2_with (refine ⟨trivial, ?_⟩; gi_at_call 42; refine (records_in _ _ _ _ _).mono ?_; rintro e w' ⟨rfl, rfl⟩)
  obtain ⟨W0, hW0⟩ : ∃ W0, ((w.alloc (.cells #[.slice none 0 0] 27)).alloc (.cells #[.int .i64 0] 3)).alloc (.cells #[.slice A n c] 23) = W0 := ⟨_, rfl⟩
  have hsz : W0.heap.size = w.heap.size + 3 := by rw [← hW0]; simp
  have hI0 : ScanI w [] bs W0 := by
    rw [← hW0]
    refine ⟨fun _ h => absurd h (by simp), ⟨.slice none 0 0, Blk.alloc (Blk.alloc (Blk.new _ _ _) _) _, LsOwn.nil _ _⟩, ?_, ⟨A, n, c, ?_, HS.out⟩, (((Below.refl _ w).alloc (Nat.le_refl _) _).alloc (by simp) _).alloc (by simp; omega) _⟩
    · have := Blk.alloc (Blk.new (w.alloc (.cells #[.slice none 0 0] 27)) 3 #[.int .i64 0]) (.cells #[.slice A n c] 23)
      rw [World.size_alloc] at this
      exact this
    · have := Blk.new ((w.alloc (.cells #[.slice none 0 0] 27)).alloc (.cells #[.int .i64 0] 3)) 23 #[.slice A n c]
      rw [World.size_alloc, World.size_alloc] at this
      exact this
  rw [hW0]
  have HSZ := Lib.hid hsz
  clear hsz hW0
  refine range_state (β := List Bz × List UInt8) (α := Bz × Nat) rfl (by decide) (gf := 63) (lb := #[.pointer (some ⟨w.heap.size + 2, 0, none⟩)]) rfl trivial (enters_of Try.func63 (by kernel_rfl) rfl)
      (encs := fun x : Bz × Nat => #[Value.slice x.1.A x.1.n x.1.c, .int .i64 (x.2 : Int)]) (fun _ => rfl)
      (fun s W => ScanI w s.1 s.2 W) (fun s x W => ScanI w s.1 s.2 W ∧ x.1.ok W ∧ x.1.low w.heap.size ∧ s.1.length ≤ bs.length ∧ x.2 ≤ bs.length ∧ x.2 = (frameB (s.1.length : Nat) x.1.bs).length ∧ (framesB 0 (bsOf s.1)).length + x.2 ≤ bs.length) (fun s x => (s.1 ++ [x.1], s.2))
      (fun _ _ _ => False) ([], bs) (fun s => bs = framesB 0 (bsOf s.1) ++ s.2 ∧ FirstIs (s.1.length : Nat) s.2 none)
      (scan_state w bs hbs _ _)
      (fun s A B row hs hg hr => hs.own (by have := HSZ.out; omega) hg hr) ?hIy
      (fun c s A B row hs hg hr => hs)
      hI0
      (fun x => { tmps := #[.slice A n c, undef, .slice none 0 0, .int .i64 0, .pointer (some ⟨w.heap.size, 0, none⟩), .pointer (some ⟨w.heap.size + 1, 0, none⟩), .slice x.1.A x.1.n x.1.c, .int .i64 (x.2 : Int), .slice A n c, .func (.func 63) #[] #[.pointer (some ⟨w.heap.size + 2, 0, none⟩)], .slice x.1.A x.1.n x.1.c, .int .i64 (x.2 : Int), undef, undef, undef, undef, undef, undef, undef, undef, undef], defers := [] }) ?assign ?body ?done ?stop
  case hIy =>
    rintro x s W W' row ⟨h1, h2, h3⟩ hg hr
    refine ⟨h1.own (by have := HSZ.out; omega) hg hr, h2.mod (F := fun b => row = some b) (Mod.of_grown hg (fun g e => .inl e)) (fun b e ht => ?_), h3⟩
    obtain ⟨-, o, h4, h5⟩ := hr b e
    obtain ⟨cs, fr, h6⟩ := ht
    rw [h4] at h6
    injection h6 with h6
    subst h6
    cases h5
  case assign =>
    intro l x W K hK
    gi_wp2
    exact hK
  case body =>
    rintro l ⟨L, r⟩ ⟨z, m⟩ W ⟨hI, hz, hzl, hL, hm, hm2, hm3⟩
    dsimp only at hI hz hzl hL hm hm2 hm3 ⊢
    obtain ⟨h0, ⟨v, h1, h2⟩, h3, h4, h5⟩ := hI
    have hL2 : L.length < 1099511627776 := by
      have := framesB_len (bsOf L) 0
      rw [bsOf_length] at this
      have := frameB_pos (L.length : Nat) z.bs
      omega
    obtain ⟨g, cap, w1, hrun, hown, hg, hgo⟩ := h2.snoc (ty := 27) z hz hL2 (by have := h1.lt; have := h3.lt; obtain ⟨_, _, _, h4, _⟩ := h4; have := h4.lt; omega)
    have hvb : ∀ b, v.ownBlock = some b → w.heap.size + 3 ≤ b := fun b e => (h2.1.lt b e).1
    have m1 : Mod (fun b => v.ownBlock = some b) W w1 := Mod.of_grown hg (fun b e => .inl e)
    have hc0 : W.cell? ⟨w.heap.size, 0, none⟩ = some v := by simpa using h1.cell 0
    have hk1 : Blk w1 w.heap.size 27 #[v] := m1.blk h1 (fun e => by have := hvb _ e; omega)
    have hk3 := m1.blk h3 (fun e => by have := hvb _ e; omega)
    have hd0 : w1.cell? ⟨w.heap.size, 0, none⟩ = some v := by simpa using hk1.cell 0
    have hd1 : w1.frozen? ⟨w.heap.size, 0, none⟩ = false := hk1.frozen 0
    have he0 : w1.cell? ⟨w.heap.size + 1, 0, none⟩ = some (.int .i64 (((framesB 0 (bsOf L)).length : Nat) : Int)) := by simpa using hk3.cell 0
    have he1 : w1.frozen? ⟨w.heap.size + 1, 0, none⟩ = false := hk3.frozen 0
    have HK1 := Lib.hid hk1
    have HK3 := Lib.hid hk3
    have HRUN := Lib.hid hrun
    have HT := Lib.hid (show (framesB 0 (bsOf (L ++ [z]))).length = (framesB 0 (bsOf L)).length + m by rw [bsOf_snoc, framesB_snoc, List.length_append, Nat.zero_add, bsOf_length, ← hm2])
    have HFIN : Hid (ScanI w (L ++ [z]) r ((w1.setCell ⟨w.heap.size, 0, none⟩ (.slice (some ⟨g, 0, none⟩) (L.length + 1) cap)).setCell ⟨w.heap.size + 1, 0, none⟩ (.int .i64 (((framesB 0 (bsOf L)).length : Nat) + (m : Int)))) ∧ KeepsFrom W0.heap.size W ((w1.setCell ⟨w.heap.size, 0, none⟩ (.slice (some ⟨g, 0, none⟩) (L.length + 1) cap)).setCell ⟨w.heap.size + 1, 0, none⟩ (.int .i64 (((framesB 0 (bsOf L)).length : Nat) + (m : Int))))) := Lib.hid (by
      obtain ⟨A', n', c', h4, h6⟩ := h4
      have hk4 := m1.blk h4 (fun e => by have := hvb _ e; omega)
      have ma : Mod (fun b => b = w.heap.size ∨ b = w.heap.size + 1) w1 ((w1.setCell ⟨w.heap.size, 0, none⟩ (.slice (some ⟨g, 0, none⟩) (L.length + 1) cap)).setCell ⟨w.heap.size + 1, 0, none⟩ (.int .i64 (((framesB 0 (bsOf L)).length : Nat) + (m : Int)))) :=
        ((Mod.refl (fun b => b = w.heap.size ∨ b = w.heap.size + 1) w1).set (p := ⟨w.heap.size, 0, none⟩) (.inl (.inl rfl)) _).set (p := ⟨w.heap.size + 1, 0, none⟩) (.inl (.inr rfl)) _
      have hbw := m1.below h5 h5.size (fun b e => by have := hvb b e; omega)
      refine ⟨⟨(fun y hy => (List.mem_append.1 hy).elim (h0 y) (fun hy => by simp at hy; subst hy; exact hzl)), ⟨_, ?_, hown.mod ma (fun b e hf => ?_) (fun b hf ht => ?_)⟩, ?_, ⟨A', n', c', ma.blk hk4 (by omega), h6⟩, ma.below hbw hbw.size (fun b hf => by omega)⟩, ?_⟩
      · exact Blk.far (by simpa using hk1.set_ 0 (.slice (some ⟨g, 0, none⟩) (L.length + 1) cap)) (by simp) _
      · have := (hown.1.lt b e).1
        omega
      · rcases hf with rfl | rfl
        · exact absurd (Ty.unique hk1.ty ht) (by decide)
        · exact absurd (Ty.unique hk3.ty ht) (by decide)
      · rw [HT.out]
        have := Blk.set_ (Blk.far (p := ⟨w.heap.size, 0, none⟩) hk3 (by simp) (.slice (some ⟨g, 0, none⟩) (L.length + 1) cap)) 0 (.int .i64 (((framesB 0 (bsOf L)).length : Nat) + (m : Int)))
        simpa using this
      · refine KeepsFrom.trans (Y := w1) ⟨hg.size, fun k o _ hk ho => ?_⟩ (((KeepsOthers.setCell _ _ _).trans (KeepsOthers.setCell _ _ _)).from _)
        refine (hg.block k (Array.getElem?_eq_some_iff.1 hk).1 (fun e => ?_)).trans hk
        obtain ⟨cs, fr, hh⟩ := Ty.of_own h2.1 e.symm
        rw [hh] at hk
        injection hk with hk
        subst hk
        cases ho)
    clear hown hg hgo m1 hk1 hk3 h1 h2 h3 h4 h5 hrun hm2 h0 hzl
    gi_wp2_with (gi_at_builtin; refine wpListIn_append_run HRUN.out rfl rfl rfl rfl ?_)
    exact ⟨HFIN.out.2, HFIN.out.1⟩
  case done =>
    rintro D ⟨L, r⟩ W hD ⟨hfin1, hfin2⟩ hI hK
    dsimp only at hfin1 hfin2 hI
    obtain ⟨h0, ⟨v, h1, h2⟩, h3, h4, h5⟩ := hI
    have hc0 : W.cell? ⟨w.heap.size, 0, none⟩ = some v := by simpa using h1.cell 0
    have he0 : W.cell? ⟨w.heap.size + 1, 0, none⟩ = some (.int .i64 (((framesB 0 (bsOf L)).length : Nat) : Int)) := by simpa using h3.cell 0
    have HF1 := Lib.hid hfin1
    have HF2 := Lib.hid hfin2
    clear hfin1 hfin2
    gi_wp2
    gi_region
    gi_wp2
    have hK2 : (W.drew).heap[D]? = some (.deferred (some [])) := hK
    refine ⟨by simp, .inl ⟨_, _, rfl, run_takeDeferred hK2, ?_⟩⟩
    have hm : Mod (fun b => b = D) W ((W.drew).putObj D (.deferred none)) := by
      have := grownBy_putObj' W.drew D (.deferred none)
      exact ⟨this.os, this.tape, this.output, this.size, fun k hk hne => this.block k hk (fun e => hne (by injection e))⟩
    have hD2 : ∀ t, ¬ Ty W D t := by
      rintro t ⟨cs, fr, hh⟩
      rw [hK] at hh
      cases hh
    refine ⟨.tuple #[v, .int .i64 (((framesB 0 (bsOf L)).length : Nat) : Int)], by simp [results, Try.f15, go_sem], v, L, _, rfl, LsOwn.lower (h2.mod hm (fun g e hf => ?_) (fun b hf => by rw [hf]; exact hD2 _)) (by omega), ⟨rfl, r, HF1.out, by rw [bsOf_length]; exact HF2.out⟩, hm.below h5 h5.size (fun b hf => by have := HSZ.out; omega), h0⟩
    rw [hf] at e
    exact hD2 _ (Ty.of_own h2.1 e)
  case stop =>
    rintro D c pre W _ h _
    exact h.elim
theorem scan_any (A : Option Addr) (n c : Nat) (bs : List UInt8) (w : World) (HS : Hid (Sb w A n c bs)) (hn : n ≤ 1099511627776) :
    Calls Try.prog 15 #[.slice A n c] w (ScanPost bs w) :=
  (scan2_any A n c bs w HS hn).mono fun _ _ ⟨v, L, m, h1, h2, h3, h4, _⟩ => ⟨v, L, m, h1, h2, h3, h4⟩
end Go.Proofs.Ytldmokjpfnakkaa
