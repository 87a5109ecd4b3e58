/- The walk of hash.Sum. -/
import Derived.Test.YtompkpleiichaaaHHashWords
import Derived.Maps.AppendAt

namespace Go.Proofs.Ytompkpleiichaaa
open Go.RowKit Go.Shelf
attribute [local go_sem] Oper.semAt_some

set_option maxRecDepth 100000 in
set_option maxHeartbeats 1000000 in
theorem hsum_any (label : ByteArray) (A : Option Addr) (len cap B : Nat) (ws : List Int) (w : World) (HL : Hid (ws.length = len)) (hlab : label.size ≤ 140737488351232) (hmax : len ≤ 140737488351232)
    (hB : B ≤ w.heap.size) (hR : Rd w B A len (vInt ws)) :
    Calls Try.prog 18 #[.string label, .slice A len cap] w fun e w' => e = .returned (.int .u64 (sumI label.data.toList ws)) ∧ Below w.heap.size w w' := by
  obtain ⟨c1, w1, hconv, hc1, hz1, hb1, hr1⟩ := conv_bytes (P := Try.prog) (w.alloc (.cells #[.int .u64 0] 22)) 9 23 5 label Try.underlying9 Try.underlying23 Try.underlying5
  rw [World.size_alloc] at hconv hz1 hb1 hr1
  have HZ := Lib.hid hz1; clear hz1
  refine (callsIn_wide (n := 5)).1 ?_
  refine callsIn_of_wp_marks Try.func18 rfl trivial ?_ rfl
  simp only [Try.ntmps18, List.size_toArray, List.length_cons, List.length_nil, Nat.reduceAdd, Nat.reduceSub, Array.replicate_succ, Array.replicate_zero, List.push_toArray, List.append_toArray, List.nil_append, List.cons_append]
  gi_wp2_with (refine ⟨trivial, ?_⟩; gi_at_call 50; refine (wordsOf_in Fence.wide _ trivial rfl _ _ _ _).mono ?_; rintro e w' ⟨rfl, rfl⟩)
  have bS1 : Boxed w1 w.heap.size 22 (.int .u64 0) := (hb1.block _ (by omega)).trans (Boxed.new w 22 (.int .u64 0))
  have bN := Boxed.new w1 23 (.slice (some ⟨w.heap.size + 1, 0, none⟩) label.size c1)
  have hB1 : Below w.heap.size w w1 := ((Below.refl _ w).alloc (Nat.le_refl _) (.cells #[.int .u64 0] 22)).trans (hb1.mono (by omega))
  have hB2 := hB1.alloc (by have := HZ.out; omega) (.cells #[.slice (some ⟨w.heap.size + 1, 0, none⟩) label.size c1] 23)
  refine wpIn_rangeFunc_ownG rfl (by decide) (gf := 72) (lb := #[.pointer (some ⟨w1.heap.size, 0, none⟩)]) rfl trivial (enters_of Try.func72 (by kernel_rfl) rfl)
    (words_stops Fence.wide _ trivial rfl (by decide) w1.heap.size (w.heap.size + 1 + 1) label.size c1 _ label.data.toList (by simp) hc1 hlab _ (by simp) (by have := HZ.out; simp; omega) bN.cell (hr1.alloc (by have := HZ.out; omega) _))
    (fun h k => h.trans k) ?hKb (Below.refl _ _) (fun _ => rfl)
    (fun pre W => Boxed W w.heap.size 22 (.int .u64 (mixAll 0 pre)) ∧ Below w.heap.size w W)
    (fun _ _ _ => False)
    (OwnFrom.and (Own.from (boxed_own _ _ _) _) (ownFrom_below (Nat.le_refl _) (by have := HZ.out; simp; omega)))
    (fun _ _ _ _ _ hs _ _ => hs)
    ⟨bS1.alloc _, hB2⟩
    (fun x => { tmps := #[.string label, .slice A len cap, undef, undef, .int .u64 0, .pointer (some ⟨w.heap.size, 0, none⟩), .int .u64 x, undef, undef, .string label, .slice (some ⟨w.heap.size + 1, 0, none⟩) label.size c1, .func (.func 72) #[] #[.pointer (some ⟨w1.heap.size, 0, none⟩)], .int .u64 x, undef, undef, undef, undef, undef, undef, undef, undef, undef, undef, undef, undef, undef, undef, undef, undef, undef, undef, undef, undef, undef, undef, undef, undef, undef, undef], defers := [] }) ?assign ?body ?done ?stop
  case hKb =>
    intro W l o o' hl hW _ _ k hk
    have hz := HZ.out
    rw [World.size_alloc] at hl
    refine World.putObj_heap_other ?_
    rcases hk with rfl | ⟨_, ad, h, rfl⟩
    · omega
    · injection h with h; subst h; simp; omega
  case assign =>
    intro l x W K hK
    gi_wp2
    exact hK
  case body =>
    rintro l pre x W ⟨hS, hB'⟩ _
    have hc := hS.cell
    have hf := hS.frozen
    gi_wp2_with (refine ⟨trivial, ?_⟩; gi_at_call 51; refine (CallsIn.inRound l (callsIn_wide.2 (mix_any _ _ _))).mono ?_; rintro e w' ⟨rfl, rfl⟩)
    refine ⟨(KeepsOthers.setCell _ _ _).from _, fun k hk => Below.heap_setCell _ _ _ _ ?_, by rw [mixAll_snoc]; exact hS.set _, hB'.setCell (p := ⟨w.heap.size, 0, none⟩) (Nat.le_refl _) _⟩
    have hz := HZ.out
    rcases hk with rfl | ⟨_, ad, h, rfl⟩
    · simp; omega
    · injection h with h; subst h; simp
  case done =>
    rintro D ys W hD rfl ⟨hS, hB'⟩ hK
    have hc := hS.cell
    have hf := hS.frozen
    gi_wp2_with (refine ⟨trivial, ?_⟩; gi_at_call 51; refine (callsIn_wide.2 (mix_any _ _ _)).mono ?_; rintro e w' ⟨rfl, rfl⟩)
    gi_loopw [8, 28] (fun _ i wr => ∃ j : Nat, j ≤ len ∧ i = .int .i64 (j : Int) ∧ Boxed wr w.heap.size 22 (.int .u64 (sumTo label.data.toList len ws j)) ∧ Below w.heap.size w wr ∧ Hid (wr.heap[D]? = some (.deferred (some []))))
      (fun _ i _ => len - (intOf i).toNat)
    case atStart =>
      exact ⟨0, by omega, rfl, by rw [sumTo_zero]; exact (hS.set _).set _, (hB'.setCell (p := ⟨w.heap.size, 0, none⟩) (Nat.le_refl _) _).setCell (p := ⟨w.heap.size, 0, none⟩) (Nat.le_refl _) _, (KeepsOthers.setCell _ _ _).same D _ ((KeepsOthers.setCell _ _ _).same D _ hK rfl) rfl⟩
    case round =>
      obtain ⟨j, hj, rfl, hS3, hB3, hK3⟩ := hrel
      have hc3 := hS3.cell
      have hf3 := hS3.frozen
      by_cases hlt : j < len
      · obtain ⟨b, off, rfl, hb, hcl⟩ := (hR.below hB3 hB).at_ hlt
        have hcl' : wr.cell? ⟨b, off + j, none⟩ = some (.int .i64 (ws[j]?.getD 0)) := hcl
        have HT := Lib.hid (sumTo_succ label.data.toList len ws j (by have := HL.out; omega))
        clear hcl
        gi_wp2_with (refine ⟨trivial, ?_⟩; gi_at_call 51; refine (callsIn_wide.2 (mix_any _ _ _)).mono ?_; rintro e w' ⟨rfl, rfl⟩)
        exact ⟨⟨j + 1, by omega, by go_num, by rw [HT.out]; exact hS3.set _, hB3.setCell (p := ⟨w.heap.size, 0, none⟩) (Nat.le_refl _) _, (KeepsOthers.setCell _ _ _).same D _ hK3.out rfl⟩, by simp [intOf]; omega⟩
      · obtain rfl : j = len := by omega
        gi_wp2_with (refine ⟨trivial, ?_⟩; gi_at_call 51; refine (callsIn_wide.2 (mix_any _ _ _)).mono ?_; rintro e w' ⟨rfl, rfl⟩)
        refine ⟨by simp, .inl ⟨_, _, rfl, run_takeDeferred hK3.out, ?_⟩⟩
        refine ⟨_, results_tmp rfl _ _ _, ?_, hB3.trans (belowK_b (w := w) (Nat.le_refl _) wr D _ _ (by have := HZ.out; simp at hD; omega) hK3.out rfl rfl)⟩
        rw [← sumTo_all _ _ _ HL.out]
        rfl
  case stop =>
    rintro D c pre W _ _ h _
    exact h.elim

end Go.Proofs.Ytompkpleiichaaa

/- The walks of hash.Bytes and hash.Pair. -/
namespace Go.Proofs.Ytompkpleiichaaa
open Go.RowKit Go.Shelf
attribute [local go_sem] Oper.semAt_some

theorem infoInt : (Try.prog.info? 3).map (fun i => (i.zero, i.size, i.bytes)) = some (some (.int .i64 0), 1, 8) := by kernel_rfl

theorem bytes_snoc_get (l : List UInt8) (x : UInt8) (j : Nat) (hj : j < l.length + 1) :
    (l.map (fun b => Value.int .u8 ((b.toNat : Nat) : Int)) ++ [Value.int .u8 ((x.toNat : Nat) : Int)])[j]? = some (vByte (l ++ [x]) j) := by
  simp only [vByte]
  rcases Nat.lt_or_ge j l.length with h | h
  · rw [List.getElem?_append_left (by simpa using h), List.getElem?_append_left (by simpa using h)]
    simp [h]
  · obtain rfl : j = l.length := by omega
    simp
theorem map_snoc_get (g : Int → Int) (l : List Int) (x : Int) (j : Nat) (hj : j < l.length + 1) :
    (l.map (fun y => Value.int .i64 (g y)) ++ [Value.int .i64 x])[j]? = some (vInt (l.map g ++ [x]) j) := by
  simp only [vInt]
  rcases Nat.lt_or_ge j l.length with h | h
  · rw [List.getElem?_append_left (by simpa using h), List.getElem?_append_left (by simpa using h)]
    simp [h]
  · obtain rfl : j = l.length := by omega
    simp

set_option maxRecDepth 100000 in
set_option maxHeartbeats 1000000 in
theorem hbytes_any (label : ByteArray) (A : Option Addr) (len cap B : Nat) (bs : List UInt8) (w : World) (HL : Hid (bs.length = len)) (hlab : label.size ≤ 140737488351232) (hlc : len ≤ cap) (hmax : len ≤ 35184372088832)
    (hB : B ≤ w.heap.size) (hR : Rd w B A len (vByte bs)) :
    Calls Try.prog 19 #[.string label, .slice A len cap] w fun e w' => e = .returned (.int .u64 (bytesI label.data.toList bs)) ∧ Below w.heap.size w w' := by
  obtain ⟨i0, hi, hz0, hz1, hz2⟩ := info_parts infoInt
  obtain ⟨w1, hmk, hown1, hb1, hz⟩ := make_rd (P := Try.prog) w 48 3 i0 _ 8 Try.underlying48 hi hz0 hz1 hz2 .i64 .i64 (len / 8 + 2) (by omega) (by unfold maxLen; omega)
  rw [show ((len / 8 + 2 : Nat) : Int) = (len : Int) / 8 + 2 from by omega] at hmk
  have HZ := Lib.hid hz; clear hz
  refine (callsIn_wide (n := 5)).1 ?_
  refine callsIn_of_wp_marks Try.func19 rfl trivial ?_ rfl
  simp only [Try.ntmps19, List.size_toArray, List.length_cons, List.length_nil, Nat.reduceAdd, Nat.reduceSub, Array.replicate_succ, Array.replicate_zero, List.push_toArray, List.append_toArray, List.nil_append, List.cons_append]
  gi_wp2_with (refine ⟨trivial, ?_⟩; gi_at_call 50; refine (wordsOf_in Fence.wide _ trivial rfl _ _ _ _).mono ?_; rintro e w' ⟨rfl, rfl⟩)
  have bX := Boxed.new w1 48 (.slice (some ⟨w.heap.size, 0, none⟩) 0 (len / 8 + 2))
  have bN := Boxed.new (w1.alloc (.cells #[.slice (some ⟨w.heap.size, 0, none⟩) 0 (len / 8 + 2)] 48)) 23 (.slice A len cap)
  rw [World.size_alloc] at bN
  have hB2 := (hb1.alloc (by have := HZ.out; omega) (.cells #[.slice (some ⟨w.heap.size, 0, none⟩) 0 (len / 8 + 2)] 48)).alloc (by have := HZ.out; simp; omega) (.cells #[.slice A len cap] 23)
  refine wpIn_rangeFunc_ownG rfl (by decide) (gf := 72) (lb := #[.pointer (some ⟨w1.heap.size + 1, 0, none⟩)]) rfl trivial (enters_of Try.func72 (by kernel_rfl) rfl)
    (words_stops Fence.wide _ trivial rfl (by decide) (w1.heap.size + 1) B len cap A bs HL.out hlc (by omega) _ (by simp) (by have := HZ.out; simp; omega) bN.cell (hR.below hB2 hB))
    (fun h k => h.trans k) ?hKb (Below.refl _ _) (fun _ => rfl)
    (fun (pre : List Int) W => (∃ v, Boxed W w1.heap.size 48 v ∧ W.ownsRow w.heap.size 3 1 v pre.length (pre.map fun x => Value.int .i64 (toI x)) ∧ True) ∧ Boxed W (w1.heap.size + 1) 23 (.slice A len cap) ∧ Below w.heap.size w W)
    (fun _ _ _ => False)
    (OwnFrom.and (Own.from (holdsRow_own w.heap.size w1.heap.size 48 3 1 (fun pre : List Int => pre.length) (fun pre : List Int => pre.map fun x => Value.int .i64 (toI x)) (fun _ _ => True)) _) (OwnFrom.and (Own.from (boxed_own _ _ _) _) (ownFrom_below (Nat.le_refl _) (by have := HZ.out; simp; omega))))
    (fun _ _ _ _ _ hs _ _ => hs)
    ⟨⟨_, bX.alloc _, (hown1.alloc _).alloc _, trivial⟩, bN, hB2⟩
    (fun x => { tmps := #[.string label, .slice A len cap, undef, undef, .int .u64 0, .pointer (some ⟨w1.heap.size, 0, none⟩), .int .u64 x, .slice A len cap, .int .i64 ↑len, .int .i64 (↑len / 8), .int .i64 (↑len / 8 + 2), .slice (some ⟨w.heap.size, 0, none⟩) 0 (len / 8 + 2), .slice A len cap, .func (.func 72) #[] #[.pointer (some ⟨w1.heap.size + 1, 0, none⟩)], .int .u64 x, undef, undef, undef, undef, undef, undef, undef, undef, undef, undef, undef, undef], defers := [] }) ?assign ?body ?done ?stop
  case hKb =>
    intro W l o o' hl hW _ _ k hk
    have hz := HZ.out
    simp only [World.size_alloc] at hl
    refine World.putObj_heap_other ?_
    rcases hk with rfl | ⟨h0, ad, h, rfl⟩
    · omega
    · obtain ⟨b, off, h', hb, _⟩ := hR h0
      rw [h] at h'
      injection h' with h'; subst h'; simp; omega
  case assign =>
    intro l x W K hK
    gi_wp2
    exact hK
  case body =>
    rintro l pre x W ⟨⟨v, hv, hrow, _⟩, hN, hB'⟩ hlt
    have hc := hv.cell
    have hnw : 8 * nwords bs ≤ len + 7 := by unfold nwords; have := HL.out; omega
    obtain ⟨g, c', w3, hap, hown3, hg3, hat3, hs3⟩ := run_append_one (P := Try.prog) W w.heap.size 48 48 3 i0 _ 8 Try.underlying48 hi hz0 hz1 hz2 rfl v pre.length _ hrow (.int .i64 (wrap64 x)) rfl (by unfold maxLen; omega) (by omega) hB'.size
    have hv3 : Boxed w3 w1.heap.size 48 v := hv.kept hg3 (hv.not_row (by decide) hrow)
    have hc3 := hv3.cell
    have hf3 := hv3.frozen
    have HA := Lib.hid hap; clear hap
    have hlt3 := hv.lt
    gi_wp2_with (gi_at_builtin; refine wpListIn_append_run HA.out rfl rfl rfl rfl ?_)
    have hne : ∀ k, v.ownBlock = some k → w.heap.size ≤ k ∧ k < W.heap.size := hrow.lt
    have hz := HZ.out
    refine ⟨((KeepsOthers.of_grownBy hg3 (own_cells hrow)).trans (KeepsOthers.setCell _ _ _)).from _, ?_, ⟨_, hv3.set _, ?_, trivial⟩, (hN.kept hg3 (hN.not_row (by decide) hrow)).other (by omega) _, (hB'.grown hg3 hB'.size (fun k e => (hne k e).1)).setCell (p := ⟨w1.heap.size, 0, none⟩) (by simp; omega) _⟩
    · intro k hk
      have hkW : k < W.heap.size ∧ k ≠ w1.heap.size ∧ some k ≠ v.ownBlock := by
        rcases hk with rfl | ⟨h0, ad, h, rfl⟩
        · exact ⟨hN.lt, by omega, hN.not_row (by decide) hrow⟩
        · obtain ⟨b, off, h', hb, _⟩ := hR h0
          rw [h] at h'
          injection h' with h'; subst h'
          refine ⟨by have := hB'.size; simp; omega, by simp; omega, fun e => ?_⟩
          have := (hne _ e.symm).1
          simp at this; omega
      exact (Below.heap_setCell _ _ _ _ (by simpa using hkW.2.1)).trans (hg3.block k hkW.1 hkW.2.2)
    · have := hown3.kept (grownBy_setCell' w3 w1.heap.size (.slice (some ⟨g, 0, none⟩) (pre.length + 1) c')) (.inr (hv3.not_row (by decide) hown3).symm)
      simpa [toI] using this
  case done =>
    rintro D ys W hD rfl ⟨⟨v, hv, hrow, _⟩, hN, hB'⟩ hK
    have hc := hv.cell
    have hnw : 8 * nwords bs ≤ len + 7 := by unfold nwords; have := HL.out; omega
    have hwl : (wordsI bs).length = nwords bs := wordsTo_length _ _
    have HW := Lib.hid hwl; clear hwl
    obtain ⟨g, c', w3, hap, hown3, hg3, hat3, hs3⟩ := run_append_one (P := Try.prog) W w.heap.size 48 48 3 i0 _ 8 Try.underlying48 hi hz0 hz1 hz2 rfl v _ _ hrow (.int .i64 len) rfl (by have := HW.out; unfold maxLen; omega) (by have := HW.out; omega) hB'.size
    have HA := Lib.hid hap; clear hap
    have hne : ∀ k, v.ownBlock = some k → w.heap.size ≤ k ∧ k < W.heap.size := hrow.lt
    have hB3 : Below w.heap.size w w3 := hB'.grown hg3 hB'.size (fun k e => (hne k e).1)
    have hR3 : Rd w3 w3.heap.size (some ⟨g, 0, none⟩) ((wordsI bs).length + 1) (vInt ((wordsI bs).map toI ++ [((bs.length : Nat) : Int)])) := (Rd.of_own hown3 (f := vInt ((wordsI bs).map toI ++ [((bs.length : Nat) : Int)])) (by
      intro j hj
      rw [← HL.out]
      exact map_snoc_get toI (wordsI bs) _ j hj)).2.2
    gi_wp2_with (first
      | (gi_at_builtin; refine wpListIn_append_run HA.out rfl rfl rfl rfl ?_)
      | (refine ⟨trivial, ?_⟩; gi_at_call 18; refine (callsIn_wide.2 (hsum_any _ _ _ _ w3.heap.size ((wordsI bs).map toI ++ [((bs.length : Nat) : Int)]) _ (by show _ = _; simp) hlab (by have := HW.out; omega) (Nat.le_refl _) hR3)).mono ?_; rintro e w4 ⟨rfl, hb4⟩))
    have hK4 : w4.heap[D]? = some (.deferred (some [])) := by
      have hlD := (Array.getElem?_eq_some_iff.1 hK).1
      refine (hb4.block D (by omega)).trans ((hg3.block D hlD (fun e => ?_)).trans hK)
      have := own_cells hrow D _ e.symm hK
      simp [Obj.isCells] at this
    refine ⟨by simp, .inl ⟨_, _, rfl, run_takeDeferred hK4, ?_⟩⟩
    have hz := HZ.out
    refine ⟨_, results_tmp rfl _ _ _, rfl, (hB3.trans (hb4.mono hB3.size)).trans (belowK_b (w := w) (Nat.le_refl _) w4 D _ _ (by simp at hD; omega) hK4 rfl rfl)⟩
  case stop =>
    rintro D c pre W _ _ h _
    exact h.elim


end Go.Proofs.Ytompkpleiichaaa
