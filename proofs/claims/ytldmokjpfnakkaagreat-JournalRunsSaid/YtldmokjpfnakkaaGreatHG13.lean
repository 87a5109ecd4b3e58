/- The walks of hash.Bytes and hash.Pair. -/
import Derived.Test.YtldmokjpfnakkaaGreatHG12
import Derived.Test.YtldmokjpfnakkaaGreatHG2

namespace Go.Proofs.YtldmokjpfnakkaaGreat
open Go.RowKit Go.Shelf
attribute [local go_sem] Oper.semAt_some

theorem infoInt : (Tryz.prog.info? 3).map (fun i => (i.zero, i.size, i.bytes)) = some (some (.int .i64 0), 1, 8) := by kernel_rfl

theorem bytes_snoc_get (l : List UInt8) (x : UInt8) (j : Nat) (hj : j < l.length + 1) :
    (l.map (fun b => Value.int .u8 ((b.toNat : Nat) : Int)) ++ [Value.int .u8 ((x.toNat : Nat) : Int)])[j]? = some (vByte (l ++ [x]) j) := by
  simp only [vByte]
  rcases Nat.lt_or_ge j l.length with h | h
  · rw [List.getElem?_append_left (by simpa using h), List.getElem?_append_left (by simpa using h)]
    simp [h]
  · obtain rfl : j = l.length := by omega
    simp
theorem map_snoc_get (g : Int → Int) (l : List Int) (x : Int) (j : Nat) (hj : j < l.length + 1) :
    (l.map (fun y => Value.int .i64 (g y)) ++ [Value.int .i64 x])[j]? = some (vInt (l.map g ++ [x]) j) := by
  simp only [vInt]
  rcases Nat.lt_or_ge j l.length with h | h
  · rw [List.getElem?_append_left (by simpa using h), List.getElem?_append_left (by simpa using h)]
    simp [h]
  · obtain rfl : j = l.length := by omega
    simp

set_option maxRecDepth 100000 in
set_option maxHeartbeats 1000000 in
theorem hbytes_any (label : ByteArray) (A : Option Addr) (len cap B : Nat) (bs : List UInt8) (w : World) (HL : Hid (bs.length = len)) (hlab : label.size ≤ 140737488351232) (hlc : len ≤ cap) (hmax : len ≤ 35184372088832)
    (hB : B ≤ w.heap.size) (hR : Rd w B A len (vByte bs)) :
    Calls Tryz.prog 42 #[.string label, .slice A len cap] w fun e w' => e = .returned (.int .u64 (bytesI label.data.toList bs)) ∧ Below w.heap.size w w' := by
  obtain ⟨i0, hi, hz0, hz1, hz2⟩ := info_parts infoInt
  obtain ⟨w1, hmk, hown1, hb1, hz⟩ := make_rd (P := Tryz.prog) w 22 3 i0 _ 8 Tryz.underlying22 hi hz0 hz1 hz2 .i64 .i64 (len / 8 + 2) (by omega) (by unfold maxLen; omega)
  rw [show ((len / 8 + 2 : Nat) : Int) = (len : Int) / 8 + 2 from by omega] at hmk
  have HZ := Lib.hid hz; clear hz
  refine (callsIn_wide (n := 5)).1 ?_
  refine callsIn_of_wp_marks Tryz.func42 rfl trivial ?_ rfl
  simp only [Tryz.ntmps42, List.size_toArray, List.length_cons, List.length_nil, Nat.reduceAdd, Nat.reduceSub, Array.replicate_succ, Array.replicate_zero, List.push_toArray, List.append_toArray, List.nil_append, List.cons_append]
  gi_wp2_with (refine ⟨trivial, ?_⟩; gi_at_call 56; refine (wordsOf_in Fence.wide _ trivial rfl _ _ _ _).mono ?_; rintro e w' ⟨rfl, rfl⟩)
  have bX := Boxed.new w1 22 (.slice (some ⟨w.heap.size, 0, none⟩) 0 (len / 8 + 2))
  have bN := Boxed.new (w1.alloc (.cells #[.slice (some ⟨w.heap.size, 0, none⟩) 0 (len / 8 + 2)] 22)) 39 (.slice A len cap)
  rw [World.size_alloc] at bN
  have hB2 := (hb1.alloc (by have := HZ.out; omega) (.cells #[.slice (some ⟨w.heap.size, 0, none⟩) 0 (len / 8 + 2)] 22)).alloc (by have := HZ.out; simp; omega) (.cells #[.slice A len cap] 39)
  refine wpIn_rangeFunc_ownG rfl (by decide) (gf := 70) (lb := #[.pointer (some ⟨w1.heap.size + 1, 0, none⟩)]) rfl trivial (enters_of Tryz.func70 (by kernel_rfl) rfl)
    (words_stops Fence.wide _ trivial rfl (by decide) (w1.heap.size + 1) B len cap A bs HL.out hlc (by omega) _ (by simp) (by have := HZ.out; simp; omega) bN.cell (hR.below hB2 hB))
    (fun h k => h.trans k) ?hKb (Below.refl _ _) (fun _ => rfl)
    (fun (pre : List Int) W => (∃ v, Boxed W w1.heap.size 22 v ∧ W.ownsRow w.heap.size 3 1 v pre.length (pre.map fun x => Value.int .i64 (toI x)) ∧ True) ∧ Boxed W (w1.heap.size + 1) 39 (.slice A len cap) ∧ Below w.heap.size w W)
    (fun _ _ _ => False)
    (OwnFrom.and (Own.from (holdsRow_own w.heap.size w1.heap.size 22 3 1 (fun pre : List Int => pre.length) (fun pre : List Int => pre.map fun x => Value.int .i64 (toI x)) (fun _ _ => True)) _) (OwnFrom.and (Own.from (boxed_own _ _ _) _) (ownFrom_below (Nat.le_refl _) (by have := HZ.out; simp; omega))))
    (fun _ _ _ _ _ hs _ _ => hs)
    ⟨⟨_, bX.alloc _, (hown1.alloc _).alloc _, trivial⟩, bN, hB2⟩
    (fun x => { tmps := #[.string label, .slice A len cap, undef, undef, .int .u64 0, .pointer (some ⟨w1.heap.size, 0, none⟩), .int .u64 x, .slice A len cap, .int .i64 ↑len, .int .i64 (↑len / 8), .int .i64 (↑len / 8 + 2), .slice (some ⟨w.heap.size, 0, none⟩) 0 (len / 8 + 2), .slice A len cap, .func (.func 70) #[] #[.pointer (some ⟨w1.heap.size + 1, 0, none⟩)], .int .u64 x, undef, undef, undef, undef, undef, undef, undef, undef, undef, undef, undef, undef], defers := [] }) ?assign ?body ?done ?stop
  case hKb =>
    intro W l o o' hl hW _ _ k hk
    have hz := HZ.out
    simp only [World.size_alloc] at hl
    refine World.putObj_heap_other ?_
    rcases hk with rfl | ⟨h0, ad, h, rfl⟩
    · omega
    · obtain ⟨b, off, h', hb, _⟩ := hR h0
      rw [h] at h'
      injection h' with h'; subst h'; simp; omega
  case assign =>
    intro l x W K hK
    gi_wp2
    exact hK
  case body =>
    rintro l pre x W ⟨⟨v, hv, hrow, _⟩, hN, hB'⟩ hlt
    have hc := hv.cell
    have hnw : 8 * nwords bs ≤ len + 7 := by unfold nwords; have := HL.out; omega
    obtain ⟨g, c', w3, hap, hown3, hg3, hat3, hs3⟩ := run_append_one (P := Tryz.prog) W w.heap.size 22 22 3 i0 _ 8 Tryz.underlying22 hi hz0 hz1 hz2 rfl v pre.length _ hrow (.int .i64 (wrap64 x)) rfl (by unfold maxLen; omega) (by omega) hB'.size
    have hv3 : Boxed w3 w1.heap.size 22 v := hv.kept hg3 (hv.not_row (by decide) hrow)
    have hc3 := hv3.cell
    have hf3 := hv3.frozen
    have HA := Lib.hid hap; clear hap
    have hlt3 := hv.lt
    gi_wp2_with (gi_at_builtin; refine wpListIn_append_run HA.out rfl rfl rfl rfl ?_)
    have hne : ∀ k, v.ownBlock = some k → w.heap.size ≤ k ∧ k < W.heap.size := hrow.lt
    have hz := HZ.out
    refine ⟨((KeepsOthers.of_grownBy hg3 (own_cells hrow)).trans (KeepsOthers.setCell _ _ _)).from _, ?_, ⟨_, hv3.set _, ?_, trivial⟩, (hN.kept hg3 (hN.not_row (by decide) hrow)).other (by omega) _, (hB'.grown hg3 hB'.size (fun k e => (hne k e).1)).setCell (p := ⟨w1.heap.size, 0, none⟩) (by simp; omega) _⟩
    · intro k hk
      have hkW : k < W.heap.size ∧ k ≠ w1.heap.size ∧ some k ≠ v.ownBlock := by
        rcases hk with rfl | ⟨h0, ad, h, rfl⟩
        · exact ⟨hN.lt, by omega, hN.not_row (by decide) hrow⟩
        · obtain ⟨b, off, h', hb, _⟩ := hR h0
          rw [h] at h'
          injection h' with h'; subst h'
          refine ⟨by have := hB'.size; simp; omega, by simp; omega, fun e => ?_⟩
          have := (hne _ e.symm).1
          simp at this; omega
      exact (Below.heap_setCell _ _ _ _ (by simpa using hkW.2.1)).trans (hg3.block k hkW.1 hkW.2.2)
    · have := hown3.kept (grownBy_setCell' w3 w1.heap.size (.slice (some ⟨g, 0, none⟩) (pre.length + 1) c')) (.inr (hv3.not_row (by decide) hown3).symm)
      simpa [toI] using this
  case done =>
    rintro D ys W hD rfl ⟨⟨v, hv, hrow, _⟩, hN, hB'⟩ hK
    have hc := hv.cell
    have hnw : 8 * nwords bs ≤ len + 7 := by unfold nwords; have := HL.out; omega
    have hwl : (wordsI bs).length = nwords bs := wordsTo_length _ _
    have HW := Lib.hid hwl; clear hwl
    obtain ⟨g, c', w3, hap, hown3, hg3, hat3, hs3⟩ := run_append_one (P := Tryz.prog) W w.heap.size 22 22 3 i0 _ 8 Tryz.underlying22 hi hz0 hz1 hz2 rfl v _ _ hrow (.int .i64 len) rfl (by have := HW.out; unfold maxLen; omega) (by have := HW.out; omega) hB'.size
    have HA := Lib.hid hap; clear hap
    have hne : ∀ k, v.ownBlock = some k → w.heap.size ≤ k ∧ k < W.heap.size := hrow.lt
    have hB3 : Below w.heap.size w w3 := hB'.grown hg3 hB'.size (fun k e => (hne k e).1)
    have hR3 : Rd w3 w3.heap.size (some ⟨g, 0, none⟩) ((wordsI bs).length + 1) (vInt ((wordsI bs).map toI ++ [((bs.length : Nat) : Int)])) := (Rd.of_own hown3 (f := vInt ((wordsI bs).map toI ++ [((bs.length : Nat) : Int)])) (by
      intro j hj
      rw [← HL.out]
      exact map_snoc_get toI (wordsI bs) _ j hj)).2.2
    gi_wp2_with (first
      | (gi_at_builtin; refine wpListIn_append_run HA.out rfl rfl rfl rfl ?_)
      | (refine ⟨trivial, ?_⟩; gi_at_call 57; refine (callsIn_wide.2 (hsum_any _ _ _ _ w3.heap.size ((wordsI bs).map toI ++ [((bs.length : Nat) : Int)]) _ (by show _ = _; simp) hlab (by have := HW.out; omega) (Nat.le_refl _) hR3)).mono ?_; rintro e w4 ⟨rfl, hb4⟩))
    have hK4 : w4.heap[D]? = some (.deferred (some [])) := by
      have hlD := (Array.getElem?_eq_some_iff.1 hK).1
      refine (hb4.block D (by omega)).trans ((hg3.block D hlD (fun e => ?_)).trans hK)
      have := own_cells hrow D _ e.symm hK
      simp [Obj.isCells] at this
    refine ⟨by simp, .inl ⟨_, _, rfl, run_takeDeferred hK4, ?_⟩⟩
    have hz := HZ.out
    refine ⟨_, results_tmp rfl _ _ _, rfl, (hB3.trans (hb4.mono hB3.size)).trans (belowK_b (w := w) (Nat.le_refl _) w4 D _ _ (by simp at hD; omega) hK4 rfl rfl)⟩
  case stop =>
    rintro D c pre W _ _ h _
    exact h.elim


end Go.Proofs.YtldmokjpfnakkaaGreat

/- The walks of worldmintref01.Words, Sum, Bytes and Pair. -/
namespace Go.Proofs.YtldmokjpfnakkaaGreat
open Go.RowKit

theorem infoU64 : (Tryz.prog.info? 78).map (fun i => (i.zero, i.size, i.bytes)) = some (some (.int .u64 0), 1, 8) := by kernel_rfl

set_option maxRecDepth 100000 in
set_option maxHeartbeats 1000000 in
theorem rwords_any (A : Option Addr) (len cap B : Nat) (bs : List UInt8) (w : World) (HL : Hid (bs.length = len)) (_hlc : len ≤ cap) (hmax : len ≤ 35184372088832) (hB : B ≤ w.heap.size) (hR : Rd w B A len (vByte bs)) :
    Calls Tryz.prog 68 #[.slice A len cap] w fun e w' => ∃ A' c', e = .returned (.slice A' (nwords bs) c') ∧ w'.ownsRow w.heap.size 78 1 (.slice A' (nwords bs) c') (nwords bs) ((wordsI bs).map (Value.int .u64)) ∧ Below w.heap.size w w' := by
  obtain ⟨i0, hi, hz0, hz1, hz2⟩ := info_parts infoU64
  go_enter Tryz.func68, Tryz.ntmps68
  go_wp2
  go_loopw [3, 4] (fun v i wr => ∃ k s : Nat, Hid (s = 8 * k) ∧ s < len + 8 ∧ i = .int .i64 (s : Int) ∧ wr.ownsRow w.heap.size 78 1 v k ((wordsTo bs k).map (Value.int .u64)) ∧ Below w.heap.size w wr) (fun _ i _ => len + 8 - (intOf i).toNat)
  case atStart => exact ⟨0, 0, rfl, by omega, rfl, World.ownsRow_nil _ _ _ _, Below.refl _ _⟩
  case round =>
    obtain ⟨k, s, hs, hk, rfl, hown, hb⟩ := hrel
    obtain ⟨v3, rfl⟩ : ∃ x, x = u3 := ⟨_, rfl⟩
    by_cases hlt : s < len
    · obtain ⟨b, off, rfl, hbB, hc0⟩ := (hR.below hb hB) (by omega)
      have Hc : Hid (∀ r, r < (group bs k).length → wr.cell? ⟨b, off + (s + r), none⟩ = some (.int .u8 (((group bs k)[r]?.getD 0).toNat : Nat))) := by
        intro j hj
        rw [group_length] at hj
        rw [hc0 (s + j) (by have := HL.out; have := hs.out; omega)]
        simp only [vByte, group, hs.out, List.getElem?_take, List.getElem?_drop]
        rw [if_pos (by omega)]
      have Hl : Hid ((group bs k).length = min 8 (len - s)) := by show _ = _; rw [group_length, HL.out, hs.out]
      clear hc0
      by_cases h8 : s + 8 ≤ len
      · go_wp2
        go_loop [5, 6] (fun v i => ∃ r : Nat, r ≤ 8 ∧ i = .int .i64 ((s : Int) + r - 1) ∧ v = .int .u64 ((wordN ((group bs k).drop r) : Nat) : Int)) (fun _ i => (intOf i - s + 1).toNat)
        case atStart => exact ⟨8, by omega, by go_num, by rw [List.drop_eq_nil_of_le (by have := Hl.out; omega)]; rfl⟩
        case round =>
          obtain ⟨r, hr, rfl, rfl⟩ := hrel
          cases r with
          | zero =>
            obtain ⟨g, c', w3, hap, hown3, hg3, hat3, hs3⟩ := run_append_one (P := Tryz.prog) wr w.heap.size 105 105 78 i0 _ 8 Tryz.underlying105 hi hz0 hz1 hz2 rfl v3 k _ hown (.int .u64 ((wordN (group bs k) : Nat) : Int)) rfl (by have := hs.out; unfold maxLen; omega) (by have := hs.out; omega) hb.size
            have HA := Lib.hid hap; clear hap
            go_wp2_with (at_builtin; refine wpList_append_run HA.out rfl rfl rfl rfl ?_)
            refine ⟨⟨k + 1, s + 8, by show _ = _; rw [hs.out]; omega, by omega, by go_num, ?_, hb.grown hg3 hb.size (fun k e => (hown.lt k e).1)⟩, by simp [intOf]; omega⟩
            rw [wordsTo_succ, List.map_append]
            exact hown3
          | succ r =>
            have hcj := Hc.out r (by have := Hl.out; omega)
            have HS := Lib.hid (word_back (group bs k) r (by have := Hl.out; omega) (by have := Hl.out; omega))
            have e1 : (s : Int) + ((r + 1 : Nat) : Int) - 1 = ((s + r : Nat) : Int) := by omega
            rw [e1]
            go_wp2
            refine ⟨⟨r, by omega, by go_num, congrArg (Value.int .u64) HS.out⟩, by simp [intOf]; omega⟩
      · go_wp2
        go_loop [5, 6] (fun v i => ∃ r : Nat, r ≤ len - s ∧ i = .int .i64 ((s : Int) + r - 1) ∧ v = .int .u64 ((wordN ((group bs k).drop r) : Nat) : Int)) (fun _ i => (intOf i - s + 1).toNat)
        case atStart => exact ⟨len - s, by omega, by go_num, by rw [List.drop_eq_nil_of_le (by have := Hl.out; omega)]; rfl⟩
        case round =>
          obtain ⟨r, hr, rfl, rfl⟩ := hrel
          cases r with
          | zero =>
            obtain ⟨g, c', w3, hap, hown3, hg3, hat3, hs3⟩ := run_append_one (P := Tryz.prog) wr w.heap.size 105 105 78 i0 _ 8 Tryz.underlying105 hi hz0 hz1 hz2 rfl v3 k _ hown (.int .u64 ((wordN (group bs k) : Nat) : Int)) rfl (by have := hs.out; unfold maxLen; omega) (by have := hs.out; omega) hb.size
            have HA := Lib.hid hap; clear hap
            go_wp2_with (at_builtin; refine wpList_append_run HA.out rfl rfl rfl rfl ?_)
            refine ⟨⟨k + 1, s + 8, by show _ = _; rw [hs.out]; omega, by omega, by go_num, ?_, hb.grown hg3 hb.size (fun k e => (hown.lt k e).1)⟩, by simp [intOf]; omega⟩
            rw [wordsTo_succ, List.map_append]
            exact hown3
          | succ r =>
            have hcj := Hc.out r (by have := Hl.out; omega)
            have HS := Lib.hid (word_back (group bs k) r (by have := Hl.out; omega) (by have := Hl.out; omega))
            have e1 : (s : Int) + ((r + 1 : Nat) : Int) - 1 = ((s + r : Nat) : Int) := by omega
            rw [e1]
            go_wp2
            refine ⟨⟨r, by omega, by go_num, congrArg (Value.int .u64) HS.out⟩, by simp [intOf]; omega⟩
    · obtain ⟨A', c', rfl⟩ := own_slice hown
      have HN := Lib.hid (show nwords bs = k by unfold nwords; have := HL.out; have := hs.out; omega)
      go_wp2
      go_ret
      unfold wordsI
      rw [HN.out]
      exact ⟨A', c', rfl, hown, hb⟩

/-- The state behind the first j words of the label. -/
def labTo (label : List UInt8) (j : Nat) : Int := mixAll 0 (wordsTo label j)
theorem labTo_succ (label : List UInt8) (j : Nat) : labTo label (j + 1) = mixI (labTo label j) (wordAt label j) := by unfold labTo; rw [wordsTo_succ, mixAll_snoc]
theorem labTo_all (label : List UInt8) (n : Nat) (ws : List Int) : sumTo label n ws 0 = mixI (mixI (labTo label (nwords label)) (label.length : Nat)) (n : Nat) := rfl

set_option maxRecDepth 100000 in
set_option maxHeartbeats 1000000 in
theorem rsum_any (label : ByteArray) (A : Option Addr) (len cap B : Nat) (ws : List Int) (w : World) (HL : Hid (ws.length = len)) (hlab : label.size ≤ 35184372088832) (hmax : len ≤ 140737488351232)
    (hB : B ≤ w.heap.size) (hR : Rd w B A len (vInt ws)) :
    Calls Tryz.prog 69 #[.string label, .slice A len cap] w fun e w' => e = .returned (.int .u64 (sumI label.data.toList ws)) ∧ Below w.heap.size w w' := by
  obtain ⟨c1, w1, hconv, hc1, hz1, hb1, hr1⟩ := conv_bytes (P := Tryz.prog) w 9 39 5 label Tryz.underlying9 Tryz.underlying39 Tryz.underlying5
  have HZ := Lib.hid hz1; clear hz1
  go_enter Tryz.func69, Tryz.ntmps69
  go_wp2_with (go_at_call 68; refine (rwords_any _ _ _ (w.heap.size + 1) label.data.toList _ (by show _ = _; simp) hc1 hlab (by have := HZ.out; omega) hr1).mono ?_; rintro e w2 ⟨A', c', rfl, hown2, hb2⟩)
  have hb12 : Below w.heap.size w w2 := hb1.trans (hb2.mono hb1.size)
  have hr2 : Rd w2 w2.heap.size A' (nwords label.data.toList) (fun j => .int .u64 (wordAt label.data.toList j)) := (Rd.of_own hown2 (f := fun j => .int .u64 (wordAt label.data.toList j)) (by
    intro j hj
    simp [wordsI, wordsTo, hj])).2.2
  have hnw : nwords label.data.toList ≤ label.size := by unfold nwords; simp; omega
  generalize hN : nwords label.data.toList = nw at *
  have HN := Lib.hid hN; clear hN
  go_loop [5, 7] (fun v i => ∃ k : Nat, k ≤ nw ∧ i = .int .i64 (k : Int) ∧ v = .int .u64 (labTo label.data.toList k)) (fun _ i => nw - (intOf i).toNat)
  case atStart => exact ⟨0, by omega, rfl, rfl⟩
  case round =>
    obtain ⟨k, hk, rfl, rfl⟩ := hrel
    by_cases hlt : k < nw
    · obtain ⟨b, off, rfl, hbB, hc⟩ := hr2.at_ hlt
      have HS := Lib.hid (labTo_succ label.data.toList k)
      go_wp2_with (go_at_call 85; refine (rmix_any _ _ _).mono ?_; rintro e w' ⟨rfl, rfl⟩)
      exact ⟨⟨k + 1, by omega, by go_num, congrArg (Value.int .u64) HS.out.symm⟩, by simp [intOf]; omega⟩
    · obtain rfl : k = nw := by omega
      have HT := Lib.hid (labTo_all label.data.toList len ws)
      go_wp2_with (go_at_call 85; refine (rmix_any _ _ _).mono ?_; rintro e w' ⟨rfl, rfl⟩)
      go_loop [5, 8] (fun v i => ∃ j : Nat, j ≤ len ∧ i = .int .i64 (j : Int) ∧ v = .int .u64 (sumTo label.data.toList len ws j)) (fun _ i => len - (intOf i).toNat)
      case atStart => exact ⟨0, by omega, rfl, congrArg (Value.int .u64) (by rw [HT.out, HN.out]; simp)⟩
      case round =>
        obtain ⟨j, hj, rfl, rfl⟩ := hrel
        by_cases hlt : j < len
        · obtain ⟨b, off, rfl, hbB, hc⟩ := (hR.below hb12 hB).at_ hlt
          have hc' : w2.cell? ⟨b, off + j, none⟩ = some (.int .i64 (ws[j]?.getD 0)) := hc
          clear hc
          have HS := Lib.hid (sumTo_succ label.data.toList len ws j (by have := HL.out; omega))
          go_wp2_with (go_at_call 85; refine (rmix_any _ _ _).mono ?_; rintro e w' ⟨rfl, rfl⟩)
          exact ⟨⟨j + 1, by omega, by go_num, congrArg (Value.int .u64) HS.out.symm⟩, by simp [intOf]; omega⟩
        · obtain rfl : j = len := by omega
          have HE := Lib.hid (sumTo_all label.data.toList j ws HL.out)
          go_wp2_with (go_at_call 85; refine (rmix_any _ _ _).mono ?_; rintro e w' ⟨rfl, rfl⟩)
          go_ret
          rw [← HE.out]
          exact ⟨rfl, hb12⟩

set_option maxRecDepth 100000 in
set_option maxHeartbeats 1000000 in
theorem rbytes_any (label : ByteArray) (A : Option Addr) (len cap B : Nat) (bs : List UInt8) (w : World) (HL : Hid (bs.length = len)) (hlab : label.size ≤ 35184372088832) (hlc : len ≤ cap) (hmax : len ≤ 35184372088832)
    (hB : B ≤ w.heap.size) (hR : Rd w B A len (vByte bs)) :
    Calls Tryz.prog 55 #[.string label, .slice A len cap] w fun e w' => e = .returned (.int .u64 (bytesI label.data.toList bs)) ∧ Below w.heap.size w w' := by
  obtain ⟨i0, hi, hz0, hz1, hz2⟩ := info_parts infoInt
  go_enter Tryz.func55, Tryz.ntmps55
  go_wp2_with (go_at_call 68; refine (rwords_any _ _ _ B bs _ HL hlc hmax hB hR).mono ?_; rintro e w2 ⟨A', c', rfl, hown2, hb2⟩)
  have hr2 : Rd w2 w2.heap.size A' (nwords bs) (fun j => .int .u64 (wordAt bs j)) := (Rd.of_own hown2 (f := fun j => .int .u64 (wordAt bs j)) (by
    intro j hj
    simp [wordsI, wordsTo, hj])).2.2
  have hnw : 8 * nwords bs ≤ len + 7 := by unfold nwords; have := HL.out; omega
  clear hown2
  generalize hN : nwords bs = nw at *
  have HN := Lib.hid hN; clear hN
  go_loopw [6, 7] (fun v i wr => ∃ k : Nat, k ≤ nw ∧ i = .int .i64 (k : Int) ∧ wr.ownsRow w2.heap.size 3 1 v k ((wordsTo bs k).map fun x => Value.int .i64 (toI x)) ∧ Below w2.heap.size w2 wr) (fun _ i _ => nw - (intOf i).toNat)
  case atStart => exact ⟨0, by omega, rfl, World.ownsRow_nil _ _ _ _, Below.refl _ _⟩
  case round =>
    obtain ⟨k, hk, rfl, hown, hb⟩ := hrel
    obtain ⟨v6, rfl⟩ : ∃ x, x = u6 := ⟨_, rfl⟩
    by_cases hlt : k < nw
    · obtain ⟨b, off, rfl, hbB, hc⟩ := (hr2.below hb (Nat.le_refl _)).at_ hlt
      obtain ⟨g, c3, w3, hap, hown3, hg3, hat3, hs3⟩ := run_append_one (P := Tryz.prog) wr w2.heap.size 22 22 3 i0 _ 8 Tryz.underlying22 hi hz0 hz1 hz2 rfl v6 k _ hown (.int .i64 (wrap64 (wordAt bs k))) rfl (by unfold maxLen; omega) (by omega) hb.size
      have HA := Lib.hid hap; clear hap
      go_wp2_with (at_builtin; refine wpList_append_run HA.out rfl rfl rfl rfl ?_)
      refine ⟨⟨k + 1, by omega, by go_num, ?_, hb.grown hg3 hb.size (fun k e => (hown.lt k e).1)⟩, by simp [intOf]; omega⟩
      rw [wordsTo_succ, List.map_append]
      exact hown3
    · obtain rfl : k = nw := by omega
      obtain ⟨g, c3, w3, hap, hown3, hg3, hat3, hs3⟩ := run_append_one (P := Tryz.prog) wr w2.heap.size 22 22 3 i0 _ 8 Tryz.underlying22 hi hz0 hz1 hz2 rfl v6 k _ hown (.int .i64 len) rfl (by unfold maxLen; omega) (by omega) hb.size
      have HA := Lib.hid hap; clear hap
      have hb3 : Below w2.heap.size w2 w3 := hb.grown hg3 hb.size (fun k e => (hown.lt k e).1)
      have hw : wordsTo bs k = wordsI bs := by unfold wordsI; rw [HN.out]
      have hl : (wordsI bs).length = k := by rw [← hw]; exact wordsTo_length _ _
      have hR3 : Rd w3 w3.heap.size (some ⟨g, 0, none⟩) (k + 1) (vInt ((wordsI bs).map toI ++ [((bs.length : Nat) : Int)])) := (Rd.of_own hown3 (f := vInt ((wordsI bs).map toI ++ [((bs.length : Nat) : Int)])) (by
        intro j hj
        rw [← HL.out, hw]
        exact map_snoc_get toI (wordsI bs) _ j (by omega))).2.2
      have HW := Lib.hid hl
      clear hw hl
      go_wp2_with (first
        | (at_builtin; refine wpList_append_run HA.out rfl rfl rfl rfl ?_)
        | (go_at_call 69; refine (rsum_any _ _ _ _ w3.heap.size ((wordsI bs).map toI ++ [((bs.length : Nat) : Int)]) _ (by show _ = _; have := HW.out; simp; omega) hlab (by omega) (Nat.le_refl _) hR3).mono ?_; rintro e w4 ⟨rfl, hb4⟩))
      go_ret
      exact ⟨rfl, (hb2.trans (hb3.mono hb2.size)).trans (hb4.mono (Nat.le_trans hb2.size hb3.size))⟩

end Go.Proofs.YtldmokjpfnakkaaGreat
