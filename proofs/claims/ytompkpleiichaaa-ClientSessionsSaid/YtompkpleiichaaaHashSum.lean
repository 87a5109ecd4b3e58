/- The walk of hash.Sum. -/
import Derived.Test.YtompkpleiichaaaHashWords
import Derived.Maps.AppendAt
namespace Go.Proofs.Ytompkpleiichaaa
open Go.RowKit Go.Shelf
attribute [local go_sem] Oper.semAt_some

set_option maxRecDepth 100000 in
set_option maxHeartbeats 1000000 in
theorem hsum_any (label : ByteArray) (A : Option Addr) (len cap B : Nat) (ws : List Int) (w : World) (HL : Hid (ws.length = len)) (hlab : label.size ≤ 140737488351232) (hmax : len ≤ 140737488351232)
    (hB : B ≤ w.heap.size) (hR : Rd w B A len (vInt ws)) :
    Calls Try.prog 18 #[.string label, .slice A len cap] w fun e w' => e = .returned (.int .u64 (sumI label.data.toList ws)) ∧ Below w.heap.size w w' := by
  obtain ⟨c1, w1, hconv, hc1, hz1, hb1, hr1⟩ := conv_bytes (P := Try.prog) (w.alloc (.cells #[.int .u64 0] 22)) 9 23 5 label Try.underlying9 Try.underlying23 Try.underlying5
  rw [World.size_alloc] at hconv hz1 hb1 hr1
  have HZ := Lib.hid hz1; clear hz1
  refine (callsIn_wide (n := 5)).1 ?_
  refine callsIn_of_wp_marks Try.func18 rfl trivial ?_ rfl
  simp only [Try.ntmps18, List.size_toArray, List.length_cons, List.length_nil, Nat.reduceAdd, Nat.reduceSub, Array.replicate_succ, Array.replicate_zero, List.push_toArray, List.append_toArray, List.nil_append, List.cons_append]
  gi_wp2_with (refine ⟨trivial, ?_⟩; gi_at_call 50; refine (wordsOf_in Fence.wide _ trivial rfl _ _ _ _).mono ?_; rintro e w' ⟨rfl, rfl⟩)
  have bS1 : Boxed w1 w.heap.size 22 (.int .u64 0) := (hb1.block _ (by omega)).trans (Boxed.new w 22 (.int .u64 0))
  have bN := Boxed.new w1 23 (.slice (some ⟨w.heap.size + 1, 0, none⟩) label.size c1)
  have hB1 : Below w.heap.size w w1 := ((Below.refl _ w).alloc (Nat.le_refl _) (.cells #[.int .u64 0] 22)).trans (hb1.mono (by omega))
  have hB2 := hB1.alloc (by have := HZ.out; omega) (.cells #[.slice (some ⟨w.heap.size + 1, 0, none⟩) label.size c1] 23)
  refine wpIn_rangeFunc_ownG rfl (by decide) (gf := 72) (lb := #[.pointer (some ⟨w1.heap.size, 0, none⟩)]) rfl trivial (enters_of Try.func72 (by kernel_rfl) rfl)
    (words_stops Fence.wide _ trivial rfl (by decide) w1.heap.size (w.heap.size + 1 + 1) label.size c1 _ label.data.toList (by simp) hc1 hlab _ (by simp) (by have := HZ.out; simp; omega) bN.cell (hr1.alloc (by have := HZ.out; omega) _))
    (fun h k => h.trans k) ?hKb (Below.refl _ _) (fun _ => rfl)
    (fun pre W => Boxed W w.heap.size 22 (.int .u64 (mixAll 0 pre)) ∧ Below w.heap.size w W)
    (fun _ _ _ => False)
    (OwnFrom.and (Own.from (boxed_own _ _ _) _) (ownFrom_below (Nat.le_refl _) (by have := HZ.out; simp; omega)))
    (fun _ _ _ _ _ hs _ _ => hs)
    ⟨bS1.alloc _, hB2⟩
    (fun x => { tmps := #[.string label, .slice A len cap, undef, undef, .int .u64 0, .pointer (some ⟨w.heap.size, 0, none⟩), .int .u64 x, undef, undef, .string label, .slice (some ⟨w.heap.size + 1, 0, none⟩) label.size c1, .func (.func 72) #[] #[.pointer (some ⟨w1.heap.size, 0, none⟩)], .int .u64 x, undef, undef, undef, undef, undef, undef, undef, undef, undef, undef, undef, undef, undef, undef, undef, undef, undef, undef, undef, undef, undef, undef, undef, undef, undef, undef], defers := [] }) ?assign ?body ?done ?stop
  case hKb =>
    intro W l o o' hl hW _ _ k hk
    have hz := HZ.out
    rw [World.size_alloc] at hl
    refine World.putObj_heap_other ?_
    rcases hk with rfl | ⟨_, ad, h, rfl⟩
    · omega
    · injection h with h; subst h; simp; omega
  case assign =>
    intro l x W K hK
    gi_wp2
    exact hK
  case body =>
    rintro l pre x W ⟨hS, hB'⟩ _
    have hc := hS.cell
    have hf := hS.frozen
    gi_wp2_with (refine ⟨trivial, ?_⟩; gi_at_call 51; refine (CallsIn.inRound l (callsIn_wide.2 (mix_any _ _ _))).mono ?_; rintro e w' ⟨rfl, rfl⟩)
    refine ⟨(KeepsOthers.setCell _ _ _).from _, fun k hk => Below.heap_setCell _ _ _ _ ?_, by rw [mixAll_snoc]; exact hS.set _, hB'.setCell (p := ⟨w.heap.size, 0, none⟩) (Nat.le_refl _) _⟩
    have hz := HZ.out
    rcases hk with rfl | ⟨_, ad, h, rfl⟩
    · simp; omega
    · injection h with h; subst h; simp
  case done =>
    rintro D ys W hD rfl ⟨hS, hB'⟩ hK
    have hc := hS.cell
    have hf := hS.frozen
    gi_wp2_with (refine ⟨trivial, ?_⟩; gi_at_call 51; refine (callsIn_wide.2 (mix_any _ _ _)).mono ?_; rintro e w' ⟨rfl, rfl⟩)
    gi_loopw [8, 28] (fun _ i wr => ∃ j : Nat, j ≤ len ∧ i = .int .i64 (j : Int) ∧ Boxed wr w.heap.size 22 (.int .u64 (sumTo label.data.toList len ws j)) ∧ Below w.heap.size w wr ∧ Hid (wr.heap[D]? = some (.deferred (some []))))
      (fun _ i _ => len - (intOf i).toNat)
    case atStart =>
      exact ⟨0, by omega, rfl, by rw [sumTo_zero]; exact (hS.set _).set _, (hB'.setCell (p := ⟨w.heap.size, 0, none⟩) (Nat.le_refl _) _).setCell (p := ⟨w.heap.size, 0, none⟩) (Nat.le_refl _) _, (KeepsOthers.setCell _ _ _).same D _ ((KeepsOthers.setCell _ _ _).same D _ hK rfl) rfl⟩
    case round =>
      obtain ⟨j, hj, rfl, hS3, hB3, hK3⟩ := hrel
      have hc3 := hS3.cell
      have hf3 := hS3.frozen
      by_cases hlt : j < len
      · obtain ⟨b, off, rfl, hb, hcl⟩ := (hR.below hB3 hB).at_ hlt
        have hcl' : wr.cell? ⟨b, off + j, none⟩ = some (.int .i64 (ws[j]?.getD 0)) := hcl
        have HT := Lib.hid (sumTo_succ label.data.toList len ws j (by have := HL.out; omega))
        clear hcl
        gi_wp2_with (refine ⟨trivial, ?_⟩; gi_at_call 51; refine (callsIn_wide.2 (mix_any _ _ _)).mono ?_; rintro e w' ⟨rfl, rfl⟩)
        exact ⟨⟨j + 1, by omega, by go_num, by rw [HT.out]; exact hS3.set _, hB3.setCell (p := ⟨w.heap.size, 0, none⟩) (Nat.le_refl _) _, (KeepsOthers.setCell _ _ _).same D _ hK3.out rfl⟩, by simp [intOf]; omega⟩
      · obtain rfl : j = len := by omega
        gi_wp2_with (refine ⟨trivial, ?_⟩; gi_at_call 51; refine (callsIn_wide.2 (mix_any _ _ _)).mono ?_; rintro e w' ⟨rfl, rfl⟩)
        refine ⟨by simp, .inl ⟨_, _, rfl, run_takeDeferred hK3.out, ?_⟩⟩
        refine ⟨_, results_tmp rfl _ _ _, ?_, hB3.trans (belowK_b (w := w) (Nat.le_refl _) wr D _ _ (by have := HZ.out; simp at hD; omega) hK3.out rfl rfl)⟩
        rw [← sumTo_all _ _ _ HL.out]
        rfl
  case stop =>
    rintro D c pre W _ _ h _
    exact h.elim

end Go.Proofs.Ytompkpleiichaaa
