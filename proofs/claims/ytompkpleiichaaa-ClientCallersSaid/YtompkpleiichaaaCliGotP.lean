/- client: Got of the package. -/
import Derived.Test.YtompkpleiichaaaCliDel2
import Derived.Test.YtompkpleiichaaaCliIdx
namespace Go.Proofs.Ytompkpleiichaaa
open Go.RowKit

theorem CallAt.deleted {w w1 : World} {T E : TypeId} {g g1 cap i : Nat} {cl key last : Int} {op : List Rq} (h : CallAt w T E g cl key last (.slice (some ⟨g1, 0, none⟩) op.length cap) op) (hTE : T ≠ E) (hT : T ≠ 5) (hE : E ≠ 5) (hi : i < op.length)
    (ho : w1.ownsRow 0 E 4 (.slice (some ⟨g1, 0, none⟩) (op.length - 1) cap) (op.length - 1) ((op.take i ++ op.drop (i + 1)).flatMap Rq.cells)) (hg : w.grownBy w1 (some g1)) :
    w1.cell? ⟨g, 3, none⟩ = some (.slice (some ⟨g1, 0, none⟩) op.length cap) ∧ w1.frozen? ⟨g, 3, none⟩ = false ∧
    CallAt (w1.setCell ⟨g, 3, none⟩ (.slice (some ⟨g1, 0, none⟩) (op.length - 1) cap)) T E g cl key last (.slice (some ⟨g1, 0, none⟩) (op.length - 1) cap) (op.take i ++ op.drop (i + 1)) ∧ Mod (CallF g (.slice (some ⟨g1, 0, none⟩) op.length cap)) w (w1.setCell ⟨g, 3, none⟩ (.slice (some ⟨g1, 0, none⟩) (op.length - 1) cap)) := by
  have hne : g1 ≠ g := h.row_ne hTE rfl
  have hb1 : Blk w1 g T #[.int .i64 cl, .int .u64 key, .int .i64 last, .slice (some ⟨g1, 0, none⟩) op.length cap] := (hg.block g h.1.lt (by simp; exact fun e => hne e.symm)).trans h.1
  have m1 : Mod (fun b => b = g1) w w1 := Mod.of_grown hg (fun b e => by injection e with e; exact .inl e.symm)
  have hTg1 : Ty w g1 E := Ty.of_own h.2.1 rfl
  have m2 : Mod (fun b => b = g) w1 (w1.setCell ⟨g, 3, none⟩ (.slice (some ⟨g1, 0, none⟩) (op.length - 1) cap)) := (Mod.refl (fun b => b = g) w1).set (p := ⟨g, 3, none⟩) (.inl rfl) _
  have hl0 : (op.take i ++ op.drop (i + 1)).length = op.length - 1 := by rw [List.length_append, List.length_take, List.length_drop]; omega
  refine ⟨(blk4 hb1).2.2.2.1, (blk4 hb1).2.2.2.2.2.2.2, ⟨?_, ?_, ?_⟩, ?_⟩
  · have := Blk.set_ hb1 3 (.slice (some ⟨g1, 0, none⟩) (op.length - 1) cap)
    simpa using this
  · rw [hl0]
    exact m2.own ho (fun b hb e => hne (by injection hb with hb; exact hb.trans e))
  · intro r hr
    have hm : r ∈ op := by
      rcases List.mem_append.1 hr with h | h
      · exact List.mem_of_mem_take h
      · exact List.mem_of_mem_drop h
    refine ((h.2.2 r hm).mod m1 ?_).mod m2 ?_
    · rintro b rfl ht
      exact hE (Ty.unique hTg1 ht)
    · rintro b rfl ht
      exact hT (Ty.unique hb1.ty ht)
  · exact (m1.mono (fun b e => .inl (.inr (by rw [e]; rfl)))).trans m2 (fun b e => .inl (.inl e))
set_option maxRecDepth 100000 in
set_option maxHeartbeats 1000000 in
theorem gotP_any (g : Nat) (cl key last : Int) (rv : Value) (op : List Rq) (num : Int) (A : Option Addr) (n c : Nat) (w : World) (HC : Hid (CallAt w 89 32 g cl key last rv op)) (hop : op.length ≤ 1000000) (hn : n ≤ 1000000) :
    Calls Try.prog 34 #[.pointer (some ⟨g, 0, none⟩), .int .i64 num, .slice A n c] w (GotPost 89 32 g cl key last rv op num n w) := by
  obtain ⟨A1, c1, rfl⟩ := own_parts HC.out.2.1
  have hb1 := (Below.refl w.heap.size w).alloc (Nat.le_refl _) (.cells #[.int .i64 num] 3)
  have hC1 := HC.out.all hb1
  have hbn := Blk.new w 3 #[.int .i64 num]
  obtain ⟨d0, d1, d2, d3, e0, e1, e2, e3⟩ := blk4 hC1.1
  by_cases h1 : num < 1
  · go_enter Try.func34, Try.ntmps34
    go_wp2
    go_quiet (fail)
    go_wp2
    go_ret
    exact GotPost.same (hC1.all ⟨rfl, rfl, rfl, Nat.le_refl _, fun _ _ => rfl⟩) (below_drewN hb1 _) (by unfold gotErr; rw [if_pos (.inl h1)]) (by decide)
  by_cases h2 : last < num
  · go_enter Try.func34, Try.ntmps34
    go_wp2
    go_quiet (fail)
    go_wp2
    go_ret
    exact GotPost.same (hC1.all ⟨rfl, rfl, rfl, Nat.le_refl _, fun _ _ => rfl⟩) (below_drewN hb1 _) (by unfold gotErr; rw [if_pos (.inr h2)]) (by decide)
  have HE0 := Lib.hid (show gotErr last (op.map Rq.log) num n = if hasN (op.map Rq.log) num = false then 8 else if 65536 < n then 4 else 0 by unfold gotErr; rw [if_neg (by omega)])
  go_enter Try.func34, Try.ntmps34
  go_wp2
  go_quiet (fail)
  have hb2 := below_drewN hb1 nq
  have hC2 : CallAt ((w.alloc (.cells #[.int .i64 num] 3)).drewN nq) 89 32 g cl key last (.slice A1 op.length c1) op := hC1.all ⟨rfl, rfl, rfl, Nat.le_refl _, fun _ _ => rfl⟩
  have hbn2 : Blk ((w.alloc (.cells #[.int .i64 num] 3)).drewN nq) w.heap.size 3 #[.int .i64 num] := hbn
  generalize (w.alloc (.cells #[.int .i64 num] 3)).drewN nq = w2 at *
  clear hb1 hC1 hbn d0 d1 d2 d3 e0 e1 e2 e3
  obtain ⟨d0, d1, d2, d3, e0, e1, e2, e3⟩ := blk4 hC2.1
  have hcn : w2.cell? ⟨w.heap.size, 0, none⟩ = some (.int .i64 num) := hbn2.cell 0
  obtain ⟨gn, hgn⟩ : ∃ gn, w.heap.size = gn := ⟨_, rfl⟩
  rw [hgn] at hcn hbn2 ⊢
  clear hgn
  go_wp2_with fail
  refine (indexF_any _ g gn cl key last A1 c1 op num _ (Lib.hid hC2) hop hcn).mono ?_
  rintro e w3 ⟨rfl, hb3⟩
  have hC3 := hC2.all hb3
  have hb03 := hb2.trans (hb3.mono hb2.size)
  clear d0 d1 d2 d3 e0 e1 e2 e3 hcn hbn2 hC2 hb2 hb3
  rcases hf : op.findIdx? (fun r => r.num == num) with _ | i
  · have hix : idxN op num = -1 := by unfold idxN; rw [hf]
    have hno : hasN (op.map Rq.log) num = false := hasN_none (fun t ht => by
      rw [List.findIdx?_eq_none_iff] at hf
      simpa using hf _ (List.getElem_mem ht))
    have HNO := Lib.hid hno
    clear hf hno
    rw [hix]
    clear hix
    go_wp2
    go_ret
    exact GotPost.same hC3 hb03 (by rw [HE0.out, if_pos HNO.out]) (by decide)
  · have hix : idxN op num = (i : Int) := by unfold idxN; rw [hf]
    rw [List.findIdx?_eq_some_iff_getElem] at hf
    obtain ⟨hi, hnum, hno⟩ := hf
    obtain ⟨y1, y2⟩ := erase_at hi (fun t ht => by simpa using hno t ht) (by simpa using hnum)
    have HY1 := Lib.hid y1
    have HY2 := Lib.hid y2
    rw [hix]
    clear hix hnum hno y1 y2
    have hi0 : ¬ ((i : Int) < 0) := by omega
    by_cases hbig : 65536 < n
    · have hbig' : (65536 : Int) < (n : Int) := by omega
      go_wp2
      go_ret
      exact GotPost.same hC3 hb03 (by rw [HE0.out, HY1.out, if_neg (by decide), if_pos hbig]) (by decide)
    have hbig' : ¬ ((65536 : Int) < (n : Int)) := by omega
    have HERR := Lib.hid (show gotErr last (op.map Rq.log) num n = 0 by rw [HE0.out, HY1.out, if_neg (by decide), if_neg hbig])
    obtain ⟨g1, cap, hv, -⟩ := hC3.row hi
    injection hv with hv1 _ hv3
    subst hv1 hv3
    obtain ⟨d0, d1, d2, d3, e0, e1, e2, e3⟩ := blk4 hC3.1
    have hi1 : (i : Int) ≤ 9223372036854775806 := by omega
    go_wp2_with fail
    refine (deleteR_any 0 g1 c1 i op _ (Lib.hid hC3.2.1) hi hop).mono ?_
    rintro e w4 ⟨rfl, hown4, hg4⟩
    obtain ⟨f3, e3', hC4, hm4⟩ := hC3.deleted (by decide) (by decide) (by decide) hi hown4 hg4
    have HC4 := Lib.hid hC4
    have HM4 := Lib.hid hm4
    clear d0 d1 d2 d3 e0 e1 e2 e3 hC4 hm4 hown4 hg4
    go_wp2
    go_ret
    refine ⟨_, _, by rw [HERR.out]; rfl, ?_, HC4.out, ?_, .inl rfl⟩
    · unfold gotNew
      rw [if_pos HERR.out, HY2.out]
    · exact (Mod.of_below (CallF g (.slice (some ⟨g1, 0, none⟩) op.length c1)) hb03).trans HM4.out (fun b hb => .inl hb)
end Go.Proofs.Ytompkpleiichaaa
