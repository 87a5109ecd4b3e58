/- client: IndexFunc within Got. -/
import Derived.Test.YtompkpleiichaaaCliGot
namespace Go.Proofs.Ytompkpleiichaaa
open Go.RowKit

set_option maxRecDepth 100000 in
theorem got1_any (r : Rq) (gn : Nat) (num : Int) (w : World) (hn : w.cell? ⟨gn, 0, none⟩ = some (.int .i64 num)) : Calls Try.prog 61 #[r.val, .pointer (some ⟨gn, 0, none⟩)] w fun e w' => e = .returned (.bool (r.num == num)) ∧ Below w.heap.size w w' := by
  have hlt : gn < w.heap.size := World.block_lt_of_cell? w _ hn
  have hb := (Below.refl w.heap.size w).alloc (Nat.le_refl _) (.cells #[.int .i64 r.cl, .int .i64 r.num, .slice r.A r.n r.c, .int .u64 r.tag] 32)
  have hn2 := (hb.cell (p := ⟨gn, 0, none⟩) hlt).trans hn
  unfold Rq.val
  go_enter Try.func61, Try.ntmps61
  go_wp2
  go_ret
  exact ⟨rfl, hb⟩
/-- The index of the first request with a number, or -1. -/
def idxN (op : List Rq) (num : Int) : Int := match op.findIdx? (fun r => r.num == num) with | some k => (k : Int) | none => -1
set_option maxRecDepth 100000 in
set_option maxHeartbeats 1000000 in
theorem indexF_any (T : TypeId) (g gn : Nat) (cl key last : Int) (A1 : Option Addr) (c1 : Nat) (op : List Rq) (num : Int) (w : World) (HC : Hid (CallAt w T 32 g cl key last (.slice A1 op.length c1) op)) (hop : op.length ≤ 1000000) (hn : w.cell? ⟨gn, 0, none⟩ = some (.int .i64 num)) :
    Calls Try.prog 60 #[.slice A1 op.length c1, .func (.func 61) #[] #[.pointer (some ⟨gn, 0, none⟩)]] w fun e w' => e = .returned (.int .i64 (idxN op num)) ∧ Below w.heap.size w w' := by
  have hlt : gn < w.heap.size := World.block_lt_of_cell? w _ hn
  have HN := Lib.hid hn
  clear hn
  go_enter Try.func60, Try.ntmps60
  go_wp2
  go_loopw [8] (fun i wr => ∃ j : Nat, j ≤ op.length ∧ i = .int .i64 (j : Int) ∧ Hid (∀ t (ht : t < j) (hl : t < op.length), (op[t]).num ≠ num) ∧ Below w.heap.size w wr) (fun i _ => op.length - (intOf i).toNat)
  case atStart => exact ⟨0, by omega, rfl, Lib.hid (fun t ht => absurd ht (by omega)), Below.refl _ _⟩
  case round =>
    obtain ⟨j, hj, rfl, HNO, hb⟩ := hrel
    by_cases hlt2 : j < op.length
    · have hC := HC.out.all hb
      obtain ⟨g1, cap, hv, t0, t1, t2, t3⟩ := hC.row hlt2
      injection hv with hv1 _ hv3
      subst hv1 hv3
      have hi0 : (0 : Int) ≤ (j : Int) := by omega
      have hi1 : (j : Int) < (op.length : Int) := by omega
      have hnr := (hb.cell (p := ⟨gn, 0, none⟩) hlt).trans HN.out
      clear hC
      rcases hnum : ((op[j]).num == num) with _ | _
      · have HNE := Lib.hid hnum
        go_wp2_with (go_at_call 61; refine (got1_any op[j] gn num _ hnr).mono ?_; rw [hnum]; rintro e w2 ⟨rfl, hb2⟩; replace hb := bt hb hb2; clear hb2)
        exact ⟨⟨j + 1, by omega, by go_num, Lib.hid (fun t ht hl => by
          rcases Nat.lt_or_eq_of_le (Nat.lt_succ_iff.1 ht) with h | rfl
          · exact HNO.out t h hl
          · simpa using HNE.out), hb⟩, by simp [intOf]; omega⟩
      · have HNE := Lib.hid hnum
        go_wp2_with (go_at_call 61; refine (got1_any op[j] gn num _ hnr).mono ?_; rw [hnum]; rintro e w2 ⟨rfl, hb2⟩; replace hb := bt hb hb2; clear hb2)
        go_ret
        have hf : op.findIdx? (fun r => r.num == num) = some j := by
          rw [List.findIdx?_eq_some_iff_getElem]
          exact ⟨hlt2, HNE.out, fun t ht => by simpa using HNO.out t ht (by omega)⟩
        exact ⟨by unfold idxN; rw [hf]; rfl, hb⟩
    · obtain rfl : j = op.length := by omega
      go_wp2
      go_ret
      have hf : op.findIdx? (fun r => r.num == num) = none := by
        rw [List.findIdx?_eq_none_iff]
        intro r hr
        obtain ⟨t, ht, rfl⟩ := List.getElem_of_mem hr
        simpa using HNO.out t ht ht
      exact ⟨by unfold idxN; rw [hf]; rfl, hb⟩
end Go.Proofs.Ytompkpleiichaaa
