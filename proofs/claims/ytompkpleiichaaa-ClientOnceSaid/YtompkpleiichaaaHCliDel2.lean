/- slices.Delete of one request. -/
import Derived.Test.YtompkpleiichaaaHG20
import Derived.Test.YtompkpleiichaaaHCliDec

namespace Go.Proofs.Ytompkpleiichaaa
open Go.RowKit

theorem wpList_clear_run {P : Program} {w : World} {ops : Array Oper} {rest : List Oper} {o : Oper} {a : Act} {Q : Exit → Act → World → Prop} {x : Operand} {t : TypeId} {vx v' : Value} {w' : World}
    (hrun : (Builtin.clear_ #[t] o.type #[vx]).run P w = .ok v' w') (hgd : o.guard = none) (ho : o.op = .call { callee := .builtin .clear, args := #[x], argTypes := #[t] }) (hx : a.eval x = vx)
    (h : wpList P ops Q rest (a.put o.dst v') w') : wpList P ops Q (o :: rest) a w :=
  wpList_plain hgd fun _ hK => by
    unfold Oper.wp execOp
    simp only [ho, resolve, invoke, builtin, Sem.run_bind, Sem.run_pure, Result.andThen_ok, List.map_toArray, List.map_cons, List.map_nil, hx, hrun]
    exact hK _ _ h
theorem flat_take (l : List Rq) : ∀ i : Nat, (l.take i).flatMap Rq.cells = (l.flatMap Rq.cells).take (i * 4) := by
  induction l with
  | nil => simp
  | cons r l ih =>
    intro i
    rcases i with _ | i
    · simp
    · rw [List.take_succ_cons, List.flatMap_cons, List.flatMap_cons, ih, show (i + 1) * 4 = i * 4 + 1 + 1 + 1 + 1 by omega]
      rfl
theorem flat_drop (l : List Rq) : ∀ i : Nat, (l.drop i).flatMap Rq.cells = (l.flatMap Rq.cells).drop (i * 4) := by
  induction l with
  | nil => simp
  | cons r l ih =>
    intro i
    rcases i with _ | i
    · simp
    · rw [List.drop_succ_cons, List.flatMap_cons, ih, show (i + 1) * 4 = i * 4 + 1 + 1 + 1 + 1 by omega]
      rfl
theorem undrewG {w w' : World} {r : Option Nat} (h : w.drew.grownBy w' r) : w.grownBy w' r := ⟨h.os, h.tape, h.output, h.size, h.block⟩
set_option maxRecDepth 100000 in
set_option maxHeartbeats 1000000 in
theorem deleteR_any (base g cap i : Nat) (op : List Rq) (w : World) (HO : Hid (w.ownsRow base 32 4 (.slice (some ⟨g, 0, none⟩) op.length cap) op.length (op.flatMap Rq.cells))) (hi : i < op.length) (hop : op.length ≤ 1000000) :
    Calls Try.prog 62 #[.slice (some ⟨g, 0, none⟩) op.length cap, .int .i64 (i : Int), .int .i64 ((i : Int) + 1)] w fun e w' => e = .returned (.slice (some ⟨g, 0, none⟩) (op.length - 1) cap) ∧
      w'.ownsRow base 32 4 (.slice (some ⟨g, 0, none⟩) (op.length - 1) cap) (op.length - 1) ((op.take i ++ op.drop (i + 1)).flatMap Rq.cells) ∧ w.grownBy w' (some g) := by
  obtain ⟨hlc, hcm⟩ := own_len_capR HO.out
  have h1 : (0 : Int) ≤ (i : Int) := by omega
  have h2 : (i : Int) + 1 ≤ (op.length : Int) := by omega
  have h3 : (op.length : Int) ≤ (cap : Int) := by omega
  have h4 : ((i : Int) == (i : Int) + 1) = false := by simp; omega
  have h5 : (i : Int) ≤ (cap : Int) := by omega
  go_enter Try.func62, Try.ntmps62
  go_wp2
  have h6 : (i : Int) ≤ (i : Int) + 1 := by omega
  have h7 : (0 : Int) ≤ (i : Int) + 1 := by omega
  have HLL := Lib.hid (show i + (op.length - (i + 1)) = op.length - 1 by omega)
  have H1 := Lib.hid (show op.length - (op.length - 1) = 1 by omega)
  have k1 : ((op.length - 1 : Nat) : Int) ≤ (op.length : Int) := by omega
  have k0 : (0 : Int) ≤ ((op.length - 1 : Nat) : Int) := by omega
  obtain ⟨ti, z, -, hti, hz, -, -, hzs, -⟩ := slT_req
  have hz1 : ∀ u ∈ z.cells.toList, u.oneCell' = true := by
    have hq : (Try.prog.info? 32).bind (·.zero) = some (.agg #[.int .i64 0, .int .i64 0, .slice none 0 0, .int .u64 0]) := by kernel_rfl
    rw [hti] at hq
    have : some z = some (.agg #[.int .i64 0, .int .i64 0, .slice none 0 0, .int .u64 0]) := by rw [← hz]; exact hq
    injection this with this
    subst this
    intro u hu
    simp [Value.cells] at hu
    rcases hu with rfl | rfl | rfl | rfl <;> rfl
  by_cases hcap : cap = i + 1
  · subst hcap
    have hrun := run_delete (P := Try.prog) (w := w.drew) (ty := 71) slT_req HO.out.drew hi (rq_one op) 0 0 (fun _ => by omega)
    rw [show op.length - (i + 1) = 0 by omega] at hrun
    rw [show i + 0 = op.length - 1 by omega] at hrun
    obtain ⟨w2, hap, hown2, hg2⟩ := hrun
    obtain ⟨w3, hcl, hown3, hg3⟩ := run_clear1 (ty := 0) Try.underlying71 hti hz hzs hz1 hown2 (by omega) ((i + 1) - (op.length - 1))
    have HCL : Hid ((Builtin.clear_ #[71] 0 #[.slice (some ⟨g, (op.length - 1) * 4, none⟩) (op.length - (op.length - 1)) ((i + 1) - (op.length - 1))]).run Try.prog w2 = .ok (.tuple #[]) w3) := Lib.hid (by rw [H1.out]; exact hcl)
    have HO3 := Lib.hid hown3
    have HG3 := Lib.hid hg3
    clear hcl hown3 hg3
    have HA := Lib.hid hap
    have HO2 := Lib.hid hown2
    have HG2 := Lib.hid hg2
    clear hap hown2 hg2
    go_region_law (refine step_append_run HA.out (by rfl) (by rfl) (by rfl) (by rfl) ?_)
    have hcl := HCL.out
    clear hti hz hzs hz1
    go_wp2
    go_ret
    exact ⟨rfl, by rw [show (op.take i ++ op.drop (i + 1)).flatMap Rq.cells = (op.flatMap Rq.cells).take (i * 4) ++ (op.flatMap Rq.cells).drop ((i + 1) * 4) by rw [List.flatMap_append, flat_take, flat_drop]]; exact HO3.out, (undrewG HG2.out).trans HG3.out⟩
  · have hcapI : ¬ ((cap : Int) = (i : Int) + 1) := by omega
    have hrun := run_delete (P := Try.prog) (w := w.drew) (ty := 71) slT_req HO.out.drew hi (rq_one op) ((i + 1) * 4) (cap - (i + 1)) (fun _ => rfl)
    skip
    rw [HLL.out] at hrun
    obtain ⟨w2, hap, hown2, hg2⟩ := hrun
    obtain ⟨w3, hcl, hown3, hg3⟩ := run_clear1 (ty := 0) Try.underlying71 hti hz hzs hz1 hown2 (by omega) (cap - (op.length - 1))
    have HCL : Hid ((Builtin.clear_ #[71] 0 #[.slice (some ⟨g, (op.length - 1) * 4, none⟩) (op.length - (op.length - 1)) (cap - (op.length - 1))]).run Try.prog w2 = .ok (.tuple #[]) w3) := Lib.hid (by rw [H1.out]; exact hcl)
    have HO3 := Lib.hid hown3
    have HG3 := Lib.hid hg3
    clear hcl hown3 hg3
    have HA := Lib.hid hap
    have HO2 := Lib.hid hown2
    have HG2 := Lib.hid hg2
    clear hap hown2 hg2
    go_region_law (refine step_append_run HA.out (by rfl) (by rfl) (by rfl) (by rfl) ?_)
    have hcl := HCL.out
    clear hti hz hzs hz1
    go_wp2
    go_ret
    exact ⟨rfl, by rw [show (op.take i ++ op.drop (i + 1)).flatMap Rq.cells = (op.flatMap Rq.cells).take (i * 4) ++ (op.flatMap Rq.cells).drop ((i + 1) * 4) by rw [List.flatMap_append, flat_take, flat_drop]]; exact HO3.out, (undrewG HG2.out).trans HG3.out⟩
end Go.Proofs.Ytompkpleiichaaa
