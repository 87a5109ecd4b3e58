/- append of one element (a struct or not) onto a row of the call's own, at a plain region's list and at a step of a region that draws. -/
import Derived.Test.YtompkpleiichaaaIMap
import Derived.Deep.RegionLaw
namespace Go.Proofs.Ytompkpleiichaaa
open Go.RowKit

/-- t is the type of slices of e: size cells, so many bytes. -/
def SlT (P : Program) (t e : TypeId) (size bytes : Nat) : Prop :=
  ∃ i z, P.underlying t = some (.slice e) ∧ P.info? e = some i ∧ i.zero = some z ∧ i.size = size ∧ i.bytes = bytes ∧ z.cells.size = size ∧ 0 < size
theorem SlT.of {P : Program} {t e : TypeId} {size bytes : Nat} (hu : P.underlying t = some (.slice e)) (h : (P.info? e).bind (fun i => i.zero.map fun z => (i.size, i.bytes, z.cells.size)) = some (size, bytes, size)) (hs : 0 < size) : SlT P t e size bytes := by
  obtain ⟨i, hi, h⟩ := Option.bind_eq_some_iff.1 h
  obtain ⟨z, hz, h⟩ := Option.map_eq_some_iff.1 h
  simp only [Prod.mk.injEq] at h
  exact ⟨i, z, hu, hi, hz, h.1, h.2.1, h.2.2, hs⟩
section
variable {P : Program} {w : World} {base t e size bytes n : Nat} {v : Value} {xs : List Value}
theorem run_append1 {ty : TypeId} (hT : SlT P t e size bytes) (hown : w.ownsRow base e size v n xs) {gb : Nat} {cs : Array Value} (hsrc : Blk w gb e cs) (hcs : cs.size = size) (h1 : ∀ u ∈ cs.toList, u.oneCell' = true)
    (hn : n < 1099511627776) (hby : bytes ≤ 64) (hbase : base ≤ w.heap.size) :
    ∃ g cap w', (Builtin.append_ #[t, t] ty #[v, .slice (some ⟨gb, 0, none⟩) 1 1]).run P w = .ok (.slice (some ⟨g, 0, none⟩) (n + 1) cap) w' ∧ w'.ownsRow base e size (.slice (some ⟨g, 0, none⟩) (n + 1) cap) (n + 1) (xs ++ cs.toList) ∧
      w.grownBy w' v.ownBlock ∧ (some g = v.ownBlock ∨ g = w.heap.size) := by
  obtain ⟨i, z, ht, hi, hz, hs, hb, hzs, hsz⟩ := hT
  have hmul : (n + 1) * bytes ≤ 140737488355328 := Nat.le_trans (Nat.mul_le_mul (show n + 1 ≤ 1099511627776 by omega) hby) (by decide)
  obtain ⟨v', w', hrun, h2, h3, _, h5⟩ := run_append_own_at (P := P) w base t ty e i z size bytes ht hi hz hs hb hzs hsz v n xs hown ⟨gb, 0, none⟩ 1 1 cs.toList (by simpa using hcs)
      (fun j u hu => by
        have ea : (⟨gb, 0, none⟩ : Addr).add j = ⟨gb, j, none⟩ := by unfold Addr.add; split <;> simp_all
        rw [ea, Blk.cell hsrc j]
        simpa using hu)
      h1 (by unfold maxLen; omega) hmul hbase
  obtain ⟨g, cap, rfl⟩ := ownsRow_succ h2
  refine ⟨g, cap, w', hrun, h2, h3, ?_⟩
  rcases h5 with h5 | h5
  · exact .inl (by simpa [Value.ownBlock] using h5)
  · exact .inr (by simpa [Value.ownBlock] using h5)
theorem wpList_append1 {ops : Array Oper} {rest : List Oper} {o : Oper} {a : Act} {Q : Exit → Act → World → Prop} {s x : Operand} (hT : SlT P t e size bytes) (hgd : o.guard = none)
    (ho : o.op = .call { callee := .builtin .append, args := #[s, x], argTypes := #[t, t] }) (hs : a.eval s = v) (gb : Nat) (hx : a.eval x = .slice (some ⟨gb, 0, none⟩) 1 1)
    (hown : w.ownsRow base e size v n xs) (cs : Array Value) (hsrc : Blk w gb e cs) (hcs : cs.size = size) (h1 : ∀ u ∈ cs.toList, u.oneCell' = true) (hn : n < 1099511627776) (hby : bytes ≤ 64) (hbase : base ≤ w.heap.size)
    (hK : ∀ g cap w', w'.ownsRow base e size (.slice (some ⟨g, 0, none⟩) (n + 1) cap) (n + 1) (xs ++ cs.toList) → w.grownBy w' v.ownBlock → (some g = v.ownBlock ∨ g = w.heap.size) →
      wpList P ops Q rest (a.put o.dst (.slice (some ⟨g, 0, none⟩) (n + 1) cap)) w') : wpList P ops Q (o :: rest) a w := by
  obtain ⟨g, cap, w', hrun, h2, h3, h4⟩ := run_append1 (ty := o.type) hT hown hsrc hcs h1 hn hby hbase
  exact wpList_append_run hrun hgd ho hs hx (hK g cap w' h2 h3 h4)
theorem step_append1 {ops : Array Oper} {o : Oper} {a : Act} {K : Act → World → Prop} {Q : Exit → Act → World → Prop} {E : Prop} {s x : Operand} (hT : SlT P t e size bytes) (hgd : o.guard = none)
    (ho : o.op = .call { callee := .builtin .append, args := #[s, x], argTypes := #[t, t] }) (hs : a.eval s = v) (gb : Nat) (hx : a.eval x = .slice (some ⟨gb, 0, none⟩) 1 1)
    (hown : w.ownsRow base e size v n xs) (cs : Array Value) (hsrc : Blk w gb e cs) (hcs : cs.size = size) (h1 : ∀ u ∈ cs.toList, u.oneCell' = true) (hn : n < 1099511627776) (hby : bytes ≤ 64) (hbase : base ≤ w.heap.size)
    (hK : ∀ g cap w', w'.ownsRow base e size (.slice (some ⟨g, 0, none⟩) (n + 1) cap) (n + 1) (xs ++ cs.toList) → w.grownBy w' v.ownBlock → (some g = v.ownBlock ∨ g = w.heap.size) →
      K (a.put o.dst (.slice (some ⟨g, 0, none⟩) (n + 1) cap)) w') : if Region.wanted o (yielded ops a.tmps) = true then Oper.wp P o a w K Q else E := by
  obtain ⟨g, cap, w', hrun, h2, h3, h4⟩ := run_append1 (ty := o.type) hT hown hsrc hcs h1 hn hby hbase
  have hw : Region.wanted o (yielded ops a.tmps) = true := by simp [Region.wanted, hgd]
  rw [if_pos hw]
  unfold Oper.wp
  simp [execOp, ho, resolve, invoke, builtin, hs, hx, hrun, Result.andThen]
  exact hK g cap w' h2 h3 h4
end
end Go.Proofs.Ytompkpleiichaaa
