/- Several values appended at once. -/
import Derived.Test.YtahajgmmoefpjaaWireLaws
namespace Go.Proofs.Ytahajgmmoefpjaa
open Go.RowKit

/-- append of several elements of several cells: the walk lays them into a block of its own first. -/
theorem run_append_elems {P : Program} (w : World) (base : Nat) (t ty e : TypeId) (i : TypeInfo) (z : Value) (size bytes : Nat) (ht : P.underlying t = some (.slice e)) (hi : P.info? e = some i) (hz : i.zero = some z)
    (hsize : i.size = size) (hby : i.bytes = bytes) (hzs : z.cells.size = size) (hsz : 0 < size)
    (v : Value) (n m : Nat) (hm : 0 < m) (xs : List Value) (hown : w.ownsRow base e size v n xs) (cs : Array Value) (hcs : cs.size = m * size) (h1 : ∀ u ∈ cs.toList, u.oneCell' = true)
    (h63 : n + m ≤ maxLen) (hbytes : (n + m) * bytes ≤ 140737488355328) (hbase : base ≤ w.heap.size) :
    ∃ g cap w', (Builtin.append_ #[t, t] ty #[v, .slice (some ⟨w.heap.size, 0, none⟩) m m]).run P (w.alloc (.cells cs e)) = .ok (.slice (some ⟨g, 0, none⟩) (n + m) cap) w' ∧ w'.ownsRow base e size (.slice (some ⟨g, 0, none⟩) (n + m) cap) (n + m) (xs ++ cs.toList) ∧
      w.grownBy w' v.ownBlock ∧ (some g = v.ownBlock ∨ g = w.heap.size + 1) ∧ w.heap.size < w'.heap.size := by
  obtain ⟨v', w', hrun, h2, h3, _, h5⟩ := run_append_own_at (P := P) (w.alloc (.cells cs e)) base t ty e i z size bytes ht hi hz hsize hby hzs hsz v n xs (hown.alloc _) ⟨w.heap.size, 0, none⟩ m m cs.toList (by simp [hcs]) (World.news_of_block (World.alloc_heap_new w _)) h1 h63 hbytes (by simp; omega)
  obtain ⟨m', rfl⟩ : ∃ m', m = m' + 1 := ⟨m - 1, by omega⟩
  obtain ⟨g, cap, rfl⟩ := ownsRow_succ (k := n + m') h2
  refine ⟨g, cap, w', hrun, h2, (World.grownBy_alloc w _ _).trans h3, ?_, ?_⟩
  · rcases h5 with h5 | h5
    · exact .inl (by simpa [Value.ownBlock] using h5)
    · exact .inr (by simpa [Value.ownBlock] using h5)
  · have := h3.size
    simp at this
    omega
/-- Several values more: each with where its parts lie. -/
theorem VOwn.append {w : World} {base k m : Nat} {v : Value} {vs xs : List V} (h : VOwn w base v k vs) (S' T' : Nat → Sl) (hm : 0 < m) (hx : xs.length = m) (hin : ∀ j, j < m → BIn w w.heap.size (S' j) (xs[j]?.getD V0).b ∧ NIn w w.heap.size (T' j) (xs[j]?.getD V0).l ∧ Far base (S' j) ∧ Far base (T' j) ∧
      (∀ b off, 0 < (S' j).2.1 → (S' j).1 = some ⟨b, off, none⟩ → some b ≠ v.ownBlock) ∧ (∀ b off, 0 < (T' j).2.1 → (T' j).1 = some ⟨b, off, none⟩ → some b ≠ v.ownBlock)) (hk : k + m ≤ 1000000) (hbase : base ≤ w.heap.size)
    (cs : Array Value) (hcs : cs.toList = (List.range m).flatMap fun j => (vCells (xs[j]?.getD V0) (S' j) (T' j)).toList) :
    ∃ g cap w', Hid ((Builtin.append_ #[35, 35] 35 #[v, .slice (some ⟨w.heap.size, 0, none⟩) m m]).run Try.prog (w.alloc (.cells cs 47)) = .ok (.slice (some ⟨g, 0, none⟩) (k + m) cap) w') ∧
      VOwn w' base (.slice (some ⟨g, 0, none⟩) (k + m) cap) (k + m) (vs ++ xs) ∧ w.grownBy w' v.ownBlock ∧ Below base w w' := by
  obtain ⟨hl, S, T, h1, h2⟩ := h
  obtain ⟨i0, hi, hz0, hz1, hz2⟩ := info_parts info_val
  have hlen : ∀ (F : Nat → Array Value) (_ : ∀ j, (F j).size = 5) (m : Nat), ((List.range m).flatMap fun j => (F j).toList).length = m * 5 := by
    intro F hF m
    induction m with
    | zero => rfl
    | succ m ih => rw [List.range_succ, List.flatMap_append, List.length_append, ih]; simp [hF]; omega
  have hsz : cs.size = m * 5 := by rw [← Array.length_toList, hcs]; exact hlen (fun j => vCells (xs[j]?.getD V0) (S' j) (T' j)) (fun _ => rfl) m
  obtain ⟨g, cap, w', hrun, hown, hg, hgg, hszz⟩ := run_append_elems (P := Try.prog) w base 35 35 47 i0 _ 5 72 Try.underlying35 hi hz0 hz1 hz2 rfl (by decide) v k m hm _ h1 cs hsz (by
    intro u hu
    rw [hcs] at hu
    obtain ⟨j, _, hj⟩ := List.mem_flatMap.1 hu
    simp [vCells] at hj
    rcases hj with rfl | rfl | rfl | rfl | rfl <;> rfl) (by unfold maxLen; omega) (by omega) hbase
  refine ⟨g, cap, w', Lib.hid hrun, ⟨by simp [hl, hx], fun j => if j < k then S j else S' (j - k), fun j => if j < k then T j else T' (j - k), ?_, ?_⟩, hg, (Below.refl base w).grown hg hbase (fun r e => (h1.lt r e).1)⟩
  · have e0 : List.range (k + m) = List.range k ++ (List.range m).map (k + ·) := List.range_add
    rw [e0, List.flatMap_append]
    have e1 : ((List.range k).flatMap fun j => (vCells ((vs ++ xs)[j]?.getD V0) (if j < k then S j else S' (j - k)) (if j < k then T j else T' (j - k))).toList) = (List.range k).flatMap fun j => (vCells (vs[j]?.getD V0) (S j) (T j)).toList := by
      rw [List.flatMap_def, List.flatMap_def]
      congr 1
      refine List.map_congr_left fun j hj => ?_
      have hj' := List.mem_range.1 hj
      rw [if_pos hj', if_pos hj', List.getElem?_append_left (by omega)]
    have e2 : (((List.range m).map (k + ·)).flatMap fun j => (vCells ((vs ++ xs)[j]?.getD V0) (if j < k then S j else S' (j - k)) (if j < k then T j else T' (j - k))).toList) = cs.toList := by
      rw [hcs, List.flatMap_map, List.flatMap_def, List.flatMap_def]
      congr 1
      refine List.map_congr_left fun j hj => ?_
      rw [if_neg (by omega), if_neg (by omega), List.getElem?_append_right (by omega), hl, Nat.add_sub_cancel_left]
    rw [e1, e2]
    exact hown
  · have hne : ∀ b : Nat, some b ≠ v.ownBlock → b < w.heap.size → some b ≠ (Value.slice (some ⟨g, 0, none⟩) (k + m) cap).ownBlock := by
      intro b hb hlt e
      have e' : b = g := by simpa [Value.ownBlock] using e
      subst e'
      rcases hgg with hgg | hgg
      · exact hb hgg
      · omega
    intro j hj
    simp only
    by_cases h : j < k
    · rw [if_pos h, if_pos h, List.getElem?_append_left (by omega)]
      obtain ⟨a1, a2, a3, a4, a5, a6⟩ := h2 j h
      exact ⟨a1.grown hg a5, a2.grown hg a6, a3, a4, fun b off hn e => hne b (a5 b off hn e) (a1.lt b off hn e), fun b off hn e => hne b (a6 b off hn e) (a2.lt b off hn e)⟩
    · rw [if_neg h, if_neg h, List.getElem?_append_right (by omega), hl]
      obtain ⟨a1, a2, a3, a4, a5, a6⟩ := hin (j - k) (by omega)
      exact ⟨a1.grown hg a5, a2.grown hg a6, a3, a4, fun b off hn e => hne b (a5 b off hn e) (a1.lt b off hn e), fun b off hn e => hne b (a6 b off hn e) (a2.lt b off hn e)⟩
theorem Rdr.drew {w : World} {B gd : Nat} {rest : List UInt8} {err : Int} (h : Rdr w B gd rest err) : Rdr w.drew B gd rest err := h
theorem only_undrew {w w' : World} {row : Option Nat} (h : w.drew.grownBy w' row) : w.grownBy w' row := ⟨h.os, h.tape, h.output, h.size, h.block⟩
/-- The values' kinds and what is left of their encoding. -/
def encFrom (vs : List V) (k : Nat) : List UInt8 := (vs.drop k).flatMap encV
theorem encFrom_zero (vs : List V) : encFrom vs 0 = vs.flatMap encV := rfl
theorem encTo_all (vs : List V) (n : Nat) (h : vs.length ≤ n) : encTo vs n = vs.flatMap encV := by unfold encTo; rw [List.take_of_length_le h]
theorem encFrom_succ (vs : List V) (k : Nat) (hk : k < vs.length) : encFrom vs k = encV (vs[k]?.getD V0) ++ encFrom vs (k + 1) := by
  unfold encFrom
  rw [List.drop_eq_getElem_cons hk, List.flatMap_cons]
  simp [hk]
theorem encFrom_end (vs : List V) (k : Nat) (h : vs.length ≤ k) : encFrom vs k = [] := by unfold encFrom; rw [List.drop_eq_nil_of_le h]; rfl
theorem fit_of_good {vs : List V} (h : ∀ y ∈ vs, GoodV y) : ∀ j : Nat, FitV (vs[j]?.getD V0) := by
  intro j
  by_cases hj : j < vs.length
  · rw [List.getElem?_eq_getElem hj]; exact (h _ (List.getElem_mem _)).fit
  · rw [List.getElem?_eq_none (by omega)]
    exact ⟨by simp [V0], inI0, by simp [V0], by simp [V0], by simp [V0]⟩
theorem good_at {vs : List V} (h : ∀ y ∈ vs, GoodV y) {j : Nat} (hj : j < vs.length) : GoodV (vs[j]?.getD V0) := by
  rw [List.getElem?_eq_getElem hj]; exact h _ (List.getElem_mem _)
end Go.Proofs.Ytahajgmmoefpjaa
