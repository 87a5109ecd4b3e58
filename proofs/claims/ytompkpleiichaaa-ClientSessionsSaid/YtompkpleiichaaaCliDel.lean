/- Delete of one element of a row of structs: the two steps (append over itself, clear of the last) as runs. -/
import Derived.Test.YtompkpleiichaaaCliIdx
namespace Go.Proofs.Ytompkpleiichaaa
open Go.RowKit

theorem heap_setRow {w : World} {g : Nat} {cur : Array Value} {e : TypeId} (h : w.heap[g]? = some (.cells cur e (0, 0))) (cs : Array Value) : (w.setRow g cs).heap[g]? = some (.cells cs e (0, 0)) := by
  simp [World.setRow, Array.getElem?_modify, h]
theorem grown_setRow (w : World) (g : Nat) (cs : Array Value) : w.grownBy (w.setRow g cs) (some g) :=
  ⟨rfl, rfl, rfl, by simp [World.setRow], fun k _ hne => by
    have : g ≠ k := fun e => hne (by rw [e])
    simp [World.setRow, Array.getElem?_modify, this]⟩
/-- 'append(s[:i], s[i+1:]...)'. -/
theorem run_delete {P : Program} {w : World} {base t e size bytes g n cap i : Nat} {xs : List Value} {ty : TypeId} (hT : SlT P t e size bytes) (ho : w.ownsRow base e size (.slice (some ⟨g, 0, none⟩) n cap) n xs) (hi : i < n) (h1 : ∀ u ∈ xs, u.oneCell' = true) (off c : Nat) (hoff : i + 1 < n → off = (i + 1) * size) :
    ∃ w', (Builtin.append_ #[t, t] ty #[.slice (some ⟨g, 0, none⟩) i cap, .slice (some ⟨g, off, none⟩) (n - (i + 1)) c]).run P w = .ok (.slice (some ⟨g, 0, none⟩) (i + (n - (i + 1))) cap) w' ∧ w'.ownsRow base e size (.slice (some ⟨g, 0, none⟩) (n - 1) cap) (n - 1) (xs.take (i * size) ++ xs.drop ((i + 1) * size)) ∧ w.grownBy w' (some g) := by
  obtain ⟨ti, z, ht, hti, hz, hs, hb, hzs, hsz⟩ := hT
  obtain ⟨hl, h2⟩ := ho
  rcases h2 with ⟨h2, h0⟩ | ⟨g', cap', cur, h2, hbg, hh, hnc, hcm, hcs, htk⟩
  · cases h2
  · injection h2 with h2 _ h3
    injection h2 with h2
    injection h2 with h2
    subst h2 h3 hs
    have hmul1 : (i + 1) * ti.size = i * ti.size + ti.size := by rw [Nat.add_mul, Nat.one_mul]
    have hmul2 : (n - (i + 1)) * ti.size + (i + 1) * ti.size = n * ti.size := by rw [← Nat.add_mul]; congr 1; omega
    have hmul3 : (n - 1) * ti.size + ti.size = n * ti.size := by
      have : (n - 1 + 1) * ti.size = (n - 1) * ti.size + ti.size := by rw [Nat.add_mul, Nat.one_mul]
      rw [← this]; congr 1; omega
    have hncm : n * ti.size ≤ cap * ti.size := Nat.mul_le_mul_right _ hnc
    have hnl : (xs.drop ((i + 1) * ti.size)).length = (n - (i + 1)) * ti.size := by rw [List.length_drop, hl]; omega
    have hcl : cur.toList.length = cap * ti.size := by simpa using hcs
    have hrun := run_append_room (P := P) w t ty e ti ht hti g i cap cur hh ⟨g, off, none⟩ (n - (i + 1)) c (xs.drop ((i + 1) * ti.size)) hnl (fun j u hu => by
      have hjl := (List.getElem?_eq_some_iff.1 hu).1
      rw [hnl] at hjl
      have hin : i + 1 < n := by
        rcases Nat.lt_or_ge (i + 1) n with h | h
        · exact h
        · rw [show n - (i + 1) = 0 by omega, Nat.zero_mul] at hjl
          omega
      have ea : (⟨g, off, none⟩ : Addr).add j = ⟨g, off + j, none⟩ := by unfold Addr.add; split <;> simp_all
      rw [ea, hoff hin]
      rw [List.getElem?_drop, ← htk, List.getElem?_take] at hu
      split at hu
      · simp [World.cell?, hh]
        simpa using hu
      · cases hu) (fun u hu => h1 u (List.mem_of_mem_drop hu)) (by omega) (by rw [hnl, ← Array.length_toList, hcl]; omega)
    refine ⟨_, hrun, ⟨?_, .inr ⟨g, cap, _, rfl, hbg, heap_setRow hh _, by omega, hcm, ?_, ?_⟩⟩, grown_setRow _ _ _⟩
    · rw [List.length_append, List.length_take, hl, hnl]
      omega
    · simp only [List.size_toArray, List.length_append, List.length_take, List.length_drop, hcl, hnl]
      omega
    · simp only []
      rw [List.take_append_of_le_length (by rw [List.length_append, List.length_take, hcl, hnl]; omega), List.take_of_length_le (by rw [List.length_append, List.length_take, hcl, hnl]; omega), ← htk, List.take_take, Nat.min_eq_left (by omega)]
/-- 'clear(s[n:n+1])', behind the row's end. -/
theorem run_clear1 {P : Program} {w : World} {base t e size g n cap : Nat} {xs : List Value} {ty : TypeId} {ti : TypeInfo} {z : Value} (ht : P.underlying t = some (.slice e)) (hti : P.info? e = some ti) (hz : ti.zero = some z) (hzs : z.cells.size = size) (hz1 : ∀ u ∈ z.cells.toList, u.oneCell' = true)
    (ho : w.ownsRow base e size (.slice (some ⟨g, 0, none⟩) n cap) n xs) (hroom : n + 1 ≤ cap) (c : Nat) :
    ∃ w', (Builtin.clear_ #[t] ty #[.slice (some ⟨g, n * size, none⟩) 1 c]).run P w = .ok (.tuple #[]) w' ∧ w'.ownsRow base e size (.slice (some ⟨g, 0, none⟩) n cap) n xs ∧ w.grownBy w' (some g) := by
  obtain ⟨hl, h2⟩ := ho
  rcases h2 with ⟨h2, h0⟩ | ⟨g', cap', cur, h2, hbg, hh, hnc, hcm, hcs, htk⟩
  · cases h2
  · injection h2 with h2 _ h3
    injection h2 with h2
    injection h2 with h2
    subst h2 h3
    have hmul : (n + 1) * size ≤ cap * size := Nat.mul_le_mul_right _ hroom
    have hmul1 : (n + 1) * size = n * size + size := by rw [Nat.add_mul, Nat.one_mul]
    have hcl : cur.toList.length = cap * size := by simpa using hcs
    have hz0 : (Builtin.zeroCells z.cells 1).toList = z.cells.toList := by
      simp [Builtin.zeroCells]
      apply List.ext_getElem?
      intro j
      by_cases hj : j < z.cells.size
      · simp [hj, Nat.mod_eq_of_lt hj]
      · simp [hj]
    have hzl : z.cells.toList.length = size := by simpa using hzs
    have hst := run_storeCells_at P g (n * size) e z.cells.toList 0 cur w hh (by rw [hzl, Nat.add_zero, ← Array.length_toList, hcl]; omega) hz1
    have hrun : (Builtin.clear_ #[t] ty #[.slice (some ⟨g, n * size, none⟩) 1 c]).run P w = .ok (.tuple #[]) (w.setRow g (cur.toList.take (n * size + 0) ++ z.cells.toList ++ cur.toList.drop (n * size + 0 + z.cells.toList.length)).toArray) := by
      simp [Builtin.clear_, run_underlying ht, zeroValue, typeInfo, hti, hz, hz0]
      rw [hst]
      simp [Result.andThen]
    refine ⟨_, hrun, ⟨hl, .inr ⟨g, cap, _, rfl, hbg, heap_setRow hh _, hnc, hcm, ?_, ?_⟩⟩, grown_setRow _ _ _⟩
    · simp only [List.size_toArray, List.length_append, List.length_take, List.length_drop, hcl, hzl]
      omega
    · simp only [Nat.add_zero]
      rw [List.append_assoc, List.take_append_of_le_length (by rw [List.length_take, hcl]; omega), List.take_of_length_le (by rw [List.length_take, hcl]; omega), htk]
end Go.Proofs.Ytompkpleiichaaa
