/- book: the reference's book in the store; its small functions. -/
import Derived.Test.YtkandhpnenmleaaHBrP

namespace Go.Proofs.Ytkandhpnenmleaa
open Go.RowKit

structure RB (W : World) (B g : Nat) (A : Option Addr) (n c : Nat) (l : List ROrd) : Prop where
  blk : Blk W g 53 #[.slice A n c]
  ge : B ≤ g
  own : W.ownsRow B 85 7 (.slice A n c) n (l.flatMap ROrd.cells)
  len : l.length = n
  few : n ≤ 100000
/-- The blocks of a book of the reference. -/
def RF (g : Nat) (A : Option Addr) (n c : Nat) (q : Nat) : Prop := q = g ∨ (Value.slice A n c).ownBlock = some q
theorem rown_ge {W : World} {B n c e size : Nat} {A : Option Addr} {xs : List Value} (h : W.ownsRow B e size (.slice A n c) n xs) (hl : 0 < n) : ∃ g cur, A = some ⟨g, 0, none⟩ ∧ (Value.slice A n c).ownBlock = some g ∧ B ≤ g ∧ g < W.heap.size ∧ W.heap[g]? = some (.cells cur e (0, 0)) ∧ cur.toList.take (n * size) = xs ∧ n ≤ c ∧ c ≤ 9223372036854775807 := by
  have hl := h.1
  rcases h.2 with ⟨h1, h2⟩ | ⟨g, cap, cur, h2, h3, h4, h5, h6, h7, h8⟩
  · injection h1 with h1 h3 h4
    omega
  · injection h2 with h2 h9 h10
    subst h10
    exact ⟨g, cur, h2, by rw [h2]; rfl, h3, (Array.getElem?_eq_some_iff.1 h4).1, h4, by rw [← h8], h5, by simpa [maxLen] using h6⟩
section
variable {W W' : World} {B g n c : Nat} {A : Option Addr} {l : List ROrd} {F : Nat → Prop}
theorem RB.mod (h : RB W B g A n c l) (m : Mod F W W') (hF : ∀ q, RF g A n c q → ¬ F q) : RB W' B g A n c l :=
  ⟨m.blk h.blk (hF g (.inl rfl)), h.ge, m.own h.own (fun q hq => hF q (.inr hq)), h.len, h.few⟩
theorem RB.all (h : RB W B g A n c l) (hb : Below W.heap.size W W') : RB W' B g A n c l := h.mod (F := fun _ => False) (Mod.of_below _ hb) (fun _ _ hf => hf)
theorem RB.lt (h : RB W B g A n c l) {q : Nat} (hq : RF g A n c q) : B ≤ q ∧ q < W.heap.size := by
  rcases hq with rfl | hq
  · exact ⟨h.ge, h.blk.lt⟩
  · exact own_ge h.own hq
theorem RB.ty (h : RB W B g A n c l) {q : Nat} (hq : RF g A n c q) : Ty W q 53 ∨ Ty W q 85 := by
  rcases hq with rfl | hq
  · exact .inl h.blk.ty
  · exact .inr (own_ty h.own hq)
theorem RB.isnt (h : RB W B g A n c l) {q : Nat} {t : TypeId} (ht : Ty W q t) (hn : t ≠ 53 ∧ t ≠ 85) : ¬ RF g A n c q := fun hq => by
  rcases h.ty hq with h1 | h1
  · exact hn.1 (ht.unique h1)
  · exact hn.2 (ht.unique h1)
/-- The cells of an order. -/
theorem RB.order (h : RB W B g A n c l) {k : Nat} (hk : k < n) : ∃ g', A = some ⟨g', 0, none⟩ ∧ g' < W.heap.size ∧ (Value.slice A n c).ownBlock = some g' ∧ (∀ i, W.frozen? ⟨g', k * 7 + i, none⟩ = false) ∧ W.cell? ⟨g', k * 7, none⟩ = some (.int .i64 (rAt l k).o.id) ∧ W.cell? ⟨g', k * 7 + 1, none⟩ = some (.int .i64 (rAt l k).o.acc) ∧ W.cell? ⟨g', k * 7 + 2, none⟩ = some (.bool (rAt l k).o.buy) ∧ W.cell? ⟨g', k * 7 + 3, none⟩ = some (.int .i64 (rAt l k).o.price) ∧ W.cell? ⟨g', k * 7 + 4, none⟩ = some (.int .i64 (rAt l k).o.n) ∧ W.cell? ⟨g', k * 7 + 5, none⟩ = some (.int .i64 (rAt l k).o.left) ∧ W.cell? ⟨g', k * 7 + 6, none⟩ = some (.bool (rAt l k).e) := by
  obtain ⟨g', cur, h2, h3, h4, h5, h6, h7, -, -⟩ := rown_ge h.own (by omega)
  have hkl : k < l.length := by rw [h.len]; exact hk
  have hc : ∀ i, i < 7 → W.cell? ⟨g', k * 7 + i, none⟩ = (ROrd.cells (rAt l k))[i]? := by
    intro i hi
    rw [rAt_eq hkl, ← flatT_at ROrd.cells 7 ROrd.cells_length l k i hkl hi, ← h7, List.getElem?_take_of_lt (by omega)]
    simp [World.cell?, h6]
  refine ⟨g', h2, h5, h3, fun i => by simp [World.frozen?, h6], ?_, hc 1 (by omega), hc 2 (by omega), hc 3 (by omega), hc 4 (by omega), hc 5 (by omega), hc 6 (by omega)⟩
  exact hc 0 (by omega)
theorem RB.cell0 (h : RB W B g A n c l) : W.cell? ⟨g, 0, none⟩ = some (.slice A n c) := by rw [h.blk.cell]; rfl
/-- What is left of an order is turned. -/
theorem RB.left (h : RB W B g A n c l) {g' k : Nat} (hg : A = some ⟨g', 0, none⟩) (hk : k < n) (o : Ord) (ho : o = (rAt l k).o.less ((rAt l k).o.left - o.left)) : RB (W.setCell ⟨g', k * 7 + 5, none⟩ (.int .i64 o.left)) B g A n c (l.set k ⟨o, (rAt l k).e⟩) ∧ Mod (RF g A n c) W (W.setCell ⟨g', k * 7 + 5, none⟩ (.int .i64 o.left)) := by
  have hob : (Value.slice A n c).ownBlock = some g' := by rw [hg]; rfl
  have hkl : k < l.length := by rw [h.len]; exact hk
  have ms : Mod (fun q => q = g') W (W.setCell ⟨g', k * 7 + 5, none⟩ (.int .i64 o.left)) := Mod.set (F := fun q => q = g') (Mod.refl _ _) (p := ⟨g', k * 7 + 5, none⟩) (.inl rfl) _
  have ht := own_ty h.own hob
  refine ⟨⟨?_, h.ge, ?_, by rw [List.length_set]; exact h.len, h.few⟩, ms.mono (fun q hq => .inl (by rw [hq]; exact .inr hob))⟩
  · exact ms.blk h.blk (fun e => by
      rw [← e] at ht
      exact absurd (ht.unique h.blk.ty) (by decide))
  · have ho2 := h.own
    rw [hg] at ho2 ⊢
    have := (ho2.stored (k * 7 + 5) (.int .i64 o.left)).1
    rw [flatT_set ROrd.cells 7 ROrd.cells_length ⟨o, (rAt l k).e⟩ 5 (by omega) _ l k hkl (by
      rw [← rAt_eq hkl]
      show [Value.int .i64 o.id, .int .i64 o.acc, .bool o.buy, .int .i64 o.price, .int .i64 o.n, .int .i64 o.left, .bool (rAt l k).e] = [Value.int .i64 (rAt l k).o.id, .int .i64 (rAt l k).o.acc, .bool (rAt l k).o.buy, .int .i64 (rAt l k).o.price, .int .i64 (rAt l k).o.n, .int .i64 o.left, .bool (rAt l k).e]
      rw [ho]
      rfl)] at this
    exact this
/-- An order is ended. -/
theorem RB.ended (h : RB W B g A n c l) {g' k : Nat} (hg : A = some ⟨g', 0, none⟩) (hk : k < n) : RB (W.setCell ⟨g', k * 7 + 6, none⟩ (.bool true)) B g A n c (l.set k ⟨(rAt l k).o, true⟩) ∧ Mod (RF g A n c) W (W.setCell ⟨g', k * 7 + 6, none⟩ (.bool true)) := by
  have hob : (Value.slice A n c).ownBlock = some g' := by rw [hg]; rfl
  have hkl : k < l.length := by rw [h.len]; exact hk
  have ms : Mod (fun q => q = g') W (W.setCell ⟨g', k * 7 + 6, none⟩ (.bool true)) := Mod.set (F := fun q => q = g') (Mod.refl _ _) (p := ⟨g', k * 7 + 6, none⟩) (.inl rfl) _
  have ht := own_ty h.own hob
  refine ⟨⟨?_, h.ge, ?_, by rw [List.length_set]; exact h.len, h.few⟩, ms.mono (fun q hq => .inl (by rw [hq]; exact .inr hob))⟩
  · exact ms.blk h.blk (fun e => by
      rw [← e] at ht
      exact absurd (ht.unique h.blk.ty) (by decide))
  · have ho2 := h.own
    rw [hg] at ho2 ⊢
    have := (ho2.stored (k * 7 + 6) (.bool true)).1
    rw [flatT_set ROrd.cells 7 ROrd.cells_length ⟨(rAt l k).o, true⟩ 6 (by omega) _ l k hkl (by
      rw [← rAt_eq hkl]
      rfl)] at this
    exact this
/-- An order is added; the book's list has moved or not. -/
theorem RB.added {W5 : World} {A' : Option Addr} {c' : Nat} {o : ROrd} (h : RB W B g A n c l) (hf : n < 100000) (m : Mod (fun q => (Value.slice A n c).ownBlock = some q) W W5) (ho : W5.ownsRow B 85 7 (.slice A' (n + 1) c') (n + 1) (l.flatMap ROrd.cells ++ o.cells)) (hs : ∀ q, (Value.slice A' (n + 1) c').ownBlock = some q → (Value.slice A n c).ownBlock = some q ∨ W.heap.size ≤ q) : RB (W5.setCell ⟨g, 0, none⟩ (.slice A' (n + 1) c')) B g A' (n + 1) c' (l ++ [o]) ∧ Mod (RF g A n c) W (W5.setCell ⟨g, 0, none⟩ (.slice A' (n + 1) c')) ∧ (∀ q, RF g A' (n + 1) c' q → RF g A n c q ∨ W.heap.size ≤ q) := by
  have ms : Mod (fun q => q = g) W5 (W5.setCell ⟨g, 0, none⟩ (.slice A' (n + 1) c')) := Mod.set (F := fun q => q = g) (Mod.refl _ _) (p := ⟨g, 0, none⟩) (.inl rfl) _
  have mT : Mod (fun q => (Value.slice A n c).ownBlock = some q ∨ q = g) W (W5.setCell ⟨g, 0, none⟩ (.slice A' (n + 1) c')) := (m.mono (fun b h => .inl (.inl h))).trans ms (fun b h => .inl (.inr h))
  have b5 : Blk W5 g 53 #[.slice A n c] := m.blk h.blk (fun hg => absurd ((own_ty h.own hg).unique h.blk.ty) (by decide))
  refine ⟨⟨b5.set_ 0 _, h.ge, ?_, by rw [List.length_append, h.len]; rfl, by omega⟩, mT.mono (fun q hq => .inl (hq.elim .inr .inl)), fun q hq => ?_⟩
  · rw [List.flatMap_append, List.flatMap_singleton]
    exact ms.own ho (fun q hq e => by
      have h1 := own_ty ho hq
      rw [e] at h1
      exact absurd (h1.unique b5.ty) (by decide))
  · rcases hq with hq | hq
    · exact .inl (.inl hq)
    · exact (hs q hq).imp .inr id
end
/-- A book of the reference that stands for b. -/
structure RAt (W : World) (B g : Nat) (A : Option Addr) (n c : Nat) (l : List ROrd) (b : BkS) : Prop where
  rb : RB W B g A n c l
  rel : Rel l b
  ok : b.Ok
theorem slT_rord : SlT Try.prog 51 85 7 56 := SlT.of Try.underlying51 (by kernel_rfl) (by decide)
theorem slT_rtrd : SlT Try.prog 80 105 4 32 := SlT.of Try.underlying80 (by kernel_rfl) (by decide)
theorem ropen_any (x : ROrd) (w : World) :
    Calls Try.prog 59 #[.agg #[.int .i64 x.o.id, .int .i64 x.o.acc, .bool x.o.buy, .int .i64 x.o.price, .int .i64 x.o.n, .int .i64 x.o.left, .bool x.e]] w fun e w' => e = .returned (.bool x.open) ∧ Below w.heap.size w w' := by
  obtain ⟨⟨i1, a1, b1, p1, n1, l1⟩, e1⟩ := x
  dsimp only
  by_cases h : 0 < l1
  · go_enter Try.func59, Try.ntmps59
    go_wp2
    go_ret
    exact ⟨by simp [ROrd.open, h], (Below.refl _ _).alloc (Nat.le_refl _) _⟩
  · go_enter Try.func59, Try.ntmps59
    go_wp2
    go_ret
    exact ⟨by unfold ROrd.open; dsimp only; rw [decide_eq_false (Int.not_lt.2 h)]; rfl, (Below.refl _ _).alloc (Nat.le_refl _) _⟩
theorem rbetter_any (x y : ROrd) (w : World) :
    Calls Try.prog 61 #[.agg #[.int .i64 x.o.id, .int .i64 x.o.acc, .bool x.o.buy, .int .i64 x.o.price, .int .i64 x.o.n, .int .i64 x.o.left, .bool x.e], .agg #[.int .i64 y.o.id, .int .i64 y.o.acc, .bool y.o.buy, .int .i64 y.o.price, .int .i64 y.o.n, .int .i64 y.o.left, .bool y.e]] w fun e w' => e = .returned (.bool (betterR x.o y.o)) ∧ Below w.heap.size w w' := by
  obtain ⟨⟨i1, a1, b1, p1, n1, l1⟩, e1⟩ := x
  obtain ⟨⟨i2, a2, b2, p2, n2, l2⟩, e2⟩ := y
  dsimp only
  by_cases h : p1 = p2
  · subst h
    go_enter Try.func61, Try.ntmps61
    go_wp2
    go_ret
    exact ⟨by simp [betterR], bel2 w _ _⟩
  · go_enter Try.func61, Try.ntmps61
    go_wp2
    go_ret
    exact ⟨by simp [betterR, h], bel2 w _ _⟩
theorem racc_any (x y : ROrd) (w : World) :
    Calls Try.prog 60 #[.agg #[.int .i64 x.o.id, .int .i64 x.o.acc, .bool x.o.buy, .int .i64 x.o.price, .int .i64 x.o.n, .int .i64 x.o.left, .bool x.e], .agg #[.int .i64 y.o.id, .int .i64 y.o.acc, .bool y.o.buy, .int .i64 y.o.price, .int .i64 y.o.n, .int .i64 y.o.left, .bool y.e]] w fun e w' => e = .returned (.bool (acceptsB x.o y.o)) ∧ Below w.heap.size w w' := by
  obtain ⟨⟨i1, a1, b1, p1, n1, l1⟩, e1⟩ := x
  obtain ⟨⟨i2, a2, b2, p2, n2, l2⟩, e2⟩ := y
  dsimp only
  go_enter Try.func60, Try.ntmps60
  cases b1
  · go_wp2
    go_ret
    exact ⟨by simp [acceptsB], bel2 w _ _⟩
  · go_wp2
    go_ret
    exact ⟨by simp [acceptsB], bel2 w _ _⟩
end Go.Proofs.Ytkandhpnenmleaa
