/- book: a book in the store. -/
import Derived.Test.YtkandhpnenmleaaHBkCat
import Derived.Laws.EntriesVeiled

namespace Go.Proofs.Ytkandhpnenmleaa
open Go.RowKit

/-- The slices of a book: the orders, the open ones that buy, those that sell. -/
structure BkV where
  oA : Option Addr
  oc : Nat
  b : Sl
  s : Sl
abbrev bet1 : Value := .func (.func 27) #[] #[]
abbrev bet2 : Value := .func (.func 28) #[] #[]
def BkV.os (V : BkV) (n : Nat) : Value := .slice V.oA n V.oc
structure BkAt (W : World) (B gb : Nat) (V : BkV) (b : BkS) : Prop where
  blk : Blk W gb 69 #[V.os b.os.length, slV V.b, bet1, slV V.s, bet2]
  ge : B ≤ gb
  orders : W.ownsRow B 42 6 (V.os b.os.length) b.os.length (b.os.flatMap Ord.cells)
  bs : IRow W B V.b b.bs
  ss : IRow W B V.s b.ss
  apart : ∀ g, blkOf V.b = some g → blkOf V.s ≠ some g
  ok : b.Ok
  few : b.os.length ≤ 100000
/-- The blocks of a book. -/
def BkF (gb : Nat) (V : BkV) (n : Nat) (g : Nat) : Prop := g = gb ∨ (V.os n).ownBlock = some g ∨ blkOf V.b = some g ∨ blkOf V.s = some g
section
variable {W W' : World} {B gb : Nat} {V : BkV} {b : BkS} {F : Nat → Prop}
theorem BkAt.mod (h : BkAt W B gb V b) (m : Mod F W W') (hF : ∀ g, BkF gb V b.os.length g → ¬ F g) : BkAt W' B gb V b :=
  ⟨m.blk h.blk (hF gb (.inl rfl)), h.ge, m.own h.orders (fun g hg => hF g (.inr (.inl hg))), h.bs.mod m (fun g hg => hF g (.inr (.inr (.inl hg)))), h.ss.mod m (fun g hg => hF g (.inr (.inr (.inr hg)))), h.apart, h.ok, h.few⟩
theorem BkAt.all (h : BkAt W B gb V b) (hb : Below W.heap.size W W') : BkAt W' B gb V b := h.mod (F := fun _ => False) (Mod.of_below _ hb) (fun _ _ hf => hf)
theorem BkAt.drewN (h : BkAt W B gb V b) (n : Nat) : BkAt (W.drewN n) B gb V b := h.all (below_drewN (Below.refl _ _) n)
theorem BkAt.lt (h : BkAt W B gb V b) {g : Nat} (hg : BkF gb V b.os.length g) : B ≤ g ∧ g < W.heap.size := by
  rcases hg with rfl | hg | hg | hg
  · exact ⟨h.ge, h.blk.lt⟩
  · exact own_ge h.orders hg
  · exact (h.bs.at_ hg).2
  · exact (h.ss.at_ hg).2
/-- The cells of an order. -/
theorem BkAt.order (h : BkAt W B gb V b) {k : Nat} (hk : k < b.os.length) : ∃ g, V.oA = some ⟨g, 0, none⟩ ∧ g < W.heap.size ∧ (V.os b.os.length).ownBlock = some g ∧ W.cell? ⟨g, k * 6, none⟩ = some (.int .i64 (ordAt b.os k).id) ∧ W.cell? ⟨g, k * 6 + 1, none⟩ = some (.int .i64 (ordAt b.os k).acc) ∧ W.cell? ⟨g, k * 6 + 2, none⟩ = some (.bool (ordAt b.os k).buy) ∧ W.cell? ⟨g, k * 6 + 3, none⟩ = some (.int .i64 (ordAt b.os k).price) ∧ W.cell? ⟨g, k * 6 + 4, none⟩ = some (.int .i64 (ordAt b.os k).n) ∧ W.cell? ⟨g, k * 6 + 5, none⟩ = some (.int .i64 (ordAt b.os k).left) := by
  have hl := h.orders.1
  rcases h.orders.2 with ⟨-, h2⟩ | ⟨g, cap, cur, h2, h3, h4, h5, h6, h7, h8⟩
  · omega
  · unfold BkV.os at h2
    injection h2 with h2 _ h9
    have hc : ∀ i, i < 6 → W.cell? ⟨g, k * 6 + i, none⟩ = (Ord.cells (ordAt b.os k))[i]? := by
      intro i hi
      rw [ordAt_eq hk, ← flatT_at Ord.cells 6 Ord.cells_length b.os k i hk hi, ← h8, List.getElem?_take_of_lt (by omega)]
      simp [World.cell?, h4]
    refine ⟨g, h2, (Array.getElem?_eq_some_iff.1 h4).1, by unfold BkV.os; rw [h2]; rfl, ?_, hc 1 (by omega), hc 2 (by omega), hc 3 (by omega), hc 4 (by omega), hc 5 (by omega)⟩
    exact hc 0 (by omega)
end
theorem new_any (w : World) : Calls Try.prog 10 #[] w fun e w' => ∃ V, e = .returned (.pointer (some ⟨w.heap.size, 0, none⟩)) ∧ BkAt w' w.heap.size w.heap.size V ⟨[], [], []⟩ ∧ Below w.heap.size w w' := by
  go_enter Try.func10, Try.ntmps10
  go_wp2
  go_ret
  refine ⟨⟨none, 0, (none, 0, 0), (none, 0, 0)⟩, rfl, ⟨?_, Nat.le_refl _, World.ownsRow_nil _ _ _ 6, IRow.nil _ _, IRow.nil _ _, fun g hg => by simp [blkOf] at hg, ?_, by simp⟩, ?_⟩
  · exact Blk.new w _ _
  · refine ⟨fun k hk => absurd hk (by simp), fun k hk => absurd hk (by simp), fun buy k hk => ?_, fun buy => ?_, by simp⟩
    · cases buy <;> simp [BkS.side] at hk
    · cases buy <;> simp [BkS.side, SortedB]
  · exact (Below.refl _ _).alloc (Nat.le_refl _) _
end Go.Proofs.Ytkandhpnenmleaa
