/- The walk of worldmintlaw02.read. -/
import Derived.Test.YtompkpleiichaaaWireVal
namespace Go.Proofs.Ytompkpleiichaaa
open Go.RowKit

/-- Reading a value of a kind: the error, the value, the rest. -/
def readV (kind : Int) (rest : List UInt8) (err : Int) : Int × V × List UInt8 :=
  if kind = 0 then ((readU rest err).1, ⟨kind, (readU rest err).2.1, 0, [], []⟩, (readU rest err).2.2)
  else if kind = 1 then ((readU rest err).1, ⟨kind, 0, unzigI (readU rest err).2.1, [], []⟩, (readU rest err).2.2)
  else if kind = 2 then ((readB rest err).1, ⟨kind, 0, if (readB rest err).2.1 then 1 else 0, [], []⟩, (readB rest err).2.2)
  else if kind = 3 ∨ kind = 4 then ((readRaw rest err).1, ⟨kind, 0, 0, (readRaw rest err).2.1, []⟩, (readRaw rest err).2.2)
  else ((readInts rest err).1, ⟨kind, 0, 0, [], (readInts rest err).2.1⟩, (readInts rest err).2.2)
/-- The slice lies in blocks from lo on. -/
def Far (lo : Nat) (s : Sl) : Prop := ∀ b off, 0 < s.2.1 → s.1 = some ⟨b, off, none⟩ → lo ≤ b
theorem Far.nil (lo : Nat) : Far lo (none, 0, 0) := fun _ _ h => absurd h (by simp)
theorem Far.own {w : World} {base e size n c : Nat} {A : Option Addr} {xs : List Value} (h : w.ownsRow base e size (.slice A n c) n xs) : Far base (A, n, c) := by
  intro b off hn he
  obtain ⟨g, e1, e2, _⟩ := own_some h hn
  simp only at he
  rw [e1] at he
  cases he
  exact e2

/-- Only the blocks b1 and b2 have turned, and nothing is new. -/
structure Keep2 (b1 b2 : Nat) (w w' : World) : Prop where
  os : w'.os = w.os
  tape : w'.tape = w.tape
  output : w'.output = w.output
  size : w'.heap.size = w.heap.size
  block : ∀ b, b ≠ b1 → b ≠ b2 → w'.heap[b]? = w.heap[b]?
theorem Keep2.refl (b1 b2 : Nat) (w : World) : Keep2 b1 b2 w w := ⟨rfl, rfl, rfl, rfl, fun _ _ _ => rfl⟩
theorem Keep2.set {b1 b2 : Nat} {w w' : World} {p : Addr} {v : Value} (h : Keep2 b1 b2 w w') (hp : p.block = b1 ∨ p.block = b2) : Keep2 b1 b2 w (w'.setCell p v) :=
  ⟨h.os, h.tape, h.output, by simpa [World.setCell] using h.size, fun b h1 h2 => (Below.heap_setCell w' p v b (by rcases hp with hp | hp <;> omega)).trans (h.block b h1 h2)⟩
theorem Keep2.grown {b1 b2 gd : Nat} {w w1 w' : World} (h : Keep2 b1 b2 w1 w') (hg : w.grownBy w1 (some gd)) (h1 : w.heap.size ≤ b1) (h2 : w.heap.size ≤ b2) : w.grownBy w' (some gd) :=
  ⟨h.os.trans hg.os, h.tape.trans hg.tape, h.output.trans hg.output, by rw [h.size]; exact hg.size, fun i hi hne => (h.block i (by omega) (by omega)).trans (hg.block i hi hne)⟩
theorem Keep2.rdr {b1 b2 B gd : Nat} {rest : List UInt8} {err : Int} {w1 w' : World} (h : Keep2 b1 b2 w1 w') (hR : Rdr w1 B gd rest err) (h1 : B ≤ b1) (h2 : B ≤ b2) : Rdr w' B gd rest err := by
  obtain ⟨k1, k2, A, n, c, p1, p2, p3, p4⟩ := hR
  exact ⟨k1, by rw [h.size]; exact k2, A, n, c, (h.block gd (by omega) (by omega)).trans p1, p2, p3, fun e => ⟨(p4 e).1, (p4 e).2.1, (p4 e).2.2.keep fun b hb => h.block b (by omega) (by omega)⟩⟩
theorem Keep2.bin {b1 b2 lo : Nat} {s : Sl} {bs : List UInt8} {w1 w' : World} (h : Keep2 b1 b2 w1 w') (hB : BIn w1 w1.heap.size s bs) (hF : Far lo s) (h1 : b1 < lo) (h2 : b2 < lo) : BIn w' w'.heap.size s bs := by
  refine ⟨hB.len, hB.cap, hB.max, fun hn => ?_⟩
  obtain ⟨b, off, e, hb, hc⟩ := hB.rd hn
  have := hF b off hn e
  exact ⟨b, off, e, by rw [h.size]; exact hb, fun j hj => (World.cell?_of_block (w := w1) (h.block b (by omega) (by omega))).trans (hc j hj)⟩
theorem Keep2.nin {b1 b2 lo : Nat} {s : Sl} {bs : List Int} {w1 w' : World} (h : Keep2 b1 b2 w1 w') (hB : NIn w1 w1.heap.size s bs) (hF : Far lo s) (h1 : b1 < lo) (h2 : b2 < lo) : NIn w' w'.heap.size s bs := by
  refine ⟨hB.len, hB.cap, hB.max, fun hn => ?_⟩
  obtain ⟨b, off, e, hb, hc⟩ := hB.rd hn
  have := hF b off hn e
  exact ⟨b, off, e, by rw [h.size]; exact hb, fun j hj => (World.cell?_of_block (w := w1) (h.block b (by omega) (by omega))).trans (hc j hj)⟩
theorem Far.more {lo lo' : Nat} {s : Sl} (h : Far lo s) (hl : lo' ≤ lo) : Far lo' s := fun b off hn e => Nat.le_trans hl (h b off hn e)

theorem blk5 {w : World} {g : Nat} {T : TypeId} {a b c d e : Value} (h : Blk w g T #[a, b, c, d, e]) :
    w.cell? ⟨g, 0, none⟩ = some a ∧ w.cell? ⟨g, 1, none⟩ = some b ∧ w.cell? ⟨g, 2, none⟩ = some c ∧ w.cell? ⟨g, 3, none⟩ = some d ∧ w.cell? ⟨g, 4, none⟩ = some e ∧
    w.frozen? ⟨g, 0, none⟩ = false ∧ w.frozen? ⟨g, 1, none⟩ = false ∧ w.frozen? ⟨g, 2, none⟩ = false ∧ w.frozen? ⟨g, 3, none⟩ = false ∧ w.frozen? ⟨g, 4, none⟩ = false :=
  ⟨by simpa using h.cell 0, by simpa using h.cell 1, by simpa using h.cell 2, by simpa using h.cell 3, by simpa using h.cell 4, h.frozen 0, h.frozen 1, h.frozen 2, h.frozen 3, h.frozen 4⟩
end Go.Proofs.Ytompkpleiichaaa
