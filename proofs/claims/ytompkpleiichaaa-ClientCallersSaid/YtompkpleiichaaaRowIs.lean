/- Words for a slice value in a cell: the bytes, the integers that it reads as. -/
import Derived.Test.YtompkpleiichaaaMem
import Derived.Lib.Hide
namespace Go.Proofs.Ytompkpleiichaaa
open Go.RowKit

/-- A slice value as a triple: where it lies, its length, its capacity. -/
abbrev Sl := Option Addr × Nat × Nat
def slV (s : Sl) : Value := .slice s.1 s.2.1 s.2.2
/-- The slice s reads as the bytes bs. -/
structure RowIs (w : World) (s : Sl) (bs : List UInt8) : Prop where
  len : bs.length = s.2.1
  cap : s.2.1 ≤ s.2.2
  max : s.2.2 ≤ 9223372036854775807
  rd : Rd w w.heap.size s.1 s.2.1 (vByte bs)
theorem RowIs.all {w w' : World} {s : Sl} {bs : List UInt8} (h : RowIs w s bs) (hb : Below w.heap.size w w') : RowIs w' s bs := ⟨h.len, h.cap, h.max, h.rd.all hb⟩
theorem RowIs.grown {w w' : World} {s : Sl} {bs : List UInt8} {row : Option Nat} (h : RowIs w s bs) (hg : w.grownBy w' row) (hne : ∀ b off, 0 < s.2.1 → s.1 = some ⟨b, off, none⟩ → some b ≠ row) : RowIs w' s bs := by
  refine ⟨h.len, h.cap, h.max, fun hn => ?_⟩
  obtain ⟨b, off, e, hb, hc⟩ := h.rd hn
  exact ⟨b, off, e, Nat.lt_of_lt_of_le hb hg.size, fun j hj => (World.cell?_of_block (w := w) (hg.block b hb (hne b off hn e))).trans (hc j hj)⟩

/-- The slice s reads as the bytes bs, in blocks below B. -/
structure BIn (w : World) (B : Nat) (s : Sl) (bs : List UInt8) : Prop where
  len : bs.length = s.2.1
  cap : s.2.1 ≤ s.2.2
  max : s.2.2 ≤ 9223372036854775807
  rd : Rd w B s.1 s.2.1 (vByte bs)
/-- The slice s reads as the integers xs, in blocks below B. -/
structure NIn (w : World) (B : Nat) (s : Sl) (xs : List Int) : Prop where
  len : xs.length = s.2.1
  cap : s.2.1 ≤ s.2.2
  max : s.2.2 ≤ 9223372036854775807
  rd : Rd w B s.1 s.2.1 (vInt xs)
theorem BIn.keep {w w' : World} {B : Nat} {s : Sl} {bs : List UInt8} (h : BIn w B s bs) (hk : ∀ b, b < B → w'.heap[b]? = w.heap[b]?) : BIn w' B s bs := ⟨h.len, h.cap, h.max, h.rd.keep hk⟩
theorem NIn.keep {w w' : World} {B : Nat} {s : Sl} {bs : List Int} (h : NIn w B s bs) (hk : ∀ b, b < B → w'.heap[b]? = w.heap[b]?) : NIn w' B s bs := ⟨h.len, h.cap, h.max, h.rd.keep hk⟩
theorem BIn.more {w : World} {B B' : Nat} {s : Sl} {bs : List UInt8} (h : BIn w B s bs) (hB : B ≤ B') : BIn w B' s bs := ⟨h.len, h.cap, h.max, h.rd.more hB⟩
theorem NIn.more {w : World} {B B' : Nat} {s : Sl} {bs : List Int} (h : NIn w B s bs) (hB : B ≤ B') : NIn w B' s bs := ⟨h.len, h.cap, h.max, h.rd.more hB⟩
theorem BIn.nil (w : World) (B : Nat) : BIn w B (none, 0, 0) [] := ⟨rfl, Nat.le_refl _, by simp, Rd.nil⟩
theorem NIn.nil (w : World) (B : Nat) : NIn w B (none, 0, 0) [] := ⟨rfl, Nat.le_refl _, by simp, Rd.nil⟩
theorem BIn.own {w : World} {base e n c : Nat} {A : Option Addr} {bs : List UInt8} (h : w.ownsRow base e 1 (.slice A n c) n (bs.map fun b => Value.int .u8 ((b.toNat : Nat) : Int))) : BIn w w.heap.size (A, n, c) bs := by
  obtain ⟨_, h2, h3⟩ := rd_bytes h
  exact ⟨by simpa using h.1, h2, own_cap h, h3⟩
theorem NIn.own {w : World} {base e n c : Nat} {A : Option Addr} {xs : List Int} (h : w.ownsRow base e 1 (.slice A n c) n (xs.map (Value.int .i64))) : NIn w w.heap.size (A, n, c) xs := by
  obtain ⟨_, h2, h3⟩ := rd_ints h
  exact ⟨by simpa using h.1, h2, own_cap h, h3⟩
end Go.Proofs.Ytompkpleiichaaa
