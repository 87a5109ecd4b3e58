/- The documented examples (worldmintlaw02.lives). -/
import Derived.Test.YtompkpleiichaaaWireReader2
import Derived.Test.YtompkpleiichaaaRefHelp
namespace Go.Proofs.Ytompkpleiichaaa
open Go.RowKit

theorem varint_300 : varint 300 = [172, 2] := by rw [varint_ge (by decide), varint_lt (by decide)]; rfl
theorem encInt_m1 : encInt (-1) = [1] := by unfold encInt; rw [varint_lt (by decide)]; rfl
theorem encRaw_ab : encRaw [97, 98] = [2, 97, 98] := by unfold encRaw; rw [varint_lt (by decide)]; rfl
theorem Rdr.other {w w' : World} {B gd B1 g1 : Nat} {rest rest1 : List UInt8} {err err1 : Int} (h : Rdr w B gd rest err) (h1 : Rdr w B1 g1 rest1 err1) (hne : gd ≠ g1) (hg : w.grownBy w' (some g1)) : Rdr w' B gd rest err := by
  obtain ⟨k1, k2, A, n, c, p1, p2, p3, p4⟩ := h
  obtain ⟨_, _, A1, n1, c1, q1, _⟩ := h1
  refine ⟨k1, Nat.le_trans k2 hg.size, A, n, c, p1.grown hg (by simpa using hne), p2, p3, fun e => ⟨(p4 e).1, (p4 e).2.1, ?_⟩⟩
  intro hn
  obtain ⟨b, off, e', hb, hc⟩ := (p4 e).2.2 hn
  have hne' : b ≠ g1 := by
    rintro rfl
    have h0 := hc 0 hn
    rw [Nat.add_zero, Blk.cell q1 off] at h0
    rcases off with _ | _ | off <;> simp [vByte] at h0
  exact ⟨b, off, e', hb, fun j hj => (World.cell?_of_block (w := w) (hg.block b (by omega) (by simpa using hne'))).trans (hc j hj)⟩
theorem rd_litb (W : World) (t : TypeId) (cs : List UInt8) (m : Nat) (hm : cs.length = m) (vs : Array Value) (hv : vs = (cs.map fun b => Value.int .u8 ((b.toNat : Nat) : Int)).toArray) : Rd (W.alloc (.cells vs t)) (W.heap.size + 1) (some ⟨W.heap.size, 0, none⟩) m (vByte cs) := by
  subst hv hm
  exact fun _ => ⟨_, _, rfl, by omega, fun j hj => by
    rw [Nat.zero_add, Blk.cell (Blk.new W t _) j]
    simp [vByte, hj]⟩

end Go.Proofs.Ytompkpleiichaaa
