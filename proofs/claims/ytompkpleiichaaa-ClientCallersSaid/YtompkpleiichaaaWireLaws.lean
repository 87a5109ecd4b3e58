/- Plain Lean: values that are written and read. -/
import Derived.Test.YtompkpleiichaaaWireVals2
namespace Go.Proofs.Ytompkpleiichaaa
open Go.RowKit

theorem inI_mem {l : List Int} (h : ∀ j : Nat, -9223372036854775808 ≤ l[j]?.getD 0 ∧ l[j]?.getD 0 ≤ 9223372036854775807) : ∀ n ∈ l, InI n := by
  intro n hn
  obtain ⟨j, hj, rfl⟩ := List.getElem_of_mem hn
  have := h j
  rw [List.getElem?_eq_getElem hj] at this
  exact this
theorem unzigI_zero : unzigI 0 = 0 := by decide
theorem readV_err {kind : Int} {rest : List UInt8} {err : Int} (he : err ≠ 0) : readV kind rest err = (err, ⟨kind, 0, 0, [], []⟩, []) := by
  have hu : readU rest err = (err, 0, []) := if_neg he
  have hb : readB rest err = (err, false, []) := if_neg he
  have hr : readRaw rest err = (err, [], []) := if_neg he
  have hi : readInts rest err = (err, [], []) := if_neg he
  unfold readV
  rw [hu, hb, hr, hi]
  simp only [unzigI_zero]
  split
  · rfl
  · split
    · rfl
    · split
      · rfl
      · split <;> rfl
/-- Round trip of a value. -/
theorem readV_enc {v : V} (h : GoodV v) (r : List UInt8) : readV v.kind (encV v ++ r) 0 = (0, v, r) := by
  have hf := h.fit
  have hu : ∀ n, n ≤ 18446744073709551615 → readU (varint n ++ r) 0 = (0, n, r) := fun n hn => decU_enc hn r
  rcases h.norm with e | e | e | e | e | e | e
  all_goals
    generalize v.u = u at *
    generalize v.n = n at *
    generalize v.b = b at *
    generalize v.l = l at *
    subst e
  · show ((readU (varint u ++ r) 0).1, (⟨0, (readU (varint u ++ r) 0).2.1, 0, [], []⟩ : V), (readU (varint u ++ r) 0).2.2) = _
    rw [hu u hf.u]
  · show ((readU (encInt n ++ r) 0).1, (⟨1, 0, unzigI (readU (encInt n ++ r) 0).2.1, [], []⟩ : V), (readU (encInt n ++ r) 0).2.2) = _
    rw [show readU (encInt n ++ r) 0 = (0, zigI n, r) from decU_int hf.n r, unzig_zig]
  · rfl
  · rfl
  · show ((readRaw (encRaw b ++ r) 0).1, (⟨3, 0, 0, (readRaw (encRaw b ++ r) 0).2.1, []⟩ : V), (readRaw (encRaw b ++ r) 0).2.2) = _
    rw [show readRaw (encRaw b ++ r) 0 = (0, b, r) from decRaw_enc (show b.length ≤ 18446744073709551615 from by have := hf.b; simp only at this; omega) r]
  · show ((readRaw (encRaw b ++ r) 0).1, (⟨4, 0, 0, (readRaw (encRaw b ++ r) 0).2.1, []⟩ : V), (readRaw (encRaw b ++ r) 0).2.2) = _
    rw [show readRaw (encRaw b ++ r) 0 = (0, b, r) from decRaw_enc (show b.length ≤ 18446744073709551615 from by have := hf.b; simp only at this; omega) r]
  · show ((readInts (encInts l ++ r) 0).1, (⟨5, 0, 0, [], (readInts (encInts l ++ r) 0).2.1⟩ : V), (readInts (encInts l ++ r) 0).2.2) = _
    rw [show readInts (encInts l ++ r) 0 = (0, l, r) from decInts_enc (show l.length ≤ 18446744073709551615 from by have := hf.l; simp only at this; omega) (inI_mem hf.li) r]
end Go.Proofs.Ytompkpleiichaaa
