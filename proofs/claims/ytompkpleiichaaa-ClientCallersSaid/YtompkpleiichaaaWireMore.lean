/- Writers and rows beside other memory that turns. -/
import Derived.Test.YtompkpleiichaaaWireRound
namespace Go.Proofs.Ytompkpleiichaaa
open Go.RowKit

/-- A Writer whose blocks all lie below M. -/
def WrIn (w : World) (B M gd : Nat) (bs : List UInt8) : Prop :=
  B ≤ gd ∧ gd < M ∧ ∃ A n c, bs.length = n ∧ Blk w gd 78 #[.slice A n c] ∧ w.ownsRow B 5 1 (.slice A n c) n (bs.map fun b => Value.int .u8 ((b.toNat : Nat) : Int)) ∧ ∀ k, (Value.slice A n c).ownBlock = some k → k < M
theorem Wr.within {w : World} {B gd : Nat} {bs : List UInt8} (h : Wr w B gd bs) : WrIn w B w.heap.size gd bs := by
  obtain ⟨h0, A, n, c, h1, h2, h3⟩ := h
  exact ⟨h0, h2.lt, A, n, c, h1, h2, h3, fun k e => (h3.lt k e).2⟩
theorem WrIn.wr {w : World} {B M gd : Nat} {bs : List UInt8} (h : WrIn w B M gd bs) : Wr w B gd bs := by
  obtain ⟨h0, _, A, n, c, h1, h2, h3, _⟩ := h
  exact ⟨h0, A, n, c, h1, h2, h3⟩
theorem WrIn.grown {w w' : World} {B M gd : Nat} {bs : List UInt8} {row : Option Nat} (h : WrIn w B M gd bs) (hg : w.grownBy w' row) (hr : ∀ r, row = some r → r < B ∨ M ≤ r) : WrIn w' B M gd bs := by
  obtain ⟨h0, h0', A, n, c, h1, h2, h3, h4⟩ := h
  refine ⟨h0, h0', A, n, c, h1, h2.grown hg (fun e => by have := hr gd e.symm; omega), h3.kept hg ?_, h4⟩
  cases hv : (Value.slice A n c).ownBlock with
  | none => exact .inl rfl
  | some k => exact .inr (fun e => by
      have := hr k e.symm
      have := h4 k hv
      have := (h3.lt k hv).1
      omega)
theorem WrIn.below {w w' : World} {B M gd : Nat} {bs : List UInt8} (h : WrIn w B M gd bs) (hb : Below w.heap.size w w') : WrIn w' B M gd bs := h.grown (only_of_below hb none) (fun _ e => by cases e)
theorem own_grown {w w' : World} {base e size n : Nat} {v : Value} {xs : List Value} {row : Option Nat} (h : w.ownsRow base e size v n xs) (hg : w.grownBy w' row) (hr : ∀ r, row = some r → r < base) : w'.ownsRow base e size v n xs := by
  refine h.kept hg ?_
  cases hv : v.ownBlock with
  | none => exact .inl rfl
  | some k => exact .inr (fun e => by
      have := hr k e.symm
      have := (h.lt k hv).1
      omega)
theorem below_grown {B : Nat} {a w w' : World} {row : Option Nat} (h : Below B a w) (hg : w.grownBy w' row) (hB : B ≤ w.heap.size) (hr : ∀ r, row = some r → B ≤ r) : Below B a w' := h.grown hg hB hr

/-- 'append([]byte{}, b...)'. -/
theorem copy_run (w : World) (A : Option Addr) (n c : Nat) (bs : List UInt8) (hx : bs.length = n) (hR : Rd w w.heap.size A n (vByte bs)) (hn : n ≤ 70368744177664) :
    ∃ A' c' w3, Hid ((Builtin.append_ #[23, 23] 23 #[.slice (some ⟨w.heap.size, 0, none⟩) 0 0, .slice A n c]).run Try.prog (w.alloc (.cells #[] 5)) = .ok (.slice A' n c') w3) ∧ n ≤ c' ∧ c' ≤ 9223372036854775807 ∧
      w3.ownsRow w.heap.size 5 1 (.slice A' n c') n (bs.map fun b => Value.int .u8 ((b.toNat : Nat) : Int)) ∧ Rd w3 w3.heap.size A' n (vByte bs) ∧ Below w.heap.size w w3 := by
  obtain ⟨i0, hi, hz0, hz1, hz2⟩ := info_parts info_u8
  have ho : (w.alloc (.cells #[] 5)).ownsRow w.heap.size 5 1 (.slice (some ⟨w.heap.size, 0, none⟩) 0 0) 0 [] := World.ownsRow_made w #[] 0 (Nat.le_refl _) (by decide) rfl
  obtain ⟨v, w3, hap, hown, hg, _⟩ := run_append_rd (P := Try.prog) (w.alloc (.cells #[] 5)) w.heap.size 23 23 5 i0 _ 1 Try.underlying23 hi hz0 hz1 hz2 rfl _ 0 [] ho w.heap.size A n c (vByte bs) (hR.alloc (Nat.le_refl _) _) hR.none_ (fun _ _ => rfl) (by unfold maxLen; omega) (by omega) (by simp)
  simp only [Nat.zero_add, List.nil_append] at hown
  obtain ⟨A', c', rfl⟩ := own_slice hown
  have e : (List.range n).map (vByte bs) = bs.map fun b => Value.int .u8 ((b.toNat : Nat) : Int) := by
    refine List.ext_getElem (by simp [hx]) fun i h1 h2 => ?_
    have hi : i < bs.length := by simpa using h2
    simp [vByte, hi]
  rw [e] at hown
  obtain ⟨_, r2, r3⟩ := rd_bytes hown
  exact ⟨A', c', w3, Lib.hid hap, r2, own_cap hown, hown, r3, ((Below.refl _ _).alloc (Nat.le_refl _) _).grown hg (by simp) (fun k e => (ho.lt k e).1)⟩
end Go.Proofs.Ytompkpleiichaaa
