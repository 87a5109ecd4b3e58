/- A Dice and the reference's beside it. -/
import Derived.Test.YtklkppmmnlachaaDiceShufP
namespace Go.Proofs.Ytklkppmmnlachaa
open Go.RowKit

/-- The two, at positions a and b; the seed's bytes; nothing older than W is changed. -/
structure Two (W : World) (gd gm : Nat) (key : Int) (A : Option Addr) (len cap : Nat) (bs : List UInt8) (label : ByteArray) (w : World) (a b : Int) : Prop where
  die : Die w gd key a
  rdie : RDie w gm (.slice A len cap) label b
  rd : Rd w w.heap.size A len (vByte bs)
  below : Below W.heap.size W w
  ne : gd ≠ gm
  hd : W.heap.size ≤ gd
  hm : W.heap.size ≤ gm
  seed : ∀ b off, A = some ⟨b, off, none⟩ → 0 < len → b ≠ gd
  seedm : ∀ b off, A = some ⟨b, off, none⟩ → 0 < len → b ≠ gm
variable {W w w' : World} {gd gm len cap : Nat} {key a b a' b' : Int} {A : Option Addr} {bs : List UInt8} {label : ByteArray}
theorem Two.real (h : Two W gd gm key A len cap bs label w a b) (hD : Die w' gd key a') (hg : w.grownBy w' (some gd)) : Two W gd gm key A len cap bs label w' a' b :=
  ⟨hD, Blk.grown h.rdie hg (fun e => h.ne (by injection e with e; exact e.symm)), (h.rd.off h.seed (Nat.le_refl _) hg).more hg.size, below_of_only h.below hg h.below.size h.hd, h.ne, h.hd, h.hm, h.seed, h.seedm⟩
theorem Two.ref (h : Two W gd gm key A len cap bs label w a b) (hD : RDie w' gm (.slice A len cap) label b') (hg : w.grownBy w' (some gm)) : Two W gd gm key A len cap bs label w' a b' :=
  ⟨Blk.grown h.die hg (fun e => h.ne (by injection e)), hD, (h.rd.off h.seedm (Nat.le_refl _) hg).more hg.size, below_of_only h.below hg h.below.size h.hm, h.ne, h.hd, h.hm, h.seed, h.seedm⟩
theorem Two.all (h : Two W gd gm key A len cap bs label w a b) (hb : Below w.heap.size w w') : Two W gd gm key A len cap bs label w' a b :=
  ⟨Blk.all h.die hb, Blk.all h.rdie hb, h.rd.all hb, bt h.below hb, h.ne, h.hd, h.hm, h.seed, h.seedm⟩
theorem Two.drew (h : Two W gd gm key A len cap bs label w a b) : Two W gd gm key A len cap bs label w.drew a b :=
  ⟨h.die, h.rdie, h.rd, ⟨h.below.os, h.below.tape, h.below.output, h.below.size, h.below.block⟩, h.ne, h.hd, h.hm, h.seed, h.seedm⟩
theorem Two.drewN (h : Two W gd gm key A len cap bs label w a b) (n : Nat) : Two W gd gm key A len cap bs label (w.drewN n) a b :=
  ⟨h.die, h.rdie, h.rd, below_drewN h.below n, h.ne, h.hd, h.hm, h.seed, h.seedm⟩
theorem Two.setAt (h : Two W gd gm key A len cap bs label w a b) (x : Int) : Two W gd gm key A len cap bs label (w.setCell ⟨gm, 2, none⟩ (.int .i64 x)) a x :=
  h.ref (by have := Blk.set_ h.rdie 2 (.int .i64 x); unfold RDie; simpa using this) (only_set (only_refl _ _) (.inl rfl) _)
theorem Two.cell (h : Two W gd gm key A len cap bs label w a b) : w.cell? ⟨gm, 2, none⟩ = some (.int .i64 b) := by have := Blk.cell h.rdie 2; simpa using this
theorem die_drewN (h : Hid (Die w gd key a)) (n : Nat) : Hid (Die (w.drewN n) gd key a) := Lib.hid (show Die (w.drewN n) gd key a from h.out)
theorem rd_lit4 (W : World) (t : TypeId) (x y z u : Int) : Rd (W.alloc (.cells #[.int .i64 x, .int .i64 y, .int .i64 z, .int .i64 u] t)) (W.heap.size + 1) (some ⟨W.heap.size, 0, none⟩) 4 (vInt [x, y, z, u]) := fun _ => ⟨_, _, rfl, by omega, fun j hj => by
  rcases (show j = 0 ∨ j = 1 ∨ j = 2 ∨ j = 3 by omega) with rfl | rfl | rfl | rfl <;> simp [vInt]⟩
def four (x y z : Int) : List Int := [x, 0, y, z]
theorem four_range {x y z : Int} (hx : 0 ≤ x ∧ x < 9) (hy : 0 ≤ y ∧ y < 1000) (hz : 0 ≤ z ∧ z < 2) : ∀ j, -9223372036854775808 ≤ elW (four x y z) j ∧ elW (four x y z) j ≤ 9223372036854775807 := fun j => by
  rcases (show j = 0 ∨ j = 1 ∨ j = 2 ∨ j = 3 ∨ 4 ≤ j by omega) with rfl | rfl | rfl | rfl | h
  · simp [elW, four]; omega
  · simp [elW, four]
  · simp [elW, four]; omega
  · simp [elW, four]; omega
  · simp [elW, four, List.getElem?_eq_none (l := [x, 0, y, z]) (by simpa using h)]
theorem two_lit4 (h : Two W gd gm key A len cap bs label w a b) (t : TypeId) (x y z : Int) : Two W gd gm key A len cap bs label (w.alloc (.cells #[.int .i64 x, .int .i64 0, .int .i64 y, .int .i64 z] t)).drew a b ∧
    Rd (w.alloc (.cells #[.int .i64 x, .int .i64 0, .int .i64 y, .int .i64 z] t)).drew (w.alloc (.cells #[.int .i64 x, .int .i64 0, .int .i64 y, .int .i64 z] t)).drew.heap.size (some ⟨w.heap.size, 0, none⟩) 4 (vInt (four x y z)) := by
  refine ⟨(h.all ((Below.refl _ _).alloc (Nat.le_refl _) _)).drew, ?_⟩
  have := rd_lit4 w t x 0 y z
  exact Rd.drew (this.more (by simp))
def shufO (key at_ n : Int) : Int × Int × List Int := ((shufR key at_ n).1, (shufR key at_ n).2.1, if (shufR key at_ n).1 = 0 then (shufR key at_ n).2.2 else [])
theorem shuf_ex (gd : Nat) (key at_ n : Int) (w : World) (HD : Hid (Die w gd key at_)) (hat : Hid (-9223372036854775808 ≤ at_ ∧ at_ ≤ 9223372036854775807)) :
    Calls Try.prog 38 #[.pointer (some ⟨gd, 0, none⟩), .int .i64 n] w fun e w' => ∃ (A : Option Addr) (m c : Nat) (er a' : Int) (L : List Int), e = .returned (.tuple #[.slice A m c, .int .i64 er]) ∧ Hid ((er, a', L) = shufO key at_ n) ∧
      Hid (-9223372036854775808 ≤ a' ∧ a' ≤ 9223372036854775807) ∧ Die w' gd key a' ∧ w.grownBy w' (some gd) ∧ w'.ownsRow w.heap.size 3 1 (.slice A m c) m (L.map (Value.int .i64)) :=
  (shuf_all gd key at_ n w HD hat).mono fun _ _ ⟨A, m, c, he, hd, hg, ho⟩ => ⟨A, m, c, _, _, _, he, Lib.hid rfl, Lib.hid (shufR_at hat.out), hd, hg, ho⟩
theorem rshuf_ex (gd : Nat) (A : Option Addr) (len cap : Nat) (bs : List UInt8) (label : ByteArray) (key at_ n : Int) (w : World) (HD : Hid (RDie w gd (.slice A len cap) label at_)) (hat : Hid (-9223372036854775808 ≤ at_ ∧ at_ ≤ 9223372036854775807))
    (HL : Hid (bs.length = len)) (hlab : label.size ≤ 35184372088832) (hlc : len ≤ cap) (hmax : len ≤ 35184372088832) (HKEY : Hid (bytesI label.data.toList bs = key)) (hR : Rd w w.heap.size A len (vByte bs)) :
    Calls Try.prog 39 #[.pointer (some ⟨gd, 0, none⟩), .int .i64 n] w fun e w' => ∃ (A' : Option Addr) (m c : Nat) (er a' : Int) (L : List Int), e = .returned (.tuple #[.slice A' m c, .int .i64 er]) ∧ Hid ((er, a', L) = shufO key at_ n) ∧
      RDie w' gd (.slice A len cap) label a' ∧ w.grownBy w' (some gd) ∧ w'.ownsRow w.heap.size 3 1 (.slice A' m c) m (L.map (Value.int .i64)) :=
  (rshuf_all gd A len cap bs label key at_ n w HD hat HL hlab hlc hmax HKEY hR).mono fun _ _ ⟨A, m, c, he, hd, hg, ho⟩ => ⟨A, m, c, _, _, _, he, Lib.hid rfl, hd, hg, ho⟩
end Go.Proofs.Ytklkppmmnlachaa
