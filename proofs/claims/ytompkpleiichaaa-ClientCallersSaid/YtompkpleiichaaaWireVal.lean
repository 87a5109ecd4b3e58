/- Values of worldmintref02 in memory; write, encode. -/
import Derived.Test.YtompkpleiichaaaWireLives
import Derived.Test.YtompkpleiichaaaWireMore
import Derived.Test.YtompkpleiichaaaRowIs
namespace Go.Proofs.Ytompkpleiichaaa
open Go.RowKit

/-- A value (worldmintref02.Val). -/
structure V where
  kind : Int
  u : Nat
  n : Int
  b : List UInt8
  l : List Int
def V0 : V := ⟨0, 0, 0, [], []⟩
def vCells (v : V) (s t : Sl) : Array Value := #[.int .i64 v.kind, .int .u64 (v.u : Int), .int .i64 v.n, .slice s.1 s.2.1 s.2.2, .slice t.1 t.2.1 t.2.2]
/-- What is encoded. -/
def encV (v : V) : List UInt8 :=
  if v.kind = 0 then varint v.u else if v.kind = 1 then encInt v.n else if v.kind = 2 then encBool (v.n == 1) else if v.kind = 3 ∨ v.kind = 4 then encRaw v.b else encInts v.l
/-- Its parts fit. -/
structure FitV (v : V) : Prop where
  u : v.u ≤ 18446744073709551615
  n : InI v.n
  b : v.b.length ≤ 1000
  l : v.l.length ≤ 1000
  li : ∀ j : Nat, -9223372036854775808 ≤ v.l[j]?.getD 0 ∧ v.l[j]?.getD 0 ≤ 9223372036854775807
theorem encV_len {v : V} (h : FitV v) : (encV v).length ≤ 20000 := by
  unfold encV
  have h1 := varint_len10 h.u
  have h2 := encInt_len h.n.1 h.n.2
  have h3 : (encBool (v.n == 1)).length = 1 := by unfold encBool; split <;> rfl
  have h4 : (encRaw v.b).length ≤ 1010 := by
    unfold encRaw; rw [List.length_append]
    have := varint_len10 (n := v.b.length) (by have := h.b; omega)
    have := h.b
    omega
  have h5 : (encInts v.l).length ≤ 10010 := by
    rw [← encIntsTo_all v.l v.l.length (Nat.le_refl _)]
    have := encIntsTo_len v.l (by have := h.l; omega) h.li v.l.length (Nat.le_refl _)
    have := h.l
    omega
  split
  · omega
  · split
    · omega
    · split
      · omega
      · split
        · omega
        · omega

/-- The slice '.slice A n c' holds the values vs, all in blocks below B. -/
def VRow (w : World) (B : Nat) (A : Option Addr) (n : Nat) (vs : List V) : Prop :=
  vs.length = n ∧ ∃ S T : Nat → Sl, (0 < n → ∃ b off, A = some ⟨b, off, none⟩ ∧ b < B ∧ ∀ j, j < n → ∀ i, i < 5 → w.cell? ⟨b, off + j * 5 + i, none⟩ = (vCells (vs[j]?.getD V0) (S j) (T j))[i]?) ∧
    ∀ j, j < n → BIn w B (S j) (vs[j]?.getD V0).b ∧ NIn w B (T j) (vs[j]?.getD V0).l
theorem VRow.keep {w w' : World} {B n : Nat} {A : Option Addr} {vs : List V} (h : VRow w B A n vs) (hk : ∀ b, b < B → w'.heap[b]? = w.heap[b]?) : VRow w' B A n vs := by
  obtain ⟨hl, S, T, h1, h2⟩ := h
  refine ⟨hl, S, T, fun hn => ?_, fun j hj => ⟨(h2 j hj).1.keep hk, (h2 j hj).2.keep hk⟩⟩
  obtain ⟨b, off, e, hb, hc⟩ := h1 hn
  exact ⟨b, off, e, hb, fun j hj i hi => (World.cell?_of_block (w := w) (hk b hb)).trans (hc j hj i hi)⟩
theorem VRow.below {w w' : World} {B B' n : Nat} {A : Option Addr} {vs : List V} (h : VRow w B A n vs) (hb : Below B' w w') (hB : B ≤ B') : VRow w' B A n vs := h.keep fun b hlt => hb.block b (by omega)
theorem VRow.more {w : World} {B B' n : Nat} {A : Option Addr} {vs : List V} (h : VRow w B A n vs) (hB : B ≤ B') : VRow w B' A n vs := by
  obtain ⟨hl, S, T, h1, h2⟩ := h
  refine ⟨hl, S, T, fun hn => ?_, fun j hj => ⟨(h2 j hj).1.more hB, (h2 j hj).2.more hB⟩⟩
  obtain ⟨b, off, e, hb, hc⟩ := h1 hn
  exact ⟨b, off, e, by omega, hc⟩
theorem VRow.at_ {w : World} {B n k : Nat} {A : Option Addr} {vs : List V} (h : VRow w B A n vs) (hk : k < n) :
    ∃ (b off : Nat) (v : V) (s t : Sl), A = some ⟨b, off, none⟩ ∧ b < B ∧ Hid (v = vs[k]?.getD V0) ∧ w.cell? ⟨b, off + k * 5, none⟩ = some (.int .i64 v.kind) ∧ w.cell? ⟨b, off + k * 5 + 1, none⟩ = some (.int .u64 (v.u : Int)) ∧ w.cell? ⟨b, off + k * 5 + 2, none⟩ = some (.int .i64 v.n) ∧
      w.cell? ⟨b, off + k * 5 + 3, none⟩ = some (.slice s.1 s.2.1 s.2.2) ∧ w.cell? ⟨b, off + k * 5 + 4, none⟩ = some (.slice t.1 t.2.1 t.2.2) ∧ Hid (BIn w B s v.b) ∧ Hid (NIn w B t v.l) := by
  obtain ⟨_, S, T, h1, h2⟩ := h
  obtain ⟨b, off, e, hb, hc⟩ := h1 (by omega)
  have c := hc k hk
  refine ⟨b, off, _, S k, T k, e, hb, Lib.hid rfl, ?_, ?_, ?_, ?_, ?_, Lib.hid (h2 k hk).1, Lib.hid (h2 k hk).2⟩
  · simpa [vCells] using c 0 (by decide)
  · simpa [vCells] using c 1 (by decide)
  · simpa [vCells] using c 2 (by decide)
  · simpa [vCells] using c 3 (by decide)
  · simpa [vCells] using c 4 (by decide)
/-- The encoding of the first k values. -/
def encTo (vs : List V) (k : Nat) : List UInt8 := (vs.take k).flatMap encV
theorem encTo_succ (vs : List V) (k : Nat) (hk : k < vs.length) : encTo vs (k + 1) = encTo vs k ++ encV (vs[k]?.getD V0) := by
  unfold encTo
  rw [List.take_succ_eq_append_getElem hk, List.flatMap_append]
  simp [hk]
theorem encTo_len (vs : List V) (hf : ∀ j : Nat, FitV (vs[j]?.getD V0)) : ∀ k, k ≤ vs.length → (encTo vs k).length ≤ 20000 * k
  | 0, _ => by simp [encTo]
  | k + 1, h => by
    rw [encTo_succ vs k (by omega), List.length_append]
    have := encTo_len vs hf k (by omega)
    have := encV_len (hf k)
    omega

end Go.Proofs.Ytompkpleiichaaa
