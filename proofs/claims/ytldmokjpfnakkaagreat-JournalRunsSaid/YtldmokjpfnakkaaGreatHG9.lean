/- The documented examples (worldmintlaw02.lives). -/
import Derived.Test.YtldmokjpfnakkaaGreatHG7
import Derived.Test.YtldmokjpfnakkaaGreatHG2
import Derived.Deep.RegionLaw
import Derived.Deep.RegionHeld3
import Derived.Deep.AppendLies

namespace Go.Proofs.YtldmokjpfnakkaaGreat
open Go.RowKit

theorem varint_300 : varint 300 = [172, 2] := by rw [varint_ge (by decide), varint_lt (by decide)]; rfl
theorem encInt_m1 : encInt (-1) = [1] := by unfold encInt; rw [varint_lt (by decide)]; rfl
theorem encRaw_ab : encRaw [97, 98] = [2, 97, 98] := by unfold encRaw; rw [varint_lt (by decide)]; rfl
theorem Rdr.other {w w' : World} {B gd B1 g1 : Nat} {rest rest1 : List UInt8} {err err1 : Int} (h : Rdr w B gd rest err) (h1 : Rdr w B1 g1 rest1 err1) (hne : gd ≠ g1) (hg : w.grownBy w' (some g1)) : Rdr w' B gd rest err := by
  obtain ⟨k1, k2, A, n, c, p1, p2, p3, p4⟩ := h
  obtain ⟨_, _, A1, n1, c1, q1, _⟩ := h1
  refine ⟨k1, Nat.le_trans k2 hg.size, A, n, c, p1.grown hg (by simpa using hne), p2, p3, fun e => ⟨(p4 e).1, (p4 e).2.1, ?_⟩⟩
  intro hn
  obtain ⟨b, off, e', hb, hc⟩ := (p4 e).2.2 hn
  have hne' : b ≠ g1 := by
    rintro rfl
    have h0 := hc 0 hn
    rw [Nat.add_zero, Blk.cell q1 off] at h0
    rcases off with _ | _ | off <;> simp [vByte] at h0
  exact ⟨b, off, e', hb, fun j hj => (World.cell?_of_block (w := w) (hg.block b (by omega) (by simpa using hne'))).trans (hc j hj)⟩
theorem rd_litb (W : World) (t : TypeId) (cs : List UInt8) (m : Nat) (hm : cs.length = m) (vs : Array Value) (hv : vs = (cs.map fun b => Value.int .u8 ((b.toNat : Nat) : Int)).toArray) : Rd (W.alloc (.cells vs t)) (W.heap.size + 1) (some ⟨W.heap.size, 0, none⟩) m (vByte cs) := by
  subst hv hm
  exact fun _ => ⟨_, _, rfl, by omega, fun j hj => by
    rw [Nat.zero_add, Blk.cell (Blk.new W t _) j]
    simp [vByte, hj]⟩

end Go.Proofs.YtldmokjpfnakkaaGreat

/- Writers and rows beside other memory that turns. -/
namespace Go.Proofs.YtldmokjpfnakkaaGreat
open Go.RowKit

/-- A Writer whose blocks all lie below M. -/
def WrIn (w : World) (B M gd : Nat) (bs : List UInt8) : Prop :=
  B ≤ gd ∧ gd < M ∧ ∃ A n c, bs.length = n ∧ Blk w gd 75 #[.slice A n c] ∧ w.ownsRow B 5 1 (.slice A n c) n (bs.map fun b => Value.int .u8 ((b.toNat : Nat) : Int)) ∧ ∀ k, (Value.slice A n c).ownBlock = some k → k < M
theorem Wr.within {w : World} {B gd : Nat} {bs : List UInt8} (h : Wr w B gd bs) : WrIn w B w.heap.size gd bs := by
  obtain ⟨h0, A, n, c, h1, h2, h3⟩ := h
  exact ⟨h0, h2.lt, A, n, c, h1, h2, h3, fun k e => (h3.lt k e).2⟩
theorem WrIn.wr {w : World} {B M gd : Nat} {bs : List UInt8} (h : WrIn w B M gd bs) : Wr w B gd bs := by
  obtain ⟨h0, _, A, n, c, h1, h2, h3, _⟩ := h
  exact ⟨h0, A, n, c, h1, h2, h3⟩
theorem WrIn.grown {w w' : World} {B M gd : Nat} {bs : List UInt8} {row : Option Nat} (h : WrIn w B M gd bs) (hg : w.grownBy w' row) (hr : ∀ r, row = some r → r < B ∨ M ≤ r) : WrIn w' B M gd bs := by
  obtain ⟨h0, h0', A, n, c, h1, h2, h3, h4⟩ := h
  refine ⟨h0, h0', A, n, c, h1, h2.grown hg (fun e => by have := hr gd e.symm; omega), h3.kept hg ?_, h4⟩
  cases hv : (Value.slice A n c).ownBlock with
  | none => exact .inl rfl
  | some k => exact .inr (fun e => by
      have := hr k e.symm
      have := h4 k hv
      have := (h3.lt k hv).1
      omega)
theorem WrIn.below {w w' : World} {B M gd : Nat} {bs : List UInt8} (h : WrIn w B M gd bs) (hb : Below w.heap.size w w') : WrIn w' B M gd bs := h.grown (only_of_below hb none) (fun _ e => by cases e)
theorem own_grown {w w' : World} {base e size n : Nat} {v : Value} {xs : List Value} {row : Option Nat} (h : w.ownsRow base e size v n xs) (hg : w.grownBy w' row) (hr : ∀ r, row = some r → r < base) : w'.ownsRow base e size v n xs := by
  refine h.kept hg ?_
  cases hv : v.ownBlock with
  | none => exact .inl rfl
  | some k => exact .inr (fun e => by
      have := hr k e.symm
      have := (h.lt k hv).1
      omega)
theorem below_grown {B : Nat} {a w w' : World} {row : Option Nat} (h : Below B a w) (hg : w.grownBy w' row) (hB : B ≤ w.heap.size) (hr : ∀ r, row = some r → B ≤ r) : Below B a w' := h.grown hg hB hr

/-- 'append([]byte{}, b...)'. -/
theorem copy_run (w : World) (A : Option Addr) (n c : Nat) (bs : List UInt8) (hx : bs.length = n) (hR : Rd w w.heap.size A n (vByte bs)) (hn : n ≤ 70368744177664) :
    ∃ A' c' w3, Hid ((Builtin.append_ #[39, 39] 39 #[.slice (some ⟨w.heap.size, 0, none⟩) 0 0, .slice A n c]).run Tryz.prog (w.alloc (.cells #[] 5)) = .ok (.slice A' n c') w3) ∧ n ≤ c' ∧ c' ≤ 9223372036854775807 ∧
      w3.ownsRow w.heap.size 5 1 (.slice A' n c') n (bs.map fun b => Value.int .u8 ((b.toNat : Nat) : Int)) ∧ Rd w3 w3.heap.size A' n (vByte bs) ∧ Below w.heap.size w w3 := by
  obtain ⟨i0, hi, hz0, hz1, hz2⟩ := info_parts info_u8
  have ho : (w.alloc (.cells #[] 5)).ownsRow w.heap.size 5 1 (.slice (some ⟨w.heap.size, 0, none⟩) 0 0) 0 [] := World.ownsRow_made w #[] 0 (Nat.le_refl _) (by decide) rfl
  obtain ⟨v, w3, hap, hown, hg, _⟩ := run_append_rd (P := Tryz.prog) (w.alloc (.cells #[] 5)) w.heap.size 39 39 5 i0 _ 1 Tryz.underlying39 hi hz0 hz1 hz2 rfl _ 0 [] ho w.heap.size A n c (vByte bs) (hR.alloc (Nat.le_refl _) _) hR.none_ (fun _ _ => rfl) (by unfold maxLen; omega) (by omega) (by simp)
  simp only [Nat.zero_add, List.nil_append] at hown
  obtain ⟨A', c', rfl⟩ := own_slice hown
  have e : (List.range n).map (vByte bs) = bs.map fun b => Value.int .u8 ((b.toNat : Nat) : Int) := by
    refine List.ext_getElem (by simp [hx]) fun i h1 h2 => ?_
    have hi : i < bs.length := by simpa using h2
    simp [vByte, hi]
  rw [e] at hown
  obtain ⟨_, r2, r3⟩ := rd_bytes hown
  exact ⟨A', c', w3, Lib.hid hap, r2, own_cap hown, hown, r3, ((Below.refl _ _).alloc (Nat.le_refl _) _).grown hg (by simp) (fun k e => (ho.lt k e).1)⟩
end Go.Proofs.YtldmokjpfnakkaaGreat

/- Values of worldmintref02 in memory; write, encode. -/
namespace Go.Proofs.YtldmokjpfnakkaaGreat
open Go.RowKit

/-- A value (worldmintref02.Val). -/
structure V where
  kind : Int
  u : Nat
  n : Int
  b : List UInt8
  l : List Int
def V0 : V := ⟨0, 0, 0, [], []⟩
def vCells (v : V) (s t : Sl) : Array Value := #[.int .i64 v.kind, .int .u64 (v.u : Int), .int .i64 v.n, .slice s.1 s.2.1 s.2.2, .slice t.1 t.2.1 t.2.2]
/-- What is encoded. -/
def encV (v : V) : List UInt8 :=
  if v.kind = 0 then varint v.u else if v.kind = 1 then encInt v.n else if v.kind = 2 then encBool (v.n == 1) else if v.kind = 3 ∨ v.kind = 4 then encRaw v.b else encInts v.l
/-- Its parts fit. -/
structure FitV (v : V) : Prop where
  u : v.u ≤ 18446744073709551615
  n : InI v.n
  b : v.b.length ≤ 1000
  l : v.l.length ≤ 1000
  li : ∀ j : Nat, -9223372036854775808 ≤ v.l[j]?.getD 0 ∧ v.l[j]?.getD 0 ≤ 9223372036854775807
theorem encV_len {v : V} (h : FitV v) : (encV v).length ≤ 20000 := by
  unfold encV
  have h1 := varint_len10 h.u
  have h2 := encInt_len h.n.1 h.n.2
  have h3 : (encBool (v.n == 1)).length = 1 := by unfold encBool; split <;> rfl
  have h4 : (encRaw v.b).length ≤ 1010 := by
    unfold encRaw; rw [List.length_append]
    have := varint_len10 (n := v.b.length) (by have := h.b; omega)
    have := h.b
    omega
  have h5 : (encInts v.l).length ≤ 10010 := by
    rw [← encIntsTo_all v.l v.l.length (Nat.le_refl _)]
    have := encIntsTo_len v.l (by have := h.l; omega) h.li v.l.length (Nat.le_refl _)
    have := h.l
    omega
  split
  · omega
  · split
    · omega
    · split
      · omega
      · split
        · omega
        · omega

/-- The slice '.slice A n c' holds the values vs, all in blocks below B. -/
def VRow (w : World) (B : Nat) (A : Option Addr) (n : Nat) (vs : List V) : Prop :=
  vs.length = n ∧ ∃ S T : Nat → Sl, (0 < n → ∃ b off, A = some ⟨b, off, none⟩ ∧ b < B ∧ ∀ j, j < n → ∀ i, i < 5 → w.cell? ⟨b, off + j * 5 + i, none⟩ = (vCells (vs[j]?.getD V0) (S j) (T j))[i]?) ∧
    ∀ j, j < n → BIn w B (S j) (vs[j]?.getD V0).b ∧ NIn w B (T j) (vs[j]?.getD V0).l
theorem VRow.keep {w w' : World} {B n : Nat} {A : Option Addr} {vs : List V} (h : VRow w B A n vs) (hk : ∀ b, b < B → w'.heap[b]? = w.heap[b]?) : VRow w' B A n vs := by
  obtain ⟨hl, S, T, h1, h2⟩ := h
  refine ⟨hl, S, T, fun hn => ?_, fun j hj => ⟨(h2 j hj).1.keep hk, (h2 j hj).2.keep hk⟩⟩
  obtain ⟨b, off, e, hb, hc⟩ := h1 hn
  exact ⟨b, off, e, hb, fun j hj i hi => (World.cell?_of_block (w := w) (hk b hb)).trans (hc j hj i hi)⟩
theorem VRow.below {w w' : World} {B B' n : Nat} {A : Option Addr} {vs : List V} (h : VRow w B A n vs) (hb : Below B' w w') (hB : B ≤ B') : VRow w' B A n vs := h.keep fun b hlt => hb.block b (by omega)
theorem VRow.more {w : World} {B B' n : Nat} {A : Option Addr} {vs : List V} (h : VRow w B A n vs) (hB : B ≤ B') : VRow w B' A n vs := by
  obtain ⟨hl, S, T, h1, h2⟩ := h
  refine ⟨hl, S, T, fun hn => ?_, fun j hj => ⟨(h2 j hj).1.more hB, (h2 j hj).2.more hB⟩⟩
  obtain ⟨b, off, e, hb, hc⟩ := h1 hn
  exact ⟨b, off, e, by omega, hc⟩
theorem VRow.at_ {w : World} {B n k : Nat} {A : Option Addr} {vs : List V} (h : VRow w B A n vs) (hk : k < n) :
    ∃ (b off : Nat) (v : V) (s t : Sl), A = some ⟨b, off, none⟩ ∧ b < B ∧ Hid (v = vs[k]?.getD V0) ∧ w.cell? ⟨b, off + k * 5, none⟩ = some (.int .i64 v.kind) ∧ w.cell? ⟨b, off + k * 5 + 1, none⟩ = some (.int .u64 (v.u : Int)) ∧ w.cell? ⟨b, off + k * 5 + 2, none⟩ = some (.int .i64 v.n) ∧
      w.cell? ⟨b, off + k * 5 + 3, none⟩ = some (.slice s.1 s.2.1 s.2.2) ∧ w.cell? ⟨b, off + k * 5 + 4, none⟩ = some (.slice t.1 t.2.1 t.2.2) ∧ Hid (BIn w B s v.b) ∧ Hid (NIn w B t v.l) := by
  obtain ⟨_, S, T, h1, h2⟩ := h
  obtain ⟨b, off, e, hb, hc⟩ := h1 (by omega)
  have c := hc k hk
  refine ⟨b, off, _, S k, T k, e, hb, Lib.hid rfl, ?_, ?_, ?_, ?_, ?_, Lib.hid (h2 k hk).1, Lib.hid (h2 k hk).2⟩
  · simpa [vCells] using c 0 (by decide)
  · simpa [vCells] using c 1 (by decide)
  · simpa [vCells] using c 2 (by decide)
  · simpa [vCells] using c 3 (by decide)
  · simpa [vCells] using c 4 (by decide)
/-- The encoding of the first k values. -/
def encTo (vs : List V) (k : Nat) : List UInt8 := (vs.take k).flatMap encV
theorem encTo_succ (vs : List V) (k : Nat) (hk : k < vs.length) : encTo vs (k + 1) = encTo vs k ++ encV (vs[k]?.getD V0) := by
  unfold encTo
  rw [List.take_succ_eq_append_getElem hk, List.flatMap_append]
  simp [hk]
theorem encTo_len (vs : List V) (hf : ∀ j : Nat, FitV (vs[j]?.getD V0)) : ∀ k, k ≤ vs.length → (encTo vs k).length ≤ 20000 * k
  | 0, _ => by simp [encTo]
  | k + 1, h => by
    rw [encTo_succ vs k (by omega), List.length_append]
    have := encTo_len vs hf k (by omega)
    have := encV_len (hf k)
    omega

end Go.Proofs.YtldmokjpfnakkaaGreat

/- The walk of worldmintlaw02.read. -/
namespace Go.Proofs.YtldmokjpfnakkaaGreat
open Go.RowKit

/-- Reading a value of a kind: the error, the value, the rest. -/
def readV (kind : Int) (rest : List UInt8) (err : Int) : Int × V × List UInt8 :=
  if kind = 0 then ((readU rest err).1, ⟨kind, (readU rest err).2.1, 0, [], []⟩, (readU rest err).2.2)
  else if kind = 1 then ((readU rest err).1, ⟨kind, 0, unzigI (readU rest err).2.1, [], []⟩, (readU rest err).2.2)
  else if kind = 2 then ((readB rest err).1, ⟨kind, 0, if (readB rest err).2.1 then 1 else 0, [], []⟩, (readB rest err).2.2)
  else if kind = 3 ∨ kind = 4 then ((readRaw rest err).1, ⟨kind, 0, 0, (readRaw rest err).2.1, []⟩, (readRaw rest err).2.2)
  else ((readInts rest err).1, ⟨kind, 0, 0, [], (readInts rest err).2.1⟩, (readInts rest err).2.2)
/-- The slice lies in blocks from lo on. -/
def Far (lo : Nat) (s : Sl) : Prop := ∀ b off, 0 < s.2.1 → s.1 = some ⟨b, off, none⟩ → lo ≤ b
theorem Far.nil (lo : Nat) : Far lo (none, 0, 0) := fun _ _ h => absurd h (by simp)
theorem Far.own {w : World} {base e size n c : Nat} {A : Option Addr} {xs : List Value} (h : w.ownsRow base e size (.slice A n c) n xs) : Far base (A, n, c) := by
  intro b off hn he
  obtain ⟨g, e1, e2, _⟩ := own_some h hn
  simp only at he
  rw [e1] at he
  cases he
  exact e2

/-- Only the blocks b1 and b2 have turned, and nothing is new. -/
structure Keep2 (b1 b2 : Nat) (w w' : World) : Prop where
  os : w'.os = w.os
  tape : w'.tape = w.tape
  output : w'.output = w.output
  size : w'.heap.size = w.heap.size
  block : ∀ b, b ≠ b1 → b ≠ b2 → w'.heap[b]? = w.heap[b]?
theorem Keep2.refl (b1 b2 : Nat) (w : World) : Keep2 b1 b2 w w := ⟨rfl, rfl, rfl, rfl, fun _ _ _ => rfl⟩
theorem Keep2.set {b1 b2 : Nat} {w w' : World} {p : Addr} {v : Value} (h : Keep2 b1 b2 w w') (hp : p.block = b1 ∨ p.block = b2) : Keep2 b1 b2 w (w'.setCell p v) :=
  ⟨h.os, h.tape, h.output, by simpa [World.setCell] using h.size, fun b h1 h2 => (Below.heap_setCell w' p v b (by rcases hp with hp | hp <;> omega)).trans (h.block b h1 h2)⟩
theorem Keep2.grown {b1 b2 gd : Nat} {w w1 w' : World} (h : Keep2 b1 b2 w1 w') (hg : w.grownBy w1 (some gd)) (h1 : w.heap.size ≤ b1) (h2 : w.heap.size ≤ b2) : w.grownBy w' (some gd) :=
  ⟨h.os.trans hg.os, h.tape.trans hg.tape, h.output.trans hg.output, by rw [h.size]; exact hg.size, fun i hi hne => (h.block i (by omega) (by omega)).trans (hg.block i hi hne)⟩
theorem Keep2.rdr {b1 b2 B gd : Nat} {rest : List UInt8} {err : Int} {w1 w' : World} (h : Keep2 b1 b2 w1 w') (hR : Rdr w1 B gd rest err) (h1 : B ≤ b1) (h2 : B ≤ b2) : Rdr w' B gd rest err := by
  obtain ⟨k1, k2, A, n, c, p1, p2, p3, p4⟩ := hR
  exact ⟨k1, by rw [h.size]; exact k2, A, n, c, (h.block gd (by omega) (by omega)).trans p1, p2, p3, fun e => ⟨(p4 e).1, (p4 e).2.1, (p4 e).2.2.keep fun b hb => h.block b (by omega) (by omega)⟩⟩
theorem Keep2.bin {b1 b2 lo : Nat} {s : Sl} {bs : List UInt8} {w1 w' : World} (h : Keep2 b1 b2 w1 w') (hB : BIn w1 w1.heap.size s bs) (hF : Far lo s) (h1 : b1 < lo) (h2 : b2 < lo) : BIn w' w'.heap.size s bs := by
  refine ⟨hB.len, hB.cap, hB.max, fun hn => ?_⟩
  obtain ⟨b, off, e, hb, hc⟩ := hB.rd hn
  have := hF b off hn e
  exact ⟨b, off, e, by rw [h.size]; exact hb, fun j hj => (World.cell?_of_block (w := w1) (h.block b (by omega) (by omega))).trans (hc j hj)⟩
theorem Keep2.nin {b1 b2 lo : Nat} {s : Sl} {bs : List Int} {w1 w' : World} (h : Keep2 b1 b2 w1 w') (hB : NIn w1 w1.heap.size s bs) (hF : Far lo s) (h1 : b1 < lo) (h2 : b2 < lo) : NIn w' w'.heap.size s bs := by
  refine ⟨hB.len, hB.cap, hB.max, fun hn => ?_⟩
  obtain ⟨b, off, e, hb, hc⟩ := hB.rd hn
  have := hF b off hn e
  exact ⟨b, off, e, by rw [h.size]; exact hb, fun j hj => (World.cell?_of_block (w := w1) (h.block b (by omega) (by omega))).trans (hc j hj)⟩
theorem Far.more {lo lo' : Nat} {s : Sl} (h : Far lo s) (hl : lo' ≤ lo) : Far lo' s := fun b off hn e => Nat.le_trans hl (h b off hn e)

theorem blk5 {w : World} {g : Nat} {T : TypeId} {a b c d e : Value} (h : Blk w g T #[a, b, c, d, e]) :
    w.cell? ⟨g, 0, none⟩ = some a ∧ w.cell? ⟨g, 1, none⟩ = some b ∧ w.cell? ⟨g, 2, none⟩ = some c ∧ w.cell? ⟨g, 3, none⟩ = some d ∧ w.cell? ⟨g, 4, none⟩ = some e ∧
    w.frozen? ⟨g, 0, none⟩ = false ∧ w.frozen? ⟨g, 1, none⟩ = false ∧ w.frozen? ⟨g, 2, none⟩ = false ∧ w.frozen? ⟨g, 3, none⟩ = false ∧ w.frozen? ⟨g, 4, none⟩ = false :=
  ⟨by simpa using h.cell 0, by simpa using h.cell 1, by simpa using h.cell 2, by simpa using h.cell 3, by simpa using h.cell 4, h.frozen 0, h.frozen 1, h.frozen 2, h.frozen 3, h.frozen 4⟩
end Go.Proofs.YtldmokjpfnakkaaGreat

/- The walks of worldmintref02.Same and Vals. -/
namespace Go.Proofs.YtldmokjpfnakkaaGreat
open Go.RowKit

/-- append of one element of several cells: the walk lays it into a block of its own first. -/
theorem run_append_elem {P : Program} (w : World) (base : Nat) (t ty e : TypeId) (i : TypeInfo) (z : Value) (size bytes : Nat) (ht : P.underlying t = some (.slice e)) (hi : P.info? e = some i) (hz : i.zero = some z)
    (hsize : i.size = size) (hby : i.bytes = bytes) (hzs : z.cells.size = size) (hsz : 0 < size)
    (v : Value) (n : Nat) (xs : List Value) (hown : w.ownsRow base e size v n xs) (cs : Array Value) (hcs : cs.size = size) (h1 : ∀ u ∈ cs.toList, u.oneCell' = true)
    (h63 : n + 1 ≤ maxLen) (hbytes : (n + 1) * bytes ≤ 140737488355328) (hbase : base ≤ w.heap.size) :
    ∃ g cap w', (Builtin.append_ #[t, t] ty #[v, .slice (some ⟨w.heap.size, 0, none⟩) 1 1]).run P (w.alloc (.cells cs e)) = .ok (.slice (some ⟨g, 0, none⟩) (n + 1) cap) w' ∧ w'.ownsRow base e size (.slice (some ⟨g, 0, none⟩) (n + 1) cap) (n + 1) (xs ++ cs.toList) ∧
      w.grownBy w' v.ownBlock ∧ (some g = v.ownBlock ∨ g = w.heap.size + 1) ∧ w.heap.size < w'.heap.size := by
  obtain ⟨v', w', hrun, h2, h3, _, h5⟩ := run_append_own_at (P := P) (w.alloc (.cells cs e)) base t ty e i z size bytes ht hi hz hsize hby hzs hsz v n xs (hown.alloc _) ⟨w.heap.size, 0, none⟩ 1 1 cs.toList (by simp [hcs]) (World.news_of_block (World.alloc_heap_new w _)) h1 h63 hbytes (by simp; omega)
  obtain ⟨g, cap, rfl⟩ := ownsRow_succ h2
  refine ⟨g, cap, w', hrun, h2, (World.grownBy_alloc w _ _).trans h3, ?_, ?_⟩
  · rcases h5 with h5 | h5
    · exact .inl (by simpa [Value.ownBlock] using h5)
    · exact .inr (by simpa [Value.ownBlock] using h5)
  · have := h3.size
    simp at this
    omega

theorem BIn.grown {w w' : World} {s : Sl} {bs : List UInt8} {row : Option Nat} (h : BIn w w.heap.size s bs) (hg : w.grownBy w' row) (hne : ∀ b off, 0 < s.2.1 → s.1 = some ⟨b, off, none⟩ → some b ≠ row) : BIn w' w'.heap.size s bs := by
  refine ⟨h.len, h.cap, h.max, fun hn => ?_⟩
  obtain ⟨b, off, e, hb, hc⟩ := h.rd hn
  exact ⟨b, off, e, Nat.lt_of_lt_of_le hb hg.size, fun j hj => (World.cell?_of_block (w := w) (hg.block b hb (hne b off hn e))).trans (hc j hj)⟩
theorem NIn.grown {w w' : World} {s : Sl} {bs : List Int} {row : Option Nat} (h : NIn w w.heap.size s bs) (hg : w.grownBy w' row) (hne : ∀ b off, 0 < s.2.1 → s.1 = some ⟨b, off, none⟩ → some b ≠ row) : NIn w' w'.heap.size s bs := by
  refine ⟨h.len, h.cap, h.max, fun hn => ?_⟩
  obtain ⟨b, off, e, hb, hc⟩ := h.rd hn
  exact ⟨b, off, e, Nat.lt_of_lt_of_le hb hg.size, fun j hj => (World.cell?_of_block (w := w) (hg.block b hb (hne b off hn e))).trans (hc j hj)⟩
theorem BIn.all {w w' : World} {s : Sl} {bs : List UInt8} (h : BIn w w.heap.size s bs) (hb : Below w.heap.size w w') : BIn w' w'.heap.size s bs := h.grown (only_of_below hb none) (fun _ _ _ _ e => by cases e)
theorem NIn.all {w w' : World} {s : Sl} {bs : List Int} (h : NIn w w.heap.size s bs) (hb : Below w.heap.size w w') : NIn w' w'.heap.size s bs := h.grown (only_of_below hb none) (fun _ _ _ _ e => by cases e)
theorem BIn.lt {w : World} {s : Sl} {bs : List UInt8} (h : BIn w w.heap.size s bs) : ∀ b off, 0 < s.2.1 → s.1 = some ⟨b, off, none⟩ → b < w.heap.size := by
  intro b off hn e
  obtain ⟨b', off', e', hb, _⟩ := h.rd hn
  rw [e] at e'; cases e'; exact hb
theorem NIn.lt {w : World} {s : Sl} {bs : List Int} (h : NIn w w.heap.size s bs) : ∀ b off, 0 < s.2.1 → s.1 = some ⟨b, off, none⟩ → b < w.heap.size := by
  intro b off hn e
  obtain ⟨b', off', e', hb, _⟩ := h.rd hn
  rw [e] at e'; cases e'; exact hb
theorem flat5 (F : Nat → Array Value) (hF : ∀ j, (F j).size = 5) : ∀ (k j i : Nat), j < k → i < 5 → ((List.range k).flatMap fun j => (F j).toList)[j * 5 + i]? = (F j)[i]?
  | 0, j, i, hj, _ => absurd hj (by omega)
  | k + 1, j, i, hj, hi => by
    have hlen : ∀ m, ((List.range m).flatMap fun j => (F j).toList).length = m * 5 := by
      intro m
      induction m with
      | zero => rfl
      | succ m ih => rw [List.range_succ, List.flatMap_append, List.length_append, ih]; simp [hF]; omega
    rw [List.range_succ, List.flatMap_append]
    by_cases h : j < k
    · rw [List.getElem?_append_left (by rw [hlen]; omega), flat5 F hF k j i h hi]
    · obtain rfl : j = k := by omega
      rw [List.getElem?_append_right (by rw [hlen]; omega), hlen]
      simp
end Go.Proofs.YtldmokjpfnakkaaGreat
