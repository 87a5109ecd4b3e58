/- Values of worldmintref02 in memory; write, encode. -/
import Derived.Test.YtgjbbobphfejoaaGreatDoorHG38
import Derived.Test.YtgjbbobphfejoaaGreatDoorHG1
import Derived.Deep.RegionLaw
import Derived.Deep.RegionHeld3
import Derived.Deep.AppendLies

namespace Go.Proofs.YtgjbbobphfejoaaGreatDoor
open Go.RowKit

/-- A value (worldmintref02.Val). -/
structure V where
  kind : Int
  u : Nat
  n : Int
  b : List UInt8
  l : List Int
def V0 : V := ⟨0, 0, 0, [], []⟩
def vCells (v : V) (s t : Sl) : Array Value := #[.int .i64 v.kind, .int .u64 (v.u : Int), .int .i64 v.n, .slice s.1 s.2.1 s.2.2, .slice t.1 t.2.1 t.2.2]
/-- What is encoded. -/
def encV (v : V) : List UInt8 :=
  if v.kind = 0 then varint v.u else if v.kind = 1 then encInt v.n else if v.kind = 2 then encBool (v.n == 1) else if v.kind = 3 ∨ v.kind = 4 then encRaw v.b else encInts v.l
/-- Its parts fit. -/
structure FitV (v : V) : Prop where
  u : v.u ≤ 18446744073709551615
  n : InI v.n
  b : v.b.length ≤ 1000
  l : v.l.length ≤ 1000
  li : ∀ j : Nat, -9223372036854775808 ≤ v.l[j]?.getD 0 ∧ v.l[j]?.getD 0 ≤ 9223372036854775807
/-- The slice '.slice A n c' holds the values vs, all in blocks below B. -/
def VRow (w : World) (B : Nat) (A : Option Addr) (n : Nat) (vs : List V) : Prop :=
  vs.length = n ∧ ∃ S T : Nat → Sl, (0 < n → ∃ b off, A = some ⟨b, off, none⟩ ∧ b < B ∧ ∀ j, j < n → ∀ i, i < 5 → w.cell? ⟨b, off + j * 5 + i, none⟩ = (vCells (vs[j]?.getD V0) (S j) (T j))[i]?) ∧
    ∀ j, j < n → BIn w B (S j) (vs[j]?.getD V0).b ∧ NIn w B (T j) (vs[j]?.getD V0).l
theorem VRow.keep {w w' : World} {B n : Nat} {A : Option Addr} {vs : List V} (h : VRow w B A n vs) (hk : ∀ b, b < B → w'.heap[b]? = w.heap[b]?) : VRow w' B A n vs := by
  obtain ⟨hl, S, T, h1, h2⟩ := h
  refine ⟨hl, S, T, fun hn => ?_, fun j hj => ⟨(h2 j hj).1.keep hk, (h2 j hj).2.keep hk⟩⟩
  obtain ⟨b, off, e, hb, hc⟩ := h1 hn
  exact ⟨b, off, e, hb, fun j hj i hi => (World.cell?_of_block (w := w) (hk b hb)).trans (hc j hj i hi)⟩
theorem VRow.below {w w' : World} {B B' n : Nat} {A : Option Addr} {vs : List V} (h : VRow w B A n vs) (hb : Below B' w w') (hB : B ≤ B') : VRow w' B A n vs := h.keep fun b hlt => hb.block b (by omega)
theorem VRow.more {w : World} {B B' n : Nat} {A : Option Addr} {vs : List V} (h : VRow w B A n vs) (hB : B ≤ B') : VRow w B' A n vs := by
  obtain ⟨hl, S, T, h1, h2⟩ := h
  refine ⟨hl, S, T, fun hn => ?_, fun j hj => ⟨(h2 j hj).1.more hB, (h2 j hj).2.more hB⟩⟩
  obtain ⟨b, off, e, hb, hc⟩ := h1 hn
  exact ⟨b, off, e, by omega, hc⟩
theorem VRow.at_ {w : World} {B n k : Nat} {A : Option Addr} {vs : List V} (h : VRow w B A n vs) (hk : k < n) :
    ∃ (b off : Nat) (v : V) (s t : Sl), A = some ⟨b, off, none⟩ ∧ b < B ∧ Hid (v = vs[k]?.getD V0) ∧ w.cell? ⟨b, off + k * 5, none⟩ = some (.int .i64 v.kind) ∧ w.cell? ⟨b, off + k * 5 + 1, none⟩ = some (.int .u64 (v.u : Int)) ∧ w.cell? ⟨b, off + k * 5 + 2, none⟩ = some (.int .i64 v.n) ∧
      w.cell? ⟨b, off + k * 5 + 3, none⟩ = some (.slice s.1 s.2.1 s.2.2) ∧ w.cell? ⟨b, off + k * 5 + 4, none⟩ = some (.slice t.1 t.2.1 t.2.2) ∧ Hid (BIn w B s v.b) ∧ Hid (NIn w B t v.l) := by
  obtain ⟨_, S, T, h1, h2⟩ := h
  obtain ⟨b, off, e, hb, hc⟩ := h1 (by omega)
  have c := hc k hk
  refine ⟨b, off, _, S k, T k, e, hb, Lib.hid rfl, ?_, ?_, ?_, ?_, ?_, Lib.hid (h2 k hk).1, Lib.hid (h2 k hk).2⟩
  · simpa [vCells] using c 0 (by decide)
  · simpa [vCells] using c 1 (by decide)
  · simpa [vCells] using c 2 (by decide)
  · simpa [vCells] using c 3 (by decide)
  · simpa [vCells] using c 4 (by decide)
end Go.Proofs.YtgjbbobphfejoaaGreatDoor

/- The walk of worldmintlaw02.read. -/
namespace Go.Proofs.YtgjbbobphfejoaaGreatDoor
open Go.RowKit

/-- Reading a value of a kind: the error, the value, the rest. -/
def readV (kind : Int) (rest : List UInt8) (err : Int) : Int × V × List UInt8 :=
  if kind = 0 then ((readU rest err).1, ⟨kind, (readU rest err).2.1, 0, [], []⟩, (readU rest err).2.2)
  else if kind = 1 then ((readU rest err).1, ⟨kind, 0, unzigI (readU rest err).2.1, [], []⟩, (readU rest err).2.2)
  else if kind = 2 then ((readB rest err).1, ⟨kind, 0, if (readB rest err).2.1 then 1 else 0, [], []⟩, (readB rest err).2.2)
  else if kind = 3 ∨ kind = 4 then ((readRaw rest err).1, ⟨kind, 0, 0, (readRaw rest err).2.1, []⟩, (readRaw rest err).2.2)
  else ((readInts rest err).1, ⟨kind, 0, 0, [], (readInts rest err).2.1⟩, (readInts rest err).2.2)
/-- The slice lies in blocks from lo on. -/
def Far (lo : Nat) (s : Sl) : Prop := ∀ b off, 0 < s.2.1 → s.1 = some ⟨b, off, none⟩ → lo ≤ b
theorem Far.nil (lo : Nat) : Far lo (none, 0, 0) := fun _ _ h => absurd h (by simp)
theorem Far.own {w : World} {base e size n c : Nat} {A : Option Addr} {xs : List Value} (h : w.ownsRow base e size (.slice A n c) n xs) : Far base (A, n, c) := by
  intro b off hn he
  obtain ⟨g, e1, e2, _⟩ := own_some h hn
  simp only at he
  rw [e1] at he
  cases he
  exact e2

/-- Only the blocks b1 and b2 have turned, and nothing is new. -/
structure Keep2 (b1 b2 : Nat) (w w' : World) : Prop where
  os : w'.os = w.os
  tape : w'.tape = w.tape
  output : w'.output = w.output
  size : w'.heap.size = w.heap.size
  block : ∀ b, b ≠ b1 → b ≠ b2 → w'.heap[b]? = w.heap[b]?
theorem Keep2.refl (b1 b2 : Nat) (w : World) : Keep2 b1 b2 w w := ⟨rfl, rfl, rfl, rfl, fun _ _ _ => rfl⟩
theorem Keep2.set {b1 b2 : Nat} {w w' : World} {p : Addr} {v : Value} (h : Keep2 b1 b2 w w') (hp : p.block = b1 ∨ p.block = b2) : Keep2 b1 b2 w (w'.setCell p v) :=
  ⟨h.os, h.tape, h.output, by simpa [World.setCell] using h.size, fun b h1 h2 => (Below.heap_setCell w' p v b (by rcases hp with hp | hp <;> omega)).trans (h.block b h1 h2)⟩
theorem Keep2.grown {b1 b2 gd : Nat} {w w1 w' : World} (h : Keep2 b1 b2 w1 w') (hg : w.grownBy w1 (some gd)) (h1 : w.heap.size ≤ b1) (h2 : w.heap.size ≤ b2) : w.grownBy w' (some gd) :=
  ⟨h.os.trans hg.os, h.tape.trans hg.tape, h.output.trans hg.output, by rw [h.size]; exact hg.size, fun i hi hne => (h.block i (by omega) (by omega)).trans (hg.block i hi hne)⟩
theorem Far.more {lo lo' : Nat} {s : Sl} (h : Far lo s) (hl : lo' ≤ lo) : Far lo' s := fun b off hn e => Nat.le_trans hl (h b off hn e)

end Go.Proofs.YtgjbbobphfejoaaGreatDoor

/- The walks of worldmintref02.Same and Vals. -/
namespace Go.Proofs.YtgjbbobphfejoaaGreatDoor
open Go.RowKit

theorem BIn.grown {w w' : World} {s : Sl} {bs : List UInt8} {row : Option Nat} (h : BIn w w.heap.size s bs) (hg : w.grownBy w' row) (hne : ∀ b off, 0 < s.2.1 → s.1 = some ⟨b, off, none⟩ → some b ≠ row) : BIn w' w'.heap.size s bs := by
  refine ⟨h.len, h.cap, h.max, fun hn => ?_⟩
  obtain ⟨b, off, e, hb, hc⟩ := h.rd hn
  exact ⟨b, off, e, Nat.lt_of_lt_of_le hb hg.size, fun j hj => (World.cell?_of_block (w := w) (hg.block b hb (hne b off hn e))).trans (hc j hj)⟩
theorem NIn.grown {w w' : World} {s : Sl} {bs : List Int} {row : Option Nat} (h : NIn w w.heap.size s bs) (hg : w.grownBy w' row) (hne : ∀ b off, 0 < s.2.1 → s.1 = some ⟨b, off, none⟩ → some b ≠ row) : NIn w' w'.heap.size s bs := by
  refine ⟨h.len, h.cap, h.max, fun hn => ?_⟩
  obtain ⟨b, off, e, hb, hc⟩ := h.rd hn
  exact ⟨b, off, e, Nat.lt_of_lt_of_le hb hg.size, fun j hj => (World.cell?_of_block (w := w) (hg.block b hb (hne b off hn e))).trans (hc j hj)⟩
theorem BIn.all {w w' : World} {s : Sl} {bs : List UInt8} (h : BIn w w.heap.size s bs) (hb : Below w.heap.size w w') : BIn w' w'.heap.size s bs := h.grown (only_of_below hb none) (fun _ _ _ _ e => by cases e)
theorem NIn.all {w w' : World} {s : Sl} {bs : List Int} (h : NIn w w.heap.size s bs) (hb : Below w.heap.size w w') : NIn w' w'.heap.size s bs := h.grown (only_of_below hb none) (fun _ _ _ _ e => by cases e)
theorem BIn.lt {w : World} {s : Sl} {bs : List UInt8} (h : BIn w w.heap.size s bs) : ∀ b off, 0 < s.2.1 → s.1 = some ⟨b, off, none⟩ → b < w.heap.size := by
  intro b off hn e
  obtain ⟨b', off', e', hb, _⟩ := h.rd hn
  rw [e] at e'; cases e'; exact hb
theorem NIn.lt {w : World} {s : Sl} {bs : List Int} (h : NIn w w.heap.size s bs) : ∀ b off, 0 < s.2.1 → s.1 = some ⟨b, off, none⟩ → b < w.heap.size := by
  intro b off hn e
  obtain ⟨b', off', e', hb, _⟩ := h.rd hn
  rw [e] at e'; cases e'; exact hb
end Go.Proofs.YtgjbbobphfejoaaGreatDoor

/- The walk of worldmintref02.Vals. -/
namespace Go.Proofs.YtgjbbobphfejoaaGreatDoor
open Go.RowKit

/-- A value as Vals makes them. -/
structure GoodV (v : V) : Prop where
  fit : FitV v
  small : v.b.length ≤ 9 ∧ v.l.length ≤ 4
  norm : v = ⟨0, v.u, 0, [], []⟩ ∨ v = ⟨1, 0, v.n, [], []⟩ ∨ v = ⟨2, 0, 0, [], []⟩ ∨ v = ⟨2, 0, 1, [], []⟩ ∨ v = ⟨3, 0, 0, v.b, []⟩ ∨ v = ⟨4, 0, 0, v.b, []⟩ ∨ v = ⟨5, 0, 0, [], v.l⟩

theorem inI0 : InI 0 := ⟨by decide, by decide⟩
theorem inI1 : InI 1 := ⟨by decide, by decide⟩
end Go.Proofs.YtgjbbobphfejoaaGreatDoor

/- Plain Lean: values that are written and read. -/
namespace Go.Proofs.YtgjbbobphfejoaaGreatDoor
open Go.RowKit

theorem inI_mem {l : List Int} (h : ∀ j : Nat, -9223372036854775808 ≤ l[j]?.getD 0 ∧ l[j]?.getD 0 ≤ 9223372036854775807) : ∀ n ∈ l, InI n := by
  intro n hn
  obtain ⟨j, hj, rfl⟩ := List.getElem_of_mem hn
  have := h j
  rw [List.getElem?_eq_getElem hj] at this
  exact this
theorem unzigI_zero : unzigI 0 = 0 := by decide
theorem readV_err {kind : Int} {rest : List UInt8} {err : Int} (he : err ≠ 0) : readV kind rest err = (err, ⟨kind, 0, 0, [], []⟩, []) := by
  have hu : readU rest err = (err, 0, []) := if_neg he
  have hb : readB rest err = (err, false, []) := if_neg he
  have hr : readRaw rest err = (err, [], []) := if_neg he
  have hi : readInts rest err = (err, [], []) := if_neg he
  unfold readV
  rw [hu, hb, hr, hi]
  simp only [unzigI_zero]
  split
  · rfl
  · split
    · rfl
    · split
      · rfl
      · split <;> rfl
/-- Round trip of a value. -/
theorem readV_enc {v : V} (h : GoodV v) (r : List UInt8) : readV v.kind (encV v ++ r) 0 = (0, v, r) := by
  have hf := h.fit
  have hu : ∀ n, n ≤ 18446744073709551615 → readU (varint n ++ r) 0 = (0, n, r) := fun n hn => decU_enc hn r
  rcases h.norm with e | e | e | e | e | e | e
  all_goals
    generalize v.u = u at *
    generalize v.n = n at *
    generalize v.b = b at *
    generalize v.l = l at *
    subst e
  · show ((readU (varint u ++ r) 0).1, (⟨0, (readU (varint u ++ r) 0).2.1, 0, [], []⟩ : V), (readU (varint u ++ r) 0).2.2) = _
    rw [hu u hf.u]
  · show ((readU (encInt n ++ r) 0).1, (⟨1, 0, unzigI (readU (encInt n ++ r) 0).2.1, [], []⟩ : V), (readU (encInt n ++ r) 0).2.2) = _
    rw [show readU (encInt n ++ r) 0 = (0, zigI n, r) from decU_int hf.n r, unzig_zig]
  · rfl
  · rfl
  · show ((readRaw (encRaw b ++ r) 0).1, (⟨3, 0, 0, (readRaw (encRaw b ++ r) 0).2.1, []⟩ : V), (readRaw (encRaw b ++ r) 0).2.2) = _
    rw [show readRaw (encRaw b ++ r) 0 = (0, b, r) from decRaw_enc (show b.length ≤ 18446744073709551615 from by have := hf.b; simp only at this; omega) r]
  · show ((readRaw (encRaw b ++ r) 0).1, (⟨4, 0, 0, (readRaw (encRaw b ++ r) 0).2.1, []⟩ : V), (readRaw (encRaw b ++ r) 0).2.2) = _
    rw [show readRaw (encRaw b ++ r) 0 = (0, b, r) from decRaw_enc (show b.length ≤ 18446744073709551615 from by have := hf.b; simp only at this; omega) r]
  · show ((readInts (encInts l ++ r) 0).1, (⟨5, 0, 0, [], (readInts (encInts l ++ r) 0).2.1⟩ : V), (readInts (encInts l ++ r) 0).2.2) = _
    rw [show readInts (encInts l ++ r) 0 = (0, l, r) from decInts_enc (show l.length ≤ 18446744073709551615 from by have := hf.l; simp only at this; omega) (inI_mem hf.li) r]
end Go.Proofs.YtgjbbobphfejoaaGreatDoor

/- Several values appended at once. -/
namespace Go.Proofs.YtgjbbobphfejoaaGreatDoor
open Go.RowKit

theorem Rdr.drew {w : World} {B gd : Nat} {rest : List UInt8} {err : Int} (h : Rdr w B gd rest err) : Rdr w.drew B gd rest err := h
/-- The values' kinds and what is left of their encoding. -/
def encFrom (vs : List V) (k : Nat) : List UInt8 := (vs.drop k).flatMap encV
theorem encFrom_succ (vs : List V) (k : Nat) (hk : k < vs.length) : encFrom vs k = encV (vs[k]?.getD V0) ++ encFrom vs (k + 1) := by
  unfold encFrom
  rw [List.drop_eq_getElem_cons hk, List.flatMap_cons]
  simp [hk]
theorem encFrom_end (vs : List V) (k : Nat) (h : vs.length ≤ k) : encFrom vs k = [] := by unfold encFrom; rw [List.drop_eq_nil_of_le h]; rfl
theorem good_at {vs : List V} (h : ∀ y ∈ vs, GoodV y) {j : Nat} (hj : j < vs.length) : GoodV (vs[j]?.getD V0) := by
  rw [List.getElem?_eq_getElem hj]; exact h _ (List.getElem_mem _)
end Go.Proofs.YtgjbbobphfejoaaGreatDoor

/- Plain Lean: prefixes of encodings; what is read was written. -/
namespace Go.Proofs.YtgjbbobphfejoaaGreatDoor
open Go.RowKit

theorem take_lt {a r : List UInt8} {c : Nat} (h : c ≤ a.length) : (a ++ r).take c = a.take c := List.take_append_of_le_length h
theorem take_ge {a r : List UInt8} {c : Nat} (h : a.length ≤ c) : (a ++ r).take c = a ++ r.take (c - a.length) := by
  rw [List.take_append, List.take_of_length_le h]
theorem decK_cut : ∀ (l : List Int) (_ : ∀ n ∈ l, InI n) (r : List UInt8) (c : Nat), c < (l.flatMap encInt).length → decK l.length ((l.flatMap encInt ++ r).take c) = (3, [], [])
  | [], _, r, c, h => absurd h (by simp)
  | n :: l, hl, r, c, h => by
    have hn := hl n (by simp)
    rw [List.flatMap_cons, List.length_append] at h
    rw [List.flatMap_cons, List.append_assoc, List.length_cons]
    by_cases hc : c < (encInt n).length
    · rw [take_lt (by omega), decK, show decU 0 0 ((encInt n).take c) = (3, 0, []) from decU_prefix (zigI_lt hn.1 hn.2) hc]
      simp
    · rw [take_ge (by omega), decK, decU_int hn, if_neg (by simp), decK_cut l (fun m hm => hl m (by simp [hm])) r _ (by omega)]
      simp
theorem decU_take {n : Nat} (h : n ≤ 18446744073709551615) (r : List UInt8) (c : Nat) : decU 0 0 ((varint n ++ r).take c) = if c < (varint n).length then (3, 0, []) else (0, n, r.take (c - (varint n).length)) := by
  by_cases hc : c < (varint n).length
  · rw [if_pos hc, take_lt (by omega)]; exact decU_prefix h hc
  · rw [if_neg hc, take_ge (by omega)]; exact decU_enc h _
theorem decRaw_cut {bs r : List UInt8} (h : bs.length ≤ 18446744073709551615) {c : Nat} (hc : c < (encRaw bs).length) : (decRaw ((encRaw bs ++ r).take c)).1 = 3 := by
  unfold encRaw at hc ⊢
  rw [List.length_append] at hc
  rw [List.append_assoc]
  unfold decRaw
  rw [decU_take h]
  by_cases h1 : c < (varint bs.length).length
  · rw [if_pos h1]; simp
  · rw [if_neg h1, if_neg (by simp), if_pos (by simp; omega)]
theorem decInts_cut {l : List Int} {r : List UInt8} (h : l.length ≤ 18446744073709551615) (hl : ∀ n ∈ l, InI n) {c : Nat} (hc : c < (encInts l).length) : (decInts ((encInts l ++ r).take c)).1 = 3 := by
  unfold encInts at hc ⊢
  rw [List.length_append] at hc
  rw [List.append_assoc]
  unfold decInts
  rw [decU_take h]
  by_cases h1 : c < (varint l.length).length
  · rw [if_pos h1]; simp
  · rw [if_neg h1, if_neg (by simp)]
    split
    · rfl
    · simp only
      rw [decK_cut l hl r _ (by omega)]
/-- A value cut off. -/
theorem readV_cut {v : V} (h : GoodV v) (r : List UInt8) {c : Nat} (hc : c < (encV v).length) : (readV v.kind ((encV v ++ r).take c) 0).1 = 3 := by
  have hf := h.fit
  rcases h.norm with e | e | e | e | e | e | e
  all_goals
    generalize v.u = u at *
    generalize v.n = n at *
    generalize v.b = b at *
    generalize v.l = l at *
    subst e
  · show (decU 0 0 ((varint u ++ r).take c)).1 = 3
    rw [decU_take (n := u) hf.u, if_pos (show c < (varint u).length from hc)]
  · show (decU 0 0 ((varint (zigI n) ++ r).take c)).1 = 3
    rw [decU_take (n := zigI n) (zigI_lt hf.n.1 hf.n.2), if_pos (show c < (varint (zigI n)).length from hc)]
  · obtain rfl : c = 0 := by
      have : (encV ⟨2, 0, 0, [], []⟩).length = 1 := rfl
      omega
    rfl
  · obtain rfl : c = 0 := by
      have : (encV ⟨2, 0, 1, [], []⟩).length = 1 := rfl
      omega
    rfl
  · exact decRaw_cut (show b.length ≤ 18446744073709551615 from by have := hf.b; simp only at this; omega) hc
  · exact decRaw_cut (show b.length ≤ 18446744073709551615 from by have := hf.b; simp only at this; omega) hc
  · exact decInts_cut (show l.length ≤ 18446744073709551615 from by have := hf.l; simp only at this; omega) (inI_mem hf.li) hc
/-- The state of a reader of a prefix: cut off, or a proper prefix of what is still to come. -/
def CutAt (vs : List V) (i : Nat) (rest : List UInt8) (err : Int) : Prop := err = 3 ∨ (err = 0 ∧ ∃ c, c < (encFrom vs i).length ∧ rest = (encFrom vs i).take c)
theorem CutAt.step {vs : List V} {i : Nat} {rest : List UInt8} {err : Int} (h : CutAt vs i rest err) (hg : ∀ y ∈ vs, GoodV y) (hi : i < vs.length) :
    CutAt vs (i + 1) (readV (vs[i]?.getD V0).kind rest err).2.2 (readV (vs[i]?.getD V0).kind rest err).1 := by
  rcases h with rfl | ⟨rfl, c, hc, rfl⟩
  · rw [readV_err (by decide)]; exact .inl rfl
  · have hgv := good_at hg hi
    rw [encFrom_succ vs i hi] at hc ⊢
    by_cases h1 : c < (encV (vs[i]?.getD V0)).length
    · exact .inl (readV_cut hgv _ h1)
    · rw [take_ge (by omega), readV_enc hgv]
      rw [List.length_append] at hc
      exact .inr ⟨rfl, _, by omega, rfl⟩
theorem CutAt.done {vs : List V} {i : Nat} {rest : List UInt8} {err : Int} (h : CutAt vs i rest err) (hi : vs.length ≤ i) : err = 3 := by
  rcases h with rfl | ⟨_, c, hc, _⟩
  · rfl
  · rw [encFrom_end vs i hi] at hc; simp at hc

/-- One encoding: what is read was written. -/
theorem decK_inv : ∀ (k : Nat) (bs : List UInt8) (l : List Int) (r : List UInt8), decK k bs = (0, l, r) → bs = l.flatMap encInt ++ r ∧ l.length = k ∧ ∀ n ∈ l, InI n
  | 0, bs, l, r, h => by
    simp only [decK, Prod.mk.injEq] at h
    obtain ⟨_, rfl, rfl⟩ := h
    exact ⟨rfl, rfl, by simp⟩
  | k + 1, bs, l, r, h => by
    rw [decK] at h
    split at h
    · rename_i he
      simp only [Prod.mk.injEq] at h
      exact absurd h.1 he
    · rename_i he
      have he' : (decU 0 0 bs).1 = 0 := by simpa using he
      split at h
      · rename_i h2
        simp only [Prod.mk.injEq] at h
        exact absurd h.1 h2
      · rename_i h2
        have h2' : (decK k (decU 0 0 bs).2.2).1 = 0 := by simpa using h2
        simp only [Prod.mk.injEq, true_and] at h
        obtain ⟨h3, h4⟩ := h
        obtain ⟨e1, e2, e3⟩ := decK_inv k (decU 0 0 bs).2.2 (decK k (decU 0 0 bs).2.2).2.1 r (by rw [← h4, ← h2'])
        have hd : bs = varint (decU 0 0 bs).2.1 ++ (decU 0 0 bs).2.2 := decU_inv (by rw [← he'])
        have hlt := (decU_lt bs 0 0 (by decide) (by decide)).1
        rw [← h3]
        refine ⟨?_, by simp [e2], fun n hn => ?_⟩
        · rw [List.flatMap_cons, List.append_assoc, ← e1]
          unfold encInt
          rw [zig_unzig]
          exact hd
        · rcases List.mem_cons.1 hn with rfl | hn
          · exact unzigI_range hlt
          · exact e3 n hn
theorem getD_range {l : List Int} (h : ∀ n ∈ l, InI n) : ∀ j : Nat, -9223372036854775808 ≤ l[j]?.getD 0 ∧ l[j]?.getD 0 ≤ 9223372036854775807 := by
  intro j
  by_cases hj : j < l.length
  · rw [List.getElem?_eq_getElem hj]; exact h _ (List.getElem_mem _)
  · rw [List.getElem?_eq_none (by omega)]; simp
theorem decU_eta {bs : List UInt8} (h : (decU 0 0 bs).1 = 0) : bs = varint (decU 0 0 bs).2.1 ++ (decU 0 0 bs).2.2 := decU_inv (Prod.ext h rfl)
theorem decRaw_inv {bs b r : List UInt8} (h : decRaw bs = (0, b, r)) : bs = encRaw b ++ r := by
  unfold decRaw at h
  split at h
  · rename_i he
    simp only [Prod.mk.injEq] at h
    exact absurd h.1 he
  · rename_i he
    have he' : (decU 0 0 bs).1 = 0 := by simpa using he
    split at h
    · simp at h
    · rename_i h2
      simp only [Prod.mk.injEq, true_and] at h
      obtain ⟨rfl, rfl⟩ := h
      have hd := decU_eta he'
      unfold encRaw
      rw [List.length_take, Nat.min_eq_left (by omega), List.append_assoc, List.take_append_drop]
      exact hd
theorem decInts_inv {bs : List UInt8} {l : List Int} {r : List UInt8} (h : decInts bs = (0, l, r)) : bs = encInts l ++ r ∧ ∀ n ∈ l, InI n := by
  unfold decInts at h
  split at h
  · rename_i he
    simp only [Prod.mk.injEq] at h
    exact absurd h.1 he
  · rename_i he
    have he' : (decU 0 0 bs).1 = 0 := by simpa using he
    split at h
    · simp at h
    · obtain ⟨e1, e2, e3⟩ := decK_inv _ _ _ _ h
      refine ⟨?_, e3⟩
      have hd := decU_eta he'
      unfold encInts
      rw [e2, List.append_assoc, ← e1]
      exact hd
theorem decBool_inv {bs : List UInt8} {b : Bool} {r : List UInt8} (h : decBool bs = (0, b, r)) : bs = encBool b ++ r := by
  unfold decBool at h
  cases bs with
  | nil => simp at h
  | cons c s =>
    simp only at h
    split at h
    · simp at h
    · rename_i hc
      simp only [Prod.mk.injEq, true_and] at h
      obtain ⟨rfl, rfl⟩ := h
      rcases (show c.toNat = 0 ∨ c.toNat = 1 by omega) with h0 | h0
      · have : c = 0 := UInt8.toNat_inj.1 (by rw [h0]; rfl)
        subst this; rfl
      · have : c = 1 := UInt8.toNat_inj.1 (by rw [h0]; rfl)
        subst this; rfl
/-- A value that was read fits and is encoded as it was. -/
theorem readV_inv {kind : Int} {rest : List UInt8} (h : (readV kind rest 0).1 = 0) (hl : rest.length ≤ 1000) : rest = encV (readV kind rest 0).2.1 ++ (readV kind rest 0).2.2 ∧ FitV (readV kind rest 0).2.1 ∧ (readV kind rest 0).2.1.kind = kind := by
  have hlt := (decU_lt rest 0 0 (by decide) (by decide)).1
  unfold readV at h ⊢
  by_cases h0 : kind = 0
  · rw [if_pos h0] at h ⊢
    subst h0
    exact ⟨decU_eta h, ⟨hlt, inI0, by simp, by simp, by simp⟩, rfl⟩
  rw [if_neg h0] at h ⊢
  by_cases h1 : kind = 1
  · rw [if_pos h1] at h ⊢
    subst h1
    refine ⟨?_, ⟨by simp, unzigI_range hlt, by simp, by simp, by simp⟩, rfl⟩
    have hd := decU_eta h
    show rest = encInt (unzigI (decU 0 0 rest).2.1) ++ (decU 0 0 rest).2.2
    unfold encInt
    rw [zig_unzig]
    exact hd
  rw [if_neg h1] at h ⊢
  by_cases h2 : kind = 2
  · rw [if_pos h2] at h ⊢
    subst h2
    have hd : rest = encBool (decBool rest).2.1 ++ (decBool rest).2.2 := decBool_inv (Prod.ext h rfl)
    have hs : readB rest 0 = decBool rest := rfl
    rw [hs]
    generalize (decBool rest).2.1 = b at *
    generalize (decBool rest).2.2 = r at *
    cases b
    · exact ⟨hd, ⟨by simp, inI0, by simp, by simp, by simp⟩, rfl⟩
    · exact ⟨hd, ⟨by simp, inI1, by simp, by simp, by simp⟩, rfl⟩
  rw [if_neg h2] at h ⊢
  by_cases h3 : kind = 3 ∨ kind = 4
  · rw [if_pos h3] at h ⊢
    have hd : rest = encRaw (decRaw rest).2.1 ++ (decRaw rest).2.2 := decRaw_inv (Prod.ext h rfl)
    have hs : readRaw rest 0 = decRaw rest := rfl
    rw [hs]
    generalize (decRaw rest).2.1 = b at *
    generalize (decRaw rest).2.2 = r at *
    have hbl : b.length ≤ 1000 := by
      have := congrArg List.length hd
      unfold encRaw at this
      simp only [List.length_append] at this
      omega
    refine ⟨?_, ⟨by simp, inI0, hbl, by simp, by simp⟩, rfl⟩
    unfold encV
    simp only
    rw [if_neg h0, if_neg h1, if_neg h2, if_pos h3]
    exact hd
  · rw [if_neg h3] at h ⊢
    obtain ⟨hd, hi⟩ : rest = encInts (decInts rest).2.1 ++ (decInts rest).2.2 ∧ ∀ n ∈ (decInts rest).2.1, InI n := decInts_inv (Prod.ext h rfl)
    have hs : readInts rest 0 = decInts rest := rfl
    rw [hs]
    generalize (decInts rest).2.1 = l at *
    generalize (decInts rest).2.2 = r at *
    have hbl : l.length ≤ 1000 := by
      have := congrArg List.length hd
      unfold encInts at this
      simp only [List.length_append] at this
      have := flatI_len l
      omega
    refine ⟨?_, ⟨by simp, inI0, by simp, hbl, getD_range hi⟩, rfl⟩
    unfold encV
    simp only
    rw [if_neg h0, if_neg h1, if_neg h2, if_neg h3]
    exact hd
/-- A value that was not read is empty. -/
theorem readV_fail {kind : Int} {rest : List UInt8} (h : (readV kind rest 0).1 ≠ 0) : (readV kind rest 0).2 = (⟨kind, 0, 0, [], []⟩, []) := by
  have hu : (readU rest 0).1 ≠ 0 → (readU rest 0).2 = (0, []) := by
    intro hh
    rcases decU_out rest 0 0 with h1 | ⟨_, h1⟩
    · exact absurd h1 hh
    · exact h1
  have hb : (readB rest 0).1 ≠ 0 → (readB rest 0).2 = (false, []) := by
    show (decBool rest).1 ≠ 0 → (decBool rest).2 = (false, [])
    intro hh
    unfold decBool at hh ⊢
    cases rest with
    | nil => rfl
    | cons c r =>
      simp only at hh ⊢
      split
      · rfl
      · rename_i hc
        rw [if_neg hc] at hh
        exact absurd rfl hh
  have hr : (readRaw rest 0).1 ≠ 0 → (readRaw rest 0).2 = ([], []) := by
    show (decRaw rest).1 ≠ 0 → (decRaw rest).2 = ([], [])
    intro hh
    unfold decRaw at hh ⊢
    split
    · rfl
    · rename_i h1
      rw [if_neg h1] at hh
      split
      · rfl
      · rename_i h2
        rw [if_neg h2] at hh
        exact absurd rfl hh
  have hi : (readInts rest 0).1 ≠ 0 → (readInts rest 0).2 = ([], []) := by
    show (decInts rest).1 ≠ 0 → (decInts rest).2 = ([], [])
    intro hh
    unfold decInts at hh ⊢
    split
    · rfl
    · rename_i h1
      rw [if_neg h1] at hh
      split
      · rfl
      · rename_i h2
        rw [if_neg h2] at hh
        rcases decK_out (decU 0 0 rest).2.1 (decU 0 0 rest).2.2 with h3 | h3
        · exact absurd h3 hh
        · exact h3
  unfold readV at h ⊢
  by_cases h0 : kind = 0
  · rw [if_pos h0] at h ⊢
    simp only
    rw [hu h]
  rw [if_neg h0] at h ⊢
  by_cases h1 : kind = 1
  · rw [if_pos h1] at h ⊢
    simp only
    rw [hu h, unzigI_zero]
  rw [if_neg h1] at h ⊢
  by_cases h2 : kind = 2
  · rw [if_pos h2] at h ⊢
    simp only
    rw [hb h]
    rfl
  rw [if_neg h2] at h ⊢
  by_cases h3 : kind = 3 ∨ kind = 4
  · rw [if_pos h3] at h ⊢
    simp only
    rw [hr h]
  · rw [if_neg h3] at h ⊢
    simp only
    rw [hi h]
theorem fit0 (kind : Int) : FitV ⟨kind, 0, 0, [], []⟩ := ⟨by simp, inI0, by simp, by simp, by simp⟩
/-- The values that were read, and what is left: so far the bytes are theirs. -/
structure OneAt (T : List UInt8) (got : List V) (rest : List UInt8) (err : Int) : Prop where
  fit : ∀ j : Nat, FitV (got[j]?.getD V0)
  len : rest.length ≤ 1000
  eq : err = 0 → T = got.flatMap encV ++ rest
theorem fit_snoc {got : List V} {v : V} (h : ∀ j : Nat, FitV (got[j]?.getD V0)) (hv : FitV v) : ∀ j : Nat, FitV ((got ++ [v])[j]?.getD V0) := by
  intro j
  by_cases hj : j < got.length
  · rw [List.getElem?_append_left hj]; exact h j
  · rw [List.getElem?_append_right (by omega)]
    by_cases h2 : j = got.length
    · subst h2; simp only [Nat.sub_self, List.getElem?_cons_zero, Option.getD_some]; exact hv
    · rw [List.getElem?_eq_none (by simp; omega)]; exact fit0 0
theorem OneAt.step {T : List UInt8} {got : List V} {rest : List UInt8} {err : Int} (h : OneAt T got rest err) (kind : Int) : OneAt T (got ++ [(readV kind rest err).2.1]) (readV kind rest err).2.2 (readV kind rest err).1 := by
  by_cases he : err = 0
  · subst he
    by_cases h1 : (readV kind rest 0).1 = 0
    · obtain ⟨e1, e2, _⟩ := readV_inv h1 h.len
      refine ⟨fit_snoc h.fit e2, ?_, fun _ => ?_⟩
      · have := congrArg List.length e1
        rw [List.length_append] at this
        have := h.len
        omega
      · rw [List.flatMap_append, List.append_assoc]
        simp only [List.flatMap_cons, List.flatMap_nil, List.append_nil]
        rw [← e1]
        exact h.eq rfl
    · have e := readV_fail h1
      refine ⟨fit_snoc h.fit ?_, ?_, fun h2 => absurd h2 h1⟩
      · rw [show (readV kind rest 0).2.1 = ⟨kind, 0, 0, [], []⟩ from congrArg Prod.fst e]; exact fit0 _
      · rw [show (readV kind rest 0).2.2 = [] from congrArg Prod.snd e]; simp
  · rw [readV_err he]
    exact ⟨fit_snoc h.fit (fit0 _), by simp, fun h2 => absurd h2 he⟩
theorem OneAt.done {T : List UInt8} {got : List V} {rest : List UInt8} {err : Int} (h : OneAt T got rest err) (he : endI rest err = 0) : T = got.flatMap encV := by
  unfold endI at he
  split at he
  · rename_i h0
    split at he
    · rename_i h1
      rw [h.eq h0, List.eq_nil_of_length_eq_zero h1, List.append_nil]
    · omega
  · rename_i h0
    exact absurd he h0
end Go.Proofs.YtgjbbobphfejoaaGreatDoor

/- The walks of worldmintref02's encodings. -/
namespace Go.Proofs.YtgjbbobphfejoaaGreatDoor
open Go.RowKit

/-- A row of bytes of the call's own is returned. -/
def RetB (bs : List UInt8) (w : World) (e : Ending) (w' : World) : Prop :=
  ∃ (A : Option Addr) (n c : Nat), e = .returned (.slice A n c) ∧ Hid (bs.length = n) ∧ w'.ownsRow w.heap.size 5 1 (.slice A n c) n (bs.map fun b => Value.int .u8 ((b.toNat : Nat) : Int)) ∧ Below w.heap.size w w'
theorem VRow.take {w : World} {B n m : Nat} {A : Option Addr} {vs : List V} (h : VRow w B A n vs) (hm : m ≤ n) : VRow w B A m (vs.take m) := by
  obtain ⟨hl, S, T, h1, h2⟩ := h
  have e : ∀ j, j < m → (vs.take m)[j]?.getD V0 = vs[j]?.getD V0 := fun j hj => by rw [List.getElem?_take, if_pos hj]
  refine ⟨by rw [List.length_take, hl]; omega, S, T, fun hn => ?_, fun j hj => ?_⟩
  · obtain ⟨b, off, e1, hb, hc⟩ := h1 (by omega)
    exact ⟨b, off, e1, hb, fun j hj i hi => by rw [e j hj]; exact hc j (by omega) i hi⟩
  · rw [e j hj]; exact h2 j (by omega)
theorem Wr.drew {w : World} {B gd : Nat} {bs : List UInt8} (h : Wr w B gd bs) : Wr w.drew B gd bs := h
end Go.Proofs.YtgjbbobphfejoaaGreatDoor
