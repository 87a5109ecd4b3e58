/- A frame by a set of blocks; the type of a block; a slice of bytes known by its block's type; rows of structs: append of one. -/
import Derived.Test.YtompkpleiichaaaMem2
import Derived.Lib.Hide
namespace Go.Proofs.Ytompkpleiichaaa
open Go.RowKit

/-- Only blocks of F, and what is new, have turned. -/
structure Mod (F : Nat → Prop) (w w' : World) : Prop where
  os : w'.os = w.os
  tape : w'.tape = w.tape
  output : w'.output = w.output
  size : w.heap.size ≤ w'.heap.size
  block : ∀ k, k < w.heap.size → ¬ F k → w'.heap[k]? = w.heap[k]?
section
variable {F G : Nat → Prop} {a w w' w'' : World}
theorem Mod.refl (F : Nat → Prop) (w : World) : Mod F w w := ⟨rfl, rfl, rfl, Nat.le_refl _, fun _ _ _ => rfl⟩
theorem Mod.trans (h : Mod F w w') (k : Mod G w' w'') (hG : ∀ b, G b → F b ∨ w.heap.size ≤ b) : Mod F w w'' :=
  ⟨k.os.trans h.os, k.tape.trans h.tape, k.output.trans h.output, Nat.le_trans h.size k.size, fun b hb hF => (k.block b (Nat.lt_of_lt_of_le hb h.size) (fun hg => (hG b hg).elim hF (by omega))).trans (h.block b hb hF)⟩
theorem Mod.mono (h : Mod F w w') (hF : ∀ b, F b → G b ∨ w.heap.size ≤ b) : Mod G w w' := ⟨h.os, h.tape, h.output, h.size, fun b hb hG => h.block b hb (fun hf => (hF b hf).elim hG (by omega))⟩
theorem Mod.of_below (F : Nat → Prop) (h : Below w.heap.size w w') : Mod F w w' := ⟨h.os, h.tape, h.output, h.size, fun b hb _ => h.block b hb⟩
theorem Mod.of_grown {r : Option Nat} (h : w.grownBy w' r) (hF : ∀ g, r = some g → F g ∨ w.heap.size ≤ g) : Mod F w w' := ⟨h.os, h.tape, h.output, h.size, fun b hb hf => h.block b hb (fun e => (hF b e.symm).elim hf (by omega))⟩
theorem Mod.then_below (h : Mod F w w') (k : Below w'.heap.size w' w'') : Mod F w w'' := h.trans (Mod.of_below F k) (fun _ hb => .inl hb)
theorem Mod.then_grown {r : Option Nat} (h : Mod F w w') (k : w'.grownBy w'' r) (hF : ∀ g, r = some g → F g ∨ w.heap.size ≤ g) : Mod F w w'' :=
  ⟨k.os.trans h.os, k.tape.trans h.tape, k.output.trans h.output, Nat.le_trans h.size k.size, fun b hb hf => (k.block b (Nat.lt_of_lt_of_le hb h.size) (fun e => (hF b e.symm).elim hf (by omega))).trans (h.block b hb hf)⟩
theorem Mod.below {B : Nat} (h : Below B a w) (m : Mod F w w') (hB : B ≤ w.heap.size) (hF : ∀ b, F b → B ≤ b) : Below B a w' :=
  ⟨m.os.trans h.os, m.tape.trans h.tape, m.output.trans h.output, Nat.le_trans h.size m.size, fun b hb => (m.block b (by omega) (fun hf => by have := hF b hf; omega)).trans (h.block b hb)⟩
theorem Mod.below_self {B : Nat} (m : Mod F w w') (hB : B ≤ w.heap.size) (hF : ∀ b, F b → B ≤ b) : Below B w w' := m.below (Below.refl B w) hB hF
theorem Mod.drewN (h : Mod F w w') (n : Nat) : Mod F w (w'.drewN n) := ⟨h.os, h.tape, h.output, h.size, h.block⟩
theorem Mod.drew (h : Mod F w w') : Mod F w w'.drew := ⟨h.os, h.tape, h.output, h.size, h.block⟩
theorem Mod.set (h : Mod F w w') {p : Addr} (hp : F p.block ∨ w.heap.size ≤ p.block) (u : Value) : Mod F w (w'.setCell p u) :=
  ⟨h.os, h.tape, h.output, by simpa [World.setCell] using h.size, fun i hi hf => (Below.heap_setCell w' p u i (by
    rintro rfl
    exact hp.elim hf (by omega))).trans (h.block i hi hf)⟩
theorem Mod.alloc (h : Mod F w w') (o : Obj) : Mod F w (w'.alloc o) :=
  ⟨h.os, h.tape, h.output, Nat.le_trans h.size (by simp), fun i hi hf => (Below.heap_alloc w' o i (Nat.lt_of_lt_of_le hi h.size)).trans (h.block i hi hf)⟩
theorem Mod.blk {g : Nat} {t : TypeId} {cs : Array Value} (h : Mod F w w') (hB : Blk w g t cs) (hg : ¬ F g) : Blk w' g t cs := (h.block g hB.lt hg).trans hB
theorem Mod.rd {B n : Nat} {A : Option Addr} {f : Nat → Value} (h : Mod F w w') (hR : Rd w B A n f) (hB : B ≤ w.heap.size) (hne : ∀ b off, A = some ⟨b, off, none⟩ → 0 < n → ¬ F b) : Rd w' B A n f := by
  intro hn
  obtain ⟨b, off, e, hb, hc⟩ := hR hn
  exact ⟨b, off, e, hb, fun j hj => (World.cell?_of_block (w := w) (h.block b (by omega) (hne b off e hn))).trans (hc j hj)⟩
theorem Mod.own {base e size n : Nat} {v : Value} {xs : List Value} (h : Mod F w w') (ho : w.ownsRow base e size v n xs) (hne : ∀ g, v.ownBlock = some g → ¬ F g) : w'.ownsRow base e size v n xs := by
  refine ⟨ho.1, ?_⟩
  rcases ho.2 with hn | ⟨g, cap, cur, rfl, hb, hgg, rest⟩
  · exact .inl hn
  · exact .inr ⟨g, cap, cur, rfl, hb, (h.block g (Array.getElem?_eq_some_iff.1 hgg).1 (hne g rfl)).trans hgg, rest⟩

/-- The element's type of a block. -/
def Ty (w : World) (b : Nat) (t : TypeId) : Prop := ∃ cs fr, w.heap[b]? = some (.cells cs t fr)
theorem Ty.unique {b : Nat} {t t' : TypeId} (h : Ty w b t) (h' : Ty w b t') : t = t' := by
  obtain ⟨_, _, h⟩ := h
  obtain ⟨_, _, h'⟩ := h'
  rw [h] at h'
  cases h'
  rfl
theorem Ty.not_map {b : Nat} {t : TypeId} {es : Array MapEntry} {c : Nat} (h : Ty w b t) (h' : w.heap[b]? = some (.map es c)) : False := by
  obtain ⟨_, _, h⟩ := h
  rw [h] at h'
  cases h'
theorem Blk.ty {g : Nat} {t : TypeId} {cs : Array Value} (h : Blk w g t cs) : Ty w g t := ⟨_, _, h⟩
theorem Ty.of_own {base e size n g : Nat} {v : Value} {xs : List Value} (h : w.ownsRow base e size v n xs) (hg : v.ownBlock = some g) : Ty w g e := by
  rcases h.2 with ⟨rfl, _⟩ | ⟨g', cap, cur, rfl, _, hh, _⟩
  · simp [Value.ownBlock] at hg
  · simp [Value.ownBlock] at hg
    subst hg
    exact ⟨_, _, hh⟩

/-- A slice of bytes (nil let in), by its block's type. -/
def Bts (w : World) (A : Option Addr) (n c : Nat) (bs : List UInt8) : Prop :=
  bs.length = n ∧ n ≤ c ∧ c ≤ 9223372036854775807 ∧ (0 < n → ∃ b off cs fr, A = some ⟨b, off, none⟩ ∧ w.heap[b]? = some (.cells cs 5 fr) ∧ ∀ j, j < n → cs[off + j]? = some (vByte bs j))
theorem Bts.nil (w : World) : Bts w none 0 0 [] := ⟨rfl, Nat.le_refl _, by omega, fun h => absurd h (by omega)⟩
theorem Bts.rd {A : Option Addr} {n c : Nat} {bs : List UInt8} (h : Bts w A n c bs) : Rd w w.heap.size A n (vByte bs) := by
  intro hn
  obtain ⟨b, off, cs, fr, e, hh, hc⟩ := h.2.2.2 hn
  exact ⟨b, off, e, (Array.getElem?_eq_some_iff.1 hh).1, fun j hj => by simp [World.cell?, hh, hc j hj]⟩
theorem Bts.mod {A : Option Addr} {n c : Nat} {bs : List UInt8} (h : Bts w A n c bs) (m : Mod F w w') (hF : ∀ b, F b → ¬ Ty w b 5) : Bts w' A n c bs := by
  refine ⟨h.1, h.2.1, h.2.2.1, fun hn => ?_⟩
  obtain ⟨b, off, cs, fr, e, hh, hc⟩ := h.2.2.2 hn
  exact ⟨b, off, cs, fr, e, (m.block b (Array.getElem?_eq_some_iff.1 hh).1 (fun hf => hF b hf ⟨_, _, hh⟩)).trans hh, hc⟩
theorem Bts.all {A : Option Addr} {n c : Nat} {bs : List UInt8} (h : Bts w A n c bs) (hb : Below w.heap.size w w') : Bts w' A n c bs := h.mod (F := fun _ => False) (Mod.of_below _ hb) (fun _ hf => hf.elim)
theorem Bts.of_own {A : Option Addr} {base n m c : Nat} {bs : List UInt8} (h : w.ownsRow base 5 1 (.slice A m c) n (bs.map fun b => Value.int .u8 ((b.toNat : Nat) : Int))) : Bts w A n c bs ∧ m = n := by
  have hl : bs.length = n := by simpa using h.1
  have hc := own_cap h
  rcases h.2 with ⟨h2, h0⟩ | ⟨g, cap, cur, h2, _, hh, hnc, hm, hcs, htk⟩
  · injection h2 with _ h3 h4
    subst h0 h3 h4
    exact ⟨⟨hl, by omega, by omega, fun h => absurd h (by omega)⟩, rfl⟩
  · injection h2 with h2 h3 h4
    subst h2 h3 h4
    refine ⟨⟨hl, hnc, hc, fun hn => ⟨g, 0, cur, _, rfl, hh, fun j hj => ?_⟩⟩, rfl⟩
    have : (cur.toList.take (m * 1))[j]? = (bs.map fun b => Value.int .u8 ((b.toNat : Nat) : Int))[j]? := by rw [htk]
    rw [List.getElem?_take, if_pos (by omega)] at this
    simpa [vByte, show j < bs.length by omega] using this
end

/-- append of one struct onto a row of the call's own. -/
theorem run_append_row {P : Program} (w : World) (base : Nat) (t ty e : TypeId) (i : TypeInfo) (z : Value) (size bytes : Nat) (ht : P.underlying t = some (.slice e)) (hi : P.info? e = some i) (hz : i.zero = some z)
    (hsize : i.size = size) (hby : i.bytes = bytes) (hzs : z.cells.size = size) (hsz : 0 < size)
    (v : Value) (n : Nat) (xs : List Value) (hown : w.ownsRow base e size v n xs) (cs : Array Value) (hcs : cs.size = size) (h1 : ∀ u ∈ cs.toList, u.oneCell' = true)
    (h63 : n + 1 ≤ maxLen) (hbytes : (n + 1) * bytes ≤ 140737488355328) (hbase : base ≤ w.heap.size) :
    ∃ g cap w', (Builtin.append_ #[t, t] ty #[v, .slice (some ⟨w.heap.size, 0, none⟩) 1 1]).run P (w.alloc (.cells cs e)) = .ok (.slice (some ⟨g, 0, none⟩) (n + 1) cap) w' ∧ w'.ownsRow base e size (.slice (some ⟨g, 0, none⟩) (n + 1) cap) (n + 1) (xs ++ cs.toList) ∧
      w.grownBy w' v.ownBlock ∧ (some g = v.ownBlock ∨ g = w.heap.size + 1) ∧ w.heap.size < w'.heap.size := by
  obtain ⟨v', w', hrun, h2, h3, _, h5⟩ := run_append_own_at (P := P) (w.alloc (.cells cs e)) base t ty e i z size bytes ht hi hz hsize hby hzs hsz v n xs (hown.alloc _) ⟨w.heap.size, 0, none⟩ 1 1 cs.toList (by simpa using hcs)
      (fun j u hu => by
        have ea : (⟨w.heap.size, 0, none⟩ : Addr).add j = ⟨w.heap.size, j, none⟩ := by unfold Addr.add; split <;> simp_all
        rw [ea]
        have hB := Blk.cell (Blk.new w e cs) j
        rw [hB]
        simpa using hu)
      h1 h63 hbytes (by simp; omega)
  obtain ⟨g, cap, rfl⟩ := ownsRow_succ h2
  refine ⟨g, cap, w', hrun, h2, (World.grownBy_alloc w _ _).trans h3, ?_, ?_⟩
  · rcases h5 with h5 | h5
    · exact .inl (by simpa [Value.ownBlock] using h5)
    · exact .inr (by simpa [Value.ownBlock] using h5)
  · have := h3.size
    simp at this
    omega
end Go.Proofs.Ytompkpleiichaaa
