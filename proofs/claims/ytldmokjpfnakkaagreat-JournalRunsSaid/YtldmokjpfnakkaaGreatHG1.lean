/- More words for memory: make of a full row, append of a string, copies. -/
import Derived.Test.YtldmokjpfnakkaaGreatHMem
import Derived.Laws.OwnMore
import Derived.Lib.Hide
import Derived.Maps.RangeRun
import Derived.MapKept
import Derived.Carry

namespace Go.Proofs.YtldmokjpfnakkaaGreat
open Go.RowKit

/-- 'make([]T, n)'. -/
theorem make_all {P : Program} (w : World) (t e : TypeId) (i : TypeInfo) (z : Value) (bytes : Nat) (ht : P.underlying t = some (.slice e)) (hi : P.info? e = some i) (hz : i.zero = some z)
    (hsize : i.size = 1) (hby : i.bytes = bytes) (hzs : z.cells = #[z]) (kl kc : IntKind) (n : Nat) (hbytes : bytes * n ≤ 281474976710656) (h63 : n ≤ maxLen) :
    ∃ w', (Instr.makeSlice t (.int kl (n : Int)) (.int kc (n : Int))).run P w = .ok (.slice (some ⟨w.heap.size, 0, none⟩) n n) w' ∧
      w'.ownsRow w.heap.size e 1 (.slice (some ⟨w.heap.size, 0, none⟩) n n) n (List.replicate n z) ∧ Below w.heap.size w w' ∧ w.heap.size < w'.heap.size := by
  subst hby
  obtain ⟨w', hr, ho, hg⟩ := run_make_full (P := P) w w.heap.size t e i z 1 ht hi hz hsize kl kc n hbytes h63 (Nat.le_refl _)
  rw [hzs, Nat.mul_one, toList_madeCells_one] at ho
  refine ⟨w', hr, ho, (Below.refl _ _).grown hg (Nat.le_refl _) (fun k e => by cases e), ?_⟩
  rcases ho.2 with ⟨h, _⟩ | ⟨g, cap, cur, h, _, hh, _⟩
  · cases h
  · injection h with h
    injection h with h
    injection h with h
    subst h
    exact (Array.getElem?_eq_some_iff.1 hh).1

theorem own_lower {w : World} {base base' e size n : Nat} {v : Value} {xs : List Value} (h : w.ownsRow base e size v n xs) (hb : base' ≤ base) : w.ownsRow base' e size v n xs := by
  obtain ⟨hl, h2⟩ := h
  refine ⟨hl, ?_⟩
  rcases h2 with h2 | ⟨g, cap, cur, h2, hg, hh⟩
  · exact .inl h2
  · exact .inr ⟨g, cap, cur, h2, Nat.le_trans hb hg, hh⟩

end Go.Proofs.YtldmokjpfnakkaaGreat

/- A frame by a set of blocks; the type of a block; a slice of bytes known by its block's type; rows of structs: append of one. -/
namespace Go.Proofs.YtldmokjpfnakkaaGreat
open Go.RowKit

/-- Only blocks of F, and what is new, have turned. -/
structure Mod (F : Nat → Prop) (w w' : World) : Prop where
  os : w'.os = w.os
  tape : w'.tape = w.tape
  output : w'.output = w.output
  size : w.heap.size ≤ w'.heap.size
  block : ∀ k, k < w.heap.size → ¬ F k → w'.heap[k]? = w.heap[k]?
section
variable {F G : Nat → Prop} {a w w' w'' : World}
theorem Mod.refl (F : Nat → Prop) (w : World) : Mod F w w := ⟨rfl, rfl, rfl, Nat.le_refl _, fun _ _ _ => rfl⟩
theorem Mod.trans (h : Mod F w w') (k : Mod G w' w'') (hG : ∀ b, G b → F b ∨ w.heap.size ≤ b) : Mod F w w'' :=
  ⟨k.os.trans h.os, k.tape.trans h.tape, k.output.trans h.output, Nat.le_trans h.size k.size, fun b hb hF => (k.block b (Nat.lt_of_lt_of_le hb h.size) (fun hg => (hG b hg).elim hF (by omega))).trans (h.block b hb hF)⟩
theorem Mod.mono (h : Mod F w w') (hF : ∀ b, F b → G b ∨ w.heap.size ≤ b) : Mod G w w' := ⟨h.os, h.tape, h.output, h.size, fun b hb hG => h.block b hb (fun hf => (hF b hf).elim hG (by omega))⟩
theorem Mod.of_below (F : Nat → Prop) (h : Below w.heap.size w w') : Mod F w w' := ⟨h.os, h.tape, h.output, h.size, fun b hb _ => h.block b hb⟩
theorem Mod.of_grown {r : Option Nat} (h : w.grownBy w' r) (hF : ∀ g, r = some g → F g ∨ w.heap.size ≤ g) : Mod F w w' := ⟨h.os, h.tape, h.output, h.size, fun b hb hf => h.block b hb (fun e => (hF b e.symm).elim hf (by omega))⟩
theorem Mod.then_below (h : Mod F w w') (k : Below w'.heap.size w' w'') : Mod F w w'' := h.trans (Mod.of_below F k) (fun _ hb => .inl hb)
theorem Mod.then_grown {r : Option Nat} (h : Mod F w w') (k : w'.grownBy w'' r) (hF : ∀ g, r = some g → F g ∨ w.heap.size ≤ g) : Mod F w w'' :=
  ⟨k.os.trans h.os, k.tape.trans h.tape, k.output.trans h.output, Nat.le_trans h.size k.size, fun b hb hf => (k.block b (Nat.lt_of_lt_of_le hb h.size) (fun e => (hF b e.symm).elim hf (by omega))).trans (h.block b hb hf)⟩
theorem Mod.below {B : Nat} (h : Below B a w) (m : Mod F w w') (hB : B ≤ w.heap.size) (hF : ∀ b, F b → B ≤ b) : Below B a w' :=
  ⟨m.os.trans h.os, m.tape.trans h.tape, m.output.trans h.output, Nat.le_trans h.size m.size, fun b hb => (m.block b (by omega) (fun hf => by have := hF b hf; omega)).trans (h.block b hb)⟩
theorem Mod.below_self {B : Nat} (m : Mod F w w') (hB : B ≤ w.heap.size) (hF : ∀ b, F b → B ≤ b) : Below B w w' := m.below (Below.refl B w) hB hF
theorem Mod.drewN (h : Mod F w w') (n : Nat) : Mod F w (w'.drewN n) := ⟨h.os, h.tape, h.output, h.size, h.block⟩
theorem Mod.drew (h : Mod F w w') : Mod F w w'.drew := ⟨h.os, h.tape, h.output, h.size, h.block⟩
theorem Mod.set (h : Mod F w w') {p : Addr} (hp : F p.block ∨ w.heap.size ≤ p.block) (u : Value) : Mod F w (w'.setCell p u) :=
  ⟨h.os, h.tape, h.output, by simpa [World.setCell] using h.size, fun i hi hf => (Below.heap_setCell w' p u i (by
    rintro rfl
    exact hp.elim hf (by omega))).trans (h.block i hi hf)⟩
theorem Mod.alloc (h : Mod F w w') (o : Obj) : Mod F w (w'.alloc o) :=
  ⟨h.os, h.tape, h.output, Nat.le_trans h.size (by simp), fun i hi hf => (Below.heap_alloc w' o i (Nat.lt_of_lt_of_le hi h.size)).trans (h.block i hi hf)⟩
theorem Mod.blk {g : Nat} {t : TypeId} {cs : Array Value} (h : Mod F w w') (hB : Blk w g t cs) (hg : ¬ F g) : Blk w' g t cs := (h.block g hB.lt hg).trans hB
theorem Mod.rd {B n : Nat} {A : Option Addr} {f : Nat → Value} (h : Mod F w w') (hR : Rd w B A n f) (hB : B ≤ w.heap.size) (hne : ∀ b off, A = some ⟨b, off, none⟩ → 0 < n → ¬ F b) : Rd w' B A n f := by
  intro hn
  obtain ⟨b, off, e, hb, hc⟩ := hR hn
  exact ⟨b, off, e, hb, fun j hj => (World.cell?_of_block (w := w) (h.block b (by omega) (hne b off e hn))).trans (hc j hj)⟩
theorem Mod.own {base e size n : Nat} {v : Value} {xs : List Value} (h : Mod F w w') (ho : w.ownsRow base e size v n xs) (hne : ∀ g, v.ownBlock = some g → ¬ F g) : w'.ownsRow base e size v n xs := by
  refine ⟨ho.1, ?_⟩
  rcases ho.2 with hn | ⟨g, cap, cur, rfl, hb, hgg, rest⟩
  · exact .inl hn
  · exact .inr ⟨g, cap, cur, rfl, hb, (h.block g (Array.getElem?_eq_some_iff.1 hgg).1 (hne g rfl)).trans hgg, rest⟩

/-- The element's type of a block. -/
def Ty (w : World) (b : Nat) (t : TypeId) : Prop := ∃ cs fr, w.heap[b]? = some (.cells cs t fr)
theorem Ty.unique {b : Nat} {t t' : TypeId} (h : Ty w b t) (h' : Ty w b t') : t = t' := by
  obtain ⟨_, _, h⟩ := h
  obtain ⟨_, _, h'⟩ := h'
  rw [h] at h'
  cases h'
  rfl
theorem Ty.not_map {b : Nat} {t : TypeId} {es : Array MapEntry} {c : Nat} (h : Ty w b t) (h' : w.heap[b]? = some (.map es c)) : False := by
  obtain ⟨_, _, h⟩ := h
  rw [h] at h'
  cases h'
theorem Blk.ty {g : Nat} {t : TypeId} {cs : Array Value} (h : Blk w g t cs) : Ty w g t := ⟨_, _, h⟩
theorem Ty.of_own {base e size n g : Nat} {v : Value} {xs : List Value} (h : w.ownsRow base e size v n xs) (hg : v.ownBlock = some g) : Ty w g e := by
  rcases h.2 with ⟨rfl, _⟩ | ⟨g', cap, cur, rfl, _, hh, _⟩
  · simp [Value.ownBlock] at hg
  · simp [Value.ownBlock] at hg
    subst hg
    exact ⟨_, _, hh⟩

/-- A slice of bytes (nil let in), by its block's type. -/
def Bts (w : World) (A : Option Addr) (n c : Nat) (bs : List UInt8) : Prop :=
  bs.length = n ∧ n ≤ c ∧ c ≤ 9223372036854775807 ∧ (0 < n → ∃ b off cs fr, A = some ⟨b, off, none⟩ ∧ w.heap[b]? = some (.cells cs 5 fr) ∧ ∀ j, j < n → cs[off + j]? = some (vByte bs j))
theorem Bts.nil (w : World) : Bts w none 0 0 [] := ⟨rfl, Nat.le_refl _, by omega, fun h => absurd h (by omega)⟩
theorem Bts.rd {A : Option Addr} {n c : Nat} {bs : List UInt8} (h : Bts w A n c bs) : Rd w w.heap.size A n (vByte bs) := by
  intro hn
  obtain ⟨b, off, cs, fr, e, hh, hc⟩ := h.2.2.2 hn
  exact ⟨b, off, e, (Array.getElem?_eq_some_iff.1 hh).1, fun j hj => by simp [World.cell?, hh, hc j hj]⟩
theorem Bts.mod {A : Option Addr} {n c : Nat} {bs : List UInt8} (h : Bts w A n c bs) (m : Mod F w w') (hF : ∀ b, F b → ¬ Ty w b 5) : Bts w' A n c bs := by
  refine ⟨h.1, h.2.1, h.2.2.1, fun hn => ?_⟩
  obtain ⟨b, off, cs, fr, e, hh, hc⟩ := h.2.2.2 hn
  exact ⟨b, off, cs, fr, e, (m.block b (Array.getElem?_eq_some_iff.1 hh).1 (fun hf => hF b hf ⟨_, _, hh⟩)).trans hh, hc⟩
theorem Bts.all {A : Option Addr} {n c : Nat} {bs : List UInt8} (h : Bts w A n c bs) (hb : Below w.heap.size w w') : Bts w' A n c bs := h.mod (F := fun _ => False) (Mod.of_below _ hb) (fun _ hf => hf.elim)
theorem Bts.of_own {A : Option Addr} {base n m c : Nat} {bs : List UInt8} (h : w.ownsRow base 5 1 (.slice A m c) n (bs.map fun b => Value.int .u8 ((b.toNat : Nat) : Int))) : Bts w A n c bs ∧ m = n := by
  have hl : bs.length = n := by simpa using h.1
  have hc := own_cap h
  rcases h.2 with ⟨h2, h0⟩ | ⟨g, cap, cur, h2, _, hh, hnc, hm, hcs, htk⟩
  · injection h2 with _ h3 h4
    subst h0 h3 h4
    exact ⟨⟨hl, by omega, by omega, fun h => absurd h (by omega)⟩, rfl⟩
  · injection h2 with h2 h3 h4
    subst h2 h3 h4
    refine ⟨⟨hl, hnc, hc, fun hn => ⟨g, 0, cur, _, rfl, hh, fun j hj => ?_⟩⟩, rfl⟩
    have : (cur.toList.take (m * 1))[j]? = (bs.map fun b => Value.int .u8 ((b.toNat : Nat) : Int))[j]? := by rw [htk]
    rw [List.getElem?_take, if_pos (by omega)] at this
    simpa [vByte, show j < bs.length by omega] using this
end

/-- append of one struct onto a row of the call's own. -/
theorem run_append_row {P : Program} (w : World) (base : Nat) (t ty e : TypeId) (i : TypeInfo) (z : Value) (size bytes : Nat) (ht : P.underlying t = some (.slice e)) (hi : P.info? e = some i) (hz : i.zero = some z)
    (hsize : i.size = size) (hby : i.bytes = bytes) (hzs : z.cells.size = size) (hsz : 0 < size)
    (v : Value) (n : Nat) (xs : List Value) (hown : w.ownsRow base e size v n xs) (cs : Array Value) (hcs : cs.size = size) (h1 : ∀ u ∈ cs.toList, u.oneCell' = true)
    (h63 : n + 1 ≤ maxLen) (hbytes : (n + 1) * bytes ≤ 140737488355328) (hbase : base ≤ w.heap.size) :
    ∃ g cap w', (Builtin.append_ #[t, t] ty #[v, .slice (some ⟨w.heap.size, 0, none⟩) 1 1]).run P (w.alloc (.cells cs e)) = .ok (.slice (some ⟨g, 0, none⟩) (n + 1) cap) w' ∧ w'.ownsRow base e size (.slice (some ⟨g, 0, none⟩) (n + 1) cap) (n + 1) (xs ++ cs.toList) ∧
      w.grownBy w' v.ownBlock ∧ (some g = v.ownBlock ∨ g = w.heap.size + 1) ∧ w.heap.size < w'.heap.size := by
  obtain ⟨v', w', hrun, h2, h3, _, h5⟩ := run_append_own_at (P := P) (w.alloc (.cells cs e)) base t ty e i z size bytes ht hi hz hsize hby hzs hsz v n xs (hown.alloc _) ⟨w.heap.size, 0, none⟩ 1 1 cs.toList (by simpa using hcs)
      (fun j u hu => by
        have ea : (⟨w.heap.size, 0, none⟩ : Addr).add j = ⟨w.heap.size, j, none⟩ := by unfold Addr.add; split <;> simp_all
        rw [ea]
        have hB := Blk.cell (Blk.new w e cs) j
        rw [hB]
        simpa using hu)
      h1 h63 hbytes (by simp; omega)
  obtain ⟨g, cap, rfl⟩ := ownsRow_succ h2
  refine ⟨g, cap, w', hrun, h2, (World.grownBy_alloc w _ _).trans h3, ?_, ?_⟩
  · rcases h5 with h5 | h5
    · exact .inl (by simpa [Value.ownBlock] using h5)
    · exact .inr (by simpa [Value.ownBlock] using h5)
  · have := h3.size
    simp at this
    omega
end Go.Proofs.YtldmokjpfnakkaaGreat

/- Maps from ints, known by their entries: lookup, store, make. -/
namespace Go.Proofs.YtldmokjpfnakkaaGreat
open Go.RowKit

/-- Block b is a map; its entries are es, in the order in which they came. -/
def IMap (w : World) (b : Nat) (es : List (Int × Value)) : Prop :=
  ∃ (l : List MapEntry) (clock : Nat), w.heap[b]? = some (.map l.toArray clock) ∧ l.map (fun e => (e.key, e.val)) = es.map (fun p => (Value.int .i64 p.1, p.2)) ∧ (es.map Prod.fst).Nodup ∧ (l.map (·.born)).Nodup ∧ ∀ e ∈ l, e.born < clock
def put : List (Int × Value) → Int → Value → List (Int × Value)
  | [], k, v => [(k, v)]
  | p :: es, k, v => if p.1 = k then (k, v) :: es else p :: put es k v
theorem IMap.block {w : World} {b : Nat} {es : List (Int × Value)} (h : IMap w b es) : ∃ l c, w.heap[b]? = some (.map l c) := by
  obtain ⟨l, c, h, _⟩ := h
  exact ⟨_, _, h⟩
theorem IMap.lt {w : World} {b : Nat} {es : List (Int × Value)} (h : IMap w b es) : b < w.heap.size := by
  obtain ⟨l, c, h⟩ := h.block
  exact (Array.getElem?_eq_some_iff.1 h).1
theorem IMap.not_ty {w : World} {b : Nat} {es : List (Int × Value)} {t : TypeId} (h : IMap w b es) : ¬ Ty w b t := by
  obtain ⟨l, c, h⟩ := h.block
  exact fun k => k.not_map h
theorem IMap.keep {w w' : World} {b : Nat} {es : List (Int × Value)} (h : IMap w b es) (hb : w'.heap[b]? = w.heap[b]?) : IMap w' b es := by
  obtain ⟨l, c, h, r⟩ := h
  exact ⟨l, c, hb.trans h, r⟩
theorem IMap.mod {F : Nat → Prop} {w w' : World} {b : Nat} {es : List (Int × Value)} (h : IMap w b es) (m : Mod F w w') (hF : ¬ F b) : IMap w' b es := h.keep (m.block b h.lt hF)
theorem IMap.all {w w' : World} {b : Nat} {es : List (Int × Value)} (h : IMap w b es) (m : Below w.heap.size w w') : IMap w' b es := h.keep (m.block b h.lt)
theorem IMap.new (w : World) : IMap (w.alloc (.map #[] 0)) w.heap.size [] := ⟨[], 0, by rw [World.alloc_heap_new], rfl, by simp, by simp, by simp⟩

theorem put_keys (es : List (Int × Value)) (k : Int) (v : Value) : (put es k v).map Prod.fst = if k ∈ es.map Prod.fst then es.map Prod.fst else es.map Prod.fst ++ [k] := by
  induction es with
  | nil => simp [put]
  | cons p es ih =>
    unfold put
    by_cases h : p.1 = k
    · simp [h]
    · rw [if_neg h]
      simp only [List.map_cons, ih, List.mem_cons]
      have h' : ¬ k = p.1 := fun e => h e.symm
      by_cases hm : k ∈ es.map Prod.fst
      · rw [if_pos hm, if_pos (.inr hm)]
      · rw [if_neg hm, if_neg (by rintro (e | e); exact h' e; exact hm e)]
        rfl
theorem put_nodup {es : List (Int × Value)} (h : (es.map Prod.fst).Nodup) (k : Int) (v : Value) : ((put es k v).map Prod.fst).Nodup := by
  rw [put_keys]
  split
  · exact h
  · rename_i hk
    rw [List.nodup_append]
    refine ⟨h, by simp, fun a ha b hb => ?_⟩
    rw [List.mem_singleton] at hb
    subst hb
    rintro rfl
    exact hk ha
theorem lookup_put (es : List (Int × Value)) (k j : Int) (v : Value) : (put es k v).lookup j = if j = k then some v else es.lookup j := by
  induction es with
  | nil =>
    by_cases h : j = k
    · simp [put, h]
    · simp [put, List.lookup, h, beq_false_of_ne h]
  | cons p es ih =>
    unfold put
    by_cases h : p.1 = k
    · rw [if_pos h]
      by_cases hj : j = k
      · simp [List.lookup, hj]
      · simp [List.lookup, hj, h, beq_false_of_ne hj]
    · rw [if_neg h]
      by_cases hj : j = p.1
      · simp [List.lookup, hj, h]
      · simp [List.lookup, beq_false_of_ne hj, ih]

theorem imap_find (l : List MapEntry) : ∀ (es : List (Int × Value)) (_ : l.map (fun e => (e.key, e.val)) = es.map (fun p => (Value.int .i64 p.1, p.2))) (k : Int) (i : Nat),
    (es.lookup k = none ∧ Instr.findNow (.int .i64) (.int .i64 k) l i = some none) ∨
    ∃ j v, es.lookup k = some v ∧ (∀ u, put es k u = es.set j (k, u)) ∧ j < es.length ∧ es[j]? = some (k, v) ∧ Instr.findNow (.int .i64) (.int .i64 k) l i = some (some (i + j, v)) := by
  induction l with
  | nil =>
    intro es h k i
    have : es = [] := by simpa using h.symm
    subst this
    exact .inl ⟨rfl, rfl⟩
  | cons e l ih =>
    intro es h k i
    rcases es with _ | ⟨p, es⟩
    · simp at h
    · simp only [List.map_cons, List.cons.injEq, Prod.mk.injEq] at h
      obtain ⟨⟨hk, hv⟩, hr⟩ := h
      have hs : Instr.sameNow (.int .i64) (.int .i64 k) e.key = some (k == p.1) := by rw [hk]; simp [Instr.sameNow]
      by_cases hkp : k = p.1
      · right
        have hs' : Instr.sameNow (.int .i64) (.int .i64 k) e.key = some true := by rw [hs, hkp]; simp
        refine ⟨0, p.2, by simp [List.lookup, hkp], fun u => by simp [put, hkp], by simp, by rw [hkp]; rfl, ?_⟩
        unfold Instr.findNow
        rw [hs']
        simp [hv]
      · have hs' : Instr.sameNow (.int .i64) (.int .i64 k) e.key = some false := by rw [hs]; simp [hkp]
        have hl : (p :: es).lookup k = es.lookup k := by simp [List.lookup, beq_false_of_ne hkp]
        have hf : Instr.findNow (.int .i64) (.int .i64 k) (e :: l) i = Instr.findNow (.int .i64) (.int .i64 k) l (i + 1) := by
          conv => lhs; unfold Instr.findNow
          rw [hs']
        rw [hl, hf]
        rcases ih es hr k (i + 1) with ⟨h1, h2⟩ | ⟨j, v, h1, h0, h2, h3, h4⟩
        · exact .inl ⟨h1, h2⟩
        · refine .inr ⟨j + 1, v, h1, fun u => ?_, by simp; omega, by simpa using h3, by rw [h4]; congr 2; simp; omega⟩
          unfold put
          rw [if_neg (fun e => hkp e.symm), h0 u]
          rfl

section
variable {P : Program} {w : World} {b : Nat} {es : List (Int × Value)} {t kt e : TypeId}
theorem run_findKey (hk : P.underlying kt = some (.int .i64)) (l : List MapEntry) (k : Int) (r : Option (Nat × Value)) (hf : Instr.findNow (.int .i64) (.int .i64 k) l 0 = some r) (w : World) : (Instr.findKey kt (.int .i64 k) l).run P w = .ok r w := by
  simp [Instr.findKey, run_underlying hk, hf]
theorem run_checkKey (hk : P.underlying kt = some (.int .i64)) (em : Bool) (k : Int) (w : World) : (Instr.checkKey em 10000 kt (.int .i64 k)).run P w = .ok () w := by
  have h : ∀ n : Nat, (Instr.checkKey em (n + 1) kt (.int .i64 k)).run P w = .ok () w := fun n => by simp [Instr.checkKey, run_underlying hk]
  exact h 9999
theorem IMap.look (h : IMap w b es) (ht : P.underlying t = some (.map kt e)) (hk : P.underlying kt = some (.int .i64)) {i : TypeInfo} {z : Value} (hi : P.info? e = some i) (hz : i.zero = some z) (k : Int) :
    (Instr.lookup t (.map (some b)) (.int .i64 k) false).run P w = .ok ((es.lookup k).getD z) w := by
  obtain ⟨l, c, hb, hl, _⟩ := h
  rcases imap_find l es hl k 0 with ⟨h1, h2⟩ | ⟨j, v, h1, _, h2, h3, h4⟩
  · simp [Instr.lookup, run_underlying ht, MapKept.run_getObj_map hb, run_checkKey hk, run_findKey hk l k _ h2, h1, zeroValue, typeInfo, hi, hz, Result.andThen]
  · simp [Instr.lookup, run_underlying ht, MapKept.run_getObj_map hb, run_checkKey hk, run_findKey hk l k _ h4, h1, Result.andThen]
theorem IMap.look2 (h : IMap w b es) (ht : P.underlying t = some (.map kt e)) (hk : P.underlying kt = some (.int .i64)) {i : TypeInfo} {z : Value} (hi : P.info? e = some i) (hz : i.zero = some z) (k : Int) :
    (Instr.lookup t (.map (some b)) (.int .i64 k) true).run P w = .ok (.tuple #[(es.lookup k).getD z, .bool (es.lookup k).isSome]) w := by
  obtain ⟨l, c, hb, hl, _⟩ := h
  rcases imap_find l es hl k 0 with ⟨h1, h2⟩ | ⟨j, v, h1, _, h2, h3, h4⟩
  · simp [Instr.lookup, run_underlying ht, MapKept.run_getObj_map hb, run_checkKey hk, run_findKey hk l k _ h2, h1, zeroValue, typeInfo, hi, hz, Result.andThen]
  · simp [Instr.lookup, run_underlying ht, MapKept.run_getObj_map hb, run_checkKey hk, run_findKey hk l k _ h4, h1, Result.andThen]
theorem heap_set_same {w : World} {b : Nat} {o : Obj} (h : b < w.heap.size) : ({ w with heap := w.heap.setIfInBounds b o } : World).heap[b]? = some o := by simp [h]
theorem grown_setObj (w : World) (b : Nat) (o : Obj) : w.grownBy { w with heap := w.heap.setIfInBounds b o } (some b) :=
  ⟨rfl, rfl, rfl, by simp, fun k _ hne => by
    have : b ≠ k := fun e => hne (by rw [e])
    simp [this]⟩
theorem IMap.store (h : IMap w b es) (ht : P.underlying t = some (.map kt e)) (hk : P.underlying kt = some (.int .i64)) (k : Int) (v : Value) :
    ∃ w', (Instr.mapUpdate t (.map (some b)) (.int .i64 k) v).run P w = .ok () w' ∧ IMap w' b (put es k v) ∧ w.grownBy w' (some b) ∧ w'.heap.size = w.heap.size := by
  obtain ⟨l, c, hb, hl, hn, hbn, hbc⟩ := h
  have hlt := (Array.getElem?_eq_some_iff.1 hb).1
  have hlen : l.length = es.length := by have := congrArg List.length hl; simpa using this
  rcases imap_find l es hl k 0 with ⟨h1, h2⟩ | ⟨j, v0, h1, h0, h2, h3, h4⟩
  · refine ⟨_, ?_, ⟨l ++ [⟨.int .i64 k, v, c⟩], c + 1, heap_set_same hlt, ?_, put_nodup hn k v, ?_, ?_⟩, grown_setObj w b _, by simp⟩
    · simp [Instr.mapUpdate, run_underlying ht, MapKept.run_getObj_map hb, run_checkKey hk, run_findKey hk l k _ h2, MapKept.run_setObj_map _ hb, Result.andThen]
    · have hp : put es k v = es ++ [(k, v)] := by
        have hno : ∀ p ∈ es, p.1 ≠ k := by
          intro p hp e
          have := List.lookup_eq_none_iff.1 h1 p hp
          simp [e] at this
        clear h1 h2 hl hn hlen
        induction es with
        | nil => rfl
        | cons p es ih =>
          unfold put
          rw [if_neg (hno p (by simp)), ih (fun q hq => hno q (by simp [hq]))]
          rfl
      rw [hp]
      simp [hl]
    · rw [List.map_append, List.nodup_append]
      refine ⟨hbn, by simp, fun a ha b hb => ?_⟩
      rw [List.map_singleton, List.mem_singleton] at hb
      obtain ⟨x, hx, rfl⟩ := List.mem_map.1 ha
      have := hbc x hx
      rw [hb]
      show x.born ≠ c
      omega
    · intro x hx
      rw [List.mem_append, List.mem_singleton] at hx
      rcases hx with hx | rfl
      · have := hbc x hx; omega
      · simp
  · have hj : j < l.length := by omega
    have hjk : l[j].key = .int .i64 k := by
      have := congrArg (fun q => q[j]?) hl
      simp [hj, h3] at this
      exact this.1
    refine ⟨_, ?_, ⟨l.set j { l[j] with key := .int .i64 k, val := v }, c, heap_set_same hlt, ?_, put_nodup hn k v, ?_, ?_⟩, grown_setObj w b _, by simp⟩
    · have hm : l.modify j (fun e => { e with key := .int .i64 k, val := v }) = l.set j { l[j] with key := .int .i64 k, val := v } := by
        apply List.ext_getElem?
        intro i
        rw [List.getElem?_modify, List.getElem?_set]
        split
        · rename_i hi
          subst hi
          simp [hj]
        · simp
      simp [Instr.mapUpdate, run_underlying ht, MapKept.run_getObj_map hb, run_checkKey hk, run_findKey hk l k _ h4, Instr.keyThatStays, hj, hjk, Instr.sameBits, MapKept.run_setObj_map _ hb, Result.andThen, hm]
    · rw [h0 v, List.map_set, List.map_set, hl]
    · rw [List.map_set]
      have : (l.map (·.born)).set j l[j].born = l.map (·.born) := by
        apply List.ext_getElem?
        intro i
        rw [List.getElem?_set]
        split
        · rename_i hi
          subst hi
          simp [hj]
        · rfl
      rw [this]
      exact hbn
    · intro x hx
      rcases List.mem_or_eq_of_mem_set hx with hx | rfl
      · exact hbc x hx
      · exact hbc l[j] (List.getElem_mem hj)
end
end Go.Proofs.YtldmokjpfnakkaaGreat
