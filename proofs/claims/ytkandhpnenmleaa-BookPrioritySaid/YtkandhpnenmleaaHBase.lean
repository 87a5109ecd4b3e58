/- Words for memory: a slice that reads as a list (nil let in); blocks that are kept. -/
import Derived.WalkKit
import Derived.WalkSpells
import Derived.Deep.Draws
import Derived.Lib.ConvBytes
import Derived.Maps.AppendAt
import Derived.RangeFuncBox
import Derived.OwnWalkIn
import Derived.Laws.OwnMore
import Derived.Lib.Hide
import Derived.Maps.RangeRun
import Derived.MapKept
import Derived.Carry
import Derived.Deep.RegionLaw
import Derived.Test.YtkandhpnenmleaaProg
import Derived.WalkLawsBesides
import Derived.Deep.QuietTactic
import Derived.BigQuiet
import Derived.Deep.RegionHeld3

namespace Go.Proofs.Ytkandhpnenmleaa
open Go.RowKit

/-- The slice value '.slice A n c' holds the values 'f 0, .., f (n - 1)' in a block below B. -/
def Rd (w : World) (B : Nat) (A : Option Addr) (n : Nat) (f : Nat → Value) : Prop :=
  0 < n → ∃ b off, A = some ⟨b, off, none⟩ ∧ b < B ∧ ∀ j, j < n → w.cell? ⟨b, off + j, none⟩ = some (f j)

theorem Rd.keep {w w' : World} {B n : Nat} {A : Option Addr} {f : Nat → Value} (h : Rd w B A n f) (hk : ∀ b, b < B → w'.heap[b]? = w.heap[b]?) : Rd w' B A n f := by
  intro hn
  obtain ⟨b, off, e, hb, hc⟩ := h hn
  exact ⟨b, off, e, hb, fun j hj => (World.cell?_of_block (w := w) (hk b hb)).trans (hc j hj)⟩
theorem Rd.below {w w' : World} {B B' n : Nat} {A : Option Addr} {f : Nat → Value} (h : Rd w B A n f) (hb : Below B' w w') (hB : B ≤ B') : Rd w' B A n f := h.keep fun b hlt => hb.block b (by omega)
theorem Rd.more {w : World} {B B' n : Nat} {A : Option Addr} {f : Nat → Value} (h : Rd w B A n f) (hB : B ≤ B') : Rd w B' A n f := by
  intro hn
  obtain ⟨b, off, e, hb, hc⟩ := h hn
  exact ⟨b, off, e, by omega, hc⟩
theorem Rd.alloc {w : World} {B n : Nat} {A : Option Addr} {f : Nat → Value} (h : Rd w B A n f) (hB : B ≤ w.heap.size) (o : Obj) : Rd (w.alloc o) B A n f := h.keep fun b hb => Below.heap_alloc w o b (by omega)
theorem Rd.all {w w' : World} {n : Nat} {A : Option Addr} {f : Nat → Value} (h : Rd w w.heap.size A n f) (hb : Below w.heap.size w w') : Rd w' w'.heap.size A n f := by
  intro hn
  obtain ⟨b, off, e, hlt, hc⟩ := h hn
  exact ⟨b, off, e, Nat.lt_of_lt_of_le hlt hb.size, fun j hj => (World.cell?_of_block (w := w) (hb.block b hlt)).trans (hc j hj)⟩
theorem Rd.none_ {w : World} {B n : Nat} {A : Option Addr} {f : Nat → Value} (h : Rd w B A n f) : A = none → n = 0 := by
  intro e
  rcases Nat.eq_zero_or_pos n with h0 | h0
  · exact h0
  · obtain ⟨b, off, h', _⟩ := h h0
    rw [e] at h'; cases h'
theorem own_cap {w : World} {base e size n m c : Nat} {A : Option Addr} {xs : List Value} (h : w.ownsRow base e size (.slice A m c) n xs) : c ≤ 9223372036854775807 := by
  rcases h.2 with ⟨h, _⟩ | ⟨g, cap, cur, h, _, _, _, hm, _⟩
  · injection h with _ _ h; omega
  · injection h with _ _ h; subst h; simpa [maxLen] using hm
theorem Rd.congr {w : World} {B n : Nat} {A : Option Addr} {f g : Nat → Value} (h : Rd w B A n f) (hfg : ∀ j, j < n → f j = g j) : Rd w B A n g := by
  intro hn
  obtain ⟨b, off, e, hb, hc⟩ := h hn
  exact ⟨b, off, e, hb, fun j hj => (hc j hj).trans (congrArg some (hfg j hj))⟩
theorem Rd.nil {w : World} {B : Nat} {A : Option Addr} {f : Nat → Value} : Rd w B A 0 f := fun h => absurd h (by omega)
theorem Rd.less {w : World} {B n m : Nat} {A : Option Addr} {f : Nat → Value} (h : Rd w B A n f) (hm : m ≤ n) : Rd w B A m f := by
  intro hn
  obtain ⟨b, off, e, hb, hc⟩ := h (by omega)
  exact ⟨b, off, e, hb, fun j hj => hc j (by omega)⟩
theorem own_slice {w : World} {base e n : Nat} {v : Value} {xs : List Value} (h : w.ownsRow base e 1 v n xs) : ∃ A c, v = .slice A n c := by
  rcases h.2 with ⟨rfl, rfl⟩ | ⟨g, cap, _, rfl, _⟩
  · exact ⟨_, _, rfl⟩
  · exact ⟨_, _, rfl⟩
theorem Rd.at_ {w : World} {B n k : Nat} {A : Option Addr} {f : Nat → Value} (h : Rd w B A n f) (hk : k < n) : ∃ b off, A = some ⟨b, off, none⟩ ∧ b < B ∧ w.cell? ⟨b, off + k, none⟩ = some (f k) := by
  obtain ⟨b, off, e, hb, hc⟩ := h (by omega)
  exact ⟨b, off, e, hb, hc k hk⟩

/-- What a slice owns it reads as. -/
theorem Rd.of_own {w : World} {base e n m c : Nat} {A : Option Addr} {xs : List Value} {f : Nat → Value} (h : w.ownsRow base e 1 (.slice A m c) n xs) (hf : ∀ j, j < n → xs[j]? = some (f j)) : m = n ∧ n ≤ c ∧ Rd w w.heap.size A m f := by
  obtain ⟨hl, h2⟩ := h
  rcases h2 with ⟨h2, h0⟩ | ⟨g, cap, cur, h2, hg, hh, hnc, hm, hcs, htk⟩
  · injection h2 with h2 h3 h4
    subst h0 h3
    exact ⟨rfl, by omega, Rd.nil⟩
  · injection h2 with h2 h3 h4
    subst h2 h3 h4
    refine ⟨rfl, hnc, fun hn => ⟨g, 0, rfl, (Array.getElem?_eq_some_iff.1 hh).1, fun j hj => ?_⟩⟩
    have := hf j hj
    rw [← htk, List.getElem?_take, if_pos (by omega)] at this
    simpa [World.cell?, hh] using this

/-- append onto a row of the call's own, the source nil, empty or not (one cell each). -/
theorem run_append_rd {P : Program} (w : World) (base : Nat) (t ty e : TypeId) (i : TypeInfo) (z : Value) (bytes : Nat) (ht : P.underlying t = some (.slice e)) (hi : P.info? e = some i) (hz : i.zero = some z)
    (hsize : i.size = 1) (hby : i.bytes = bytes) (hzs : z.cells.size = 1)
    (v : Value) (n : Nat) (xs : List Value) (hown : w.ownsRow base e 1 v n xs) (B : Nat) (A : Option Addr) (m c : Nat) (f : Nat → Value) (hr : Rd w B A m f) (hA : A = none → m = 0) (h1 : ∀ j, j < m → (f j).oneCell' = true)
    (h63 : n + m ≤ maxLen) (hbytes : (n + m) * bytes ≤ 140737488355328) (hbase : base ≤ w.heap.size) :
    ∃ v' w', (Builtin.append_ #[t, t] ty #[v, .slice A m c]).run P w = .ok v' w' ∧ w'.ownsRow base e 1 v' (n + m) (xs ++ (List.range m).map f) ∧ w.grownBy w' v.ownBlock ∧
      (v'.ownBlock = v.ownBlock ∨ v'.ownBlock = some w.heap.size) := by
  rcases A with _ | ad
  · have hm := hA rfl
    subst hm
    refine ⟨v, w, ?_, by simpa using hown, World.grownBy.refl w _, .inl rfl⟩
    rcases hown.2 with ⟨rfl, rfl⟩ | ⟨g, cap, cur, rfl, _, _, hnc, _⟩
    · simp [Builtin.append_, run_underlying ht, sizeOf, typeInfo, hi, Builtin.lenOf, Builtin.firstCells]
    · simp [Builtin.append_, run_underlying ht, sizeOf, typeInfo, hi, Builtin.lenOf, Builtin.firstCells, hnc, storeCells]
  · have hcells : ∀ j u, ((List.range m).map f)[j]? = some u → w.cell? (ad.add j) = some u := by
      intro j u hu
      have hj : j < m := by
        have := (List.getElem?_eq_some_iff.1 hu).1
        simpa using this
      obtain ⟨b, off, h, _, hc⟩ := hr (by omega)
      injection h with h
      subst h
      have e : (⟨b, off, none⟩ : Addr).add j = ⟨b, off + j, none⟩ := by unfold Addr.add; split <;> simp_all
      rw [e, hc j hj]
      simpa [hj] using hu
    obtain ⟨v', w', hrun, h2, h3, _, h5⟩ := run_append_own_at (P := P) w base t ty e i z 1 bytes ht hi hz hsize hby hzs (by decide) v n xs hown ad m c ((List.range m).map f) (by simp) hcells
      (by intro u hu; obtain ⟨j, hj, rfl⟩ := List.mem_map.1 hu; exact h1 j (by simpa using hj)) h63 hbytes hbase
    exact ⟨v', w', hrun, h2, h3, h5⟩

/-- append of one element: the walk lays it into a block of its own first. -/
theorem run_append_one {P : Program} (w : World) (base : Nat) (t ty e : TypeId) (i : TypeInfo) (z : Value) (bytes : Nat) (ht : P.underlying t = some (.slice e)) (hi : P.info? e = some i) (hz : i.zero = some z)
    (hsize : i.size = 1) (hby : i.bytes = bytes) (hzs : z.cells.size = 1)
    (v : Value) (n : Nat) (xs : List Value) (hown : w.ownsRow base e 1 v n xs) (x : Value) (h1 : x.oneCell' = true)
    (h63 : n + 1 ≤ maxLen) (hbytes : (n + 1) * bytes ≤ 140737488355328) (hbase : base ≤ w.heap.size) :
    ∃ g cap w', (Builtin.append_ #[t, t] ty #[v, .slice (some ⟨w.heap.size, 0, none⟩) 1 1]).run P (w.alloc (.cells #[x] e)) = .ok (.slice (some ⟨g, 0, none⟩) (n + 1) cap) w' ∧ w'.ownsRow base e 1 (.slice (some ⟨g, 0, none⟩) (n + 1) cap) (n + 1) (xs ++ [x]) ∧
      w.grownBy w' v.ownBlock ∧ (some g = v.ownBlock ∨ g = w.heap.size + 1) ∧ w.heap.size < w'.heap.size := by
  obtain ⟨v', w', hrun, h2, h3, _, h5⟩ := run_append_own_at (P := P) (w.alloc (.cells #[x] e)) base t ty e i z 1 bytes ht hi hz hsize hby hzs (by decide) v n xs (hown.alloc _) ⟨w.heap.size, 0, none⟩ 1 1 [x] rfl (cell_one_new w x e)
      (by intro u hu; rw [List.mem_singleton] at hu; subst hu; exact h1) h63 hbytes (by simp; omega)
  obtain ⟨g, cap, rfl⟩ := ownsRow_succ h2
  refine ⟨g, cap, w', hrun, h2, (World.grownBy_alloc w _ _).trans h3, ?_, ?_⟩
  · rcases h5 with h5 | h5
    · exact .inl (by simpa [Value.ownBlock] using h5)
    · exact .inr (by simpa [Value.ownBlock] using h5)
  · have := h3.size
    simp at this
    omega

/-- 'make([]T, 0, c)'. -/
theorem make_rd {P : Program} (w : World) (t e : TypeId) (i : TypeInfo) (z : Value) (bytes : Nat) (ht : P.underlying t = some (.slice e)) (hi : P.info? e = some i) (hz : i.zero = some z)
    (hsize : i.size = 1) (hby : i.bytes = bytes) (kl kc : IntKind) (c : Nat) (hbytes : bytes * c ≤ 281474976710656) (h63 : c ≤ maxLen) :
    ∃ w', (Instr.makeSlice t (.int kl 0) (.int kc (c : Int))).run P w = .ok (.slice (some ⟨w.heap.size, 0, none⟩) 0 c) w' ∧
      w'.ownsRow w.heap.size e 1 (.slice (some ⟨w.heap.size, 0, none⟩) 0 c) 0 [] ∧ Below w.heap.size w w' ∧ w'.heap.size = w.heap.size + 1 := by
  have h63' : (c : Int) ≤ 9223372036854775807 := by
    have h := h63
    simp [maxLen] at h
    omega
  subst hby
  have hb' : (i.bytes : Int) * (c : Int) ≤ 281474976710656 := by
    have h : ((i.bytes * c : Nat) : Int) ≤ 281474976710656 := by omega
    rwa [Int.natCast_mul] at h
  have hr := run_make (P := P) w t e i z ht hi hz kl kc 0 c (Int.le_refl _) (by omega) hb' h63'
  simp only [Int.toNat_zero, Int.toNat_natCast] at hr
  exact ⟨_, hr, World.ownsRow_made w _ c (Nat.le_refl _) h63 (by rw [size_madeCells, hsize]), (Below.refl _ _).alloc (Nat.le_refl _) _, by simp⟩

/-- What a slice owns it owns in a later world. -/
theorem own_keep {w w' : World} {base e size n : Nat} {v : Value} {xs : List Value} (h : w.ownsRow base e size v n xs) (hb : Below w.heap.size w w') : w'.ownsRow base e size v n xs :=
  h.kept (row := none) ⟨hb.os, hb.tape, hb.output, hb.size, fun k hk _ => hb.block k hk⟩ (by
    rcases h.2 with ⟨rfl, _⟩ | ⟨g, cap, cur, rfl, _⟩
    · exact .inl rfl
    · exact .inr (by simp [Value.ownBlock]))
theorem own_some {w : World} {base e size n m c : Nat} {A : Option Addr} {xs : List Value} (h : w.ownsRow base e size (.slice A m c) n xs) (hn : 0 < n) : ∃ g, A = some ⟨g, 0, none⟩ ∧ base ≤ g ∧ g < w.heap.size := by
  rcases h.2 with ⟨_, h0⟩ | ⟨g, cap, cur, h, hg, hh, _⟩
  · omega
  · injection h with h
    exact ⟨g, h, hg, (Array.getElem?_eq_some_iff.1 hh).1⟩
/-- An owned row of bytes: a cell, a store. -/
theorem own_byte {w : World} {base e n c g : Nat} {bs : List UInt8} (h : w.ownsRow base e 1 (.slice (some ⟨g, 0, none⟩) n c) n (bs.map fun b => Value.int .u8 ((b.toNat : Nat) : Int))) {j : Nat} (hj : j < n) :
    w.cell? ⟨g, j, none⟩ = some (.int .u8 (((bs[j]?.getD 0).toNat : Nat) : Int)) ∧ w.frozen? ⟨g, j, none⟩ = false := by
  refine ⟨?_, h.frozenAt j⟩
  have hl : bs.length = n := by have := h.1; simpa using this
  rw [h.cellAt j (by omega)]
  simp [show j < bs.length by omega]
theorem own_byte_set {w : World} {base e n c g : Nat} {bs : List UInt8} (h : w.ownsRow base e 1 (.slice (some ⟨g, 0, none⟩) n c) n (bs.map fun b => Value.int .u8 ((b.toNat : Nat) : Int))) (j : Nat) (x : UInt8) :
    (w.setCell ⟨g, j, none⟩ (.int .u8 ((x.toNat : Nat) : Int))).ownsRow base e 1 (.slice (some ⟨g, 0, none⟩) n c) n ((bs.set j x).map fun b => Value.int .u8 ((b.toNat : Nat) : Int)) := by
  have := (h.stored j (.int .u8 ((x.toNat : Nat) : Int))).1
  rw [List.map_set]
  exact this
theorem own_int {w : World} {base e n c g : Nat} {xs : List Int} (h : w.ownsRow base e 1 (.slice (some ⟨g, 0, none⟩) n c) n (xs.map (Value.int .i64))) {j : Nat} (hj : j < n) :
    w.cell? ⟨g, j, none⟩ = some (.int .i64 (xs[j]?.getD 0)) ∧ w.frozen? ⟨g, j, none⟩ = false := by
  refine ⟨?_, h.frozenAt j⟩
  have hl : xs.length = n := by have := h.1; simpa using this
  rw [h.cellAt j (by omega)]
  simp [show j < xs.length by omega]
theorem own_int_set {w : World} {base e n c g : Nat} {xs : List Int} (h : w.ownsRow base e 1 (.slice (some ⟨g, 0, none⟩) n c) n (xs.map (Value.int .i64))) (j : Nat) (x : Int) :
    (w.setCell ⟨g, j, none⟩ (.int .i64 x)).ownsRow base e 1 (.slice (some ⟨g, 0, none⟩) n c) n ((xs.set j x).map (Value.int .i64)) := by
  have := (h.stored j (.int .i64 x)).1
  rw [List.map_set]
  exact this
theorem own_cells {w : World} {base e size n : Nat} {v : Value} {xs : List Value} (h : w.ownsRow base e size v n xs) : ∀ (j : Nat) (o : Obj), v.ownBlock = some j → w.heap[j]? = some o → o.isCells = true := by
  intro j o ej hj
  rcases h.2 with ⟨rfl, _⟩ | ⟨g, cap, cur, rfl, _, hgb, _⟩
  · simp [Value.ownBlock] at ej
  · obtain rfl : g = j := by simpa [Value.ownBlock] using ej
    rw [hgb] at hj; cases hj; rfl

/-- An append whose run is known, at an operation of a plain walk and of a fenced one. -/
theorem wpList_append_run {P : Program} {w : World} {ops : Array Oper} {rest : List Oper} {o : Oper} {a : Act} {Q : Exit → Act → World → Prop} {s x : Operand} {t : TypeId} {v vx v' : Value} {w' : World}
    (hrun : (Builtin.append_ #[t, t] o.type #[v, vx]).run P w = .ok v' w') (hgd : o.guard = none) (ho : o.op = .call { callee := .builtin .append, args := #[s, x], argTypes := #[t, t] }) (hs : a.eval s = v) (hx : a.eval x = vx)
    (h : wpList P ops Q rest (a.put o.dst v') w') : wpList P ops Q (o :: rest) a w :=
  wpList_plain hgd fun _ hK => by
    unfold Oper.wp execOp
    simp only [ho, resolve, invoke, builtin, Sem.run_bind, Sem.run_pure, Result.andThen_ok, List.map_toArray, List.map_cons, List.map_nil, hs, hx, hrun]
    exact hK _ _ h
theorem wpListIn_append_run {F : Fence} {n : Nat} {P : Program} {w : World} {ops : Array Oper} {rest : List Oper} {o : Oper} {a : Act} {Q : Exit → Act → World → Prop} {s x : Operand} {t : TypeId} {v vx v' : Value} {w' : World}
    (hrun : (Builtin.append_ #[t, t] o.type #[v, vx]).run P w = .ok v' w') (hgd : o.guard = none) (ho : o.op = .call { callee := .builtin .append, args := #[s, x], argTypes := #[t, t] }) (hs : a.eval s = v) (hx : a.eval x = vx)
    (h : wpListIn F n P ops Q rest (a.put o.dst v') w') : wpListIn F n P ops Q (o :: rest) a w :=
  wpListIn_plain hgd fun _ hK => by
    unfold Oper.wpIn
    refine ⟨?_, ?_⟩
    · simp [Oper.about, ho, resolve, Target.leads, Sem.run_pure]
    · rw [Oper.semAt_plain F _ _ (by rw [ho]; intro c hc'; cases hc')]
      simp [execOp, ho, resolve, invoke, builtin, hs, hx, hrun, Result.andThen]
      exact hK _ _ h

theorem Rd.drew {w : World} {n : Nat} {A : Option Addr} {f : Nat → Value} (h : Rd w w.heap.size A n f) : Rd w.drew w.drew.heap.size A n f := h
theorem undrew {w w' : World} (h : Below w.drew.heap.size w.drew w') : Below w.heap.size w w' := ⟨h.os, h.tape, h.output, h.size, h.block⟩
theorem bt {a b c : World} (h : Below a.heap.size a b) (k : Below b.heap.size b c) : Below a.heap.size a c := h.trans (k.mono h.size)
theorem below_drewN {B : Nat} {a w : World} (h : Below B a w) (n : Nat) : Below B a (w.drewN n) := ⟨h.os, h.tape, h.output, h.size, h.block⟩

/-- A byte as a value; an int as a value. -/
def vByte (l : List UInt8) (j : Nat) : Value := .int .u8 ((l[j]?.getD 0).toNat : Nat)
def vInt (l : List Int) (j : Nat) : Value := .int .i64 (l[j]?.getD 0)
def vWord (l : List Int) (j : Nat) : Value := .int .u64 (l[j]?.getD 0)

/-- The blocks of S lie as they lay. -/
def Keeps (S : Nat → Prop) (W W' : World) : Prop := ∀ k, S k → W'.heap[k]? = W.heap[k]?
theorem Keeps.refl (S : Nat → Prop) (W : World) : Keeps S W W := fun _ _ => rfl
theorem Keeps.trans {S : Nat → Prop} {A B C : World} (h : Keeps S A B) (k : Keeps S B C) : Keeps S A C := fun i hi => (k i hi).trans (h i hi)
theorem Keeps.cell {S : Nat → Prop} {W W' : World} (h : Keeps S W W') {p : Addr} (hp : S p.block) : W'.cell? p = W.cell? p := World.cell?_of_block (w := W) (h _ hp)

theorem rd_bytes {w : World} {base e n m c : Nat} {A : Option Addr} {bs : List UInt8} (h : w.ownsRow base e 1 (.slice A m c) n (bs.map fun b => Value.int .u8 ((b.toNat : Nat) : Int))) : m = n ∧ n ≤ c ∧ Rd w w.heap.size A m (vByte bs) :=
  Rd.of_own h (fun j hj => by have hl : bs.length = n := by simpa using h.1
                              simp [vByte, show j < bs.length by omega])
theorem rd_ints {w : World} {base e n m c : Nat} {A : Option Addr} {xs : List Int} (h : w.ownsRow base e 1 (.slice A m c) n (xs.map (Value.int .i64))) : m = n ∧ n ≤ c ∧ Rd w w.heap.size A m (vInt xs) :=
  Rd.of_own h (fun j hj => by have hl : xs.length = n := by simpa using h.1
                              simp [vInt, show j < xs.length by omega])

/-- Block g is just the cells cs of element type t, none frozen. -/
def Blk (w : World) (g : Nat) (t : TypeId) (cs : Array Value) : Prop := w.heap[g]? = some (.cells cs t (0, 0))
section
variable {w w' : World} {g : Nat} {t : TypeId} {cs : Array Value}
theorem Blk.lt (h : Blk w g t cs) : g < w.heap.size := (Array.getElem?_eq_some_iff.1 h).1
theorem Blk.cell (h : Blk w g t cs) (i : Nat) : w.cell? ⟨g, i, none⟩ = cs[i]? := by unfold Blk at h; simp [World.cell?, h]
theorem Blk.frozen (h : Blk w g t cs) (i : Nat) : w.frozen? ⟨g, i, none⟩ = false := by unfold Blk at h; simp [World.frozen?, h]
theorem Blk.new (w : World) (t : TypeId) (cs : Array Value) : Blk (w.alloc (.cells cs t)) w.heap.size t cs := World.alloc_heap_new w _
theorem Blk.alloc (h : Blk w g t cs) (o : Obj) : Blk (w.alloc o) g t cs := (Below.heap_alloc w o g h.lt).trans h
theorem Blk.set_ (h : Blk w g t cs) (i : Nat) (u : Value) : Blk (w.setCell ⟨g, i, none⟩ u) g t (cs.setIfInBounds i u) := by
  unfold Blk at h ⊢
  simp [World.setCell, Array.getElem?_modify, h]
theorem Blk.far (h : Blk w g t cs) {p : Addr} (hp : g ≠ p.block) (u : Value) : Blk (w.setCell p u) g t cs := (Below.heap_setCell w p u g hp).trans h
theorem Blk.below {B : Nat} (h : Blk w g t cs) (hb : Below B w w') (hg : g < B) : Blk w' g t cs := (hb.block g hg).trans h
theorem Blk.all (h : Blk w g t cs) (hb : Below w.heap.size w w') : Blk w' g t cs := h.below hb h.lt
theorem Blk.grown {row : Option Nat} (h : Blk w g t cs) (hb : w.grownBy w' row) (hg : some g ≠ row) : Blk w' g t cs := (hb.block g h.lt hg).trans h
end
/-- Only block g, and what is new, has turned. -/
theorem only_refl (w : World) (row : Option Nat) : w.grownBy w row := ⟨rfl, rfl, rfl, Nat.le_refl _, fun _ _ _ => rfl⟩
theorem only_below {a w w' : World} {row : Option Nat} (h : a.grownBy w row) (hb : Below w.heap.size w w') : a.grownBy w' row :=
  ⟨hb.os.trans h.os, hb.tape.trans h.tape, hb.output.trans h.output, Nat.le_trans h.size hb.size, fun i hi hne => (hb.block i (Nat.lt_of_lt_of_le hi h.size)).trans (h.block i hi hne)⟩
theorem only_set {a w : World} {g : Nat} (h : a.grownBy w (some g)) {p : Addr} (hp : p.block = g ∨ a.heap.size ≤ p.block) (u : Value) : a.grownBy (w.setCell p u) (some g) :=
  ⟨h.os, h.tape, h.output, by simpa [World.setCell] using h.size, fun i hi hne => (Below.heap_setCell w p u i (by
    rintro rfl
    rcases hp with hp | hp
    · exact hne (by rw [hp])
    · omega)).trans (h.block i hi hne)⟩
theorem only_new {a w : World} {row : Option Nat} (h : a.grownBy w row) (o : Obj) : a.grownBy (w.alloc o) row :=
  ⟨h.os, h.tape, h.output, Nat.le_trans h.size (by simp), fun i hi hne => (Below.heap_alloc w o i (Nat.lt_of_lt_of_le hi h.size)).trans (h.block i hi hne)⟩
theorem only_of_below {a w : World} (h : Below a.heap.size a w) (row : Option Nat) : a.grownBy w row := ⟨h.os, h.tape, h.output, h.size, fun i hi _ => h.block i hi⟩
theorem below_of_only {B : Nat} {a w w' : World} {g : Nat} (h : Below B a w) (hg : w.grownBy w' (some g)) (hB : B ≤ w.heap.size) (hgB : B ≤ g) : Below B a w' := h.grown hg hB (fun k e => by cases e; exact hgB)

theorem rd_lit1 (W : World) (t : TypeId) (x : Int) : Rd (W.alloc (.cells #[.int .i64 x] t)) (W.heap.size + 1) (some ⟨W.heap.size, 0, none⟩) 1 (vInt [x]) := fun _ => ⟨_, _, rfl, by omega, fun j hj => by
  obtain rfl : j = 0 := by omega
  simp [vInt]⟩
theorem rd_lit2 (W : World) (t : TypeId) (x y : Int) : Rd (W.alloc (.cells #[.int .i64 x, .int .i64 y] t)) (W.heap.size + 1) (some ⟨W.heap.size, 0, none⟩) 2 (vInt [x, y]) := fun _ => ⟨_, _, rfl, by omega, fun j hj => by
  rcases (show j = 0 ∨ j = 1 by omega) with rfl | rfl <;> simp [vInt]⟩

/-- 'string(b)'. -/
theorem conv_str {P : Program} {w : World} {src dst e : TypeId} {A : Option Addr} {B n c : Nat} {bs : List UInt8} (hs : P.underlying src = some (.slice e)) (he : P.underlying e = some (.int .u8)) (hd : P.underlying dst = some .string)
    (hl : bs.length = n) (hR : Rd w B A n (vByte bs)) : (convert src dst (.slice A n c)).run P w = .ok (.string ⟨bs.toArray⟩) w := by
  subst hl
  rcases A with _ | a
  · have h0 := hR.none_ rfl
    have hb : bs = [] := List.eq_nil_of_length_eq_zero h0
    subst hb
    exact run_convert_bytes_nil w src e hs he _ _ dst hd
  · refine run_convert_bytes_back w src dst e a c bs hs he hd (fun j hj => ?_)
    obtain ⟨b, off, h, _, hc⟩ := hR (by omega)
    injection h with h
    subst h
    have e : (⟨b, off, none⟩ : Addr).add j = ⟨b, off + j, none⟩ := by unfold Addr.add; split <;> simp_all
    rw [e, hc j hj]
    simp [vByte, hj]

/-- '[]byte(s)': a new row of the string's bytes. -/
theorem conv_bytes {P : Program} (w : World) (src dst e : TypeId) (s : ByteArray) {u : TypeDesc} (hs : P.underlying src = some u) (hd : P.underlying dst = some (.slice e)) (he : P.underlying e = some (.int .u8)) :
    ∃ cap w1, (convert src dst (.string s)).run P w = .ok (.slice (some ⟨w.heap.size, 0, none⟩) s.size cap) w1 ∧ s.size ≤ cap ∧ w1.heap.size = w.heap.size + 1 ∧ Below w.heap.size w w1 ∧
      Rd w1 (w.heap.size + 1) (some ⟨w.heap.size, 0, none⟩) s.size (vByte s.data.toList) := by
  refine ⟨_, _, Lib.run_convert_string_bytes w src dst e s hs hd he, ?_, Lib.bytesWorld_size w e s, ⟨?_, ?_, ?_, ?_, ?_⟩, ?_⟩
  · have := grownCap_ge w s.size 0 e; omega
  · simp [Lib.bytesWorld, World.freeze, World.alloc, World.drew, -World.alloc_eq, -World.drew_eq]
  · simp [Lib.bytesWorld, World.freeze, World.alloc, World.drew, -World.alloc_eq, -World.drew_eq]
  · simp [Lib.bytesWorld, World.freeze, World.alloc, World.drew, -World.alloc_eq, -World.drew_eq]
  · rw [Lib.bytesWorld_size]; omega
  · exact fun k hk => Lib.bytesWorld_at_old w e s k hk
  · intro _
    refine ⟨_, _, rfl, by omega, fun j hj => ?_⟩
    have := Lib.bytesWorld_cell w e s j hj
    simpa [vByte, List.getD] using this

/-- '[]byte(s)': a new row of the string's bytes. -/
theorem conv_bytes_cap {P : Program} (w : World) (src dst e : TypeId) (s : ByteArray) {u : TypeDesc} (hs : P.underlying src = some u) (hd : P.underlying dst = some (.slice e)) (he : P.underlying e = some (.int .u8)) (h63 : s.size ≤ 9223372036854775807) :
    ∃ cap w1, (convert src dst (.string s)).run P w = .ok (.slice (some ⟨w.heap.size, 0, none⟩) s.size cap) w1 ∧ s.size ≤ cap ∧ cap ≤ 9223372036854775807 ∧ w1.heap.size = w.heap.size + 1 ∧ Below w.heap.size w w1 ∧
      Rd w1 (w.heap.size + 1) (some ⟨w.heap.size, 0, none⟩) s.size (vByte s.data.toList) := by
  refine ⟨_, _, Lib.run_convert_string_bytes w src dst e s hs hd he, ?_, ?_, Lib.bytesWorld_size w e s, ⟨?_, ?_, ?_, ?_, ?_⟩, ?_⟩
  · have := grownCap_ge w s.size 0 e; omega
  · have := grownCap_le_maxLen w s.size 0 e (by simpa [maxLen] using h63); simpa [maxLen] using this
  · simp [Lib.bytesWorld, World.freeze, World.alloc, World.drew, -World.alloc_eq, -World.drew_eq]
  · simp [Lib.bytesWorld, World.freeze, World.alloc, World.drew, -World.alloc_eq, -World.drew_eq]
  · simp [Lib.bytesWorld, World.freeze, World.alloc, World.drew, -World.alloc_eq, -World.drew_eq]
  · rw [Lib.bytesWorld_size]; omega
  · exact fun k hk => Lib.bytesWorld_at_old w e s k hk
  · intro _
    refine ⟨_, _, rfl, by omega, fun j hj => ?_⟩
    have := Lib.bytesWorld_cell w e s j hj
    simpa [vByte, List.getD] using this

end Go.Proofs.Ytkandhpnenmleaa

/- More words for memory: make of a full row, append of a string, copies. -/
namespace Go.Proofs.Ytkandhpnenmleaa
open Go.RowKit

/-- 'make([]T, n)'. -/
theorem make_all {P : Program} (w : World) (t e : TypeId) (i : TypeInfo) (z : Value) (bytes : Nat) (ht : P.underlying t = some (.slice e)) (hi : P.info? e = some i) (hz : i.zero = some z)
    (hsize : i.size = 1) (hby : i.bytes = bytes) (hzs : z.cells = #[z]) (kl kc : IntKind) (n : Nat) (hbytes : bytes * n ≤ 281474976710656) (h63 : n ≤ maxLen) :
    ∃ w', (Instr.makeSlice t (.int kl (n : Int)) (.int kc (n : Int))).run P w = .ok (.slice (some ⟨w.heap.size, 0, none⟩) n n) w' ∧
      w'.ownsRow w.heap.size e 1 (.slice (some ⟨w.heap.size, 0, none⟩) n n) n (List.replicate n z) ∧ Below w.heap.size w w' ∧ w.heap.size < w'.heap.size := by
  subst hby
  obtain ⟨w', hr, ho, hg⟩ := run_make_full (P := P) w w.heap.size t e i z 1 ht hi hz hsize kl kc n hbytes h63 (Nat.le_refl _)
  rw [hzs, Nat.mul_one, toList_madeCells_one] at ho
  refine ⟨w', hr, ho, (Below.refl _ _).grown hg (Nat.le_refl _) (fun k e => by cases e), ?_⟩
  rcases ho.2 with ⟨h, _⟩ | ⟨g, cap, cur, h, _, hh, _⟩
  · cases h
  · injection h with h
    injection h with h
    injection h with h
    subst h
    exact (Array.getElem?_eq_some_iff.1 hh).1

theorem own_lower {w : World} {base base' e size n : Nat} {v : Value} {xs : List Value} (h : w.ownsRow base e size v n xs) (hb : base' ≤ base) : w.ownsRow base' e size v n xs := by
  obtain ⟨hl, h2⟩ := h
  refine ⟨hl, ?_⟩
  rcases h2 with h2 | ⟨g, cap, cur, h2, hg, hh⟩
  · exact .inl h2
  · exact .inr ⟨g, cap, cur, h2, Nat.le_trans hb hg, hh⟩

end Go.Proofs.Ytkandhpnenmleaa

/- A frame by a set of blocks; the type of a block; a slice of bytes known by its block's type; rows of structs: append of one. -/
namespace Go.Proofs.Ytkandhpnenmleaa
open Go.RowKit

/-- Only blocks of F, and what is new, have turned. -/
structure Mod (F : Nat → Prop) (w w' : World) : Prop where
  os : w'.os = w.os
  tape : w'.tape = w.tape
  output : w'.output = w.output
  size : w.heap.size ≤ w'.heap.size
  block : ∀ k, k < w.heap.size → ¬ F k → w'.heap[k]? = w.heap[k]?
section
variable {F G : Nat → Prop} {a w w' w'' : World}
theorem Mod.refl (F : Nat → Prop) (w : World) : Mod F w w := ⟨rfl, rfl, rfl, Nat.le_refl _, fun _ _ _ => rfl⟩
theorem Mod.trans (h : Mod F w w') (k : Mod G w' w'') (hG : ∀ b, G b → F b ∨ w.heap.size ≤ b) : Mod F w w'' :=
  ⟨k.os.trans h.os, k.tape.trans h.tape, k.output.trans h.output, Nat.le_trans h.size k.size, fun b hb hF => (k.block b (Nat.lt_of_lt_of_le hb h.size) (fun hg => (hG b hg).elim hF (by omega))).trans (h.block b hb hF)⟩
theorem Mod.mono (h : Mod F w w') (hF : ∀ b, F b → G b ∨ w.heap.size ≤ b) : Mod G w w' := ⟨h.os, h.tape, h.output, h.size, fun b hb hG => h.block b hb (fun hf => (hF b hf).elim hG (by omega))⟩
theorem Mod.of_below (F : Nat → Prop) (h : Below w.heap.size w w') : Mod F w w' := ⟨h.os, h.tape, h.output, h.size, fun b hb _ => h.block b hb⟩
theorem Mod.of_grown {r : Option Nat} (h : w.grownBy w' r) (hF : ∀ g, r = some g → F g ∨ w.heap.size ≤ g) : Mod F w w' := ⟨h.os, h.tape, h.output, h.size, fun b hb hf => h.block b hb (fun e => (hF b e.symm).elim hf (by omega))⟩
theorem Mod.then_below (h : Mod F w w') (k : Below w'.heap.size w' w'') : Mod F w w'' := h.trans (Mod.of_below F k) (fun _ hb => .inl hb)
theorem Mod.then_grown {r : Option Nat} (h : Mod F w w') (k : w'.grownBy w'' r) (hF : ∀ g, r = some g → F g ∨ w.heap.size ≤ g) : Mod F w w'' :=
  ⟨k.os.trans h.os, k.tape.trans h.tape, k.output.trans h.output, Nat.le_trans h.size k.size, fun b hb hf => (k.block b (Nat.lt_of_lt_of_le hb h.size) (fun e => (hF b e.symm).elim hf (by omega))).trans (h.block b hb hf)⟩
theorem Mod.below {B : Nat} (h : Below B a w) (m : Mod F w w') (hB : B ≤ w.heap.size) (hF : ∀ b, F b → B ≤ b) : Below B a w' :=
  ⟨m.os.trans h.os, m.tape.trans h.tape, m.output.trans h.output, Nat.le_trans h.size m.size, fun b hb => (m.block b (by omega) (fun hf => by have := hF b hf; omega)).trans (h.block b hb)⟩
theorem Mod.below_self {B : Nat} (m : Mod F w w') (hB : B ≤ w.heap.size) (hF : ∀ b, F b → B ≤ b) : Below B w w' := m.below (Below.refl B w) hB hF
theorem Mod.drewN (h : Mod F w w') (n : Nat) : Mod F w (w'.drewN n) := ⟨h.os, h.tape, h.output, h.size, h.block⟩
theorem Mod.drew (h : Mod F w w') : Mod F w w'.drew := ⟨h.os, h.tape, h.output, h.size, h.block⟩
theorem Mod.set (h : Mod F w w') {p : Addr} (hp : F p.block ∨ w.heap.size ≤ p.block) (u : Value) : Mod F w (w'.setCell p u) :=
  ⟨h.os, h.tape, h.output, by simpa [World.setCell] using h.size, fun i hi hf => (Below.heap_setCell w' p u i (by
    rintro rfl
    exact hp.elim hf (by omega))).trans (h.block i hi hf)⟩
theorem Mod.alloc (h : Mod F w w') (o : Obj) : Mod F w (w'.alloc o) :=
  ⟨h.os, h.tape, h.output, Nat.le_trans h.size (by simp), fun i hi hf => (Below.heap_alloc w' o i (Nat.lt_of_lt_of_le hi h.size)).trans (h.block i hi hf)⟩
theorem Mod.blk {g : Nat} {t : TypeId} {cs : Array Value} (h : Mod F w w') (hB : Blk w g t cs) (hg : ¬ F g) : Blk w' g t cs := (h.block g hB.lt hg).trans hB
theorem Mod.rd {B n : Nat} {A : Option Addr} {f : Nat → Value} (h : Mod F w w') (hR : Rd w B A n f) (hB : B ≤ w.heap.size) (hne : ∀ b off, A = some ⟨b, off, none⟩ → 0 < n → ¬ F b) : Rd w' B A n f := by
  intro hn
  obtain ⟨b, off, e, hb, hc⟩ := hR hn
  exact ⟨b, off, e, hb, fun j hj => (World.cell?_of_block (w := w) (h.block b (by omega) (hne b off e hn))).trans (hc j hj)⟩
theorem Mod.own {base e size n : Nat} {v : Value} {xs : List Value} (h : Mod F w w') (ho : w.ownsRow base e size v n xs) (hne : ∀ g, v.ownBlock = some g → ¬ F g) : w'.ownsRow base e size v n xs := by
  refine ⟨ho.1, ?_⟩
  rcases ho.2 with hn | ⟨g, cap, cur, rfl, hb, hgg, rest⟩
  · exact .inl hn
  · exact .inr ⟨g, cap, cur, rfl, hb, (h.block g (Array.getElem?_eq_some_iff.1 hgg).1 (hne g rfl)).trans hgg, rest⟩

/-- The element's type of a block. -/
def Ty (w : World) (b : Nat) (t : TypeId) : Prop := ∃ cs fr, w.heap[b]? = some (.cells cs t fr)
theorem Ty.unique {b : Nat} {t t' : TypeId} (h : Ty w b t) (h' : Ty w b t') : t = t' := by
  obtain ⟨_, _, h⟩ := h
  obtain ⟨_, _, h'⟩ := h'
  rw [h] at h'
  cases h'
  rfl
theorem Ty.not_map {b : Nat} {t : TypeId} {es : Array MapEntry} {c : Nat} (h : Ty w b t) (h' : w.heap[b]? = some (.map es c)) : False := by
  obtain ⟨_, _, h⟩ := h
  rw [h] at h'
  cases h'
theorem Blk.ty {g : Nat} {t : TypeId} {cs : Array Value} (h : Blk w g t cs) : Ty w g t := ⟨_, _, h⟩
theorem Ty.of_own {base e size n g : Nat} {v : Value} {xs : List Value} (h : w.ownsRow base e size v n xs) (hg : v.ownBlock = some g) : Ty w g e := by
  rcases h.2 with ⟨rfl, _⟩ | ⟨g', cap, cur, rfl, _, hh, _⟩
  · simp [Value.ownBlock] at hg
  · simp [Value.ownBlock] at hg
    subst hg
    exact ⟨_, _, hh⟩

/-- A slice of bytes (nil let in), by its block's type. -/
def Bts (w : World) (A : Option Addr) (n c : Nat) (bs : List UInt8) : Prop :=
  bs.length = n ∧ n ≤ c ∧ c ≤ 9223372036854775807 ∧ (0 < n → ∃ b off cs fr, A = some ⟨b, off, none⟩ ∧ w.heap[b]? = some (.cells cs 5 fr) ∧ ∀ j, j < n → cs[off + j]? = some (vByte bs j))
theorem Bts.nil (w : World) : Bts w none 0 0 [] := ⟨rfl, Nat.le_refl _, by omega, fun h => absurd h (by omega)⟩
theorem Bts.rd {A : Option Addr} {n c : Nat} {bs : List UInt8} (h : Bts w A n c bs) : Rd w w.heap.size A n (vByte bs) := by
  intro hn
  obtain ⟨b, off, cs, fr, e, hh, hc⟩ := h.2.2.2 hn
  exact ⟨b, off, e, (Array.getElem?_eq_some_iff.1 hh).1, fun j hj => by simp [World.cell?, hh, hc j hj]⟩
theorem Bts.mod {A : Option Addr} {n c : Nat} {bs : List UInt8} (h : Bts w A n c bs) (m : Mod F w w') (hF : ∀ b, F b → ¬ Ty w b 5) : Bts w' A n c bs := by
  refine ⟨h.1, h.2.1, h.2.2.1, fun hn => ?_⟩
  obtain ⟨b, off, cs, fr, e, hh, hc⟩ := h.2.2.2 hn
  exact ⟨b, off, cs, fr, e, (m.block b (Array.getElem?_eq_some_iff.1 hh).1 (fun hf => hF b hf ⟨_, _, hh⟩)).trans hh, hc⟩
theorem Bts.all {A : Option Addr} {n c : Nat} {bs : List UInt8} (h : Bts w A n c bs) (hb : Below w.heap.size w w') : Bts w' A n c bs := h.mod (F := fun _ => False) (Mod.of_below _ hb) (fun _ hf => hf.elim)
theorem Bts.of_own {A : Option Addr} {base n m c : Nat} {bs : List UInt8} (h : w.ownsRow base 5 1 (.slice A m c) n (bs.map fun b => Value.int .u8 ((b.toNat : Nat) : Int))) : Bts w A n c bs ∧ m = n := by
  have hl : bs.length = n := by simpa using h.1
  have hc := own_cap h
  rcases h.2 with ⟨h2, h0⟩ | ⟨g, cap, cur, h2, _, hh, hnc, hm, hcs, htk⟩
  · injection h2 with _ h3 h4
    subst h0 h3 h4
    exact ⟨⟨hl, by omega, by omega, fun h => absurd h (by omega)⟩, rfl⟩
  · injection h2 with h2 h3 h4
    subst h2 h3 h4
    refine ⟨⟨hl, hnc, hc, fun hn => ⟨g, 0, cur, _, rfl, hh, fun j hj => ?_⟩⟩, rfl⟩
    have : (cur.toList.take (m * 1))[j]? = (bs.map fun b => Value.int .u8 ((b.toNat : Nat) : Int))[j]? := by rw [htk]
    rw [List.getElem?_take, if_pos (by omega)] at this
    simpa [vByte, show j < bs.length by omega] using this
end

/-- append of one struct onto a row of the call's own. -/
theorem run_append_row {P : Program} (w : World) (base : Nat) (t ty e : TypeId) (i : TypeInfo) (z : Value) (size bytes : Nat) (ht : P.underlying t = some (.slice e)) (hi : P.info? e = some i) (hz : i.zero = some z)
    (hsize : i.size = size) (hby : i.bytes = bytes) (hzs : z.cells.size = size) (hsz : 0 < size)
    (v : Value) (n : Nat) (xs : List Value) (hown : w.ownsRow base e size v n xs) (cs : Array Value) (hcs : cs.size = size) (h1 : ∀ u ∈ cs.toList, u.oneCell' = true)
    (h63 : n + 1 ≤ maxLen) (hbytes : (n + 1) * bytes ≤ 140737488355328) (hbase : base ≤ w.heap.size) :
    ∃ g cap w', (Builtin.append_ #[t, t] ty #[v, .slice (some ⟨w.heap.size, 0, none⟩) 1 1]).run P (w.alloc (.cells cs e)) = .ok (.slice (some ⟨g, 0, none⟩) (n + 1) cap) w' ∧ w'.ownsRow base e size (.slice (some ⟨g, 0, none⟩) (n + 1) cap) (n + 1) (xs ++ cs.toList) ∧
      w.grownBy w' v.ownBlock ∧ (some g = v.ownBlock ∨ g = w.heap.size + 1) ∧ w.heap.size < w'.heap.size := by
  obtain ⟨v', w', hrun, h2, h3, _, h5⟩ := run_append_own_at (P := P) (w.alloc (.cells cs e)) base t ty e i z size bytes ht hi hz hsize hby hzs hsz v n xs (hown.alloc _) ⟨w.heap.size, 0, none⟩ 1 1 cs.toList (by simpa using hcs)
      (fun j u hu => by
        have ea : (⟨w.heap.size, 0, none⟩ : Addr).add j = ⟨w.heap.size, j, none⟩ := by unfold Addr.add; split <;> simp_all
        rw [ea]
        have hB := Blk.cell (Blk.new w e cs) j
        rw [hB]
        simpa using hu)
      h1 h63 hbytes (by simp; omega)
  obtain ⟨g, cap, rfl⟩ := ownsRow_succ h2
  refine ⟨g, cap, w', hrun, h2, (World.grownBy_alloc w _ _).trans h3, ?_, ?_⟩
  · rcases h5 with h5 | h5
    · exact .inl (by simpa [Value.ownBlock] using h5)
    · exact .inr (by simpa [Value.ownBlock] using h5)
  · have := h3.size
    simp at this
    omega
end Go.Proofs.Ytkandhpnenmleaa

/- Maps from ints, known by their entries: lookup, store, make. -/
namespace Go.Proofs.Ytkandhpnenmleaa
open Go.RowKit

/-- Block b is a map; its entries are es, in the order in which they came. -/
def IMap (w : World) (b : Nat) (es : List (Int × Value)) : Prop :=
  ∃ (l : List MapEntry) (clock : Nat), w.heap[b]? = some (.map l.toArray clock) ∧ l.map (fun e => (e.key, e.val)) = es.map (fun p => (Value.int .i64 p.1, p.2)) ∧ (es.map Prod.fst).Nodup ∧ (l.map (·.born)).Nodup ∧ ∀ e ∈ l, e.born < clock
def put : List (Int × Value) → Int → Value → List (Int × Value)
  | [], k, v => [(k, v)]
  | p :: es, k, v => if p.1 = k then (k, v) :: es else p :: put es k v
theorem IMap.block {w : World} {b : Nat} {es : List (Int × Value)} (h : IMap w b es) : ∃ l c, w.heap[b]? = some (.map l c) := by
  obtain ⟨l, c, h, _⟩ := h
  exact ⟨_, _, h⟩
theorem IMap.lt {w : World} {b : Nat} {es : List (Int × Value)} (h : IMap w b es) : b < w.heap.size := by
  obtain ⟨l, c, h⟩ := h.block
  exact (Array.getElem?_eq_some_iff.1 h).1
theorem IMap.not_ty {w : World} {b : Nat} {es : List (Int × Value)} {t : TypeId} (h : IMap w b es) : ¬ Ty w b t := by
  obtain ⟨l, c, h⟩ := h.block
  exact fun k => k.not_map h
theorem IMap.keep {w w' : World} {b : Nat} {es : List (Int × Value)} (h : IMap w b es) (hb : w'.heap[b]? = w.heap[b]?) : IMap w' b es := by
  obtain ⟨l, c, h, r⟩ := h
  exact ⟨l, c, hb.trans h, r⟩
theorem IMap.mod {F : Nat → Prop} {w w' : World} {b : Nat} {es : List (Int × Value)} (h : IMap w b es) (m : Mod F w w') (hF : ¬ F b) : IMap w' b es := h.keep (m.block b h.lt hF)
theorem IMap.all {w w' : World} {b : Nat} {es : List (Int × Value)} (h : IMap w b es) (m : Below w.heap.size w w') : IMap w' b es := h.keep (m.block b h.lt)
theorem IMap.new (w : World) : IMap (w.alloc (.map #[] 0)) w.heap.size [] := ⟨[], 0, by rw [World.alloc_heap_new], rfl, by simp, by simp, by simp⟩

theorem put_keys (es : List (Int × Value)) (k : Int) (v : Value) : (put es k v).map Prod.fst = if k ∈ es.map Prod.fst then es.map Prod.fst else es.map Prod.fst ++ [k] := by
  induction es with
  | nil => simp [put]
  | cons p es ih =>
    unfold put
    by_cases h : p.1 = k
    · simp [h]
    · rw [if_neg h]
      simp only [List.map_cons, ih, List.mem_cons]
      have h' : ¬ k = p.1 := fun e => h e.symm
      by_cases hm : k ∈ es.map Prod.fst
      · rw [if_pos hm, if_pos (.inr hm)]
      · rw [if_neg hm, if_neg (by rintro (e | e); exact h' e; exact hm e)]
        rfl
theorem put_nodup {es : List (Int × Value)} (h : (es.map Prod.fst).Nodup) (k : Int) (v : Value) : ((put es k v).map Prod.fst).Nodup := by
  rw [put_keys]
  split
  · exact h
  · rename_i hk
    rw [List.nodup_append]
    refine ⟨h, by simp, fun a ha b hb => ?_⟩
    rw [List.mem_singleton] at hb
    subst hb
    rintro rfl
    exact hk ha
theorem lookup_put (es : List (Int × Value)) (k j : Int) (v : Value) : (put es k v).lookup j = if j = k then some v else es.lookup j := by
  induction es with
  | nil =>
    by_cases h : j = k
    · simp [put, h]
    · simp [put, List.lookup, h, beq_false_of_ne h]
  | cons p es ih =>
    unfold put
    by_cases h : p.1 = k
    · rw [if_pos h]
      by_cases hj : j = k
      · simp [List.lookup, hj]
      · simp [List.lookup, hj, h, beq_false_of_ne hj]
    · rw [if_neg h]
      by_cases hj : j = p.1
      · simp [List.lookup, hj, h]
      · simp [List.lookup, beq_false_of_ne hj, ih]

theorem imap_find (l : List MapEntry) : ∀ (es : List (Int × Value)) (_ : l.map (fun e => (e.key, e.val)) = es.map (fun p => (Value.int .i64 p.1, p.2))) (k : Int) (i : Nat),
    (es.lookup k = none ∧ Instr.findNow (.int .i64) (.int .i64 k) l i = some none) ∨
    ∃ j v, es.lookup k = some v ∧ (∀ u, put es k u = es.set j (k, u)) ∧ j < es.length ∧ es[j]? = some (k, v) ∧ Instr.findNow (.int .i64) (.int .i64 k) l i = some (some (i + j, v)) := by
  induction l with
  | nil =>
    intro es h k i
    have : es = [] := by simpa using h.symm
    subst this
    exact .inl ⟨rfl, rfl⟩
  | cons e l ih =>
    intro es h k i
    rcases es with _ | ⟨p, es⟩
    · simp at h
    · simp only [List.map_cons, List.cons.injEq, Prod.mk.injEq] at h
      obtain ⟨⟨hk, hv⟩, hr⟩ := h
      have hs : Instr.sameNow (.int .i64) (.int .i64 k) e.key = some (k == p.1) := by rw [hk]; simp [Instr.sameNow]
      by_cases hkp : k = p.1
      · right
        have hs' : Instr.sameNow (.int .i64) (.int .i64 k) e.key = some true := by rw [hs, hkp]; simp
        refine ⟨0, p.2, by simp [List.lookup, hkp], fun u => by simp [put, hkp], by simp, by rw [hkp]; rfl, ?_⟩
        unfold Instr.findNow
        rw [hs']
        simp [hv]
      · have hs' : Instr.sameNow (.int .i64) (.int .i64 k) e.key = some false := by rw [hs]; simp [hkp]
        have hl : (p :: es).lookup k = es.lookup k := by simp [List.lookup, beq_false_of_ne hkp]
        have hf : Instr.findNow (.int .i64) (.int .i64 k) (e :: l) i = Instr.findNow (.int .i64) (.int .i64 k) l (i + 1) := by
          conv => lhs; unfold Instr.findNow
          rw [hs']
        rw [hl, hf]
        rcases ih es hr k (i + 1) with ⟨h1, h2⟩ | ⟨j, v, h1, h0, h2, h3, h4⟩
        · exact .inl ⟨h1, h2⟩
        · refine .inr ⟨j + 1, v, h1, fun u => ?_, by simp; omega, by simpa using h3, by rw [h4]; congr 2; simp; omega⟩
          unfold put
          rw [if_neg (fun e => hkp e.symm), h0 u]
          rfl

section
variable {P : Program} {w : World} {b : Nat} {es : List (Int × Value)} {t kt e : TypeId}
theorem run_findKey (hk : P.underlying kt = some (.int .i64)) (l : List MapEntry) (k : Int) (r : Option (Nat × Value)) (hf : Instr.findNow (.int .i64) (.int .i64 k) l 0 = some r) (w : World) : (Instr.findKey kt (.int .i64 k) l).run P w = .ok r w := by
  simp [Instr.findKey, run_underlying hk, hf]
theorem run_checkKey (hk : P.underlying kt = some (.int .i64)) (em : Bool) (k : Int) (w : World) : (Instr.checkKey em 10000 kt (.int .i64 k)).run P w = .ok () w := by
  have h : ∀ n : Nat, (Instr.checkKey em (n + 1) kt (.int .i64 k)).run P w = .ok () w := fun n => by simp [Instr.checkKey, run_underlying hk]
  exact h 9999
theorem IMap.look (h : IMap w b es) (ht : P.underlying t = some (.map kt e)) (hk : P.underlying kt = some (.int .i64)) {i : TypeInfo} {z : Value} (hi : P.info? e = some i) (hz : i.zero = some z) (k : Int) :
    (Instr.lookup t (.map (some b)) (.int .i64 k) false).run P w = .ok ((es.lookup k).getD z) w := by
  obtain ⟨l, c, hb, hl, _⟩ := h
  rcases imap_find l es hl k 0 with ⟨h1, h2⟩ | ⟨j, v, h1, _, h2, h3, h4⟩
  · simp [Instr.lookup, run_underlying ht, MapKept.run_getObj_map hb, run_checkKey hk, run_findKey hk l k _ h2, h1, zeroValue, typeInfo, hi, hz, Result.andThen]
  · simp [Instr.lookup, run_underlying ht, MapKept.run_getObj_map hb, run_checkKey hk, run_findKey hk l k _ h4, h1, Result.andThen]
theorem IMap.look2 (h : IMap w b es) (ht : P.underlying t = some (.map kt e)) (hk : P.underlying kt = some (.int .i64)) {i : TypeInfo} {z : Value} (hi : P.info? e = some i) (hz : i.zero = some z) (k : Int) :
    (Instr.lookup t (.map (some b)) (.int .i64 k) true).run P w = .ok (.tuple #[(es.lookup k).getD z, .bool (es.lookup k).isSome]) w := by
  obtain ⟨l, c, hb, hl, _⟩ := h
  rcases imap_find l es hl k 0 with ⟨h1, h2⟩ | ⟨j, v, h1, _, h2, h3, h4⟩
  · simp [Instr.lookup, run_underlying ht, MapKept.run_getObj_map hb, run_checkKey hk, run_findKey hk l k _ h2, h1, zeroValue, typeInfo, hi, hz, Result.andThen]
  · simp [Instr.lookup, run_underlying ht, MapKept.run_getObj_map hb, run_checkKey hk, run_findKey hk l k _ h4, h1, Result.andThen]
theorem heap_set_same {w : World} {b : Nat} {o : Obj} (h : b < w.heap.size) : ({ w with heap := w.heap.setIfInBounds b o } : World).heap[b]? = some o := by simp [h]
theorem grown_setObj (w : World) (b : Nat) (o : Obj) : w.grownBy { w with heap := w.heap.setIfInBounds b o } (some b) :=
  ⟨rfl, rfl, rfl, by simp, fun k _ hne => by
    have : b ≠ k := fun e => hne (by rw [e])
    simp [this]⟩
theorem IMap.store (h : IMap w b es) (ht : P.underlying t = some (.map kt e)) (hk : P.underlying kt = some (.int .i64)) (k : Int) (v : Value) :
    ∃ w', (Instr.mapUpdate t (.map (some b)) (.int .i64 k) v).run P w = .ok () w' ∧ IMap w' b (put es k v) ∧ w.grownBy w' (some b) ∧ w'.heap.size = w.heap.size := by
  obtain ⟨l, c, hb, hl, hn, hbn, hbc⟩ := h
  have hlt := (Array.getElem?_eq_some_iff.1 hb).1
  have hlen : l.length = es.length := by have := congrArg List.length hl; simpa using this
  rcases imap_find l es hl k 0 with ⟨h1, h2⟩ | ⟨j, v0, h1, h0, h2, h3, h4⟩
  · refine ⟨_, ?_, ⟨l ++ [⟨.int .i64 k, v, c⟩], c + 1, heap_set_same hlt, ?_, put_nodup hn k v, ?_, ?_⟩, grown_setObj w b _, by simp⟩
    · simp [Instr.mapUpdate, run_underlying ht, MapKept.run_getObj_map hb, run_checkKey hk, run_findKey hk l k _ h2, MapKept.run_setObj_map _ hb, Result.andThen]
    · have hp : put es k v = es ++ [(k, v)] := by
        have hno : ∀ p ∈ es, p.1 ≠ k := by
          intro p hp e
          have := List.lookup_eq_none_iff.1 h1 p hp
          simp [e] at this
        clear h1 h2 hl hn hlen
        induction es with
        | nil => rfl
        | cons p es ih =>
          unfold put
          rw [if_neg (hno p (by simp)), ih (fun q hq => hno q (by simp [hq]))]
          rfl
      rw [hp]
      simp [hl]
    · rw [List.map_append, List.nodup_append]
      refine ⟨hbn, by simp, fun a ha b hb => ?_⟩
      rw [List.map_singleton, List.mem_singleton] at hb
      obtain ⟨x, hx, rfl⟩ := List.mem_map.1 ha
      have := hbc x hx
      rw [hb]
      show x.born ≠ c
      omega
    · intro x hx
      rw [List.mem_append, List.mem_singleton] at hx
      rcases hx with hx | rfl
      · have := hbc x hx; omega
      · simp
  · have hj : j < l.length := by omega
    have hjk : l[j].key = .int .i64 k := by
      have := congrArg (fun q => q[j]?) hl
      simp [hj, h3] at this
      exact this.1
    refine ⟨_, ?_, ⟨l.set j { l[j] with key := .int .i64 k, val := v }, c, heap_set_same hlt, ?_, put_nodup hn k v, ?_, ?_⟩, grown_setObj w b _, by simp⟩
    · have hm : l.modify j (fun e => { e with key := .int .i64 k, val := v }) = l.set j { l[j] with key := .int .i64 k, val := v } := by
        apply List.ext_getElem?
        intro i
        rw [List.getElem?_modify, List.getElem?_set]
        split
        · rename_i hi
          subst hi
          simp [hj]
        · simp
      simp [Instr.mapUpdate, run_underlying ht, MapKept.run_getObj_map hb, run_checkKey hk, run_findKey hk l k _ h4, Instr.keyThatStays, hj, hjk, Instr.sameBits, MapKept.run_setObj_map _ hb, Result.andThen, hm]
    · rw [h0 v, List.map_set, List.map_set, hl]
    · rw [List.map_set]
      have : (l.map (·.born)).set j l[j].born = l.map (·.born) := by
        apply List.ext_getElem?
        intro i
        rw [List.getElem?_set]
        split
        · rename_i hi
          subst hi
          simp [hj]
        · rfl
      rw [this]
      exact hbn
    · intro x hx
      rcases List.mem_or_eq_of_mem_set hx with hx | rfl
      · exact hbc x hx
      · exact hbc l[j] (List.getElem_mem hj)
end
end Go.Proofs.Ytkandhpnenmleaa

/- Words for a slice value in a cell: the bytes, the integers that it reads as. -/
namespace Go.Proofs.Ytkandhpnenmleaa
open Go.RowKit

/-- A slice value as a triple: where it lies, its length, its capacity. -/
abbrev Sl := Option Addr × Nat × Nat
def slV (s : Sl) : Value := .slice s.1 s.2.1 s.2.2
/-- The slice s reads as the bytes bs. -/
structure RowIs (w : World) (s : Sl) (bs : List UInt8) : Prop where
  len : bs.length = s.2.1
  cap : s.2.1 ≤ s.2.2
  max : s.2.2 ≤ 9223372036854775807
  rd : Rd w w.heap.size s.1 s.2.1 (vByte bs)
theorem RowIs.all {w w' : World} {s : Sl} {bs : List UInt8} (h : RowIs w s bs) (hb : Below w.heap.size w w') : RowIs w' s bs := ⟨h.len, h.cap, h.max, h.rd.all hb⟩
theorem RowIs.grown {w w' : World} {s : Sl} {bs : List UInt8} {row : Option Nat} (h : RowIs w s bs) (hg : w.grownBy w' row) (hne : ∀ b off, 0 < s.2.1 → s.1 = some ⟨b, off, none⟩ → some b ≠ row) : RowIs w' s bs := by
  refine ⟨h.len, h.cap, h.max, fun hn => ?_⟩
  obtain ⟨b, off, e, hb, hc⟩ := h.rd hn
  exact ⟨b, off, e, Nat.lt_of_lt_of_le hb hg.size, fun j hj => (World.cell?_of_block (w := w) (hg.block b hb (hne b off hn e))).trans (hc j hj)⟩

/-- The slice s reads as the bytes bs, in blocks below B. -/
structure BIn (w : World) (B : Nat) (s : Sl) (bs : List UInt8) : Prop where
  len : bs.length = s.2.1
  cap : s.2.1 ≤ s.2.2
  max : s.2.2 ≤ 9223372036854775807
  rd : Rd w B s.1 s.2.1 (vByte bs)
/-- The slice s reads as the integers xs, in blocks below B. -/
structure NIn (w : World) (B : Nat) (s : Sl) (xs : List Int) : Prop where
  len : xs.length = s.2.1
  cap : s.2.1 ≤ s.2.2
  max : s.2.2 ≤ 9223372036854775807
  rd : Rd w B s.1 s.2.1 (vInt xs)
theorem BIn.keep {w w' : World} {B : Nat} {s : Sl} {bs : List UInt8} (h : BIn w B s bs) (hk : ∀ b, b < B → w'.heap[b]? = w.heap[b]?) : BIn w' B s bs := ⟨h.len, h.cap, h.max, h.rd.keep hk⟩
theorem NIn.keep {w w' : World} {B : Nat} {s : Sl} {bs : List Int} (h : NIn w B s bs) (hk : ∀ b, b < B → w'.heap[b]? = w.heap[b]?) : NIn w' B s bs := ⟨h.len, h.cap, h.max, h.rd.keep hk⟩
theorem BIn.more {w : World} {B B' : Nat} {s : Sl} {bs : List UInt8} (h : BIn w B s bs) (hB : B ≤ B') : BIn w B' s bs := ⟨h.len, h.cap, h.max, h.rd.more hB⟩
theorem NIn.more {w : World} {B B' : Nat} {s : Sl} {bs : List Int} (h : NIn w B s bs) (hB : B ≤ B') : NIn w B' s bs := ⟨h.len, h.cap, h.max, h.rd.more hB⟩
theorem BIn.nil (w : World) (B : Nat) : BIn w B (none, 0, 0) [] := ⟨rfl, Nat.le_refl _, by simp, Rd.nil⟩
theorem NIn.nil (w : World) (B : Nat) : NIn w B (none, 0, 0) [] := ⟨rfl, Nat.le_refl _, by simp, Rd.nil⟩
theorem BIn.own {w : World} {base e n c : Nat} {A : Option Addr} {bs : List UInt8} (h : w.ownsRow base e 1 (.slice A n c) n (bs.map fun b => Value.int .u8 ((b.toNat : Nat) : Int))) : BIn w w.heap.size (A, n, c) bs := by
  obtain ⟨_, h2, h3⟩ := rd_bytes h
  exact ⟨by simpa using h.1, h2, own_cap h, h3⟩
theorem NIn.own {w : World} {base e n c : Nat} {A : Option Addr} {xs : List Int} (h : w.ownsRow base e 1 (.slice A n c) n (xs.map (Value.int .i64))) : NIn w w.heap.size (A, n, c) xs := by
  obtain ⟨_, h2, h3⟩ := rd_ints h
  exact ⟨by simpa using h.1, h2, own_cap h, h3⟩
end Go.Proofs.Ytkandhpnenmleaa

/- append of one element (a struct or not) onto a row of the call's own, at a plain region's list and at a step of a region that draws. -/
namespace Go.Proofs.Ytkandhpnenmleaa
open Go.RowKit

/-- t is the type of slices of e: size cells, so many bytes. -/
def SlT (P : Program) (t e : TypeId) (size bytes : Nat) : Prop :=
  ∃ i z, P.underlying t = some (.slice e) ∧ P.info? e = some i ∧ i.zero = some z ∧ i.size = size ∧ i.bytes = bytes ∧ z.cells.size = size ∧ 0 < size
theorem SlT.of {P : Program} {t e : TypeId} {size bytes : Nat} (hu : P.underlying t = some (.slice e)) (h : (P.info? e).bind (fun i => i.zero.map fun z => (i.size, i.bytes, z.cells.size)) = some (size, bytes, size)) (hs : 0 < size) : SlT P t e size bytes := by
  obtain ⟨i, hi, h⟩ := Option.bind_eq_some_iff.1 h
  obtain ⟨z, hz, h⟩ := Option.map_eq_some_iff.1 h
  simp only [Prod.mk.injEq] at h
  exact ⟨i, z, hu, hi, hz, h.1, h.2.1, h.2.2, hs⟩
section
variable {P : Program} {w : World} {base t e size bytes n : Nat} {v : Value} {xs : List Value}
theorem run_append1 {ty : TypeId} (hT : SlT P t e size bytes) (hown : w.ownsRow base e size v n xs) {gb : Nat} {cs : Array Value} (hsrc : Blk w gb e cs) (hcs : cs.size = size) (h1 : ∀ u ∈ cs.toList, u.oneCell' = true)
    (hn : n < 1099511627776) (hby : bytes ≤ 64) (hbase : base ≤ w.heap.size) :
    ∃ g cap w', (Builtin.append_ #[t, t] ty #[v, .slice (some ⟨gb, 0, none⟩) 1 1]).run P w = .ok (.slice (some ⟨g, 0, none⟩) (n + 1) cap) w' ∧ w'.ownsRow base e size (.slice (some ⟨g, 0, none⟩) (n + 1) cap) (n + 1) (xs ++ cs.toList) ∧
      w.grownBy w' v.ownBlock ∧ (some g = v.ownBlock ∨ g = w.heap.size) := by
  obtain ⟨i, z, ht, hi, hz, hs, hb, hzs, hsz⟩ := hT
  have hmul : (n + 1) * bytes ≤ 140737488355328 := Nat.le_trans (Nat.mul_le_mul (show n + 1 ≤ 1099511627776 by omega) hby) (by decide)
  obtain ⟨v', w', hrun, h2, h3, _, h5⟩ := run_append_own_at (P := P) w base t ty e i z size bytes ht hi hz hs hb hzs hsz v n xs hown ⟨gb, 0, none⟩ 1 1 cs.toList (by simpa using hcs)
      (fun j u hu => by
        have ea : (⟨gb, 0, none⟩ : Addr).add j = ⟨gb, j, none⟩ := by unfold Addr.add; split <;> simp_all
        rw [ea, Blk.cell hsrc j]
        simpa using hu)
      h1 (by unfold maxLen; omega) hmul hbase
  obtain ⟨g, cap, rfl⟩ := ownsRow_succ h2
  refine ⟨g, cap, w', hrun, h2, h3, ?_⟩
  rcases h5 with h5 | h5
  · exact .inl (by simpa [Value.ownBlock] using h5)
  · exact .inr (by simpa [Value.ownBlock] using h5)
theorem wpList_append1 {ops : Array Oper} {rest : List Oper} {o : Oper} {a : Act} {Q : Exit → Act → World → Prop} {s x : Operand} (hT : SlT P t e size bytes) (hgd : o.guard = none)
    (ho : o.op = .call { callee := .builtin .append, args := #[s, x], argTypes := #[t, t] }) (hs : a.eval s = v) (gb : Nat) (hx : a.eval x = .slice (some ⟨gb, 0, none⟩) 1 1)
    (hown : w.ownsRow base e size v n xs) (cs : Array Value) (hsrc : Blk w gb e cs) (hcs : cs.size = size) (h1 : ∀ u ∈ cs.toList, u.oneCell' = true) (hn : n < 1099511627776) (hby : bytes ≤ 64) (hbase : base ≤ w.heap.size)
    (hK : ∀ g cap w', w'.ownsRow base e size (.slice (some ⟨g, 0, none⟩) (n + 1) cap) (n + 1) (xs ++ cs.toList) → w.grownBy w' v.ownBlock → (some g = v.ownBlock ∨ g = w.heap.size) →
      wpList P ops Q rest (a.put o.dst (.slice (some ⟨g, 0, none⟩) (n + 1) cap)) w') : wpList P ops Q (o :: rest) a w := by
  obtain ⟨g, cap, w', hrun, h2, h3, h4⟩ := run_append1 (ty := o.type) hT hown hsrc hcs h1 hn hby hbase
  exact wpList_append_run hrun hgd ho hs hx (hK g cap w' h2 h3 h4)
theorem step_append1 {ops : Array Oper} {o : Oper} {a : Act} {K : Act → World → Prop} {Q : Exit → Act → World → Prop} {E : Prop} {s x : Operand} (hT : SlT P t e size bytes) (hgd : o.guard = none)
    (ho : o.op = .call { callee := .builtin .append, args := #[s, x], argTypes := #[t, t] }) (hs : a.eval s = v) (gb : Nat) (hx : a.eval x = .slice (some ⟨gb, 0, none⟩) 1 1)
    (hown : w.ownsRow base e size v n xs) (cs : Array Value) (hsrc : Blk w gb e cs) (hcs : cs.size = size) (h1 : ∀ u ∈ cs.toList, u.oneCell' = true) (hn : n < 1099511627776) (hby : bytes ≤ 64) (hbase : base ≤ w.heap.size)
    (hK : ∀ g cap w', w'.ownsRow base e size (.slice (some ⟨g, 0, none⟩) (n + 1) cap) (n + 1) (xs ++ cs.toList) → w.grownBy w' v.ownBlock → (some g = v.ownBlock ∨ g = w.heap.size) →
      K (a.put o.dst (.slice (some ⟨g, 0, none⟩) (n + 1) cap)) w') : if Region.wanted o (yielded ops a.tmps) = true then Oper.wp P o a w K Q else E := by
  obtain ⟨g, cap, w', hrun, h2, h3, h4⟩ := run_append1 (ty := o.type) hT hown hsrc hcs h1 hn hby hbase
  have hw : Region.wanted o (yielded ops a.tmps) = true := by simp [Region.wanted, hgd]
  rw [if_pos hw]
  unfold Oper.wp
  simp [execOp, ho, resolve, invoke, builtin, hs, hx, hrun, Result.andThen]
  exact hK g cap w' h2 h3 h4
end
end Go.Proofs.Ytkandhpnenmleaa

/- The walks of the helpers of worldmintref01: Around, Ints, Few, Short, SameInts, SameBytes. -/
namespace Go.Proofs.Ytkandhpnenmleaa
open Go.RowKit

/-- What Around returns. -/
def aroundI (n most : Int) : Int := (if n < 0 then -(n + 1) else n) % most

theorem aroundI_range (n most : Int) (h : 0 < most) : 0 ≤ aroundI n most ∧ aroundI n most < most := ⟨Int.emod_nonneg _ (by omega), Int.emod_lt_of_pos _ h⟩

set_option maxHeartbeats 400000 in
theorem around_any (n most : Int) (w : World) (h1 : -9223372036854775808 ≤ n) (h2 : n ≤ 9223372036854775807) (h3 : 0 < most) (h4 : most ≤ 9223372036854775807) :
    Calls Try.prog 14 #[.int .i64 n, .int .i64 most] w fun e w' => e = .returned (.int .i64 (aroundI n most)) ∧ w = w' := by
  by_cases h : n < 0
  · have HE := Lib.hid (show aroundI n most = (-(n + 1)).tmod most from by unfold aroundI; rw [if_pos h, Int.tmod_eq_emod_of_nonneg (by omega)])
    go_enter Try.func14, Try.ntmps14
    go_wp2
    go_ret
    rw [HE.out, Int.neg_tmod]
    exact ⟨rfl, rfl⟩
  · have HE := Lib.hid (show aroundI n most = n % most from by unfold aroundI; rw [if_neg h])
    go_enter Try.func14, Try.ntmps14
    go_wp2
    go_ret
    rw [HE.out]
    exact ⟨rfl, rfl⟩




/-- Two rows are alike. -/
def sameF (n m : Nat) (f g : Nat → Int) : Bool := decide (n = m ∧ ∀ j, j < n → f j = g j)
set_option maxHeartbeats 400000 in
theorem sameInts_any (A A' : Option Addr) (n m c c' B : Nat) (f g : Nat → Int) (w : World) (hB : B ≤ w.heap.size) (hR : Rd w B A n (fun j => .int .i64 (f j))) (hR' : Rd w B A' m (fun j => .int .i64 (g j))) (hn : n ≤ 9223372036854775807) (hm : m ≤ 9223372036854775807) :
    Calls Try.prog 38 #[.slice A n c, .slice A' m c'] w fun e w' => e = .returned (.bool (sameF n m f g)) ∧ Below w.heap.size w w' := by
  by_cases hnm : n = m
  · obtain rfl := hnm
    go_enter Try.func38, Try.ntmps38
    go_wp2
    go_loopw [5] (fun i wr => ∃ k : Nat, k ≤ n ∧ i = .int .i64 (k : Int) ∧ Hid (∀ j, j < k → f j = g j) ∧ Below w.heap.size w wr) (fun i _ => n - (intOf i).toNat)
    case atStart => exact ⟨0, by omega, rfl, fun j hj => absurd hj (by omega), Below.refl _ _⟩
    case round =>
      obtain ⟨k, hk, rfl, hj, hb⟩ := hrel
      by_cases hlt : k < n
      · obtain ⟨b, off, rfl, hbB, hc⟩ := (hR.below hb hB).at_ hlt
        obtain ⟨b', off', rfl, hbB', hc'⟩ := (hR'.below hb hB).at_ hlt
        have hi0 : (0 : Int) ≤ (k : Int) := by omega
        have hi1 : (k : Int) < (n : Int) := by omega
        by_cases he : f k = g k
        · have hd : (f k != g k) = false := by simp [he]
          go_wp2
          go_quiet (fail)
          go_wp2
          exact ⟨⟨k + 1, by omega, by go_num, fun j hjk => by rcases (show j < k ∨ j = k by omega) with h | rfl; exact hj.out j h; exact he, below_drewN hb _⟩, by simp [intOf]; omega⟩
        · have hd : (f k != g k) = true := by simp [he]
          have HF := Lib.hid (show sameF n n f g = false from decide_eq_false (fun h => he (h.2 k hlt)))
          go_wp2
          go_quiet (fail)
          go_wp2
          go_ret
          rw [HF.out]
          exact ⟨rfl, below_drewN hb _⟩
      · have HF := Lib.hid (show sameF n n f g = true from decide_eq_true ⟨rfl, fun j hjn => hj.out j (by omega)⟩)
        go_wp2
        go_ret
        rw [HF.out]
        exact ⟨rfl, hb⟩
  · have HF := Lib.hid (show sameF n m f g = false from decide_eq_false (fun h => hnm h.1))
    have hd : ((n : Int) != (m : Int)) = true := by simp; omega
    go_enter Try.func38, Try.ntmps38
    go_wp2
    go_ret
    rw [HF.out]
    exact ⟨rfl, Below.refl _ _⟩







theorem sameInts_list (A A' : Option Addr) (n m c c' : Nat) (xs ys : List Int) (w : World) (hx : Hid (xs.length = n)) (hy : Hid (ys.length = m)) (hR : Rd w w.heap.size A n (vInt xs)) (hR' : Rd w w.heap.size A' m (vInt ys)) (hn : n ≤ 9223372036854775807) (hm : m ≤ 9223372036854775807) :
    Calls Try.prog 38 #[.slice A n c, .slice A' m c'] w fun e w' => e = .returned (.bool (decide (xs = ys))) ∧ Below w.heap.size w w' := by
  refine (sameInts_any A A' n m c c' w.heap.size (fun j => xs[j]?.getD 0) (fun j => ys[j]?.getD 0) w (Nat.le_refl _) hR hR' hn hm).mono ?_
  rintro e w' ⟨rfl, hb⟩
  refine ⟨?_, hb⟩
  congr 2
  unfold sameF
  rw [decide_eq_decide]
  have h1 := hx.out
  have h2 := hy.out
  constructor
  · rintro ⟨h, hj⟩
    refine List.ext_getElem (by omega) fun i hi hi' => ?_
    have := hj i (by omega)
    simp [hi, hi'] at this
    exact this
  · rintro rfl
    exact ⟨by omega, fun _ _ => rfl⟩
theorem sameInts_true (A A' : Option Addr) (n m c c' : Nat) (xs ys : List Int) (w : World) (he : xs = ys) (hx : Hid (xs.length = n)) (hy : Hid (ys.length = m)) (hR : Rd w w.heap.size A n (vInt xs)) (hR' : Rd w w.heap.size A' m (vInt ys)) (hn : n ≤ 9223372036854775807) (hm : m ≤ 9223372036854775807) :
    Calls Try.prog 38 #[.slice A n c, .slice A' m c'] w fun e w' => e = .returned (.bool true) ∧ Below w.heap.size w w' :=
  (sameInts_list A A' n m c c' xs ys w hx hy hR hR' hn hm).mono fun e w' ⟨h, hb⟩ => ⟨by rw [h, decide_eq_true he], hb⟩






theorem around_nat (n : Int) (m : Nat) (mi : Int) (w : World) (hmi : mi = (m : Int)) (h1 : -9223372036854775808 ≤ n) (h2 : n ≤ 9223372036854775807) (h3 : 0 < m) (h4 : m ≤ 9223372036854775807) :
    Calls Try.prog 14 #[.int .i64 n, .int .i64 mi] w fun e w' => ∃ k : Nat, e = .returned (.int .i64 (k : Int)) ∧ k < m ∧ Hid ((k : Int) = aroundI n m) ∧ w = w' := by
  subst hmi
  have hr := aroundI_range n m (by omega)
  refine (around_any n m w h1 h2 (by omega) (by omega)).mono ?_
  rintro e w' ⟨rfl, rfl⟩
  exact ⟨(aroundI n m).toNat, by rw [Int.toNat_of_nonneg hr.1], by omega, by show _ = _; omega, rfl⟩


end Go.Proofs.Ytkandhpnenmleaa

/- proof: rows of structs that are read; sets of ints. -/
namespace Go.Proofs.Ytkandhpnenmleaa
open Go.RowKit

/-- A slice of structs of some cells each, that is read. -/
structure Rows {α : Type} (f : α → List Value) (size : Nat) (w : World) (s : Sl) (L : List α) : Prop where
  len : L.length = s.2.1
  cap : s.2.1 ≤ s.2.2
  max : s.2.2 ≤ 9223372036854775807
  rd : Rd w w.heap.size s.1 (L.length * size) (fun j => ((L.flatMap f)[j]?).getD undef)
section
variable {α : Type} {f : α → List Value} {size : Nat} {w w' : World} {s : Sl} {L : List α}
theorem Rows.all (h : Rows f size w s L) (hb : Below w.heap.size w w') : Rows f size w' s L := ⟨h.len, h.cap, h.max, h.rd.all hb⟩
theorem Rows.nil : Rows f size w (none, 0, 0) [] := ⟨rfl, Nat.le_refl _, by simp, by simpa using Rd.nil⟩
theorem flat_len (hf : ∀ x, (f x).length = size) (L : List α) : (L.flatMap f).length = L.length * size := by
  induction L with
  | nil => simp
  | cons x L ih => rw [List.flatMap_cons, List.length_append, ih, hf, List.length_cons, Nat.add_mul]; omega
theorem flat_at (hf : ∀ x, (f x).length = size) : ∀ (L : List α) (k i : Nat) (hk : k < L.length), i < size → (L.flatMap f)[k * size + i]? = (f L[k])[i]?
  | [], k, i, hk, _ => absurd hk (by simp)
  | x :: L, 0, i, hk, hi => by
    rw [List.flatMap_cons, Nat.zero_mul, Nat.zero_add, List.getElem?_append_left (by rw [hf]; exact hi)]
    rfl
  | x :: L, k + 1, i, hk, hi => by
    rw [List.flatMap_cons, Nat.add_mul, Nat.one_mul, List.getElem?_append_right (by rw [hf]; omega), hf]
    have e : k * size + size + i - size = k * size + i := by omega
    rw [e, flat_at hf L k i (by simpa using hk) hi]
    rfl
theorem Rows.cells (hf : ∀ x, (f x).length = size) (h : Rows f size w s L) {k : Nat} (hk : k < L.length) (hs : 0 < size) : ∃ b off, s.1 = some ⟨b, off, none⟩ ∧ b < w.heap.size ∧ ∀ i v, (f L[k])[i]? = some v → w.cell? ⟨b, off + (k * size + i), none⟩ = some v := by
  obtain ⟨b, off, e, hb, hc⟩ := h.rd (Nat.mul_pos (by omega) hs)
  refine ⟨b, off, e, hb, fun i v hv => ?_⟩
  have hi : i < size := by
    have := (List.getElem?_eq_some_iff.1 hv).1
    rw [hf] at this
    exact this
  have hlt : k * size + i < L.length * size := by
    have h1 : (k + 1) * size ≤ L.length * size := Nat.mul_le_mul_right _ hk
    rw [Nat.add_mul, Nat.one_mul] at h1
    omega
  rw [hc _ hlt]
  dsimp only
  rw [flat_at hf L k i hk hi, hv]
  rfl
theorem Rows.of_own {base e n c : Nat} {A : Option Addr} (hf : ∀ x, (f x).length = size) (h : w.ownsRow base e size (.slice A n c) n (L.flatMap f)) (hs : 0 < size) : Rows f size w (A, n, c) L := by
  have hl : L.length = n := by
    have := h.1
    rw [flat_len hf] at this
    exact Nat.eq_of_mul_eq_mul_right hs this
  rcases h.2 with ⟨h2, h0⟩ | ⟨g, cap, cur, h2, hbg, hh, hnc, hcm, hcs, htk⟩
  · injection h2 with h2 h3 h4
    subst h2 h3 h4
    refine ⟨hl, Nat.le_refl _, by simp, ?_⟩
    rw [hl, Nat.zero_mul]
    exact Rd.nil
  · injection h2 with h2 _ h3
    subst h2 h3
    refine ⟨hl, hnc, hcm, fun _ => ⟨g, 0, rfl, (Array.getElem?_eq_some_iff.1 hh).1, fun j hj => ?_⟩⟩
    rw [hl] at hj
    have hmul : n * size ≤ c * size := Nat.mul_le_mul_right _ hnc
    have hj2 : j < cur.size := by rw [hcs]; omega
    dsimp only
    rw [Nat.zero_add, ← htk, List.getElem?_take_of_lt hj]
    simp [World.cell?, hh, hj2]
end
/-- A bid, and its slice of lots. -/
structure Bd where
  bidder : Int
  price : Int
  s : Sl
  lots : List Int
def Bd.cells (b : Bd) : List Value := [.int .i64 b.bidder, .int .i64 b.price, slV b.s]
theorem Bd.cells_length (b : Bd) : b.cells.length = 3 := rfl
def Bd.val (b : Bd) : Value := .agg #[.int .i64 b.bidder, .int .i64 b.price, slV b.s]
def Bd.ok (w : World) (b : Bd) : Prop := NIn w w.heap.size b.s b.lots
theorem NIn.all {w w' : World} {s : Sl} {xs : List Int} (h : NIn w w.heap.size s xs) (hb : Below w.heap.size w w') : NIn w' w'.heap.size s xs := (h.keep (fun b hlt => hb.block b hlt)).more hb.size
theorem Bd.ok.all {w w' : World} {b : Bd} (h : b.ok w) (hb : Below w.heap.size w w') : b.ok w' := NIn.all h hb
/-- A list of bids. -/
structure Bds (w : World) (s : Sl) (L : List Bd) : Prop where
  rows : Rows Bd.cells 3 w s L
  ok : ∀ b ∈ L, b.ok w
theorem Bds.all {w w' : World} {s : Sl} {L : List Bd} (h : Bds w s L) (hb : Below w.heap.size w w') : Bds w' s L := ⟨h.rows.all hb, fun b hb' => (h.ok b hb').all hb⟩
theorem Bds.cell {w : World} {s : Sl} {L : List Bd} (h : Bds w s L) {k : Nat} (hk : k < L.length) : ∃ b off, s.1 = some ⟨b, off, none⟩ ∧ b < w.heap.size ∧ w.cell? ⟨b, off + k * 3, none⟩ = some (.int .i64 L[k].bidder) ∧ w.cell? ⟨b, off + k * 3 + 1, none⟩ = some (.int .i64 L[k].price) ∧ w.cell? ⟨b, off + k * 3 + 2, none⟩ = some (slV L[k].s) ∧ L[k].ok w := by
  obtain ⟨b, off, e, hb, hc⟩ := h.rows.cells Bd.cells_length hk (by decide)
  exact ⟨b, off, e, hb, hc 0 _ rfl, hc 1 _ rfl, hc 2 _ rfl, h.ok _ (List.getElem_mem hk)⟩
/-- A node of a certificate, and its slice of prices. -/
structure Nd where
  bid : Int
  inn : Int
  out : Int
  s : Sl
  prices : List Int
def Nd.cells (x : Nd) : List Value := [.int .i64 x.bid, .int .i64 x.inn, .int .i64 x.out, slV x.s]
theorem Nd.cells_length (x : Nd) : x.cells.length = 4 := rfl
def Nd.ok (w : World) (x : Nd) : Prop := NIn w w.heap.size x.s x.prices
theorem Nd.ok.all {w w' : World} {x : Nd} (h : x.ok w) (hb : Below w.heap.size w w') : x.ok w' := NIn.all h hb
structure Nds (w : World) (s : Sl) (L : List Nd) : Prop where
  rows : Rows Nd.cells 4 w s L
  ok : ∀ b ∈ L, b.ok w
theorem Nds.all {w w' : World} {s : Sl} {L : List Nd} (h : Nds w s L) (hb : Below w.heap.size w w') : Nds w' s L := ⟨h.rows.all hb, fun b hb' => (h.ok b hb').all hb⟩
theorem Nds.cell {w : World} {s : Sl} {L : List Nd} (h : Nds w s L) {k : Nat} (hk : k < L.length) : ∃ b off, s.1 = some ⟨b, off, none⟩ ∧ b < w.heap.size ∧ w.cell? ⟨b, off + k * 4, none⟩ = some (.int .i64 L[k].bid) ∧ w.cell? ⟨b, off + k * 4 + 1, none⟩ = some (.int .i64 L[k].inn) ∧ w.cell? ⟨b, off + k * 4 + 2, none⟩ = some (.int .i64 L[k].out) ∧ w.cell? ⟨b, off + k * 4 + 3, none⟩ = some (slV L[k].s) ∧ L[k].ok w := by
  obtain ⟨b, off, e, hb, hc⟩ := h.rows.cells Nd.cells_length hk (by decide)
  exact ⟨b, off, e, hb, hc 0 _ rfl, hc 1 _ rfl, hc 2 _ rfl, hc 3 _ rfl, h.ok _ (List.getElem_mem hk)⟩
/-- A cell of a slice of ints. -/
theorem NIn.cell {w : World} {B : Nat} {s : Sl} {xs : List Int} (h : NIn w B s xs) {k : Nat} (hk : k < s.2.1) : ∃ b off, s.1 = some ⟨b, off, none⟩ ∧ b < B ∧ w.cell? ⟨b, off + k, none⟩ = some (.int .i64 (xs[k]?.getD 0)) := h.rd.at_ hk
/-- A map[int]bool that holds the set S. -/
def SetAt (w : World) (mb : Nat) (S : List Int) : Prop := ∃ es, IMap w mb es ∧ (∀ p ∈ es, p.2 = .bool true) ∧ ∀ x, x ∈ es.map Prod.fst ↔ x ∈ S
theorem SetAt.all {w w' : World} {mb : Nat} {S : List Int} (h : SetAt w mb S) (hb : Below w.heap.size w w') : SetAt w' mb S := by
  obtain ⟨es, h1, h2, h3⟩ := h
  exact ⟨es, h1.all hb, h2, h3⟩
theorem SetAt.grown {w w' : World} {mb : Nat} {S : List Int} {r : Option Nat} (h : SetAt w mb S) (hg : w.grownBy w' r) (hne : r ≠ some mb) : SetAt w' mb S := by
  obtain ⟨es, h1, h2, h3⟩ := h
  exact ⟨es, h1.keep (hg.block mb h1.lt (fun e => hne e.symm)), h2, h3⟩
theorem SetAt.lt {w : World} {mb : Nat} {S : List Int} (h : SetAt w mb S) : mb < w.heap.size := by
  obtain ⟨es, h1, -⟩ := h
  exact h1.lt
theorem SetAt.new (w : World) : SetAt (w.alloc (.map #[] 0)) w.heap.size [] := ⟨[], IMap.new w, fun _ h => absurd h (by simp), by simp⟩
theorem SetAt.congr {w : World} {mb : Nat} {S T : List Int} (h : SetAt w mb S) (he : ∀ x, x ∈ S ↔ x ∈ T) : SetAt w mb T := by
  obtain ⟨es, h1, h2, h3⟩ := h
  exact ⟨es, h1, h2, fun x => (h3 x).trans (he x)⟩
theorem infoBool : ∃ i, Try.prog.info? 4 = some i ∧ i.zero = some (.bool false) := by
  have h : (Try.prog.info? 4).map (fun i => i.zero) = some (some (.bool false)) := by kernel_rfl
  obtain ⟨i, hi, hz⟩ := Option.map_eq_some_iff.1 h
  exact ⟨i, hi, hz⟩
theorem put_mem {es : List (Int × Value)} {k : Int} {v : Value} {p : Int × Value} (h : p ∈ put es k v) : p = (k, v) ∨ p ∈ es := by
  induction es with
  | nil => simp [put] at h; exact .inl h
  | cons q es ih =>
    unfold put at h
    split at h
    · rcases List.mem_cons.1 h with h | h
      · exact .inl h
      · exact .inr (List.mem_cons_of_mem _ h)
    · rcases List.mem_cons.1 h with h | h
      · exact .inr (by rw [h]; exact List.mem_cons_self)
      · exact (ih h).imp id (List.mem_cons_of_mem _)
end Go.Proofs.Ytkandhpnenmleaa

/- bids: set, Conflict. -/
namespace Go.Proofs.Ytkandhpnenmleaa
open Go.RowKit

theorem run_makeMapN {P : Program} {t kt e : TypeId} (ht : P.underlying t = some (.map kt e)) (k : IntKind) (n : Int) (w : World) : (Instr.makeMap t (some (.int k n))).run P w = .ok (.map (some w.heap.size)) (w.alloc (.map #[] 0)) := by
  simp [Instr.makeMap, run_underlying ht, asInt, Result.andThen]
  rfl
def SetPost (xs : List Int) (w : World) (e : Ending) (w' : World) : Prop := ∃ mb, e = .returned (.map (some mb)) ∧ SetAt w' mb xs ∧ w.heap.size ≤ mb ∧ Below w.heap.size w w'
/-- The index of the first number for which p holds, or -1. -/
def idxP (p : Int → Bool) (xs : List Int) : Int := match xs.findIdx? p with | some k => (k : Int) | none => -1
theorem idxP_nonneg (p : Int → Bool) (xs : List Int) : decide (0 ≤ idxP p xs) = xs.any p := by
  unfold idxP
  cases h : xs.findIdx? p with
  | some k =>
    obtain ⟨hk, hp, -⟩ := List.findIdx?_eq_some_iff_getElem.1 h
    have : xs.any p = true := List.any_eq_true.2 ⟨_, List.getElem_mem hk, hp⟩
    rw [this]
    simp
  | none =>
    have : xs.any p = false := by
      rw [List.any_eq_false]
      intro x hx
      simpa using List.findIdx?_eq_none_iff.1 h x hx
    rw [this]
    rfl
/-- Do two bids conflict? -/
def confB (a b : Bd) : Bool := decide (a.bidder = b.bidder) || b.lots.any fun x => decide (x ∈ a.lots)
theorem confB_comm (a b : Bd) : confB a b = confB b a := by
  unfold confB
  have h1 : decide (a.bidder = b.bidder) = decide (b.bidder = a.bidder) := by rw [decide_eq_decide]; exact eq_comm
  have h2 : (b.lots.any fun x => decide (x ∈ a.lots)) = a.lots.any fun x => decide (x ∈ b.lots) := by
    rw [Bool.eq_iff_iff, List.any_eq_true, List.any_eq_true]
    constructor <;> (rintro ⟨x, h1, h2⟩; exact ⟨x, by simpa using h2, by simpa using h1⟩)
  rw [h1, h2]
theorem NIn.drew {w : World} {s : Sl} {xs : List Int} (h : NIn w w.heap.size s xs) : NIn w.drew w.drew.heap.size s xs := h.all (w' := w.drew) ⟨rfl, rfl, rfl, Nat.le_refl _, fun _ _ => rfl⟩
end Go.Proofs.Ytkandhpnenmleaa

/- proof: possible, decide. -/
namespace Go.Proofs.Ytkandhpnenmleaa
open Go.RowKit

theorem setRow_heap {w : World} {g : Nat} {cur : Array Value} {e : TypeId} (h : w.heap[g]? = some (.cells cur e (0, 0))) (cs : Array Value) : (w.setRow g cs).heap[g]? = some (.cells cs e (0, 0)) := by
  simp [World.setRow, Array.getElem?_modify, h]
theorem setRow_grown (w : World) (g : Nat) (cs : Array Value) : w.grownBy (w.setRow g cs) (some g) :=
  ⟨rfl, rfl, rfl, by simp [World.setRow], fun k _ hne => by
    have : g ≠ k := fun e => hne (by rw [e])
    simp [World.setRow, Array.getElem?_modify, this]⟩
/-- 'copy' of a slice of ints over a row of the call's own of the same length. -/
theorem run_copyInts {P : Program} {w : World} {base t e bytes g n cap B : Nat} {ys : List Value} {xs : List Int} {s : Sl} {ty : TypeId} (hT : SlT P t e 1 bytes) (ho : w.ownsRow base e 1 (.slice (some ⟨g, 0, none⟩) n cap) n ys) (hx : NIn w B s xs) (hs : s.2.1 = n) (h0 : 0 < n) :
    ∃ w', (Builtin.copy_ #[t, t] ty #[.slice (some ⟨g, 0, none⟩) n cap, slV s]).run P w = .ok (.int .i64 (n : Int)) w' ∧ w'.ownsRow base e 1 (.slice (some ⟨g, 0, none⟩) n cap) n (xs.map (Value.int .i64)) ∧ w.grownBy w' (some g) := by
  obtain ⟨ti, z, ht, hti, hz, hs1, hb, hzs, hsz⟩ := hT
  obtain ⟨A, n', c⟩ := s
  obtain rfl : n' = n := hs
  have hl : (xs.map (Value.int .i64)).length = n' := by rw [List.length_map]; exact hx.len
  obtain ⟨hlx, h2⟩ := ho
  rcases h2 with ⟨h2, h0⟩ | ⟨g', cap', cur, h2, hbg, hh, hnc, hcm, hcs, htk⟩
  · cases h2
  · injection h2 with h2 _ h3
    injection h2 with h2
    injection h2 with h2
    subst h2 h3
    have hcl : cur.toList.length = cap := by simpa using hcs
    unfold slV
    dsimp only
    obtain ⟨b, off, rfl, -, hc⟩ := hx.rd h0
    have hnews : ∀ (j : Nat) (u : Value), (xs.map (Value.int .i64))[j]? = some u → w.cell? ((⟨b, off, none⟩ : Addr).add j) = some u := by
      intro j u hu
      have hj : j < n' := by
        have := (List.getElem?_eq_some_iff.1 hu).1
        rw [hl] at this
        exact this
      have ea : (⟨b, off, none⟩ : Addr).add j = ⟨b, off + j, none⟩ := by unfold Addr.add; split <;> simp_all
      rw [ea, hc j hj, ← hu]
      have hjx : j < xs.length := by rw [hx.len]; exact hj
      simp [vInt, hjx]
    have hld := run_loadCells_list (P := P) w ⟨b, off, none⟩ (xs.map (Value.int .i64)) hnews
    have hst := run_storeCells_at P g 0 e (xs.map (Value.int .i64)) 0 cur w hh (by rw [← Array.length_toList, hcl, hl]; omega) (fun u hu => by
      obtain ⟨x, -, rfl⟩ := List.mem_map.1 hu
      rfl)
    refine ⟨w.setRow g (cur.toList.take (0 + 0) ++ xs.map (Value.int .i64) ++ cur.toList.drop (0 + 0 + (xs.map (Value.int .i64)).length)).toArray, ?_, ⟨by rw [hl, Nat.mul_one], .inr ⟨g, cap, (cur.toList.take (0 + 0) ++ xs.map (Value.int .i64) ++ cur.toList.drop (0 + 0 + (xs.map (Value.int .i64)).length)).toArray, rfl, hbg, setRow_heap hh _, hnc, hcm, ?_, ?_⟩⟩, setRow_grown _ _ _⟩
    · rw [hl] at hld
      simp [Builtin.copy_, run_underlying ht, sizeOf, typeInfo, hti, hs1, Builtin.lenOf, Builtin.firstCells, goInt, hld, hst]
    · simp only [List.size_toArray, List.length_append, List.length_take, List.length_drop, hcl, hl]
      omega
    · simp only [Nat.add_zero, List.take_zero, List.nil_append]
      rw [List.take_append_of_le_length (by rw [hl]; omega), List.take_of_length_le (by rw [hl]; omega)]
theorem slT_ints : SlT Try.prog 22 3 1 8 := SlT.of Try.underlying22 (by kernel_rfl) (by decide)
theorem int_info : (Try.prog.info? 3).map (fun i => (i.zero, i.size, i.bytes)) = some (some (.int .i64 0), 1, 8) := by kernel_rfl
/-- What decide returns. -/
def DecPost (xs : List Int) (w : World) (e : Ending) (w' : World) : Prop := ∃ s' : Sl, e = .returned (slV s') ∧ s'.2.1 = xs.length ∧ NIn w' w'.heap.size s' xs ∧ Below w.heap.size w w'
end Go.Proofs.Ytkandhpnenmleaa

/- append of a whole row, or of one element, onto a row of the call's own. -/
namespace Go.Proofs.Ytkandhpnenmleaa
open Go.RowKit

theorem own_split {w : World} {base e size n : Nat} {v : Value} {xs : List Value} (h : w.ownsRow base e size v n xs) : ∃ A c, v = .slice A n c := by
  rcases h.2 with ⟨h, h0⟩ | ⟨g1, cap, cur, h, _⟩
  · exact ⟨none, 0, by rw [h, h0]⟩
  · exact ⟨_, _, h⟩
theorem own_below {w w' : World} {base e size n : Nat} {v : Value} {xs : List Value} (h : w.ownsRow base e size v n xs) (hg : w.grownBy w' v.ownBlock) (hB : base ≤ w.heap.size) : Below base w w' := by
  refine (Below.refl base w).grown hg hB (fun k e => ?_)
  rcases h.2 with ⟨rfl, _⟩ | ⟨g, cap, cur, rfl, hg2, _⟩
  · cases e
  · simp [Value.ownBlock] at e
    omega
section
variable {P : Program} {w : World} {base t e size bytes n : Nat} {v : Value} {xs : List Value}
/-- append of a slice whose cells are known. -/
theorem app_cells {ty : TypeId} (hT : SlT P t e size bytes) (hown : w.ownsRow base e size v n xs) (A : Option Addr) (m c : Nat) (news : List Value) (hl : news.length = m * size) (hA : A = none → m = 0)
    (hnews : ∀ ad, A = some ad → ∀ j u, news[j]? = some u → w.cell? (ad.add j) = some u) (h1 : ∀ u ∈ news, u.oneCell' = true) (hn : n + m < 1099511627776) (hby : bytes ≤ 64) (hbase : base ≤ w.heap.size) :
    ∃ A' c' w', (Builtin.append_ #[t, t] ty #[v, .slice A m c]).run P w = .ok (.slice A' (n + m) c') w' ∧ w'.ownsRow base e size (.slice A' (n + m) c') (n + m) (xs ++ news) ∧ Below base w w' := by
  have hT' := hT
  obtain ⟨i, z, ht, hi, hz, hs, hb, hzs, hsz⟩ := hT
  rcases A with _ | ad
  · have hm := hA rfl
    subst hm
    have hnil : news = [] := List.eq_nil_of_length_eq_zero (by simpa using hl)
    subst hnil
    obtain ⟨A', c', rfl⟩ := own_split hown
    refine ⟨A', c', w, ?_, by simpa using hown, Below.refl _ _⟩
    rcases hown.2 with ⟨h, h0⟩ | ⟨g, cap, cur, h, _, _, hnc, _⟩
    · cases h
      simp [Builtin.append_, run_underlying ht, sizeOf, typeInfo, hi, Builtin.lenOf, Builtin.firstCells]
    · injection h with h _ h3
      subst h h3
      simp [Builtin.append_, run_underlying ht, sizeOf, typeInfo, hi, Builtin.lenOf, Builtin.firstCells, hnc, storeCells]
  · have hmul : (n + m) * bytes ≤ 140737488355328 := Nat.le_trans (Nat.mul_le_mul (show n + m ≤ 1099511627776 by omega) hby) (by decide)
    obtain ⟨v', w', hrun, h2, h3, _, h5⟩ := run_append_own_at (P := P) w base t ty e i z size bytes ht hi hz hs hb hzs hsz v n xs hown ad m c news hl (hnews ad rfl) h1 (by unfold maxLen; omega) hmul hbase
    obtain ⟨A', c', rfl⟩ := own_split h2
    exact ⟨A', c', w', hrun, h2, own_below hown h3 hbase⟩
/-- append of one element that lies in a block of its own. -/
theorem app_one {ty : TypeId} (hT : SlT P t e size bytes) (hown : w.ownsRow base e size v n xs) {gb : Nat} {cs : Array Value} (hsrc : Blk w gb e cs) (hcs : cs.size = size) (h1 : ∀ u ∈ cs.toList, u.oneCell' = true)
    (hn : n < 1099511627776) (hby : bytes ≤ 64) (hbase : base ≤ w.heap.size) :
    ∃ A' c' w', (Builtin.append_ #[t, t] ty #[v, .slice (some ⟨gb, 0, none⟩) 1 1]).run P w = .ok (.slice A' (n + 1) c') w' ∧ w'.ownsRow base e size (.slice A' (n + 1) c') (n + 1) (xs ++ cs.toList) ∧ Below base w w' := by
  obtain ⟨g, cap, w', hrun, h2, h3, -⟩ := run_append1 (ty := ty) hT hown hsrc hcs h1 hn hby hbase
  exact ⟨_, _, w', hrun, h2, own_below hown h3 hbase⟩
/-- A step of a region that draws: append, its guard met. -/
theorem step_app {w w' : World} {ops : Array Oper} {o : Oper} {a : Act} {K : Act → World → Prop} {Q : Exit → Act → World → Prop} {E : Prop} {s x : Operand} {v vx v' : Value} (hrun : (Builtin.append_ #[t, t] o.type #[v, vx]).run P w = .ok v' w')
    (hw : Region.wanted o (yielded ops a.tmps) = true) (ho : o.op = .call { callee := .builtin .append, args := #[s, x], argTypes := #[t, t] }) (hs : a.eval s = v) (hx : a.eval x = vx)
    (hK : K (a.put o.dst v') w') : if Region.wanted o (yielded ops a.tmps) = true then Oper.wp P o a w K Q else E := by
  rw [if_pos hw]
  unfold Oper.wp
  simp [execOp, ho, resolve, invoke, builtin, hs, hx, hrun, Result.andThen]
  exact hK
end
/-- What reads as cells. -/
theorem Rows.news {α : Type} {f : α → List Value} {size : Nat} {w : World} {s : Sl} {L : List α} (hf : ∀ x, (f x).length = size) (h : Rows f size w s L) : ∀ ad, s.1 = some ad → ∀ j u, (L.flatMap f)[j]? = some u → w.cell? (ad.add j) = some u := by
  intro ad e j u hu
  have hj := (List.getElem?_eq_some_iff.1 hu).1
  rw [flat_len hf] at hj
  obtain ⟨b, off, e2, -, hc⟩ := h.rd (by omega)
  rw [e] at e2
  injection e2 with e2
  subst e2
  have ea : (⟨b, off, none⟩ : Addr).add j = ⟨b, off + j, none⟩ := by unfold Addr.add; split <;> simp_all
  rw [ea, hc j hj]
  dsimp only
  rw [hu]
  rfl
theorem Rows.none_ {α : Type} {f : α → List Value} {size : Nat} {w : World} {s : Sl} {L : List α} (h : Rows f size w s L) (hs : 0 < size) : s.1 = none → s.2.1 = 0 := by
  intro e
  rw [← h.len]
  rcases Nat.eq_zero_or_pos L.length with h0 | h0
  · exact h0
  · obtain ⟨_, _, e2, _⟩ := h.rd (Nat.mul_pos h0 hs)
    rw [e] at e2
    cases e2
theorem NIn.news {w : World} {B : Nat} {s : Sl} {xs : List Int} (h : NIn w B s xs) : ∀ ad, s.1 = some ad → ∀ j u, (xs.map (Value.int .i64))[j]? = some u → w.cell? (ad.add j) = some u := by
  intro ad e j u hu
  have hj := (List.getElem?_eq_some_iff.1 hu).1
  rw [List.length_map, h.len] at hj
  obtain ⟨b, off, e2, -, hc⟩ := h.cell hj
  rw [e] at e2
  injection e2 with e2
  subst e2
  have ea : (⟨b, off, none⟩ : Addr).add j = ⟨b, off + j, none⟩ := by unfold Addr.add; split <;> simp_all
  rw [ea, hc, ← hu]
  have hj2 : j < xs.length := by rw [h.len]; exact hj
  simp [hj2]
theorem NIn.none_ {w : World} {B : Nat} {s : Sl} {xs : List Int} (h : NIn w B s xs) : s.1 = none → s.2.1 = 0 := by
  intro e
  rcases Nat.eq_zero_or_pos s.2.1 with h0 | h0
  · exact h0
  · obtain ⟨_, _, e2, _⟩ := h.cell h0
    rw [e] at e2
    cases e2
/-- A row of ints of the call's own. -/
def OwnI (w : World) (B : Nat) (A : Option Addr) (n c : Nat) (xs : List Int) : Prop := w.ownsRow B 3 1 (.slice A n c) n (xs.map (Value.int .i64))
theorem OwnI.nin {w : World} {B n c : Nat} {A : Option Addr} {xs : List Int} (h : OwnI w B A n c xs) : NIn w w.heap.size (A, n, c) xs := NIn.own h
theorem OwnI.all {w w' : World} {B n c : Nat} {A : Option Addr} {xs : List Int} (h : OwnI w B A n c xs) (hb : Below w.heap.size w w') : OwnI w' B A n c xs := own_keep h hb
theorem OwnI.nil (w : World) (B : Nat) : OwnI w B none 0 0 [] := World.ownsRow_nil w B _ 1
/-- append(nil, xs...). -/
theorem app_ints {w : World} {s : Sl} {xs : List Int} (B : Nat) (ty : TypeId) (h : NIn w w.heap.size s xs) (hn : s.2.1 ≤ 1000000) (hB : B ≤ w.heap.size) :
    ∃ A' c' w', (Builtin.append_ #[22, 22] ty #[.slice none 0 0, slV s]).run Try.prog w = .ok (.slice A' s.2.1 c') w' ∧ OwnI w' B A' s.2.1 c' xs ∧ Below w.heap.size w w' := by
  obtain ⟨A', c', w', hrun, hown, hb⟩ := app_cells (ty := ty) (base := w.heap.size) slT_ints (World.ownsRow_nil w w.heap.size _ 1) s.1 s.2.1 s.2.2 (xs.map (Value.int .i64)) (by rw [List.length_map, h.len, Nat.mul_one]) h.none_ h.news (by
    intro u hu
    obtain ⟨x, -, rfl⟩ := List.mem_map.1 hu
    rfl) (by omega) (by decide) (Nat.le_refl _)
  rw [Nat.zero_add] at hrun hown
  rw [List.nil_append] at hown
  refine ⟨A', c', w', hrun, ⟨hown.1, ?_⟩, hb⟩
  rcases hown.2 with h2 | ⟨g, cap, cur, h2, h3, h4⟩
  · exact .inl h2
  · exact .inr ⟨g, cap, cur, h2, Nat.le_trans hB h3, h4⟩
/-- append of one int that a literal holds. -/
theorem app_int {w : World} {B n c : Nat} {A : Option Addr} {xs : List Int} (ty : TypeId) (x : Int) (h : OwnI w B A n c xs) (hn : n ≤ 1000000) (hB : B ≤ w.heap.size) :
    ∃ A' c' w', (Builtin.append_ #[22, 22] ty #[.slice A n c, .slice (some ⟨w.heap.size, 0, none⟩) 1 1]).run Try.prog (w.alloc (.cells #[.int .i64 x] 3)) = .ok (.slice A' (n + 1) c') w' ∧ OwnI w' B A' (n + 1) c' (xs ++ [x]) ∧ Below B w w' := by
  obtain ⟨A', c', w', hrun, hown, hb⟩ := app_one (ty := ty) (w := w.alloc (.cells #[.int .i64 x] 3)) slT_ints (World.ownsRow.alloc h _) (Blk.new w 3 #[.int .i64 x]) rfl (by intro u hu; simp at hu; subst hu; rfl) (by omega) (by decide) (by simp; omega)
  refine ⟨A', c', w', hrun, ?_, ((Below.refl B w).alloc hB _).trans hb⟩
  unfold OwnI
  rw [List.map_append]
  exact hown
/-- append of one element that a literal holds. -/
theorem app_elem {P : Program} {w : World} {B t e size bytes n c : Nat} {A : Option Addr} {xs : List Value} (ty : TypeId) (hT : SlT P t e size bytes) (h : w.ownsRow B e size (.slice A n c) n xs) (cs : Array Value) (hcs : cs.size = size) (h1 : ∀ u ∈ cs.toList, u.oneCell' = true) (hn : n ≤ 1000000) (hby : bytes ≤ 64) (hB : B ≤ w.heap.size) :
    ∃ A' c' w', (Builtin.append_ #[t, t] ty #[.slice A n c, .slice (some ⟨w.heap.size, 0, none⟩) 1 1]).run P (w.alloc (.cells cs e)) = .ok (.slice A' (n + 1) c') w' ∧ w'.ownsRow B e size (.slice A' (n + 1) c') (n + 1) (xs ++ cs.toList) ∧ Below B w w' ∧ w.grownBy w' (Value.slice A n c).ownBlock := by
  have hg0 : w.grownBy (w.alloc (.cells cs e)) (Value.slice A n c).ownBlock := World.grownBy_alloc w _ _
  obtain ⟨g, cap, w', hrun, h2, h3, -⟩ := run_append1 (ty := ty) (w := w.alloc (.cells cs e)) hT (h.alloc _) (Blk.new w e cs) hcs h1 (by omega) hby (by simp; omega)
  exact ⟨_, _, w', hrun, h2, own_below h (hg0.trans h3) hB, hg0.trans h3⟩
/-- A row of another element's type stays. -/
theorem own_other {w w' : World} {B B' e e' size size' n n' : Nat} {v v' : Value} {xs ys : List Value} (h : w.ownsRow B e size v n xs) (h' : w.ownsRow B' e' size' v' n' ys) (hne : e ≠ e') (hg : w.grownBy w' v'.ownBlock) : w'.ownsRow B e size v n xs := by
  refine h.kept hg ?_
  rcases h.2 with ⟨rfl, _⟩ | ⟨g, cap, cur, rfl, -, hh, -⟩
  · exact .inl rfl
  · right
    rcases h'.2 with ⟨rfl, _⟩ | ⟨g', cap', cur', rfl, -, hh', -⟩
    · simp [Value.ownBlock]
    · simp only [Value.ownBlock]
      intro he
      injection he with he
      subst he
      rw [hh] at hh'
      injection hh' with hh'
      injection hh' with _ he _
      exact hne he
end Go.Proofs.Ytkandhpnenmleaa

/- A row of cells of one element's type that is only read (nil let in). -/
namespace Go.Proofs.Ytkandhpnenmleaa
open Go.RowKit

def RowT (w : World) (t : TypeId) (A : Option Addr) (xs : List Value) : Prop := 0 < xs.length → ∃ b off cs fr, A = some ⟨b, off, none⟩ ∧ w.heap[b]? = some (.cells cs t fr) ∧ ∀ j, j < xs.length → cs[off + j]? = xs[j]?
section
variable {w w' : World} {t : TypeId} {A : Option Addr} {xs : List Value} {F : Nat → Prop}
theorem RowT.nil (w : World) (t : TypeId) (A : Option Addr) : RowT w t A [] := fun h => absurd h (by simp)
theorem RowT.mod (h : RowT w t A xs) (m : Mod F w w') (hF : ∀ b, F b → ¬ Ty w b t) : RowT w' t A xs := by
  intro hn
  obtain ⟨b, off, cs, fr, e, hh, hc⟩ := h hn
  exact ⟨b, off, cs, fr, e, (m.block b (Array.getElem?_eq_some_iff.1 hh).1 (fun hf => hF b hf ⟨_, _, hh⟩)).trans hh, hc⟩
theorem RowT.all (h : RowT w t A xs) (hb : Below w.heap.size w w') : RowT w' t A xs := h.mod (F := fun _ => False) (Mod.of_below _ hb) (fun _ hf => hf.elim)
theorem RowT.cells (h : RowT w t A xs) (h0 : 0 < xs.length) : ∃ b off, A = some ⟨b, off, none⟩ ∧ b < w.heap.size ∧ Ty w b t ∧ ∀ j, j < xs.length → w.cell? ⟨b, off + j, none⟩ = xs[j]? := by
  obtain ⟨b, off, cs, fr, e, hh, hc⟩ := h h0
  exact ⟨b, off, e, (Array.getElem?_eq_some_iff.1 hh).1, ⟨_, _, hh⟩, fun j hj => by rw [← hc j hj]; simp [World.cell?, hh]⟩
theorem RowT.of_own {base size n m c : Nat} (h : w.ownsRow base t size (.slice A m c) n xs) : RowT w t A xs := by
  intro h0
  have hl := h.1
  rcases h.2 with ⟨h2, hn⟩ | ⟨g, cap, cur, h2, _, hh, hnc, hm, hcs, htk⟩
  · subst hn
    rw [Nat.zero_mul] at hl
    omega
  · injection h2 with h2 _ _
    subst h2
    refine ⟨g, 0, cur, _, rfl, hh, fun j hj => ?_⟩
    rw [Nat.zero_add, ← htk, List.getElem?_take, if_pos (by omega)]
    simp
theorem RowT.drop (h : RowT w t A xs) (k : Nat) (h0 : k < xs.length) : ∃ b off, A = some ⟨b, off, none⟩ ∧ RowT w t (some ⟨b, off + k, none⟩) (xs.drop k) := by
  obtain ⟨b, off, cs, fr, e, hh, hc⟩ := h (by omega)
  refine ⟨b, off, e, fun hn => ⟨b, off + k, cs, fr, rfl, hh, fun j hj => ?_⟩⟩
  rw [List.length_drop] at hj
  rw [List.getElem?_drop, ← hc (k + j) (by omega), Nat.add_assoc]
theorem RowT.take (h : RowT w t A xs) (k : Nat) : RowT w t A (xs.take k) := by
  intro hn
  rw [List.length_take] at hn
  obtain ⟨b, off, cs, fr, e, hh, hc⟩ := h (by omega)
  refine ⟨b, off, cs, fr, e, hh, fun j hj => ?_⟩
  rw [List.length_take] at hj
  rw [hc j (by omega), List.getElem?_take, if_pos (by omega)]
end
theorem flatT_length {α : Type} (f : α → List Value) (size : Nat) (hf : ∀ x, (f x).length = size) (l : List α) : (l.flatMap f).length = l.length * size := by
  induction l with
  | nil => simp
  | cons x l ih => rw [List.flatMap_cons, List.length_append, hf, ih, List.length_cons, Nat.succ_mul, Nat.add_comm]
theorem flatT_at {α : Type} (f : α → List Value) (size : Nat) (hf : ∀ x, (f x).length = size) (l : List α) : ∀ (k i : Nat) (hk : k < l.length) (_ : i < size), (l.flatMap f)[k * size + i]? = (f l[k])[i]? := by
  induction l with
  | nil => intro k i hk; simp at hk
  | cons x l ih =>
    intro k i hk hi
    rw [List.flatMap_cons]
    rcases k with _ | k
    · rw [Nat.zero_mul, Nat.zero_add, List.getElem?_append_left (by rw [hf]; exact hi)]
      rfl
    · rw [List.getElem?_append_right (by rw [hf, Nat.succ_mul]; omega), hf, show (k + 1) * size + i - size = k * size + i by rw [Nat.succ_mul]; omega]
      exact ih k i (by simpa using hk) hi
theorem flatT_set {α : Type} (f : α → List Value) (size : Nat) (hf : ∀ x, (f x).length = size) (x : α) (i : Nat) (hi : i < size) (v : Value) (l : List α) : ∀ (k : Nat) (hk : k < l.length) (_ : f x = (f l[k]).set i v), (l.flatMap f).set (k * size + i) v = (l.set k x).flatMap f := by
  induction l with
  | nil => intro k hk; simp at hk
  | cons y l ih =>
    intro k hk hx
    rw [List.flatMap_cons]
    rcases k with _ | k
    · rw [Nat.zero_mul, Nat.zero_add, List.set_append_left _ _ (by rw [hf]; exact hi), List.set_cons_zero, List.flatMap_cons, hx]
      rfl
    · rw [List.set_append_right _ _ (by rw [hf, Nat.succ_mul]; omega), hf, show (k + 1) * size + i - size = k * size + i by rw [Nat.succ_mul]; omega, List.set_cons_succ, List.flatMap_cons, ih k (by simpa using hk) hx]
/-- The cells of one element of a row of structs. -/
theorem RowT.at_ {α : Type} {w : World} {t : TypeId} {A : Option Addr} (f : α → List Value) (size : Nat) (hf : ∀ x, (f x).length = size) {l : List α} (h : RowT w t A (l.flatMap f)) (hs : 0 < size) {k : Nat} (hk : k < l.length) : ∃ b off, A = some ⟨b, off, none⟩ ∧ b < w.heap.size ∧ Ty w b t ∧ ∀ i, i < size → w.cell? ⟨b, off + (k * size + i), none⟩ = (f l[k])[i]? := by
  have hl := flatT_length f size hf l
  have hk1 : (k + 1) * size ≤ l.length * size := Nat.mul_le_mul_right _ hk
  rw [Nat.succ_mul] at hk1
  obtain ⟨b, off, e, hb, ht, hc⟩ := h.cells (by omega)
  exact ⟨b, off, e, hb, ht, fun i hi => by rw [hc _ (by omega), flatT_at f size hf l k i hk hi]⟩
end Go.Proofs.Ytkandhpnenmleaa

/- general tools: regions by hand, slices of ints known by their type, rows cut. -/
namespace Go.Proofs.Ytkandhpnenmleaa
open Go.RowKit

section
variable {P : Program} {ops : Array Oper} {Q : Exit → Act → World → Prop} {md : Region.Mode} {S : World → Prop}
/-- Take an operation first, told by what it yields. -/
theorem takeH (i : Nat) (d : Option Tmp) {v : Value} {fuel : Nat} {listed : Array Bool} {a : Act} {w : World} (hd : (ops[i]?).map Oper.dst = some d) (hw : (ops[i]?).map (fun o => Region.wanted o (yielded ops a.tmps)) = some true)
    (hs : Region.noSelect ops = true) (hf : Region.free md ops listed i = true) (hr : (Region.ready md ops listed).contains i = true)
    (hQ : ∀ c a w, Q (.panic c) (a.put d v) w → Q (.panic c) a w) (hy : ∀ o, ops[i]? = some o → ∀ w, S w → (execOp a.eval o).run P w = .ok (.value v) w) (hS : S w)
    (h : wpAnyH P md ops Q S fuel (listed.setIfInBounds i true) (a.put d v) w) : wpAnyH P md ops Q S (fuel + 1) listed a w := by
  cases ho : ops[i]? with
  | none => rw [ho] at hd; cases hd
  | some o =>
    rw [ho] at hd hw
    simp only [Option.map_some, Option.some.injEq] at hd hw
    subst hd
    exact wpAnyH_take ho hs hf hr hQ (Or.inl ⟨hw, hy o ho⟩) hS h
/-- Pass over an operation whose guard is not met. -/
theorem skipH (i : Nat) (d : Option Tmp) {fuel : Nat} {listed : Array Bool} {a : Act} {w : World} (hd : (ops[i]?).map Oper.dst = some d) (hw : (ops[i]?).map (fun o => Region.wanted o (yielded ops a.tmps)) = some false)
    (hs : Region.noSelect ops = true) (hf : Region.free md ops listed i = true) (hr : (Region.ready md ops listed).contains i = true)
    (hQ : ∀ c a w, Q (.panic c) (a.put d undef) w → Q (.panic c) a w) (hS : S w)
    (h : wpAnyH P md ops Q S fuel (listed.setIfInBounds i true) (a.put d undef) w) : wpAnyH P md ops Q S (fuel + 1) listed a w := by
  cases ho : ops[i]? with
  | none => rw [ho] at hd; cases hd
  | some o =>
    rw [ho] at hd hw
    simp only [Option.map_some, Option.some.injEq] at hd hw
    subst hd
    exact wpAnyH_take ho hs hf hr hQ (Or.inr ⟨hw, rfl⟩) hS h
end
/-- A slice of ints that reads as xs and lies in a block of ints. -/
structure TI (w : World) (s : Sl) (xs : List Int) : Prop where
  nin : NIn w w.heap.size s xs
  ty : 0 < s.2.1 → ∃ b off, s.1 = some ⟨b, off, none⟩ ∧ Ty w b 3
section
variable {w w' : World} {s : Sl} {xs : List Int} {F : Nat → Prop}
theorem TI.nil (w : World) : TI w (none, 0, 0) [] := ⟨NIn.nil _ _, fun h => absurd h (by simp)⟩
theorem TI.mod (h : TI w s xs) (m : Mod F w w') (hF : ∀ b, F b → ¬ Ty w b 3) : TI w' s xs := by
  have key : 0 < s.2.1 → ∃ b off, s.1 = some ⟨b, off, none⟩ ∧ Ty w b 3 ∧ b < w.heap.size ∧ w'.heap[b]? = w.heap[b]? := fun h0 => by
    obtain ⟨b, off, e, ht⟩ := h.ty h0
    have hb : b < w.heap.size := by
      obtain ⟨cs, fr, hh⟩ := ht
      exact (Array.getElem?_eq_some_iff.1 hh).1
    exact ⟨b, off, e, ht, hb, m.block b hb (fun hf => hF b hf ht)⟩
  refine ⟨⟨h.nin.len, h.nin.cap, h.nin.max, fun h0 => ?_⟩, fun h0 => ?_⟩
  · obtain ⟨b, off, e, -, hb, hk⟩ := key h0
    obtain ⟨b2, off2, e2, hb2, hc⟩ := h.nin.rd h0
    rw [e] at e2
    injection e2 with e2
    injection e2 with e2 e3 _
    subst e2 e3
    exact ⟨b, off, e, Nat.lt_of_lt_of_le hb m.size, fun j hj => (World.cell?_of_block (w := w) hk).trans (hc j hj)⟩
  · obtain ⟨b, off, e, ⟨cs, fr, hh⟩, hb, hk⟩ := key h0
    exact ⟨b, off, e, cs, fr, hk.trans hh⟩
theorem TI.all (h : TI w s xs) (hb : Below w.heap.size w w') : TI w' s xs := h.mod (F := fun _ => False) (Mod.of_below _ hb) (fun _ hf => hf.elim)
theorem TI.own {B n c : Nat} {A : Option Addr} (h : OwnI w B A n c xs) : TI w (A, n, c) xs := by
  refine ⟨h.nin, fun h0 => ?_⟩
  rcases h.2 with ⟨h2, hn⟩ | ⟨g, cap, cur, h2, _, hh, _⟩
  · dsimp only at h0
    omega
  · injection h2 with h2 _ _
    exact ⟨g, 0, h2, _, _, hh⟩
end
/-- The block of a row of the call's own has its element's type. -/
theorem own_ty {w : World} {B e size n g : Nat} {v : Value} {xs : List Value} (h : w.ownsRow B e size v n xs) (hg : v.ownBlock = some g) : Ty w g e := by
  rcases h.2 with ⟨rfl, _⟩ | ⟨g', cap, cur, rfl, _, hh, _⟩
  · simp [Value.ownBlock] at hg
  · obtain rfl : g' = g := by simpa [Value.ownBlock] using hg
    exact ⟨_, _, hh⟩
theorem own_ge {w : World} {B e size n g : Nat} {v : Value} {xs : List Value} (h : w.ownsRow B e size v n xs) (hg : v.ownBlock = some g) : B ≤ g ∧ g < w.heap.size := h.lt g hg
theorem Ty.not {w : World} {b : Nat} {t t' : TypeId} (h : Ty w b t) (hne : t ≠ t') : ¬ Ty w b t' := fun h' => hne (h.unique h')
/-- append of one element: where the row lies then. -/
theorem app_elem2 {P : Program} {w : World} {B t e size bytes n c : Nat} {A : Option Addr} {xs : List Value} (ty : TypeId) (hT : SlT P t e size bytes) (h : w.ownsRow B e size (.slice A n c) n xs) (cs : Array Value) (hcs : cs.size = size) (h1 : ∀ u ∈ cs.toList, u.oneCell' = true) (hn : n ≤ 1000000) (hby : bytes ≤ 64) (hB : B ≤ w.heap.size) :
    ∃ A' c' w', (Builtin.append_ #[t, t] ty #[.slice A n c, .slice (some ⟨w.heap.size, 0, none⟩) 1 1]).run P (w.alloc (.cells cs e)) = .ok (.slice A' (n + 1) c') w' ∧ w'.ownsRow B e size (.slice A' (n + 1) c') (n + 1) (xs ++ cs.toList) ∧ Below B w w' ∧ Mod (fun b => (Value.slice A n c).ownBlock = some b) w w' ∧ (∀ g, (Value.slice A' (n + 1) c').ownBlock = some g → (Value.slice A n c).ownBlock = some g ∨ w.heap.size ≤ g) := by
  have hg0 : w.grownBy (w.alloc (.cells cs e)) (Value.slice A n c).ownBlock := World.grownBy_alloc w _ _
  obtain ⟨g, cap, w', hrun, h2, h3, h4⟩ := run_append1 (ty := ty) (w := w.alloc (.cells cs e)) hT (h.alloc _) (Blk.new w e cs) hcs h1 (by omega) hby (by simp; omega)
  refine ⟨_, _, w', hrun, h2, own_below h (hg0.trans h3) hB, Mod.of_grown (hg0.trans h3) (fun g hg => .inl hg), fun g' hg' => ?_⟩
  obtain rfl : g = g' := by simpa [Value.ownBlock] using hg'
  rcases h4 with h4 | h4
  · exact .inl h4.symm
  · simp at h4
    exact .inr (by omega)
theorem own_take {w : World} {base e n c k : Nat} {A : Option Addr} {xs : List Value} (h : w.ownsRow base e 1 (.slice A n c) n xs) (hk : k ≤ n) : w.ownsRow base e 1 (.slice A k c) k (xs.take k) := by
  obtain ⟨h1, h2⟩ := h
  refine ⟨by rw [List.length_take, h1]; omega, ?_⟩
  rcases h2 with ⟨h3, h4⟩ | ⟨g, cap, cur, h3, h4, h5, h6, h7, h8, h9⟩
  · injection h3 with h5 h6 h7
    subst h5 h7
    have : k = 0 := by omega
    subst this
    exact .inl ⟨rfl, rfl⟩
  · injection h3 with h10 h11 h12
    subst h10 h12
    refine .inr ⟨g, c, cur, rfl, h4, h5, by omega, h7, h8, ?_⟩
    rw [← h9, List.take_take]
    congr 1
    omega
theorem OwnI.cut {w : World} {B n c k : Nat} {A : Option Addr} {xs : List Int} (h : OwnI w B A n c xs) (hk : k ≤ n) : OwnI w B A k c (xs.take k) := by
  unfold OwnI
  rw [List.map_take]
  exact own_take h hk
theorem OwnI.len {w : World} {B n c : Nat} {A : Option Addr} {xs : List Int} (h : OwnI w B A n c xs) : xs.length = n := by
  have := h.1
  simpa using this
theorem OwnI.modI {w w' : World} {F : Nat → Prop} {B n c : Nat} {A : Option Addr} {xs : List Int} (h : OwnI w B A n c xs) (m : Mod F w w') (hne : ∀ g, (Value.slice A n c).ownBlock = some g → ¬ F g) : OwnI w' B A n c xs := m.own h hne

theorem Blk.new' {g : Nat} (w : World) (t : TypeId) (cs : Array Value) (h : g = w.heap.size) : Blk (w.alloc (.cells cs t)) g t cs := by rw [h]; exact Blk.new _ _ _
end Go.Proofs.Ytkandhpnenmleaa
