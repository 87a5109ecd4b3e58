/- Part 1 of the texts that JournalFull needs: Mem Mem2 WirePlain HashPlain HashInj WireBits WireWriter WireRead. -/
import Derived.WalkKit
import Derived.WalkSpells
import Derived.Deep.Draws
import Derived.Lib.ConvBytes
import Derived.Maps.AppendAt
import Derived.RangeFuncBox
import Derived.OwnWalkIn
import Derived.Laws.OwnMore
import GoSem.Claim
import Derived.Test.YtldmokjpfnakkaaProg
import Derived.Lib.AppendStr
import Derived.Lib.Hide
import Derived.WalkLawsBesides

/- Words for memory: a slice that reads as a list (nil let in); blocks that are kept. -/
namespace Go.Proofs.Ytldmokjpfnakkaa
open Go.RowKit

/-- The slice value '.slice A n c' holds the values 'f 0, .., f (n - 1)' in a block below B. -/
def Rd (w : World) (B : Nat) (A : Option Addr) (n : Nat) (f : Nat → Value) : Prop :=
  0 < n → ∃ b off, A = some ⟨b, off, none⟩ ∧ b < B ∧ ∀ j, j < n → w.cell? ⟨b, off + j, none⟩ = some (f j)

theorem Rd.keep {w w' : World} {B n : Nat} {A : Option Addr} {f : Nat → Value} (h : Rd w B A n f) (hk : ∀ b, b < B → w'.heap[b]? = w.heap[b]?) : Rd w' B A n f := by
  intro hn
  obtain ⟨b, off, e, hb, hc⟩ := h hn
  exact ⟨b, off, e, hb, fun j hj => (World.cell?_of_block (w := w) (hk b hb)).trans (hc j hj)⟩
theorem Rd.below {w w' : World} {B B' n : Nat} {A : Option Addr} {f : Nat → Value} (h : Rd w B A n f) (hb : Below B' w w') (hB : B ≤ B') : Rd w' B A n f := h.keep fun b hlt => hb.block b (by omega)
theorem Rd.more {w : World} {B B' n : Nat} {A : Option Addr} {f : Nat → Value} (h : Rd w B A n f) (hB : B ≤ B') : Rd w B' A n f := by
  intro hn
  obtain ⟨b, off, e, hb, hc⟩ := h hn
  exact ⟨b, off, e, by omega, hc⟩
theorem Rd.alloc {w : World} {B n : Nat} {A : Option Addr} {f : Nat → Value} (h : Rd w B A n f) (hB : B ≤ w.heap.size) (o : Obj) : Rd (w.alloc o) B A n f := h.keep fun b hb => Below.heap_alloc w o b (by omega)
theorem Rd.all {w w' : World} {n : Nat} {A : Option Addr} {f : Nat → Value} (h : Rd w w.heap.size A n f) (hb : Below w.heap.size w w') : Rd w' w'.heap.size A n f := by
  intro hn
  obtain ⟨b, off, e, hlt, hc⟩ := h hn
  exact ⟨b, off, e, Nat.lt_of_lt_of_le hlt hb.size, fun j hj => (World.cell?_of_block (w := w) (hb.block b hlt)).trans (hc j hj)⟩
theorem Rd.none_ {w : World} {B n : Nat} {A : Option Addr} {f : Nat → Value} (h : Rd w B A n f) : A = none → n = 0 := by
  intro e
  rcases Nat.eq_zero_or_pos n with h0 | h0
  · exact h0
  · obtain ⟨b, off, h', _⟩ := h h0
    rw [e] at h'; cases h'
theorem own_cap {w : World} {base e size n m c : Nat} {A : Option Addr} {xs : List Value} (h : w.ownsRow base e size (.slice A m c) n xs) : c ≤ 9223372036854775807 := by
  rcases h.2 with ⟨h, _⟩ | ⟨g, cap, cur, h, _, _, _, hm, _⟩
  · injection h with _ _ h; omega
  · injection h with _ _ h; subst h; simpa [maxLen] using hm
theorem Rd.congr {w : World} {B n : Nat} {A : Option Addr} {f g : Nat → Value} (h : Rd w B A n f) (hfg : ∀ j, j < n → f j = g j) : Rd w B A n g := by
  intro hn
  obtain ⟨b, off, e, hb, hc⟩ := h hn
  exact ⟨b, off, e, hb, fun j hj => (hc j hj).trans (congrArg some (hfg j hj))⟩
theorem Rd.nil {w : World} {B : Nat} {A : Option Addr} {f : Nat → Value} : Rd w B A 0 f := fun h => absurd h (by omega)
theorem Rd.less {w : World} {B n m : Nat} {A : Option Addr} {f : Nat → Value} (h : Rd w B A n f) (hm : m ≤ n) : Rd w B A m f := by
  intro hn
  obtain ⟨b, off, e, hb, hc⟩ := h (by omega)
  exact ⟨b, off, e, hb, fun j hj => hc j (by omega)⟩
theorem own_slice {w : World} {base e n : Nat} {v : Value} {xs : List Value} (h : w.ownsRow base e 1 v n xs) : ∃ A c, v = .slice A n c := by
  rcases h.2 with ⟨rfl, rfl⟩ | ⟨g, cap, _, rfl, _⟩
  · exact ⟨_, _, rfl⟩
  · exact ⟨_, _, rfl⟩
theorem Rd.at_ {w : World} {B n k : Nat} {A : Option Addr} {f : Nat → Value} (h : Rd w B A n f) (hk : k < n) : ∃ b off, A = some ⟨b, off, none⟩ ∧ b < B ∧ w.cell? ⟨b, off + k, none⟩ = some (f k) := by
  obtain ⟨b, off, e, hb, hc⟩ := h (by omega)
  exact ⟨b, off, e, hb, hc k hk⟩

/-- What a slice owns it reads as. -/
theorem Rd.of_own {w : World} {base e n m c : Nat} {A : Option Addr} {xs : List Value} {f : Nat → Value} (h : w.ownsRow base e 1 (.slice A m c) n xs) (hf : ∀ j, j < n → xs[j]? = some (f j)) : m = n ∧ n ≤ c ∧ Rd w w.heap.size A m f := by
  obtain ⟨hl, h2⟩ := h
  rcases h2 with ⟨h2, h0⟩ | ⟨g, cap, cur, h2, hg, hh, hnc, hm, hcs, htk⟩
  · injection h2 with h2 h3 h4
    subst h0 h3
    exact ⟨rfl, by omega, Rd.nil⟩
  · injection h2 with h2 h3 h4
    subst h2 h3 h4
    refine ⟨rfl, hnc, fun hn => ⟨g, 0, rfl, (Array.getElem?_eq_some_iff.1 hh).1, fun j hj => ?_⟩⟩
    have := hf j hj
    rw [← htk, List.getElem?_take, if_pos (by omega)] at this
    simpa [World.cell?, hh] using this

/-- append onto a row of the call's own, the source nil, empty or not (one cell each). -/
theorem run_append_rd {P : Program} (w : World) (base : Nat) (t ty e : TypeId) (i : TypeInfo) (z : Value) (bytes : Nat) (ht : P.underlying t = some (.slice e)) (hi : P.info? e = some i) (hz : i.zero = some z)
    (hsize : i.size = 1) (hby : i.bytes = bytes) (hzs : z.cells.size = 1)
    (v : Value) (n : Nat) (xs : List Value) (hown : w.ownsRow base e 1 v n xs) (B : Nat) (A : Option Addr) (m c : Nat) (f : Nat → Value) (hr : Rd w B A m f) (hA : A = none → m = 0) (h1 : ∀ j, j < m → (f j).oneCell' = true)
    (h63 : n + m ≤ maxLen) (hbytes : (n + m) * bytes ≤ 140737488355328) (hbase : base ≤ w.heap.size) :
    ∃ v' w', (Builtin.append_ #[t, t] ty #[v, .slice A m c]).run P w = .ok v' w' ∧ w'.ownsRow base e 1 v' (n + m) (xs ++ (List.range m).map f) ∧ w.grownBy w' v.ownBlock ∧
      (v'.ownBlock = v.ownBlock ∨ v'.ownBlock = some w.heap.size) := by
  rcases A with _ | ad
  · have hm := hA rfl
    subst hm
    refine ⟨v, w, ?_, by simpa using hown, World.grownBy.refl w _, .inl rfl⟩
    rcases hown.2 with ⟨rfl, rfl⟩ | ⟨g, cap, cur, rfl, _, _, hnc, _⟩
    · simp [Builtin.append_, run_underlying ht, sizeOf, typeInfo, hi, Builtin.lenOf, Builtin.firstCells]
    · simp [Builtin.append_, run_underlying ht, sizeOf, typeInfo, hi, Builtin.lenOf, Builtin.firstCells, hnc, storeCells]
  · have hcells : ∀ j u, ((List.range m).map f)[j]? = some u → w.cell? (ad.add j) = some u := by
      intro j u hu
      have hj : j < m := by
        have := (List.getElem?_eq_some_iff.1 hu).1
        simpa using this
      obtain ⟨b, off, h, _, hc⟩ := hr (by omega)
      injection h with h
      subst h
      have e : (⟨b, off, none⟩ : Addr).add j = ⟨b, off + j, none⟩ := by unfold Addr.add; split <;> simp_all
      rw [e, hc j hj]
      simpa [hj] using hu
    obtain ⟨v', w', hrun, h2, h3, _, h5⟩ := run_append_own_at (P := P) w base t ty e i z 1 bytes ht hi hz hsize hby hzs (by decide) v n xs hown ad m c ((List.range m).map f) (by simp) hcells
      (by intro u hu; obtain ⟨j, hj, rfl⟩ := List.mem_map.1 hu; exact h1 j (by simpa using hj)) h63 hbytes hbase
    exact ⟨v', w', hrun, h2, h3, h5⟩

/-- append of one element: the walk lays it into a block of its own first. -/
theorem run_append_one {P : Program} (w : World) (base : Nat) (t ty e : TypeId) (i : TypeInfo) (z : Value) (bytes : Nat) (ht : P.underlying t = some (.slice e)) (hi : P.info? e = some i) (hz : i.zero = some z)
    (hsize : i.size = 1) (hby : i.bytes = bytes) (hzs : z.cells.size = 1)
    (v : Value) (n : Nat) (xs : List Value) (hown : w.ownsRow base e 1 v n xs) (x : Value) (h1 : x.oneCell' = true)
    (h63 : n + 1 ≤ maxLen) (hbytes : (n + 1) * bytes ≤ 140737488355328) (hbase : base ≤ w.heap.size) :
    ∃ g cap w', (Builtin.append_ #[t, t] ty #[v, .slice (some ⟨w.heap.size, 0, none⟩) 1 1]).run P (w.alloc (.cells #[x] e)) = .ok (.slice (some ⟨g, 0, none⟩) (n + 1) cap) w' ∧ w'.ownsRow base e 1 (.slice (some ⟨g, 0, none⟩) (n + 1) cap) (n + 1) (xs ++ [x]) ∧
      w.grownBy w' v.ownBlock ∧ (some g = v.ownBlock ∨ g = w.heap.size + 1) ∧ w.heap.size < w'.heap.size := by
  obtain ⟨v', w', hrun, h2, h3, _, h5⟩ := run_append_own_at (P := P) (w.alloc (.cells #[x] e)) base t ty e i z 1 bytes ht hi hz hsize hby hzs (by decide) v n xs (hown.alloc _) ⟨w.heap.size, 0, none⟩ 1 1 [x] rfl (cell_one_new w x e)
      (by intro u hu; rw [List.mem_singleton] at hu; subst hu; exact h1) h63 hbytes (by simp; omega)
  obtain ⟨g, cap, rfl⟩ := ownsRow_succ h2
  refine ⟨g, cap, w', hrun, h2, (World.grownBy_alloc w _ _).trans h3, ?_, ?_⟩
  · rcases h5 with h5 | h5
    · exact .inl (by simpa [Value.ownBlock] using h5)
    · exact .inr (by simpa [Value.ownBlock] using h5)
  · have := h3.size
    simp at this
    omega

/-- 'make([]T, 0, c)'. -/
theorem make_rd {P : Program} (w : World) (t e : TypeId) (i : TypeInfo) (z : Value) (bytes : Nat) (ht : P.underlying t = some (.slice e)) (hi : P.info? e = some i) (hz : i.zero = some z)
    (hsize : i.size = 1) (hby : i.bytes = bytes) (kl kc : IntKind) (c : Nat) (hbytes : bytes * c ≤ 281474976710656) (h63 : c ≤ maxLen) :
    ∃ w', (Instr.makeSlice t (.int kl 0) (.int kc (c : Int))).run P w = .ok (.slice (some ⟨w.heap.size, 0, none⟩) 0 c) w' ∧
      w'.ownsRow w.heap.size e 1 (.slice (some ⟨w.heap.size, 0, none⟩) 0 c) 0 [] ∧ Below w.heap.size w w' ∧ w'.heap.size = w.heap.size + 1 := by
  have h63' : (c : Int) ≤ 9223372036854775807 := by
    have h := h63
    simp [maxLen] at h
    omega
  subst hby
  have hb' : (i.bytes : Int) * (c : Int) ≤ 281474976710656 := by
    have h : ((i.bytes * c : Nat) : Int) ≤ 281474976710656 := by omega
    rwa [Int.natCast_mul] at h
  have hr := run_make (P := P) w t e i z ht hi hz kl kc 0 c (Int.le_refl _) (by omega) hb' h63'
  simp only [Int.toNat_zero, Int.toNat_natCast] at hr
  exact ⟨_, hr, World.ownsRow_made w _ c (Nat.le_refl _) h63 (by rw [size_madeCells, hsize]), (Below.refl _ _).alloc (Nat.le_refl _) _, by simp⟩

/-- What a slice owns it owns in a later world. -/
theorem own_keep {w w' : World} {base e size n : Nat} {v : Value} {xs : List Value} (h : w.ownsRow base e size v n xs) (hb : Below w.heap.size w w') : w'.ownsRow base e size v n xs :=
  h.kept (row := none) ⟨hb.os, hb.tape, hb.output, hb.size, fun k hk _ => hb.block k hk⟩ (by
    rcases h.2 with ⟨rfl, _⟩ | ⟨g, cap, cur, rfl, _⟩
    · exact .inl rfl
    · exact .inr (by simp [Value.ownBlock]))
theorem own_some {w : World} {base e size n m c : Nat} {A : Option Addr} {xs : List Value} (h : w.ownsRow base e size (.slice A m c) n xs) (hn : 0 < n) : ∃ g, A = some ⟨g, 0, none⟩ ∧ base ≤ g ∧ g < w.heap.size := by
  rcases h.2 with ⟨_, h0⟩ | ⟨g, cap, cur, h, hg, hh, _⟩
  · omega
  · injection h with h
    exact ⟨g, h, hg, (Array.getElem?_eq_some_iff.1 hh).1⟩
/-- An owned row of bytes: a cell, a store. -/
theorem own_byte {w : World} {base e n c g : Nat} {bs : List UInt8} (h : w.ownsRow base e 1 (.slice (some ⟨g, 0, none⟩) n c) n (bs.map fun b => Value.int .u8 ((b.toNat : Nat) : Int))) {j : Nat} (hj : j < n) :
    w.cell? ⟨g, j, none⟩ = some (.int .u8 (((bs[j]?.getD 0).toNat : Nat) : Int)) ∧ w.frozen? ⟨g, j, none⟩ = false := by
  refine ⟨?_, h.frozenAt j⟩
  have hl : bs.length = n := by have := h.1; simpa using this
  rw [h.cellAt j (by omega)]
  simp [show j < bs.length by omega]
theorem own_byte_set {w : World} {base e n c g : Nat} {bs : List UInt8} (h : w.ownsRow base e 1 (.slice (some ⟨g, 0, none⟩) n c) n (bs.map fun b => Value.int .u8 ((b.toNat : Nat) : Int))) (j : Nat) (x : UInt8) :
    (w.setCell ⟨g, j, none⟩ (.int .u8 ((x.toNat : Nat) : Int))).ownsRow base e 1 (.slice (some ⟨g, 0, none⟩) n c) n ((bs.set j x).map fun b => Value.int .u8 ((b.toNat : Nat) : Int)) := by
  have := (h.stored j (.int .u8 ((x.toNat : Nat) : Int))).1
  rw [List.map_set]
  exact this
theorem own_int {w : World} {base e n c g : Nat} {xs : List Int} (h : w.ownsRow base e 1 (.slice (some ⟨g, 0, none⟩) n c) n (xs.map (Value.int .i64))) {j : Nat} (hj : j < n) :
    w.cell? ⟨g, j, none⟩ = some (.int .i64 (xs[j]?.getD 0)) ∧ w.frozen? ⟨g, j, none⟩ = false := by
  refine ⟨?_, h.frozenAt j⟩
  have hl : xs.length = n := by have := h.1; simpa using this
  rw [h.cellAt j (by omega)]
  simp [show j < xs.length by omega]
theorem own_int_set {w : World} {base e n c g : Nat} {xs : List Int} (h : w.ownsRow base e 1 (.slice (some ⟨g, 0, none⟩) n c) n (xs.map (Value.int .i64))) (j : Nat) (x : Int) :
    (w.setCell ⟨g, j, none⟩ (.int .i64 x)).ownsRow base e 1 (.slice (some ⟨g, 0, none⟩) n c) n ((xs.set j x).map (Value.int .i64)) := by
  have := (h.stored j (.int .i64 x)).1
  rw [List.map_set]
  exact this
theorem own_cells {w : World} {base e size n : Nat} {v : Value} {xs : List Value} (h : w.ownsRow base e size v n xs) : ∀ (j : Nat) (o : Obj), v.ownBlock = some j → w.heap[j]? = some o → o.isCells = true := by
  intro j o ej hj
  rcases h.2 with ⟨rfl, _⟩ | ⟨g, cap, cur, rfl, _, hgb, _⟩
  · simp [Value.ownBlock] at ej
  · obtain rfl : g = j := by simpa [Value.ownBlock] using ej
    rw [hgb] at hj; cases hj; rfl

/-- An append whose run is known, at an operation of a plain walk and of a fenced one. -/
theorem wpList_append_run {P : Program} {w : World} {ops : Array Oper} {rest : List Oper} {o : Oper} {a : Act} {Q : Exit → Act → World → Prop} {s x : Operand} {t : TypeId} {v vx v' : Value} {w' : World}
    (hrun : (Builtin.append_ #[t, t] o.type #[v, vx]).run P w = .ok v' w') (hgd : o.guard = none) (ho : o.op = .call { callee := .builtin .append, args := #[s, x], argTypes := #[t, t] }) (hs : a.eval s = v) (hx : a.eval x = vx)
    (h : wpList P ops Q rest (a.put o.dst v') w') : wpList P ops Q (o :: rest) a w :=
  wpList_plain hgd fun _ hK => by
    unfold Oper.wp execOp
    simp only [ho, resolve, invoke, builtin, Sem.run_bind, Sem.run_pure, Result.andThen_ok, List.map_toArray, List.map_cons, List.map_nil, hs, hx, hrun]
    exact hK _ _ h
theorem wpListIn_append_run {F : Fence} {n : Nat} {P : Program} {w : World} {ops : Array Oper} {rest : List Oper} {o : Oper} {a : Act} {Q : Exit → Act → World → Prop} {s x : Operand} {t : TypeId} {v vx v' : Value} {w' : World}
    (hrun : (Builtin.append_ #[t, t] o.type #[v, vx]).run P w = .ok v' w') (hgd : o.guard = none) (ho : o.op = .call { callee := .builtin .append, args := #[s, x], argTypes := #[t, t] }) (hs : a.eval s = v) (hx : a.eval x = vx)
    (h : wpListIn F n P ops Q rest (a.put o.dst v') w') : wpListIn F n P ops Q (o :: rest) a w :=
  wpListIn_plain hgd fun _ hK => by
    unfold Oper.wpIn
    refine ⟨?_, ?_⟩
    · simp [Oper.about, ho, resolve, Target.leads, Sem.run_pure]
    · rw [Oper.semAt_plain F _ _ (by rw [ho]; intro c hc'; cases hc')]
      simp [execOp, ho, resolve, invoke, builtin, hs, hx, hrun, Result.andThen]
      exact hK _ _ h

theorem Rd.drew {w : World} {n : Nat} {A : Option Addr} {f : Nat → Value} (h : Rd w w.heap.size A n f) : Rd w.drew w.drew.heap.size A n f := h
theorem undrew {w w' : World} (h : Below w.drew.heap.size w.drew w') : Below w.heap.size w w' := ⟨h.os, h.tape, h.output, h.size, h.block⟩
theorem bt {a b c : World} (h : Below a.heap.size a b) (k : Below b.heap.size b c) : Below a.heap.size a c := h.trans (k.mono h.size)
theorem below_drewN {B : Nat} {a w : World} (h : Below B a w) (n : Nat) : Below B a (w.drewN n) := ⟨h.os, h.tape, h.output, h.size, h.block⟩

/-- A byte as a value; an int as a value. -/
def vByte (l : List UInt8) (j : Nat) : Value := .int .u8 ((l[j]?.getD 0).toNat : Nat)
def vInt (l : List Int) (j : Nat) : Value := .int .i64 (l[j]?.getD 0)
def vWord (l : List Int) (j : Nat) : Value := .int .u64 (l[j]?.getD 0)

/-- The blocks of S lie as they lay. -/
def Keeps (S : Nat → Prop) (W W' : World) : Prop := ∀ k, S k → W'.heap[k]? = W.heap[k]?
theorem Keeps.refl (S : Nat → Prop) (W : World) : Keeps S W W := fun _ _ => rfl
theorem Keeps.trans {S : Nat → Prop} {A B C : World} (h : Keeps S A B) (k : Keeps S B C) : Keeps S A C := fun i hi => (k i hi).trans (h i hi)
theorem Keeps.cell {S : Nat → Prop} {W W' : World} (h : Keeps S W W') {p : Addr} (hp : S p.block) : W'.cell? p = W.cell? p := World.cell?_of_block (w := W) (h _ hp)

theorem rd_bytes {w : World} {base e n m c : Nat} {A : Option Addr} {bs : List UInt8} (h : w.ownsRow base e 1 (.slice A m c) n (bs.map fun b => Value.int .u8 ((b.toNat : Nat) : Int))) : m = n ∧ n ≤ c ∧ Rd w w.heap.size A m (vByte bs) :=
  Rd.of_own h (fun j hj => by have hl : bs.length = n := by simpa using h.1
                              simp [vByte, show j < bs.length by omega])
theorem rd_ints {w : World} {base e n m c : Nat} {A : Option Addr} {xs : List Int} (h : w.ownsRow base e 1 (.slice A m c) n (xs.map (Value.int .i64))) : m = n ∧ n ≤ c ∧ Rd w w.heap.size A m (vInt xs) :=
  Rd.of_own h (fun j hj => by have hl : xs.length = n := by simpa using h.1
                              simp [vInt, show j < xs.length by omega])

/-- Block g is just the cells cs of element type t, none frozen. -/
def Blk (w : World) (g : Nat) (t : TypeId) (cs : Array Value) : Prop := w.heap[g]? = some (.cells cs t (0, 0))
section
variable {w w' : World} {g : Nat} {t : TypeId} {cs : Array Value}
theorem Blk.lt (h : Blk w g t cs) : g < w.heap.size := (Array.getElem?_eq_some_iff.1 h).1
theorem Blk.cell (h : Blk w g t cs) (i : Nat) : w.cell? ⟨g, i, none⟩ = cs[i]? := by unfold Blk at h; simp [World.cell?, h]
theorem Blk.frozen (h : Blk w g t cs) (i : Nat) : w.frozen? ⟨g, i, none⟩ = false := by unfold Blk at h; simp [World.frozen?, h]
theorem Blk.new (w : World) (t : TypeId) (cs : Array Value) : Blk (w.alloc (.cells cs t)) w.heap.size t cs := World.alloc_heap_new w _
theorem Blk.alloc (h : Blk w g t cs) (o : Obj) : Blk (w.alloc o) g t cs := (Below.heap_alloc w o g h.lt).trans h
theorem Blk.set_ (h : Blk w g t cs) (i : Nat) (u : Value) : Blk (w.setCell ⟨g, i, none⟩ u) g t (cs.setIfInBounds i u) := by
  unfold Blk at h ⊢
  simp [World.setCell, Array.getElem?_modify, h]
theorem Blk.far (h : Blk w g t cs) {p : Addr} (hp : g ≠ p.block) (u : Value) : Blk (w.setCell p u) g t cs := (Below.heap_setCell w p u g hp).trans h
theorem Blk.below {B : Nat} (h : Blk w g t cs) (hb : Below B w w') (hg : g < B) : Blk w' g t cs := (hb.block g hg).trans h
theorem Blk.all (h : Blk w g t cs) (hb : Below w.heap.size w w') : Blk w' g t cs := h.below hb h.lt
theorem Blk.grown {row : Option Nat} (h : Blk w g t cs) (hb : w.grownBy w' row) (hg : some g ≠ row) : Blk w' g t cs := (hb.block g h.lt hg).trans h
end
/-- Only block g, and what is new, has turned. -/
theorem only_refl (w : World) (row : Option Nat) : w.grownBy w row := ⟨rfl, rfl, rfl, Nat.le_refl _, fun _ _ _ => rfl⟩
theorem only_below {a w w' : World} {row : Option Nat} (h : a.grownBy w row) (hb : Below w.heap.size w w') : a.grownBy w' row :=
  ⟨hb.os.trans h.os, hb.tape.trans h.tape, hb.output.trans h.output, Nat.le_trans h.size hb.size, fun i hi hne => (hb.block i (Nat.lt_of_lt_of_le hi h.size)).trans (h.block i hi hne)⟩
theorem only_set {a w : World} {g : Nat} (h : a.grownBy w (some g)) {p : Addr} (hp : p.block = g ∨ a.heap.size ≤ p.block) (u : Value) : a.grownBy (w.setCell p u) (some g) :=
  ⟨h.os, h.tape, h.output, by simpa [World.setCell] using h.size, fun i hi hne => (Below.heap_setCell w p u i (by
    rintro rfl
    rcases hp with hp | hp
    · exact hne (by rw [hp])
    · omega)).trans (h.block i hi hne)⟩
theorem only_new {a w : World} {row : Option Nat} (h : a.grownBy w row) (o : Obj) : a.grownBy (w.alloc o) row :=
  ⟨h.os, h.tape, h.output, Nat.le_trans h.size (by simp), fun i hi hne => (Below.heap_alloc w o i (Nat.lt_of_lt_of_le hi h.size)).trans (h.block i hi hne)⟩
theorem only_of_below {a w : World} (h : Below a.heap.size a w) (row : Option Nat) : a.grownBy w row := ⟨h.os, h.tape, h.output, h.size, fun i hi _ => h.block i hi⟩
theorem below_of_only {B : Nat} {a w w' : World} {g : Nat} (h : Below B a w) (hg : w.grownBy w' (some g)) (hB : B ≤ w.heap.size) (hgB : B ≤ g) : Below B a w' := h.grown hg hB (fun k e => by cases e; exact hgB)

theorem rd_lit1 (W : World) (t : TypeId) (x : Int) : Rd (W.alloc (.cells #[.int .i64 x] t)) (W.heap.size + 1) (some ⟨W.heap.size, 0, none⟩) 1 (vInt [x]) := fun _ => ⟨_, _, rfl, by omega, fun j hj => by
  obtain rfl : j = 0 := by omega
  simp [vInt]⟩
theorem rd_lit2 (W : World) (t : TypeId) (x y : Int) : Rd (W.alloc (.cells #[.int .i64 x, .int .i64 y] t)) (W.heap.size + 1) (some ⟨W.heap.size, 0, none⟩) 2 (vInt [x, y]) := fun _ => ⟨_, _, rfl, by omega, fun j hj => by
  rcases (show j = 0 ∨ j = 1 by omega) with rfl | rfl <;> simp [vInt]⟩

/-- 'string(b)'. -/
theorem conv_str {P : Program} {w : World} {src dst e : TypeId} {A : Option Addr} {B n c : Nat} {bs : List UInt8} (hs : P.underlying src = some (.slice e)) (he : P.underlying e = some (.int .u8)) (hd : P.underlying dst = some .string)
    (hl : bs.length = n) (hR : Rd w B A n (vByte bs)) : (convert src dst (.slice A n c)).run P w = .ok (.string ⟨bs.toArray⟩) w := by
  subst hl
  rcases A with _ | a
  · have h0 := hR.none_ rfl
    have hb : bs = [] := List.eq_nil_of_length_eq_zero h0
    subst hb
    exact run_convert_bytes_nil w src e hs he _ _ dst hd
  · refine run_convert_bytes_back w src dst e a c bs hs he hd (fun j hj => ?_)
    obtain ⟨b, off, h, _, hc⟩ := hR (by omega)
    injection h with h
    subst h
    have e : (⟨b, off, none⟩ : Addr).add j = ⟨b, off + j, none⟩ := by unfold Addr.add; split <;> simp_all
    rw [e, hc j hj]
    simp [vByte, hj]

/-- '[]byte(s)': a new row of the string's bytes. -/
theorem conv_bytes {P : Program} (w : World) (src dst e : TypeId) (s : ByteArray) {u : TypeDesc} (hs : P.underlying src = some u) (hd : P.underlying dst = some (.slice e)) (he : P.underlying e = some (.int .u8)) :
    ∃ cap w1, (convert src dst (.string s)).run P w = .ok (.slice (some ⟨w.heap.size, 0, none⟩) s.size cap) w1 ∧ s.size ≤ cap ∧ w1.heap.size = w.heap.size + 1 ∧ Below w.heap.size w w1 ∧
      Rd w1 (w.heap.size + 1) (some ⟨w.heap.size, 0, none⟩) s.size (vByte s.data.toList) := by
  refine ⟨_, _, Lib.run_convert_string_bytes w src dst e s hs hd he, ?_, Lib.bytesWorld_size w e s, ⟨?_, ?_, ?_, ?_, ?_⟩, ?_⟩
  · have := grownCap_ge w s.size 0 e; omega
  · simp [Lib.bytesWorld, World.freeze, World.alloc, World.drew, -World.alloc_eq, -World.drew_eq]
  · simp [Lib.bytesWorld, World.freeze, World.alloc, World.drew, -World.alloc_eq, -World.drew_eq]
  · simp [Lib.bytesWorld, World.freeze, World.alloc, World.drew, -World.alloc_eq, -World.drew_eq]
  · rw [Lib.bytesWorld_size]; omega
  · exact fun k hk => Lib.bytesWorld_at_old w e s k hk
  · intro _
    refine ⟨_, _, rfl, by omega, fun j hj => ?_⟩
    have := Lib.bytesWorld_cell w e s j hj
    simpa [vByte, List.getD] using this

/-- '[]byte(s)': a new row of the string's bytes. -/
theorem conv_bytes_cap {P : Program} (w : World) (src dst e : TypeId) (s : ByteArray) {u : TypeDesc} (hs : P.underlying src = some u) (hd : P.underlying dst = some (.slice e)) (he : P.underlying e = some (.int .u8)) (h63 : s.size ≤ 9223372036854775807) :
    ∃ cap w1, (convert src dst (.string s)).run P w = .ok (.slice (some ⟨w.heap.size, 0, none⟩) s.size cap) w1 ∧ s.size ≤ cap ∧ cap ≤ 9223372036854775807 ∧ w1.heap.size = w.heap.size + 1 ∧ Below w.heap.size w w1 ∧
      Rd w1 (w.heap.size + 1) (some ⟨w.heap.size, 0, none⟩) s.size (vByte s.data.toList) := by
  refine ⟨_, _, Lib.run_convert_string_bytes w src dst e s hs hd he, ?_, ?_, Lib.bytesWorld_size w e s, ⟨?_, ?_, ?_, ?_, ?_⟩, ?_⟩
  · have := grownCap_ge w s.size 0 e; omega
  · have := grownCap_le_maxLen w s.size 0 e (by simpa [maxLen] using h63); simpa [maxLen] using this
  · simp [Lib.bytesWorld, World.freeze, World.alloc, World.drew, -World.alloc_eq, -World.drew_eq]
  · simp [Lib.bytesWorld, World.freeze, World.alloc, World.drew, -World.alloc_eq, -World.drew_eq]
  · simp [Lib.bytesWorld, World.freeze, World.alloc, World.drew, -World.alloc_eq, -World.drew_eq]
  · rw [Lib.bytesWorld_size]; omega
  · exact fun k hk => Lib.bytesWorld_at_old w e s k hk
  · intro _
    refine ⟨_, _, rfl, by omega, fun j hj => ?_⟩
    have := Lib.bytesWorld_cell w e s j hj
    simpa [vByte, List.getD] using this

end Go.Proofs.Ytldmokjpfnakkaa

/- More words for memory: make of a full row, append of a string, copies. -/
namespace Go.Proofs.Ytldmokjpfnakkaa
open Go.RowKit

/-- 'make([]T, n)'. -/
theorem make_all {P : Program} (w : World) (t e : TypeId) (i : TypeInfo) (z : Value) (bytes : Nat) (ht : P.underlying t = some (.slice e)) (hi : P.info? e = some i) (hz : i.zero = some z)
    (hsize : i.size = 1) (hby : i.bytes = bytes) (hzs : z.cells = #[z]) (kl kc : IntKind) (n : Nat) (hbytes : bytes * n ≤ 281474976710656) (h63 : n ≤ maxLen) :
    ∃ w', (Instr.makeSlice t (.int kl (n : Int)) (.int kc (n : Int))).run P w = .ok (.slice (some ⟨w.heap.size, 0, none⟩) n n) w' ∧
      w'.ownsRow w.heap.size e 1 (.slice (some ⟨w.heap.size, 0, none⟩) n n) n (List.replicate n z) ∧ Below w.heap.size w w' ∧ w.heap.size < w'.heap.size := by
  subst hby
  obtain ⟨w', hr, ho, hg⟩ := run_make_full (P := P) w w.heap.size t e i z 1 ht hi hz hsize kl kc n hbytes h63 (Nat.le_refl _)
  rw [hzs, Nat.mul_one, toList_madeCells_one] at ho
  refine ⟨w', hr, ho, (Below.refl _ _).grown hg (Nat.le_refl _) (fun k e => by cases e), ?_⟩
  rcases ho.2 with ⟨h, _⟩ | ⟨g, cap, cur, h, _, hh, _⟩
  · cases h
  · injection h with h
    injection h with h
    injection h with h
    subst h
    exact (Array.getElem?_eq_some_iff.1 hh).1

theorem own_lower {w : World} {base base' e size n : Nat} {v : Value} {xs : List Value} (h : w.ownsRow base e size v n xs) (hb : base' ≤ base) : w.ownsRow base' e size v n xs := by
  obtain ⟨hl, h2⟩ := h
  refine ⟨hl, ?_⟩
  rcases h2 with h2 | ⟨g, cap, cur, h2, hg, hh⟩
  · exact .inl h2
  · exact .inr ⟨g, cap, cur, h2, Nat.le_trans hb hg, hh⟩

end Go.Proofs.Ytldmokjpfnakkaa

/- Plain Lean: varints, zigzag, and reading them. -/
namespace Go.Proofs.Ytldmokjpfnakkaa
open Go.RowKit

/-- The varint of a number. -/
def varint (n : Nat) : List UInt8 := if _h : n < 128 then [UInt8.ofNat n] else UInt8.ofNat (n % 128 + 128) :: varint (n / 128)
termination_by n
decreasing_by omega
theorem varint_lt {n : Nat} (h : n < 128) : varint n = [UInt8.ofNat n] := by rw [varint, dif_pos h]
theorem varint_ge {n : Nat} (h : 128 ≤ n) : varint n = UInt8.ofNat (n % 128 + 128) :: varint (n / 128) := by rw [varint, dif_neg (by omega)]
theorem varint_len (k : Nat) : ∀ {n : Nat}, n < 128 ^ (k + 1) → (varint n).length ≤ k + 1 := by
  induction k with
  | zero => intro n h; rw [varint_lt (by simpa using h)]; simp
  | succ k ih =>
    intro n h
    by_cases h1 : n < 128
    · rw [varint_lt h1]; simp
    · rw [varint_ge (by omega)]
      have : n / 128 < 128 ^ (k + 1) := Nat.div_lt_of_lt_mul (by rw [Nat.pow_succ] at h; omega)
      have := ih this
      simp only [List.length_cons]; omega
theorem varint_len10 {n : Nat} (h : n ≤ 18446744073709551615) : (varint n).length ≤ 10 := varint_len 9 (by omega)
theorem varint_pos (n : Nat) : 0 < (varint n).length := by
  by_cases h : n < 128
  · rw [varint_lt h]; simp
  · rw [varint_ge (by omega)]; simp
/-- The zigzag form. -/
def zigI (n : Int) : Nat := if n < 0 then (2 * (-(n + 1)) + 1).toNat else (2 * n).toNat
def unzigI (z : Nat) : Int := if z % 2 = 1 then -((z / 2 : Nat) : Int) - 1 else ((z / 2 : Nat) : Int)
theorem zigI_lt {n : Int} (h1 : -9223372036854775808 ≤ n) (h2 : n ≤ 9223372036854775807) : zigI n ≤ 18446744073709551615 := by unfold zigI; split <;> omega
theorem unzig_zig (n : Int) : unzigI (zigI n) = n := by unfold unzigI zigI; split <;> split <;> omega
theorem zig_unzig (z : Nat) : zigI (unzigI z) = z := by unfold unzigI zigI; split <;> split <;> omega
theorem unzigI_range {z : Nat} (h : z ≤ 18446744073709551615) : -9223372036854775808 ≤ unzigI z ∧ unzigI z ≤ 9223372036854775807 := by unfold unzigI; split <;> omega

/-- The encodings. -/
def encInt (n : Int) : List UInt8 := varint (zigI n)
def encBool (b : Bool) : List UInt8 := if b then [1] else [0]
def encRaw (bs : List UInt8) : List UInt8 := varint bs.length ++ bs
def encInts (l : List Int) : List UInt8 := varint l.length ++ l.flatMap encInt
def encIntsTo (l : List Int) (k : Nat) : List UInt8 := varint l.length ++ (l.take k).flatMap encInt
theorem encIntsTo_zero (l : List Int) : encIntsTo l 0 = varint l.length := by simp [encIntsTo]
theorem encIntsTo_succ (l : List Int) (k : Nat) (hk : k < l.length) : encIntsTo l (k + 1) = encIntsTo l k ++ encInt (l[k]?.getD 0) := by
  unfold encIntsTo
  rw [List.take_succ_eq_append_getElem hk, List.flatMap_append, List.append_assoc]
  simp [hk]
theorem encIntsTo_all (l : List Int) (n : Nat) (h : l.length ≤ n) : encIntsTo l n = encInts l := by unfold encIntsTo encInts; rw [List.take_of_length_le h]

theorem ofNat_toNat {n : Nat} (h : n < 256) : (((UInt8.ofNat n).toNat : Nat) : Int) = (n : Int) := by rw [UInt8.toNat_ofNat']; omega
end Go.Proofs.Ytldmokjpfnakkaa

/- Plain facts on the 64-bit hash of package hash: no program in sight. -/
namespace Go.Proofs.Ytldmokjpfnakkaa
open Go.RowKit

/-- One step of the hash, as the walk spells it. -/
def mixI (a b : Int) : Int :=
  bits BinOp.xor IntKind.u64 (IntKind.u64.wrap (bits BinOp.xor IntKind.u64 a b * 11400714819323198485))
    (IntKind.u64.wrap (bits BinOp.xor IntKind.u64 a b * 11400714819323198485) / 4294967296)

theorem wrap_u64 (n : Int) : IntKind.u64.wrap n = n % 18446744073709551616 := by
  simp [IntKind.wrap, IntKind.bits, IntKind.signed]
theorem mixI_alt (a b : Int) : mixI a b = bits BinOp.xor IntKind.u64 (IntKind.u64.wrap (bits BinOp.xor IntKind.u64 a b * 11400714819323198485))
    (IntKind.u64.wrap ((IntKind.u64.wrap (bits BinOp.xor IntKind.u64 a b * 11400714819323198485)).tdiv 4294967296)) := by
  unfold mixI
  congr 1
  generalize bits BinOp.xor IntKind.u64 a b * 11400714819323198485 = x
  rw [wrap_u64, wrap_u64]
  have h0 : 0 ≤ x % 18446744073709551616 := Int.emod_nonneg _ (by decide)
  have h1 : x % 18446744073709551616 < 18446744073709551616 := Int.emod_lt_of_pos _ (by decide)
  rw [Int.tdiv_eq_ediv_of_nonneg h0]
  omega

/-- The little-endian number of a list of bytes. -/
def wordN : List UInt8 → Nat
  | [] => 0
  | b :: bs => b.toNat + 256 * wordN bs

theorem wordN_lt (bs : List UInt8) : wordN bs < 256 ^ bs.length := by
  induction bs with
  | nil => simp [wordN]
  | cons b bs ih =>
    have hb : b.toNat < 256 := b.toNat_lt
    simp only [wordN, List.length_cons, Nat.pow_succ]
    omega

theorem wordN_snoc (bs : List UInt8) (b : UInt8) : wordN (bs ++ [b]) = wordN bs + 256 ^ bs.length * b.toNat := by
  induction bs with
  | nil => simp [wordN]
  | cons c bs ih =>
    simp only [List.cons_append, wordN, ih, List.length_cons, Nat.pow_succ, Nat.mul_add]
    have : 256 * (256 ^ bs.length * b.toNat) = 256 ^ bs.length * 256 * b.toNat := by
      rw [← Nat.mul_assoc, Nat.mul_comm 256]
    omega

/-- Group number k of 8 bytes. -/
def group (bs : List UInt8) (k : Nat) : List UInt8 := (bs.drop (8 * k)).take 8

def nwords (bs : List UInt8) : Nat := (bs.length + 7) / 8

def wordAt (bs : List UInt8) (k : Nat) : Int := (wordN (group bs k) : Nat)

/-- The words of a list of bytes, the first k of them. -/
def wordsTo (bs : List UInt8) (k : Nat) : List Int := (List.range k).map (wordAt bs)
def wordsI (bs : List UInt8) : List Int := wordsTo bs (nwords bs)

theorem wordsTo_succ (bs : List UInt8) (k : Nat) : wordsTo bs (k + 1) = wordsTo bs k ++ [wordAt bs k] := by simp [wordsTo, List.range_succ]
theorem wordsTo_zero (bs : List UInt8) : wordsTo bs 0 = [] := rfl
theorem wordsTo_length (bs : List UInt8) (k : Nat) : (wordsTo bs k).length = k := by simp [wordsTo]

theorem group_length (bs : List UInt8) (k : Nat) : (group bs k).length = min 8 (bs.length - 8 * k) := by simp [group]

/-- One round of the program's loop over a group. -/
theorem word_step (g : List UInt8) (j : Nat) (h8 : j < 8) (hj : j < g.length) :
    bits BinOp.or IntKind.u64 ((wordN (g.take j) : Nat) : Int) (IntKind.u64.wrap (IntKind.u64.wrap (((g[j]?.getD 0).toNat : Nat) : Int) * 2 ^ (8 * j))) = ((wordN (g.take (j + 1)) : Nat) : Int) := by
  have hb : (g[j]?.getD 0).toNat < 256 := UInt8.toNat_lt _
  have hlt := wordN_lt (g.take j)
  have hl : (g.take j).length = j := by simp; omega
  rw [hl] at hlt
  have hp : (256 : Nat) ^ j = 2 ^ (8 * j) := by rw [show (256 : Nat) = 2 ^ 8 from rfl, ← Nat.pow_mul]
  have hpw : 2 ^ (8 * j) ≤ 2 ^ 56 := Nat.pow_le_pow_right (by decide) (by omega)
  have e1 : wordN (g.take (j + 1)) = wordN (g.take j) + 2 ^ (8 * j) * (g[j]?.getD 0).toNat := by
    rw [List.take_succ_eq_append_getElem hj, wordN_snoc, hl, hp]
    simp [hj]
  generalize (g[j]?.getD 0).toNat = c at *
  generalize wordN (g.take j) = x at *
  have hcm : 2 ^ (8 * j) * c ≤ 2 ^ 56 * 255 := Nat.mul_le_mul hpw (by omega)
  rw [wrap_u64, wrap_u64]
  have e2 : ((c : Int) % 18446744073709551616 * 2 ^ (8 * j)) % 18446744073709551616 = ((2 ^ (8 * j) * c : Nat) : Int) := by
    rw [Int.emod_eq_of_lt (a := (c : Int)) (by omega) (by omega)]
    rw [show ((c : Int) * 2 ^ (8 * j)) = ((2 ^ (8 * j) * c : Nat) : Int) from by push_cast; exact Int.mul_comm _ _]
    exact Int.emod_eq_of_lt (by omega) (by omega)
  rw [e2, u64_or_nat _ _ (by omega) (by omega), e1]
  congr 1
  rw [Nat.or_comm, ← Nat.two_pow_add_eq_or_of_lt (by omega)]
  omega

/-- One round of the reference's loop over a group. -/
theorem word_back (g : List UInt8) (r : Nat) (hr : r < g.length) (h8 : g.length ≤ 8) :
    IntKind.u64.wrap (IntKind.u64.wrap (256 * ((wordN (g.drop (r + 1)) : Nat) : Int)) + IntKind.u64.wrap (((g[r]?.getD 0).toNat : Nat) : Int)) = ((wordN (g.drop r) : Nat) : Int) := by
  have e : wordN (g.drop r) = (g[r]?.getD 0).toNat + 256 * wordN (g.drop (r + 1)) := by
    rw [List.drop_eq_getElem_cons hr, wordN]
    simp [hr]
  have h1 := wordN_lt (g.drop r)
  have h2 : 256 ^ (g.drop r).length ≤ 256 ^ 8 := Nat.pow_le_pow_right (by decide) (by simp; omega)
  rw [wrap_u64, wrap_u64, wrap_u64]
  omega

theorem group_take (bs : List UInt8) (k m : Nat) (h : (group bs k).length ≤ m) : (group bs k).take m = group bs k := List.take_of_length_le h

/-- All the steps of a list of words. -/
def mixAll (s : Int) (ws : List Int) : Int := ws.foldl mixI s
theorem mixAll_snoc (s : Int) (ws : List Int) (x : Int) : mixAll s (ws ++ [x]) = mixI (mixAll s ws) x := by simp [mixAll]
theorem mixAll_nil (s : Int) : mixAll s [] = s := rfl

/-- An int as a word. -/
def toU (n : Int) : Int := IntKind.u64.wrap n
/-- A word as an int. -/
def toI (n : Int) : Int := wrap64 n

/-- The hash of a label and integers. -/
def sumI (label : List UInt8) (ws : List Int) : Int :=
  mixI (mixAll (mixI (mixI (mixAll 0 (wordsI label)) (label.length : Nat)) (ws.length : Nat)) (ws.map toU)) 0

/-- The state behind the first j integers. -/
def sumTo (label : List UInt8) (n : Nat) (ws : List Int) (j : Nat) : Int :=
  mixAll (mixI (mixI (mixAll 0 (wordsI label)) (label.length : Nat)) (n : Nat)) ((ws.take j).map toU)
theorem sumTo_zero (label : List UInt8) (n : Nat) (ws : List Int) : sumTo label n ws 0 = mixI (mixI (mixAll 0 (wordsI label)) (label.length : Nat)) (n : Nat) := rfl
theorem sumTo_succ (label : List UInt8) (n : Nat) (ws : List Int) (j : Nat) (hj : j < ws.length) : sumTo label n ws (j + 1) = mixI (sumTo label n ws j) (IntKind.u64.wrap (ws[j]?.getD 0)) := by
  unfold sumTo
  rw [List.take_succ_eq_append_getElem hj, List.map_append, List.map_cons, List.map_nil, mixAll_snoc]
  simp [hj, toU]
theorem sumTo_all (label : List UInt8) (n : Nat) (ws : List Int) (hn : ws.length = n) : mixI (sumTo label n ws n) 0 = sumI label ws := by
  unfold sumTo sumI
  rw [List.take_of_length_le (by omega), hn]

def bytesI (label bs : List UInt8) : Int := sumI label ((wordsI bs).map toI ++ [((bs.length : Nat) : Int)])

def pairBytes : List UInt8 := [112, 97, 105, 114]
def pairI (a b : Int) : Int := sumI pairBytes [toI a, toI b]

end Go.Proofs.Ytldmokjpfnakkaa

/- The hash is one to one in each of its words: no program in sight. -/
namespace Go.Proofs.Ytldmokjpfnakkaa
open Go.RowKit

/-- A word of 64 bits. -/
def InU (n : Int) : Prop := 0 ≤ n ∧ n < 18446744073709551616

def mixB (s w : BitVec 64) : BitVec 64 := ((s ^^^ w) * 11400714819323198485#64) ^^^ (((s ^^^ w) * 11400714819323198485#64) >>> 32)

theorem bits_xor_u64 (a b : Int) : bits BinOp.xor IntKind.u64 a b = ((BitVec.ofInt 64 a ^^^ BitVec.ofInt 64 b).toNat : Int) := by
  show IntKind.u64.wrap ((BitVec.ofInt 64 a ^^^ BitVec.ofInt 64 b).toNat : Int) = _
  rw [wrap_u64]
  have := (BitVec.ofInt 64 a ^^^ BitVec.ofInt 64 b).isLt
  omega

theorem ofInt_toNat64 (x : BitVec 64) : BitVec.ofInt 64 (x.toNat : Int) = x := by
  rw [BitVec.ofInt_natCast, BitVec.ofNat_toNat, BitVec.setWidth_eq]

theorem mixI_eq (a b : Int) : mixI a b = ((mixB (BitVec.ofInt 64 a) (BitVec.ofInt 64 b)).toNat : Int) := by
  have hm : IntKind.u64.wrap (bits BinOp.xor IntKind.u64 a b * 11400714819323198485) = (((BitVec.ofInt 64 a ^^^ BitVec.ofInt 64 b) * 11400714819323198485#64).toNat : Int) := by
    rw [bits_xor_u64, wrap_u64, BitVec.toNat_mul]
    simp
  unfold mixI mixB
  rw [hm]
  generalize (BitVec.ofInt 64 a ^^^ BitVec.ofInt 64 b) * 11400714819323198485#64 = m
  have hs : (m.toNat : Int) / (4294967296 : Int) = ((m >>> 32).toNat : Int) := by
    rw [BitVec.toNat_ushiftRight, Nat.shiftRight_eq_div_pow]
    rfl
  rw [hs, bits_xor_u64, ofInt_toNat64, ofInt_toNat64]

theorem xorshift_inj (m m' : BitVec 64) (h : m ^^^ (m >>> 32) = m' ^^^ (m' >>> 32)) : m = m' := by
  have h2 : m >>> 32 = m' >>> 32 := by
    have e : ∀ x : BitVec 64, (x ^^^ (x >>> 32)) >>> 32 = x >>> 32 := by
      intro x
      rw [BitVec.ushiftRight_xor_distrib, ← BitVec.shiftRight_add]
      have : x >>> (32 + 32) = 0#64 := BitVec.ushiftRight_eq_zero (by decide)
      rw [this, BitVec.xor_zero]
    rw [← e m, ← e m', h]
  rw [h2] at h
  exact (BitVec.xor_left_inj (m' >>> 32)).1 h

theorem mul_inj (x y : BitVec 64) (h : x * 11400714819323198485#64 = y * 11400714819323198485#64) : x = y := by
  have e : ∀ z : BitVec 64, z * 11400714819323198485#64 * 17428512612931826493#64 = z := by
    intro z
    rw [BitVec.mul_assoc, show 11400714819323198485#64 * 17428512612931826493#64 = 1#64 from by decide, BitVec.mul_one]
  rw [← e x, ← e y, h]

theorem mixB_inj_word (s w w' : BitVec 64) (h : mixB s w = mixB s w') : w = w' :=
  (BitVec.xor_right_inj s).1 (mul_inj _ _ (xorshift_inj _ _ h))
theorem mixB_inj_state (s s' w : BitVec 64) (h : mixB s w = mixB s' w) : s = s' :=
  (BitVec.xor_left_inj w).1 (mul_inj _ _ (xorshift_inj _ _ h))

theorem ofInt_inj {a b : Int} (ha : InU a) (hb : InU b) (h : BitVec.ofInt 64 a = BitVec.ofInt 64 b) : a = b := by
  have h' := congrArg BitVec.toNat h
  rw [BitVec.toNat_ofInt, BitVec.toNat_ofInt] at h'
  unfold InU at ha hb
  omega

theorem mixI_in (a b : Int) : InU (mixI a b) := by
  rw [mixI_eq]
  have := (mixB (BitVec.ofInt 64 a) (BitVec.ofInt 64 b)).isLt
  exact ⟨by omega, by omega⟩

theorem mixI_word {s x y : Int} (hx : InU x) (hy : InU y) (h : mixI s x = mixI s y) : x = y := by
  rw [mixI_eq, mixI_eq] at h
  exact ofInt_inj hx hy (mixB_inj_word (BitVec.ofInt 64 s) _ _ (BitVec.eq_of_toNat_eq (Int.ofNat.inj h)))
theorem mixI_state {s t x : Int} (hs : InU s) (ht : InU t) (h : mixI s x = mixI t x) : s = t := by
  rw [mixI_eq, mixI_eq] at h
  exact ofInt_inj hs ht (mixB_inj_state _ _ (BitVec.ofInt 64 x) (BitVec.eq_of_toNat_eq (Int.ofNat.inj h)))

theorem mixAll_in {s : Int} (hs : InU s) (l : List Int) : InU (mixAll s l) := by
  induction l generalizing s with
  | nil => exact hs
  | cons x l ih => exact ih (mixI_in _ _)
theorem mixAll_state {s t : Int} (hs : InU s) (ht : InU t) (l : List Int) (h : mixAll s l = mixAll t l) : s = t := by
  induction l generalizing s t with
  | nil => exact h
  | cons x l ih => exact mixI_state hs ht (ih (mixI_in _ _) (mixI_in _ _) h)

/-- One word apart. -/
theorem mixAll_one {s x y : Int} (l r : List Int) (hx : InU x) (hy : InU y) : mixAll s (l ++ x :: r) = mixAll s (l ++ y :: r) ↔ x = y := by
  constructor
  · intro h
    simp only [mixAll, List.foldl_append, List.foldl_cons] at h
    exact mixI_word hx hy (mixAll_state (mixI_in _ _) (mixI_in _ _) r h)
  · rintro rfl; rfl

theorem toU_in (n : Int) : InU (toU n) := by
  unfold toU; rw [wrap_u64]; exact ⟨Int.emod_nonneg _ (by decide), Int.emod_lt_of_pos _ (by decide)⟩

theorem natU (n : Nat) (h : n < 18446744073709551616) : InU (n : Int) := ⟨by omega, by omega⟩
theorem zeroU : InU 0 := ⟨by decide, by decide⟩

/-- The words that a sum absorbs. -/
def sumWords (label : List UInt8) (ws : List Int) : List Int := wordsI label ++ [((label.length : Nat) : Int), ((ws.length : Nat) : Int)] ++ ws.map toU ++ [0]
theorem sumI_words (label : List UInt8) (ws : List Int) : sumI label ws = mixAll 0 (sumWords label ws) := by
  simp [sumI, sumWords, mixAll]

/-- Two sums whose words differ at one place. -/
theorem sum_one (label : List UInt8) (l r : List Int) (x y : Int) : sumI label (l ++ x :: r) = sumI label (l ++ y :: r) ↔ toU x = toU y := by
  rw [sumI_words, sumI_words]
  have e : ∀ z, sumWords label (l ++ z :: r) = (wordsI label ++ [((label.length : Nat) : Int), (((l ++ z :: r).length : Nat) : Int)] ++ l.map toU) ++ toU z :: (r.map toU ++ [0]) := by
    intro z; simp [sumWords]
  rw [e, e]
  have hl : ∀ z, (l ++ z :: r).length = l.length + r.length + 1 := by intro z; simp; omega
  rw [hl, hl]
  exact mixAll_one _ _ (toU_in _) (toU_in _)

theorem toU_inj {a b : Int} (ha : -9223372036854775808 ≤ a ∧ a ≤ 9223372036854775807) (hb : -9223372036854775808 ≤ b ∧ b ≤ 9223372036854775807) : toU a = toU b ↔ a = b := by
  unfold toU; rw [wrap_u64, wrap_u64]; omega
theorem toU_toI {a : Int} (ha : InU a) : toU (toI a) = a := by
  unfold toU toI wrap64; rw [wrap_u64]; unfold InU at ha; omega

/-- Sums that differ at one integer. -/
theorem sum_set (label : List UInt8) (xs : List Int) (k : Nat) (v : Int) (hk : k < xs.length) (h1 : -9223372036854775808 ≤ xs[k] ∧ xs[k] ≤ 9223372036854775807) (h2 : -9223372036854775808 ≤ v ∧ v ≤ 9223372036854775807) :
    sumI label xs = sumI label (xs.set k v) ↔ xs[k] = v := by
  have e1 : xs = xs.take k ++ xs[k] :: xs.drop (k + 1) := by simp
  have e2 : xs.set k v = xs.take k ++ v :: xs.drop (k + 1) := by rw [List.set_eq_take_append_cons_drop, if_pos hk]
  rw [e2]
  conv => lhs; lhs; rw [e1]
  rw [sum_one, toU_inj h1 h2]

/-- Sums under two labels whose words differ at one place. -/
theorem sum_label_one {la lb : List UInt8} (ws : List Int) {l r : List Int} {x y : Int} (hx : InU x) (hy : InU y) (ea : wordsI la = l ++ x :: r) (eb : wordsI lb = l ++ y :: r) (hl : la.length = lb.length) :
    sumI la ws = sumI lb ws ↔ x = y := by
  rw [sumI_words, sumI_words]
  unfold sumWords
  rw [ea, eb, hl]
  simp only [List.append_assoc, List.cons_append]
  exact mixAll_one _ _ hx hy

theorem wordN_inj : ∀ {a b : List UInt8}, a.length = b.length → wordN a = wordN b → a = b
  | [], [], _, _ => rfl
  | x :: a, y :: b, hl, h => by
    have hx : x.toNat < 256 := x.toNat_lt
    have hy : y.toNat < 256 := y.toNat_lt
    simp only [wordN] at h
    have h1 : x = y := UInt8.toNat_inj.1 (by omega)
    have h2 : a = b := wordN_inj (by simpa using hl) (by omega)
    rw [h1, h2]

theorem group_lt (bs : List UInt8) (k : Nat) : wordN (group bs k) < 18446744073709551616 := by
  have h := wordN_lt (group bs k)
  have h8 : (group bs k).length ≤ 8 := by rw [group_length]; omega
  have := Nat.pow_le_pow_right (n := 256) (by decide) h8
  omega
theorem wordAt_in (bs : List UInt8) (k : Nat) : InU (wordAt bs k) := natU _ (group_lt bs k)

/-- The words, one of them singled out. -/
theorem words_split (bs : List UInt8) (g : Nat) (hg : g < nwords bs) : wordsI bs = (List.range g).map (wordAt bs) ++ wordAt bs g :: ((List.range (nwords bs - g - 1)).map fun j => wordAt bs (g + 1 + j)) := by
  unfold wordsI wordsTo
  obtain ⟨d, hd⟩ : ∃ d, nwords bs = g + (1 + d) := ⟨nwords bs - g - 1, by omega⟩
  rw [hd, List.range_add, List.map_append, List.map_map, List.range_add, List.map_append]
  congr 1
  have : g + (1 + d) - g - 1 = d := by omega
  rw [this]
  simp [Function.comp_def, Nat.add_assoc]

/-- Two lists of bytes of one length that agree outside of group g. -/
theorem words_one {a b : List UInt8} {g : Nat} (hl : a.length = b.length) (hg : g < nwords a) (hout : ∀ j, j ≠ g → group a j = group b j) :
    ∃ l r, wordsI a = l ++ wordAt a g :: r ∧ wordsI b = l ++ wordAt b g :: r := by
  have hn : nwords b = nwords a := by unfold nwords; rw [hl]
  refine ⟨(List.range g).map (wordAt a), _, words_split a g hg, ?_⟩
  rw [words_split b g (by omega), hn]
  congr 1
  · refine List.map_congr_left fun j hj => ?_
    unfold wordAt
    rw [hout j (by have := List.mem_range.1 hj; omega)]
  · congr 1
    refine List.map_congr_left fun j hj => ?_
    unfold wordAt
    rw [hout (g + 1 + j) (by omega)]

theorem groups_ext {a b : List UInt8} (_hl : a.length = b.length) (h : ∀ j, group a j = group b j) : a = b := by
  refine List.ext_getElem? fun i => ?_
  have := congrArg (fun l : List UInt8 => l[i % 8]?) (h (i / 8))
  simp only [group, List.getElem?_take, List.getElem?_drop] at this
  rw [if_pos (by omega), if_pos (by omega)] at this
  have e : 8 * (i / 8) + i % 8 = i := by omega
  rwa [e] at this

/-- Two lists that agree outside of a group have the word of that group in common just where they are one. -/
theorem word_eq_iff {a b : List UInt8} {g : Nat} (hl : a.length = b.length) (hout : ∀ j, j ≠ g → group a j = group b j) : wordAt a g = wordAt b g ↔ a = b := by
  constructor
  · intro h
    have h' : wordN (group a g) = wordN (group b g) := by unfold wordAt at h; omega
    have hgl : (group a g).length = (group b g).length := by rw [group_length, group_length, hl]
    have hg := wordN_inj hgl h'
    exact groups_ext hl fun j => by
      by_cases e : j = g
      · rw [e]; exact hg
      · exact hout j e
  · rintro rfl; rfl

/-- bytes: one group apart. -/
theorem bytes_one (label : List UInt8) {a b : List UInt8} {g : Nat} (hl : a.length = b.length) (hg : g < nwords a) (hout : ∀ j, j ≠ g → group a j = group b j) : bytesI label a = bytesI label b ↔ a = b := by
  obtain ⟨l, r, ea, eb⟩ := words_one hl hg hout
  unfold bytesI
  rw [ea, eb, hl]
  simp only [List.map_append, List.map_cons, List.append_assoc, List.cons_append]
  rw [sum_one, toU_toI (wordAt_in a g), toU_toI (wordAt_in b g)]
  exact word_eq_iff hl hout

/-- labels: one group apart. -/
theorem label_one {a b : List UInt8} (ws : List Int) {g : Nat} (hl : a.length = b.length) (hg : g < nwords a) (hout : ∀ j, j ≠ g → group a j = group b j) : sumI a ws = sumI b ws ↔ a = b := by
  obtain ⟨l, r, ea, eb⟩ := words_one hl hg hout
  rw [sum_label_one ws (wordAt_in a g) (wordAt_in b g) ea eb hl]
  exact word_eq_iff hl hout

/-- A change within one group. -/
theorem group_set {bs : List UInt8} {k : Nat} {v : UInt8} (j : Nat) (hj : j ≠ k / 8) : group (bs.set k v) j = group bs j := by
  unfold group
  refine List.ext_getElem? fun i => ?_
  simp only [List.getElem?_take, List.getElem?_drop]
  split
  · rw [List.getElem?_set_ne (by omega)]
  · rfl

theorem wordN_zero (g : List UInt8) : wordN (g ++ [0]) = wordN g := by rw [wordN_snoc]; simp

/-- A zero byte behind a group that is not full. -/
theorem words_zero (bs : List UInt8) (h : bs.length % 8 ≠ 0) : wordsI (bs ++ [0]) = wordsI bs := by
  have hn : nwords (bs ++ [0]) = nwords bs := by unfold nwords; simp; omega
  unfold wordsI wordsTo
  rw [hn]
  refine List.map_congr_left fun j hj => ?_
  have hj' := List.mem_range.1 hj
  unfold wordAt
  congr 1
  unfold group nwords at *
  rw [List.drop_append_of_le_length (by omega)]
  by_cases h8 : bs.length - 8 * j ≥ 8
  · rw [List.take_append_of_le_length (by simp; omega)]
  · rw [List.take_of_length_le (by simp; omega), List.take_of_length_le (l := bs.drop (8 * j)) (by simp; omega), wordN_zero]

theorem bytes_zero (label bs : List UInt8) (h : bs.length % 8 ≠ 0) (hl : bs.length < 4294967296) : bytesI label (bs ++ [0]) ≠ bytesI label bs := by
  have key : ∀ (l : List Int) (m n : Nat), m < 4294967297 → n < 4294967297 → sumI label (l ++ [((m : Nat) : Int)]) = sumI label (l ++ [((n : Nat) : Int)]) → m = n := by
    intro l m n hm hn e
    have h1 := (sum_one label l [] (m : Int) (n : Int)).1 e
    rw [toU_inj ⟨by omega, by omega⟩ ⟨by omega, by omega⟩] at h1
    omega
  unfold bytesI
  rw [words_zero bs h]
  intro e
  have h2 := key _ _ _ (by rw [List.length_append]; simp only [List.length_cons, List.length_nil]; omega) (by omega) e
  rw [List.length_append] at h2
  simp only [List.length_cons, List.length_nil] at h2
  omega

theorem pair_first {a b : Int} (c : Int) (ha : InU a) (hb : InU b) : pairI a c = pairI b c ↔ a = b := by
  have h := sum_one pairBytes [] [toI c] (toI a) (toI b)
  rw [toU_toI ha, toU_toI hb] at h
  exact h
theorem pair_second {a b : Int} (c : Int) (ha : InU a) (hb : InU b) : pairI c a = pairI c b ↔ a = b := by
  have h := sum_one pairBytes [toI c] [] (toI a) (toI b)
  rw [toU_toI ha, toU_toI hb] at h
  exact h

end Go.Proofs.Ytldmokjpfnakkaa

/- Plain Lean: what the bit operations of package wire come to. -/
namespace Go.Proofs.Ytldmokjpfnakkaa
open Go.RowKit

theorem not64 (x : Nat) (hx : x < 18446744073709551616) : (BitVec.ofNat 64 x ^^^ BitVec.allOnes 64).toNat = 18446744073709551615 - x := by
  rw [BitVec.xor_allOnes, BitVec.toNat_not, BitVec.toNat_ofNat]
  omega
theorem zig_bits {n : Int} (h1 : -9223372036854775808 ≤ n) (h2 : n ≤ 9223372036854775807) :
    bits BinOp.xor IntKind.u64 (IntKind.u64.wrap (IntKind.u64.wrap n * 2)) (IntKind.u64.wrap (n / 9223372036854775808)) = ((zigI n : Nat) : Int) := by
  rw [bits_xor_u64]
  simp only [wrap_u64]
  unfold zigI
  by_cases h : n < 0
  · rw [if_pos h]
    have e1 : n / 9223372036854775808 % 18446744073709551616 = 18446744073709551615 := by omega
    have e2 : n % 18446744073709551616 * 2 % 18446744073709551616 = ((18446744073709551616 + 2 * n).toNat : Int) := by omega
    have e3 : BitVec.ofInt 64 18446744073709551615 = BitVec.allOnes 64 := by decide +kernel
    rw [e1, e2, e3, BitVec.ofInt_natCast, not64 _ (by omega)]
    omega
  · rw [if_neg h]
    have e1 : n / 9223372036854775808 % 18446744073709551616 = 0 := by omega
    have e2 : n % 18446744073709551616 * 2 % 18446744073709551616 = ((2 * n).toNat : Int) := by omega
    rw [e1, e2, BitVec.ofInt_natCast, show BitVec.ofInt 64 0 = 0#64 by decide +kernel, BitVec.xor_zero, BitVec.toNat_ofNat]
    omega
theorem bits_and_one (n : Nat) : bits BinOp.and IntKind.u64 (n : Int) 1 = ((n % 2 : Nat) : Int) := by
  show IntKind.u64.wrap ((BitVec.ofInt 64 (n : Int) &&& BitVec.ofInt 64 1).toNat : Int) = _
  rw [wrap_u64, BitVec.toNat_and, BitVec.ofInt_natCast, BitVec.toNat_ofNat, show (BitVec.ofInt 64 1).toNat = 1 by decide +kernel, Nat.and_one_is_mod]
  omega
theorem unzig_bits {n : Nat} (h : n ≤ 18446744073709551615) :
    bits BinOp.xor IntKind.i64 ((n : Int) / 2) (wrap64 (-wrap64 (bits BinOp.and IntKind.u64 (n : Int) 1))) = unzigI n := by
  rw [bits_and_one n]
  show IntKind.i64.wrap ((BitVec.ofInt 64 ((n : Int) / 2) ^^^ BitVec.ofInt 64 (wrap64 (-wrap64 ((n % 2 : Nat) : Int)))).toNat : Int) = _
  unfold unzigI
  have ew : ∀ x : Int, IntKind.i64.wrap x = (x + 9223372036854775808) % 18446744073709551616 - 9223372036854775808 := by
    intro x
    simp [IntKind.wrap, IntKind.bits, IntKind.signed]
    omega
  have e0 : BitVec.ofInt 64 ((n : Int) / 2) = BitVec.ofNat 64 (n / 2) := by rw [show (n : Int) / 2 = ((n / 2 : Nat) : Int) by omega, BitVec.ofInt_natCast]
  rw [e0]
  by_cases h2 : n % 2 = 1
  · rw [if_pos h2, h2]
    have e1 : wrap64 (-wrap64 ((1 : Nat) : Int)) = -1 := by decide +kernel
    have e3 : BitVec.ofInt 64 (-1) = BitVec.allOnes 64 := by decide +kernel
    rw [e1, e3, not64 _ (by omega), ew]
    omega
  · rw [if_neg h2]
    have e1 : wrap64 (-wrap64 ((n % 2 : Nat) : Int)) = 0 := by rw [show n % 2 = 0 by omega]; decide +kernel
    rw [e1, show BitVec.ofInt 64 0 = 0#64 by decide +kernel, BitVec.xor_zero, BitVec.toNat_ofNat, ew]
    omega
theorem and127_fin : ∀ n : Fin 256, bits BinOp.and IntKind.u8 ((n.val : Nat) : Int) 127 = ((n.val % 128 : Nat) : Int) := by decide +kernel
theorem and127 (c : UInt8) : bits BinOp.and IntKind.u8 ((c.toNat : Nat) : Int) 127 = ((c.toNat % 128 : Nat) : Int) := and127_fin ⟨c.toNat, c.toNat_lt⟩
theorem or_step {i acc : Nat} {c : UInt8} (hi : i ≤ 9) (ha : acc < 128 ^ i) (h9 : i = 9 → c.toNat % 128 ≤ 1) :
    bits BinOp.or IntKind.u64 (acc : Int) (IntKind.u64.wrap (IntKind.u64.wrap (bits BinOp.and IntKind.u8 ((c.toNat : Nat) : Int) 127) * 2 ^ (7 * i))) = ((acc + c.toNat % 128 * 128 ^ i : Nat) : Int) := by
  rw [and127]
  have hm : c.toNat % 128 < 128 := Nat.mod_lt _ (by decide)
  generalize c.toNat % 128 = x at *
  have hp : (128 : Nat) ^ i = 2 ^ (7 * i) := by rw [show (128 : Nat) = 2 ^ 7 from rfl, ← Nat.pow_mul]
  have hbound : 2 ^ (7 * i) * x < 18446744073709551616 := by
    by_cases e : i = 9
    · subst e
      have := h9 rfl
      have : 2 ^ (7 * 9) * x ≤ 2 ^ (7 * 9) * 1 := Nat.mul_le_mul (Nat.le_refl _) this
      omega
    · have h8 : 2 ^ (7 * i) ≤ 2 ^ 56 := Nat.pow_le_pow_right (by decide) (by omega)
      have : 2 ^ (7 * i) * x ≤ 2 ^ 56 * 127 := Nat.mul_le_mul h8 (by omega)
      omega
  have hacc : acc < 18446744073709551616 := by
    have : 128 ^ i ≤ 128 ^ 9 := Nat.pow_le_pow_right (by decide) hi
    omega
  rw [wrap_u64, wrap_u64]
  have e2 : ((x : Int) % 18446744073709551616 * 2 ^ (7 * i)) % 18446744073709551616 = ((2 ^ (7 * i) * x : Nat) : Int) := by
    rw [Int.emod_eq_of_lt (a := (x : Int)) (by omega) (by omega)]
    rw [show ((x : Int) * 2 ^ (7 * i)) = ((2 ^ (7 * i) * x : Nat) : Int) from by push_cast; exact Int.mul_comm _ _]
    exact Int.emod_eq_of_lt (by omega) (by omega)
  rw [hp] at ha ⊢
  rw [e2, u64_or_nat _ _ (by omega) (by omega)]
  congr 1
  rw [Nat.or_comm, ← Nat.two_pow_add_eq_or_of_lt (by omega), Nat.mul_comm x]
  omega
end Go.Proofs.Ytldmokjpfnakkaa

/- The walks of wire's Writer. -/
namespace Go.Proofs.Ytldmokjpfnakkaa
open Go.RowKit

theorem own_ne {w : World} {B gd n size e T : Nat} {v : Value} {xs : List Value} {cs : Array Value} (hT : T ≠ e) (hB : Blk w gd T cs) (hown : w.ownsRow B e size v n xs) : v.ownBlock ≠ some gd := by
  intro h
  rcases hown.2 with ⟨rfl, _⟩ | ⟨g, cap, cur, rfl, _, hg, _⟩
  · simp [Value.ownBlock] at h
  · obtain rfl : g = gd := by simpa [Value.ownBlock] using h
    unfold Blk at hB
    rw [hB] at hg
    injection hg with hg
    injection hg with _ hg
    exact hT hg
theorem own_put {w w3 : World} {B gd n n' T e : Nat} {v v' : Value} {xs xs' : List Value} (hT : T ≠ e) (hBg : B ≤ gd) (hB : Blk w gd T #[v]) (hown : w.ownsRow B e 1 v n xs) (hg : w.grownBy w3 v.ownBlock) (hown3 : w3.ownsRow B e 1 v' n' xs') :
    w3.cell? ⟨gd, 0, none⟩ = some v ∧ w3.frozen? ⟨gd, 0, none⟩ = false ∧ Blk (w3.setCell ⟨gd, 0, none⟩ v') gd T #[v'] ∧ (w3.setCell ⟨gd, 0, none⟩ v').ownsRow B e 1 v' n' xs' ∧ Below B w (w3.setCell ⟨gd, 0, none⟩ v') := by
  have h3 : Blk w3 gd T #[v] := hB.grown hg (Ne.symm (own_ne hT hB hown))
  refine ⟨by simpa using h3.cell 0, h3.frozen 0, by simpa using h3.set_ 0 v', ?_, ?_⟩
  · exact hown3.kept (only_set (only_refl w3 (some gd)) (.inl rfl) v') (.inr (own_ne hT h3 hown3))
  · exact ((Below.refl B w).grown hg (by have := hB.lt; omega) (fun k e => (hown.lt k e).1)).setCell hBg _

/-- A Writer at block gd, all of it in blocks from B on, with the bytes bs. -/
def Wr (w : World) (B gd : Nat) (bs : List UInt8) : Prop :=
  B ≤ gd ∧ ∃ A n c, bs.length = n ∧ Blk w gd 37 #[.slice A n c] ∧ w.ownsRow B 5 1 (.slice A n c) n (bs.map fun b => Value.int .u8 ((b.toNat : Nat) : Int))
theorem Wr.all {w w' : World} {B gd : Nat} {bs : List UInt8} (h : Wr w B gd bs) (hb : Below w.heap.size w w') : Wr w' B gd bs := by
  obtain ⟨h0, A, n, c, h1, h2, h3⟩ := h
  exact ⟨h0, A, n, c, h1, h2.all hb, own_keep h3 hb⟩
theorem Wr.new (w : World) : Wr (w.alloc (.cells #[.slice none 0 0] 37)) w.heap.size w.heap.size [] := ⟨Nat.le_refl _, none, 0, 0, rfl, Blk.new _ _ _, World.ownsRow_nil _ _ _ _⟩
theorem Wr.lt {w : World} {B gd : Nat} {bs : List UInt8} (h : Wr w B gd bs) : B ≤ gd ∧ gd < w.heap.size := by
  obtain ⟨h0, A, n, c, h1, h2, h3⟩ := h
  exact ⟨h0, h2.lt⟩
theorem info_u8 : (Try.prog.info? 5).map (fun i => (i.zero, i.size, i.bytes)) = some (some (.int .u8 0), 1, 1) := by kernel_rfl

/-- One byte more. -/
theorem Wr.one {w : World} {B gd : Nat} {bs : List UInt8} (h : Wr w B gd bs) (hl : bs.length ≤ 35184372088832) (x : UInt8) (xi : Int) (hx : xi = ((x.toNat : Nat) : Int)) :
    ∃ A n c g cap w3, w.cell? ⟨gd, 0, none⟩ = some (.slice A n c) ∧
      Hid ((Builtin.append_ #[23, 23] 23 #[.slice A n c, .slice (some ⟨w.heap.size, 0, none⟩) 1 1]).run Try.prog (w.alloc (.cells #[.int .u8 xi] 5)) = .ok (.slice (some ⟨g, 0, none⟩) (n + 1) cap) w3) ∧
      w3.cell? ⟨gd, 0, none⟩ = some (.slice A n c) ∧ w3.frozen? ⟨gd, 0, none⟩ = false ∧ Hid (Wr (w3.setCell ⟨gd, 0, none⟩ (.slice (some ⟨g, 0, none⟩) (n + 1) cap)) B gd (bs ++ [x])) ∧ Hid (Below B w (w3.setCell ⟨gd, 0, none⟩ (.slice (some ⟨g, 0, none⟩) (n + 1) cap))) := by
  subst hx
  obtain ⟨h0, A, n, c, rfl, h2, h3⟩ := h
  obtain ⟨i0, hi, hz0, hz1, hz2⟩ := info_parts info_u8
  obtain ⟨g, cap, w3, hap, hown, hg, _, _⟩ := run_append_one (P := Try.prog) w B 23 23 5 i0 _ 1 Try.underlying23 hi hz0 hz1 hz2 rfl _ _ _ h3 (.int .u8 ((x.toNat : Nat) : Int)) rfl (by unfold maxLen; omega) (by omega) (by have := h2.lt; omega)
  obtain ⟨k1, k2, k3, k4, k5⟩ := own_put (by decide) h0 h2 h3 hg hown
  refine ⟨A, _, c, g, cap, w3, by simpa using h2.cell 0, Lib.hid hap, k1, k2, Lib.hid ⟨h0, _, _, _, ?_, k3, ?_⟩, Lib.hid k5⟩
  · simp
  · rw [List.map_append]; exact k4

theorem or128_fin : ∀ n : Fin 256, n.val ||| 128 = n.val % 128 + 128 := by decide +kernel
theorem or128 (m : Nat) : bits BinOp.or IntKind.u8 ((m : Int) % 256) 128 = (((UInt8.ofNat (m % 128 + 128)).toNat : Nat) : Int) := by
  rw [ofNat_toNat (by omega)]
  show IntKind.u8.wrap ((BitVec.ofInt 8 ((m : Int) % 256) ||| BitVec.ofInt 8 128).toNat : Int) = _
  have e1 : BitVec.ofInt 8 ((m : Int) % 256) = BitVec.ofNat 8 (m % 256) := by
    rw [show (m : Int) % 256 = ((m % 256 : Nat) : Int) by omega, BitVec.ofInt_natCast]
  have e2 : (BitVec.ofInt 8 128).toNat = 128 := by decide +kernel
  rw [BitVec.toNat_or, e1, e2, BitVec.toNat_ofNat]
  have h := or128_fin ⟨m % 256, by omega⟩
  simp only at h
  rw [show m % 256 % 2 ^ 8 = m % 256 by omega, h]
  simp [IntKind.wrap, IntKind.bits, IntKind.signed]
  omega

set_option maxRecDepth 100000 in
set_option maxHeartbeats 1000000 in
theorem wuint_any (B gd : Nat) (bs : List UInt8) (n : Nat) (ni : Int) (hni : ni = (n : Int)) (w : World) (HW : Hid (Wr w B gd bs)) (hn : n ≤ 18446744073709551615) (hl : bs.length ≤ 17592186044416) :
    Calls Try.prog 23 #[.pointer (some ⟨gd, 0, none⟩), .int .u64 ni] w fun e w' => e = .returned (.tuple #[]) ∧ Wr w' B gd (bs ++ varint n) ∧ Below B w w' := by
  subst hni
  have HV := Lib.hid (varint_len10 hn)
  go_enter Try.func23, Try.ntmps23
  go_wp2
  go_loopw [1] (fun v wr => ∃ m : Nat, ∃ pre : List UInt8, v = .int .u64 (m : Int) ∧ m ≤ 18446744073709551615 ∧ Hid (pre ++ varint m = bs ++ varint n) ∧ Hid (Wr wr B gd pre) ∧ Below B w wr) (fun v _ => (intOf v).toNat)
  case atStart => exact ⟨n, bs, rfl, hn, Lib.hid rfl, HW, Below.refl _ _⟩
  case round =>
    obtain ⟨m, pre, rfl, hm, HE, HWr, hb⟩ := hrel
    have hpl : pre.length ≤ 35184372088832 := by
      have h1 := congrArg List.length HE.out
      simp only [List.length_append] at h1
      have := HV.out
      omega
    by_cases hge : 128 ≤ m
    · obtain ⟨A, k, c, g, cap, w3, hc, HA, hc3, hf3, HW3, HB3⟩ := HWr.out.one hpl (UInt8.ofNat (m % 128 + 128)) (bits BinOp.or IntKind.u8 ((m : Int) % 256) 128) (or128 m)
      go_wp2_with (at_builtin; refine wpList_append_run HA.out rfl rfl rfl rfl ?_)
      exact ⟨⟨m / 128, _, by go_num, by omega, Lib.hid (by rw [← HE.out, varint_ge hge, List.append_assoc]; rfl), HW3, hb.trans HB3.out⟩, by simp [intOf]; omega⟩
    · obtain ⟨A, k, c, g, cap, w3, hc, HA, hc3, hf3, HW3, HB3⟩ := HWr.out.one hpl (UInt8.ofNat m) (m : Int) (by rw [ofNat_toNat (by omega)])
      go_wp2_with (at_builtin; refine wpList_append_run HA.out rfl rfl rfl rfl ?_)
      go_end0
      exact ⟨rfl, by rw [← HE.out, varint_lt (by omega)]; exact HW3.out, hb.trans HB3.out⟩

set_option maxRecDepth 100000 in
set_option maxHeartbeats 400000 in
theorem zigzag_any (n : Int) (w : World) (h1 : -9223372036854775808 ≤ n) (h2 : n ≤ 9223372036854775807) :
    Calls Try.prog 44 #[.int .i64 n] w fun e w' => e = .returned (.int .u64 ((zigI n : Nat) : Int)) ∧ w = w' := by
  go_enter Try.func44, Try.ntmps44
  have HZ := Lib.hid (zig_bits h1 h2)
  go_wp2
  go_ret
  rw [HZ.out]
  exact ⟨rfl, rfl⟩

set_option maxRecDepth 100000 in
set_option maxHeartbeats 400000 in
theorem unzigzag_any (n : Nat) (ni : Int) (hni : ni = (n : Int)) (w : World) (h2 : n ≤ 18446744073709551615) :
    Calls Try.prog 81 #[.int .u64 ni] w fun e w' => e = .returned (.int .i64 (unzigI n)) ∧ w = w' := by
  subst hni
  go_enter Try.func81, Try.ntmps81
  have HZ := Lib.hid (unzig_bits h2)
  go_wp2
  go_ret
  rw [HZ.out]
  exact ⟨rfl, rfl⟩

set_option maxRecDepth 100000 in
set_option maxHeartbeats 400000 in
theorem wint_any (B gd : Nat) (bs : List UInt8) (n : Int) (w : World) (HW : Hid (Wr w B gd bs)) (h1 : -9223372036854775808 ≤ n) (h2 : n ≤ 9223372036854775807) (hl : bs.length ≤ 17592186044416) :
    Calls Try.prog 20 #[.pointer (some ⟨gd, 0, none⟩), .int .i64 n] w fun e w' => e = .returned (.tuple #[]) ∧ Wr w' B gd (bs ++ encInt n) ∧ Below B w w' := by
  go_enter Try.func20, Try.ntmps20
  go_wp2_with (first
    | (go_at_call 44; ((with_reducible refine (zigzag_any _ _ h1 h2).mono ?_); rintro e w1 ⟨rfl, rfl⟩))
    | (go_at_call 23; ((with_reducible refine (wuint_any B gd bs _ _ rfl _ HW (zigI_lt h1 h2) hl).mono ?_); rintro e w1 ⟨rfl, hW1, hb1⟩)))
  go_end0
  exact ⟨rfl, hW1, hb1⟩


/-- Many bytes more. -/
theorem Wr.more {w : World} {B gd : Nat} {bs : List UInt8} (h : Wr w B gd bs) (A' : Option Addr) (m c' : Nat) (xs : List UInt8) (hx : xs.length = m) (hR : Rd w w.heap.size A' m (vByte xs)) (hl : bs.length + m ≤ 70368744177664) :
    ∃ A n c A3 n3 c3 w3, w.cell? ⟨gd, 0, none⟩ = some (.slice A n c) ∧
      Hid ((Builtin.append_ #[23, 23] 23 #[.slice A n c, .slice A' m c']).run Try.prog w = .ok (.slice A3 n3 c3) w3) ∧
      w3.cell? ⟨gd, 0, none⟩ = some (.slice A n c) ∧ w3.frozen? ⟨gd, 0, none⟩ = false ∧ Hid (Wr (w3.setCell ⟨gd, 0, none⟩ (.slice A3 n3 c3)) B gd (bs ++ xs)) ∧ Hid (Below B w (w3.setCell ⟨gd, 0, none⟩ (.slice A3 n3 c3))) := by
  obtain ⟨h0, A, n, c, rfl, h2, h3⟩ := h
  obtain ⟨i0, hi, hz0, hz1, hz2⟩ := info_parts info_u8
  obtain ⟨v', w3, hap, hown, hg, _⟩ := run_append_rd (P := Try.prog) w B 23 23 5 i0 _ 1 Try.underlying23 hi hz0 hz1 hz2 rfl _ _ _ h3 w.heap.size A' m c' (vByte xs) hR hR.none_ (fun _ _ => rfl) (by unfold maxLen; omega) (by omega) (by have := h2.lt; omega)
  obtain ⟨k1, k2, k3, k4, k5⟩ := own_put (by decide) h0 h2 h3 hg hown
  obtain ⟨A3, c3, rfl⟩ := own_slice hown
  refine ⟨A, _, c, _, _, _, w3, by simpa using h2.cell 0, Lib.hid hap, k1, k2, Lib.hid ⟨h0, _, _, _, ?_, k3, ?_⟩, Lib.hid k5⟩
  · simp [hx]
  · have e : (List.range m).map (vByte xs) = xs.map fun b => Value.int .u8 ((b.toNat : Nat) : Int) := by
      subst hx
      refine List.ext_getElem (by simp) fun i h1 h2 => ?_
      have hi : i < xs.length := by simpa using h2
      simp [vByte, hi]
    rw [List.map_append, ← e]; exact k4
theorem strCells_eq (s : ByteArray) : Lib.strCells s = s.data.toList.map fun b => Value.int .u8 ((b.toNat : Nat) : Int) := rfl

set_option maxRecDepth 100000 in
set_option maxHeartbeats 400000 in
theorem wraw_any (B gd : Nat) (bs xs : List UInt8) (A : Option Addr) (m c B' : Nat) (w : World) (HW : Hid (Wr w B gd bs)) (HX : Hid (xs.length = m)) (hm : m ≤ 17592186044416) (hR : Rd w B' A m (vByte xs)) (hB : B' ≤ B) (hl : bs.length ≤ 17592186044416) :
    Calls Try.prog 21 #[.pointer (some ⟨gd, 0, none⟩), .slice A m c] w fun e w' => e = .returned (.tuple #[]) ∧ Wr w' B gd (bs ++ encRaw xs) ∧ Below B w w' := by
  have HV := Lib.hid (varint_len10 (n := m) (by omega))
  go_enter Try.func21, Try.ntmps21
  go_wp2_with fail
  refine (wuint_any B gd bs m _ rfl _ HW (by omega) hl).mono ?_
  rintro e w1 ⟨rfl, hW1, hb1⟩
  obtain ⟨A1, k, c1, A3, n3, c3, w3, hc, HA, hc3, hf3, HW3, HB3⟩ := hW1.more A m c xs HX.out ((hR.below hb1 hB).more (by have := hW1.lt; omega)) (by have := HV.out; simp only [List.length_append]; omega)
  go_wp2_with (at_builtin; refine wpList_append_run HA.out rfl rfl rfl rfl ?_)
  go_end0
  exact ⟨rfl, by unfold encRaw; rw [HX.out, ← List.append_assoc]; exact HW3.out, hb1.trans HB3.out⟩

theorem wpList_append_run2 {P : Program} {w : World} {ops : Array Oper} {rest : List Oper} {o : Oper} {a : Act} {Q : Exit → Act → World → Prop} {s x : Operand} {t u : TypeId} {v vx v' : Value} {w' : World}
    (hrun : (Builtin.append_ #[t, u] o.type #[v, vx]).run P w = .ok v' w') (hgd : o.guard = none) (ho : o.op = .call { callee := .builtin .append, args := #[s, x], argTypes := #[t, u] }) (hs : a.eval s = v) (hx : a.eval x = vx)
    (h : wpList P ops Q rest (a.put o.dst v') w') : wpList P ops Q (o :: rest) a w :=
  wpList_plain hgd fun _ hK => by
    unfold Oper.wp execOp
    simp only [ho, resolve, invoke, builtin, Sem.run_bind, Sem.run_pure, Result.andThen_ok, List.map_toArray, List.map_cons, List.map_nil, hs, hx, hrun]
    exact hK _ _ h

theorem encInt_len {n : Int} (h1 : -9223372036854775808 ≤ n) (h2 : n ≤ 9223372036854775807) : (encInt n).length ≤ 10 := varint_len10 (zigI_lt h1 h2)
theorem encIntsTo_len (l : List Int) (hl : l.length ≤ 1099511627776) (hr : ∀ j : Nat, -9223372036854775808 ≤ l[j]?.getD 0 ∧ l[j]?.getD 0 ≤ 9223372036854775807) : ∀ k : Nat, k ≤ l.length → (encIntsTo l k).length ≤ 10 + 10 * k
  | 0, _ => by rw [encIntsTo_zero]; exact varint_len10 (by omega)
  | k + 1, h => by
    rw [encIntsTo_succ l k (by omega), List.length_append]
    have := encIntsTo_len l hl hr k (by omega)
    have := encInt_len (hr k).1 (hr k).2
    omega


set_option maxRecDepth 100000 in
set_option maxHeartbeats 400000 in
theorem clone_any (A : Option Addr) (n c : Nat) (bs : List UInt8) (w : World) (HX : Hid (bs.length = n)) (hR : Rd w w.heap.size A n (vByte bs)) (hn : n ≤ 70368744177664) :
    Calls Try.prog 45 #[.slice A n c] w fun e w' => ∃ A' c', e = .returned (.slice A' n c') ∧ n ≤ c' ∧ c' ≤ 9223372036854775807 ∧
      w'.ownsRow w.heap.size 5 1 (.slice A' n c') n (bs.map fun b => Value.int .u8 ((b.toNat : Nat) : Int)) ∧ Rd w' w'.heap.size A' n (vByte bs) ∧ Below w.heap.size w w' := by
  obtain ⟨i0, hi, hz0, hz1, hz2⟩ := info_parts info_u8
  have hq := Lib.run_eql_slice_nil (P := Try.prog) w 23 5 A n c 0 0 Try.underlying23
  rcases A with _ | a
  · have h0 := hR.none_ rfl
    subst h0
    obtain rfl : bs = [] := List.eq_nil_of_length_eq_zero HX.out
    go_enter Try.func45, Try.ntmps45
    go_wp2
    go_ret
    exact ⟨none, 0, rfl, by omega, by omega, World.ownsRow_nil _ _ _ _, Rd.nil, Below.refl _ _⟩
  · have ho : (w.alloc (.cells #[] 5)).ownsRow w.heap.size 5 1 (.slice (some ⟨w.heap.size, 0, none⟩) 0 0) 0 [] := World.ownsRow_made w #[] 0 (Nat.le_refl _) (by decide) rfl
    obtain ⟨v, w3, hap, hown, hg, _⟩ := run_append_rd (P := Try.prog) (w.alloc (.cells #[] 5)) w.heap.size 23 23 5 i0 _ 1 Try.underlying23 hi hz0 hz1 hz2 rfl _ 0 [] ho w.heap.size (some a) n c (vByte bs) (hR.alloc (Nat.le_refl _) _) (fun h => by cases h) (fun _ _ => rfl) (by unfold maxLen; omega) (by omega) (by simp)
    have HA := Lib.hid hap; clear hap
    simp only [Nat.zero_add, List.nil_append] at hown
    obtain ⟨A', c', rfl⟩ := own_slice hown
    have e : (List.range n).map (vByte bs) = bs.map fun b => Value.int .u8 ((b.toNat : Nat) : Int) := by
      refine List.ext_getElem (by simp [HX.out]) fun i h1 h2 => ?_
      have hi : i < bs.length := by simpa using h2
      simp [vByte, hi]
    rw [e] at hown
    clear e
    go_enter Try.func45, Try.ntmps45
    go_wp2_with (at_builtin; refine wpList_append_run HA.out rfl rfl rfl rfl ?_)
    go_ret
    obtain ⟨_, r2, r3⟩ := rd_bytes hown
    exact ⟨A', c', rfl, r2, own_cap hown, hown, r3, ((Below.refl _ _).alloc (Nat.le_refl _) _).grown hg (by simp) (fun k e => (ho.lt k e).1)⟩

set_option maxRecDepth 100000 in
set_option maxHeartbeats 400000 in
theorem wdone_any (B gd : Nat) (bs : List UInt8) (w : World) (HW : Hid (Wr w B gd bs)) (hl : bs.length ≤ 70368744177664) :
    Calls Try.prog 22 #[.pointer (some ⟨gd, 0, none⟩)] w fun e w' => ∃ A' n c', e = .returned (.slice A' n c') ∧ n ≤ c' ∧ c' ≤ 9223372036854775807 ∧ Hid (bs.length = n) ∧
      w'.ownsRow w.heap.size 5 1 (.slice A' n c') n (bs.map fun b => Value.int .u8 ((b.toNat : Nat) : Int)) ∧ Rd w' w'.heap.size A' n (vByte bs) ∧ Below w.heap.size w w' := by
  obtain ⟨h0, A, n, c, hx, h2, h3⟩ := HW.out
  have hc : w.cell? ⟨gd, 0, none⟩ = some (.slice A n c) := by simpa using h2.cell 0
  have HX := Lib.hid hx
  obtain ⟨_, _, r3⟩ := rd_bytes h3
  have hn : n ≤ 70368744177664 := by omega
  clear hx h2 h3
  go_enter Try.func22, Try.ntmps22
  go_wp2_with (go_at_call 45; ((with_reducible refine (clone_any _ _ _ bs _ HX r3 hn).mono ?_); rintro e w2 ⟨A', c', rfl, q1, q2, q3, q4, q5⟩))
  go_ret
  exact ⟨A', n, c', rfl, q1, q2, HX, q3, q4, q5⟩

end Go.Proofs.Ytldmokjpfnakkaa

/- Plain Lean: reading varints and lists. -/
namespace Go.Proofs.Ytldmokjpfnakkaa
open Go.RowKit

/-- The byte c at place i is refused. -/
def badAt (i : Nat) (c : UInt8) : Bool := (decide (i = 9) && decide (1 < c.toNat)) || (decide (0 < i) && decide (c.toNat = 0))
/-- Reading a varint from place i on: the error, the number, the rest. -/
def decU : Nat → Nat → List UInt8 → Int × Nat × List UInt8
  | _, _, [] => (3, 0, [])
  | i, acc, c :: r => if badAt i c then (2, 0, []) else if c.toNat < 128 then (0, acc + c.toNat * 128 ^ i, r) else decU (i + 1) (acc + c.toNat % 128 * 128 ^ i) r
theorem decU_nil (i acc : Nat) : decU i acc [] = (3, 0, []) := rfl
theorem decU_bad {i acc : Nat} {c : UInt8} {r : List UInt8} (h : badAt i c = true) : decU i acc (c :: r) = (2, 0, []) := by rw [decU, if_pos h]
theorem decU_end {i acc : Nat} {c : UInt8} {r : List UInt8} (h : badAt i c = false) (hc : c.toNat < 128) : decU i acc (c :: r) = (0, acc + c.toNat * 128 ^ i, r) := by rw [decU, if_neg (by simp [h]), if_pos hc]
theorem decU_go {i acc : Nat} {c : UInt8} {r : List UInt8} (h : badAt i c = false) (hc : 128 ≤ c.toNat) : decU i acc (c :: r) = decU (i + 1) (acc + c.toNat % 128 * 128 ^ i) r := by rw [decU, if_neg (by simp [h]), if_neg (by omega)]
/-- An error, and nothing with it; or a rest that is no longer. -/
theorem decU_out : ∀ (bs : List UInt8) (i acc : Nat), (decU i acc bs).1 = 0 ∨ ((decU i acc bs).1 = 2 ∨ (decU i acc bs).1 = 3) ∧ (decU i acc bs).2 = (0, [])
  | [], _, _ => .inr ⟨.inr rfl, rfl⟩
  | c :: r, i, acc => by
    by_cases h : badAt i c = true
    · rw [decU_bad h]; exact .inr ⟨.inl rfl, rfl⟩
    · by_cases hc : c.toNat < 128
      · rw [decU_end (by simpa using h) hc]; exact .inl rfl
      · rw [decU_go (by simpa using h) (by omega)]; exact decU_out r _ _
theorem pow128_le {i : Nat} (h : i ≤ 9) : 128 ^ i ≤ 9223372036854775808 := Nat.le_trans (Nat.pow_le_pow_right (by decide) h) (by decide)
/-- What is read fits. -/
theorem decU_lt : ∀ (bs : List UInt8) (i acc : Nat), i ≤ 9 → acc < 128 ^ i → (decU i acc bs).2.1 ≤ 18446744073709551615 ∧ (decU i acc bs).2.2.length ≤ bs.length
  | [], _, _, _, _ => ⟨by simp [decU], by simp [decU]⟩
  | c :: r, i, acc, hi, ha => by
    have hp := pow128_le hi
    by_cases h : badAt i c = true
    · rw [decU_bad h]; exact ⟨by simp, by simp⟩
    · have h' : badAt i c = false := by simpa using h
      by_cases hc : c.toNat < 128
      · rw [decU_end h' hc]
        refine ⟨?_, by simp⟩
        simp only
        by_cases h9 : i = 9
        · subst h9
          have : c.toNat ≤ 1 := by
            unfold badAt at h'
            simp at h'
            omega
          omega
        · have h8 : 128 ^ i ≤ 128 ^ 8 := Nat.pow_le_pow_right (by decide) (by omega)
          have : c.toNat * 128 ^ i ≤ 127 * 128 ^ 8 := Nat.mul_le_mul (by omega) h8
          omega
      · rw [decU_go h' (by omega)]
        by_cases h9 : i = 9
        · subst h9
          unfold badAt at h'
          simp at h'
          omega
        · have hm : c.toNat % 128 * 128 ^ i ≤ 127 * 128 ^ i := Nat.mul_le_mul (by omega) (Nat.le_refl _)
          have := decU_lt r (i + 1) (acc + c.toNat % 128 * 128 ^ i) (by omega) (by rw [Nat.pow_succ]; omega)
          exact ⟨this.1, by simp only [List.length_cons]; omega⟩
/-- Round trip. -/
theorem decU_varint (n : Nat) : ∀ (i acc : Nat) (r : List UInt8), i ≤ 9 → n * 128 ^ i < 18446744073709551616 → (i = 0 ∨ 0 < n) → decU i acc (varint n ++ r) = (0, acc + n * 128 ^ i, r) := by
  induction n using Nat.strongRecOn with
  | ind n ih =>
    intro i acc r hi hn h0
    by_cases h : n < 128
    · rw [varint_lt h]
      have hc : (UInt8.ofNat n).toNat = n := by rw [UInt8.toNat_ofNat']; omega
      rw [List.singleton_append, decU_end ?_ (by omega), hc]
      unfold badAt
      rw [hc]
      by_cases h9 : i = 9
      · subst h9
        have : n ≤ 1 := by omega
        simp; omega
      · simp [h9]; omega
    · have hc : (UInt8.ofNat (n % 128 + 128)).toNat = n % 128 + 128 := by rw [UInt8.toNat_ofNat']; omega
      have h9 : i ≠ 9 := by
        rintro rfl
        have : 128 * 128 ^ 9 ≤ n * 128 ^ 9 := Nat.mul_le_mul (by omega) (Nat.le_refl _)
        omega
      rw [varint_ge (by omega), List.cons_append, decU_go ?_ (by omega), hc]
      · have e : n = n / 128 * 128 + n % 128 := by omega
        have e2 : n / 128 * 128 ^ (i + 1) + n % 128 * 128 ^ i = n * 128 ^ i := by
          rw [Nat.pow_succ, ← Nat.mul_assoc, Nat.mul_right_comm, ← Nat.add_mul, ← e]
        rw [ih (n / 128) (by omega) (i + 1) _ r (by omega) (by omega) (.inr (by omega)), show (n % 128 + 128) % 128 = n % 128 by omega]
        congr 2
        omega
      · unfold badAt
        rw [hc]
        simp [h9]
theorem decU_enc {n : Nat} (h : n ≤ 18446744073709551615) (r : List UInt8) : decU 0 0 (varint n ++ r) = (0, n, r) := by
  have := decU_varint n 0 0 r (by decide) (by omega) (.inl rfl)
  simpa using this
/-- One encoding. -/
theorem decU_one : ∀ (bs : List UInt8) (i acc v : Nat) (r : List UInt8), i ≤ 9 → decU i acc bs = (0, v, r) → ∃ n, bs = varint n ++ r ∧ v = acc + n * 128 ^ i ∧ (0 < i → 0 < n)
  | [], i, acc, v, r, _, h => by rw [decU_nil] at h; simp at h
  | c :: bs, i, acc, v, r, hi, h => by
    by_cases hb : badAt i c = true
    · rw [decU_bad hb] at h; simp at h
    · have hb' : badAt i c = false := by simpa using hb
      by_cases hc : c.toNat < 128
      · rw [decU_end hb' hc] at h
        injection h with _ h
        injection h with h1 h2
        subst h1 h2
        refine ⟨c.toNat, ?_, rfl, fun h0 => ?_⟩
        · rw [varint_lt hc]; simp
        · unfold badAt at hb'; simp at hb'; omega
      · rw [decU_go hb' (by omega)] at h
        have h9 : i ≠ 9 := by
          rintro rfl
          unfold badAt at hb'; simp at hb'; omega
        obtain ⟨n, e1, e2, e3⟩ := decU_one bs (i + 1) _ v r (by omega) h
        have hn := e3 (by omega)
        have hc2 := c.toNat_lt
        refine ⟨c.toNat % 128 + 128 * n, ?_, ?_, fun _ => by omega⟩
        · rw [varint_ge (by omega), show (c.toNat % 128 + 128 * n) % 128 + 128 = c.toNat by omega, show (c.toNat % 128 + 128 * n) / 128 = n by omega, e1]
          simp
        · rw [e2, Nat.add_mul, Nat.pow_succ, ← Nat.mul_assoc, Nat.mul_right_comm, Nat.mul_comm n 128]
          omega
theorem decU_inv {bs r : List UInt8} {v : Nat} (h : decU 0 0 bs = (0, v, r)) : bs = varint v ++ r := by
  obtain ⟨n, e1, e2, _⟩ := decU_one bs 0 0 v r (by decide) h
  have : v = n := by simpa using e2
  subst this; exact e1
/-- A proper prefix. -/
theorem decU_cut (n : Nat) : ∀ (i acc k : Nat), i ≤ 9 → n * 128 ^ i < 18446744073709551616 → (i = 0 ∨ 0 < n) → k < (varint n).length → decU i acc ((varint n).take k) = (3, 0, []) := by
  induction n using Nat.strongRecOn with
  | ind n ih =>
    intro i acc k hi hn h0 hk
    cases k with
    | zero => simp [decU_nil]
    | succ k =>
      by_cases h : n < 128
      · rw [varint_lt h] at hk; simp at hk
      · have hc : (UInt8.ofNat (n % 128 + 128)).toNat = n % 128 + 128 := by rw [UInt8.toNat_ofNat']; omega
        have h9 : i ≠ 9 := by
          rintro rfl
          have : 128 * 128 ^ 9 ≤ n * 128 ^ 9 := Nat.mul_le_mul (by omega) (Nat.le_refl _)
          omega
        rw [varint_ge (by omega)] at hk ⊢
        rw [List.take_succ_cons, decU_go ?_ (by omega)]
        · have e2 : n / 128 * 128 ^ (i + 1) ≤ n * 128 ^ i := by
            rw [Nat.pow_succ, ← Nat.mul_assoc, Nat.mul_right_comm]
            exact Nat.mul_le_mul (by omega) (Nat.le_refl _)
          exact ih (n / 128) (by omega) (i + 1) _ k (by omega) (by omega) (.inr (by omega)) (by simpa using hk)
        · unfold badAt
          rw [hc]
          simp [h9]
theorem decU_prefix {n : Nat} (h : n ≤ 18446744073709551615) {k : Nat} (hk : k < (varint n).length) : decU 0 0 ((varint n).take k) = (3, 0, []) :=
  decU_cut n 0 0 k (by decide) (by omega) (.inl rfl) hk

/-- Reading bytes: the length, then the bytes. -/
def decRaw (bs : List UInt8) : Int × List UInt8 × List UInt8 :=
  if (decU 0 0 bs).1 ≠ 0 then ((decU 0 0 bs).1, [], []) else if (decU 0 0 bs).2.2.length < (decU 0 0 bs).2.1 then (3, [], []) else (0, (decU 0 0 bs).2.2.take (decU 0 0 bs).2.1, (decU 0 0 bs).2.2.drop (decU 0 0 bs).2.1)
/-- Reading k signed numbers. -/
def decK : Nat → List UInt8 → Int × List Int × List UInt8
  | 0, r => (0, [], r)
  | k + 1, r => if (decU 0 0 r).1 ≠ 0 then ((decU 0 0 r).1, [], []) else if (decK k (decU 0 0 r).2.2).1 ≠ 0 then ((decK k (decU 0 0 r).2.2).1, [], []) else (0, unzigI (decU 0 0 r).2.1 :: (decK k (decU 0 0 r).2.2).2.1, (decK k (decU 0 0 r).2.2).2.2)
def decInts (bs : List UInt8) : Int × List Int × List UInt8 :=
  if (decU 0 0 bs).1 ≠ 0 then ((decU 0 0 bs).1, [], []) else if (decU 0 0 bs).2.2.length < (decU 0 0 bs).2.1 then (3, [], []) else decK (decU 0 0 bs).2.1 (decU 0 0 bs).2.2
def decBool (bs : List UInt8) : Int × Bool × List UInt8 :=
  match bs with
  | [] => (3, false, [])
  | c :: r => if 1 < c.toNat then (2, false, []) else (0, decide (c.toNat = 1), r)
end Go.Proofs.Ytldmokjpfnakkaa
