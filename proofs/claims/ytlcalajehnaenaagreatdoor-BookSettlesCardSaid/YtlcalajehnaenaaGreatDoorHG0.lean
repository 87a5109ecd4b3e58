/- Words for memory: a slice that reads as a list (nil let in); blocks that are kept. -/
import Derived.WalkKit
import Derived.WalkSpells
import Derived.Deep.Draws
import Derived.Lib.ConvBytes
import Derived.Maps.AppendAt
import Derived.RangeFuncBox
import Derived.OwnWalkIn
import Derived.Laws.OwnMore
import Derived.Lib.Hide
import Derived.Maps.RangeRun
import Derived.MapKept
import Derived.Carry
import Derived.Deep.RegionLaw
import Derived.Test.YtlcalajehnaenaaGreatDoorProg
import Derived.WalkLawsBesides
import Derived.Deep.QuietTactic
import Derived.BigQuiet
import Derived.Deep.RegionHeld3
namespace Go.Proofs.YtlcalajehnaenaaGreatDoor
open Go.RowKit
def Rd (w : World) (B : Nat) (A : Option Addr) (n : Nat) (f : Nat → Value) : Prop :=
 0 < n → ∃ b off, A = some ⟨b, off, none⟩ ∧ b < B ∧ ∀ j, j < n → w.cell? ⟨b, off + j, none⟩ = some (f j)
theorem Rd.keep {w w' : World} {B n : Nat} {A : Option Addr} {f : Nat → Value} (h : Rd w B A n f) (hk : ∀ b, b < B → w'.heap[b]? = w.heap[b]?) : Rd w' B A n f := by
 intro hn
 obtain ⟨b, off, e, hb, hc⟩ := h hn
 exact ⟨b, off, e, hb, fun j hj => (World.cell?_of_block (w := w) (hk b hb)).trans (hc j hj)⟩
theorem Rd.below {w w' : World} {B B' n : Nat} {A : Option Addr} {f : Nat → Value} (h : Rd w B A n f) (hb : Below B' w w') (hB : B ≤ B') : Rd w' B A n f := h.keep fun b hlt => hb.block b (by omega)
theorem Rd.more {w : World} {B B' n : Nat} {A : Option Addr} {f : Nat → Value} (h : Rd w B A n f) (hB : B ≤ B') : Rd w B' A n f := by
 intro hn
 obtain ⟨b, off, e, hb, hc⟩ := h hn
 exact ⟨b, off, e, by omega, hc⟩
theorem Rd.alloc {w : World} {B n : Nat} {A : Option Addr} {f : Nat → Value} (h : Rd w B A n f) (hB : B ≤ w.heap.size) (o : Obj) : Rd (w.alloc o) B A n f := h.keep fun b hb => Below.heap_alloc w o b (by omega)
theorem Rd.all {w w' : World} {n : Nat} {A : Option Addr} {f : Nat → Value} (h : Rd w w.heap.size A n f) (hb : Below w.heap.size w w') : Rd w' w'.heap.size A n f := by
 intro hn
 obtain ⟨b, off, e, hlt, hc⟩ := h hn
 exact ⟨b, off, e, Nat.lt_of_lt_of_le hlt hb.size, fun j hj => (World.cell?_of_block (w := w) (hb.block b hlt)).trans (hc j hj)⟩
theorem Rd.none_ {w : World} {B n : Nat} {A : Option Addr} {f : Nat → Value} (h : Rd w B A n f) : A = none → n = 0 := by
 intro e
 rcases Nat.eq_zero_or_pos n with h0 | h0
 ·exact h0
 ·obtain ⟨b, off, h', _⟩ := h h0
  rw [e] at h'; cases h'
theorem own_cap {w : World} {base e size n m c : Nat} {A : Option Addr} {xs : List Value} (h : w.ownsRow base e size (.slice A m c) n xs) : c ≤ 9223372036854775807 := by
 rcases h.2 with ⟨h, _⟩ | ⟨g, cap, cur, h, _, _, _, hm, _⟩
 ·injection h with _ _ h; omega
 ·injection h with _ _ h; subst h; simpa [maxLen] using hm
theorem Rd.congr {w : World} {B n : Nat} {A : Option Addr} {f g : Nat → Value} (h : Rd w B A n f) (hfg : ∀ j, j < n → f j = g j) : Rd w B A n g := by
 intro hn
 obtain ⟨b, off, e, hb, hc⟩ := h hn
 exact ⟨b, off, e, hb, fun j hj => (hc j hj).trans (congrArg some (hfg j hj))⟩
theorem Rd.nil {w : World} {B : Nat} {A : Option Addr} {f : Nat → Value} : Rd w B A 0 f := fun h => absurd h (by omega)
theorem Rd.less {w : World} {B n m : Nat} {A : Option Addr} {f : Nat → Value} (h : Rd w B A n f) (hm : m ≤ n) : Rd w B A m f := by
 intro hn
 obtain ⟨b, off, e, hb, hc⟩ := h (by omega)
 exact ⟨b, off, e, hb, fun j hj => hc j (by omega)⟩
theorem Rd.at_ {w : World} {B n k : Nat} {A : Option Addr} {f : Nat → Value} (h : Rd w B A n f) (hk : k < n) : ∃ b off, A = some ⟨b, off, none⟩ ∧ b < B ∧ w.cell? ⟨b, off + k, none⟩ = some (f k) := by
 obtain ⟨b, off, e, hb, hc⟩ := h (by omega)
 exact ⟨b, off, e, hb, hc k hk⟩
theorem Rd.of_own {w : World} {base e n m c : Nat} {A : Option Addr} {xs : List Value} {f : Nat → Value} (h : w.ownsRow base e 1 (.slice A m c) n xs) (hf : ∀ j, j < n → xs[j]? = some (f j)) : m = n ∧ n ≤ c ∧ Rd w w.heap.size A m f := by
 obtain ⟨hl, h2⟩ := h
 rcases h2 with ⟨h2, h0⟩ | ⟨g, cap, cur, h2, hg, hh, hnc, hm, hcs, htk⟩
 ·injection h2 with h2 h3 h4
  subst h0 h3
  exact ⟨rfl, by omega, Rd.nil⟩
 ·injection h2 with h2 h3 h4
  subst h2 h3 h4
  refine ⟨rfl, hnc, fun hn => ⟨g, 0, rfl, (Array.getElem?_eq_some_iff.1 hh).1, fun j hj => ?_⟩⟩
  have := hf j hj
  rw [← htk, List.getElem?_take, if_pos (by omega)] at this
  simpa [World.cell?, hh] using this
theorem own_keep {w w' : World} {base e size n : Nat} {v : Value} {xs : List Value} (h : w.ownsRow base e size v n xs) (hb : Below w.heap.size w w') : w'.ownsRow base e size v n xs :=
 h.kept (row := none) ⟨hb.os, hb.tape, hb.output, hb.size, fun k hk _ => hb.block k hk⟩ (by
  rcases h.2 with ⟨rfl, _⟩ | ⟨g, cap, cur, rfl, _⟩
  ·exact .inl rfl
  ·exact .inr (by simp [Value.ownBlock]))
theorem own_some {w : World} {base e size n m c : Nat} {A : Option Addr} {xs : List Value} (h : w.ownsRow base e size (.slice A m c) n xs) (hn : 0 < n) : ∃ g, A = some ⟨g, 0, none⟩ ∧ base ≤ g ∧ g < w.heap.size := by
 rcases h.2 with ⟨_, h0⟩ | ⟨g, cap, cur, h, hg, hh, _⟩
 ·omega
 ·injection h with h
  exact ⟨g, h, hg, (Array.getElem?_eq_some_iff.1 hh).1⟩
theorem own_int {w : World} {base e n c g : Nat} {xs : List Int} (h : w.ownsRow base e 1 (.slice (some ⟨g, 0, none⟩) n c) n (xs.map (Value.int .i64))) {j : Nat} (hj : j < n) :
 w.cell? ⟨g, j, none⟩ = some (.int .i64 (xs[j]?.getD 0)) ∧ w.frozen? ⟨g, j, none⟩ = false := by
 refine ⟨?_, h.frozenAt j⟩
 have hl : xs.length = n := by have := h.1; simpa using this
 rw [h.cellAt j (by omega)]
 simp [show j < xs.length by omega]
theorem wpList_append_run {P : Program} {w : World} {ops : Array Oper} {rest : List Oper} {o : Oper} {a : Act} {Q : Exit → Act → World → Prop} {s x : Operand} {t : TypeId} {v vx v' : Value} {w' : World}
 (hrun : (Builtin.append_ #[t, t] o.type #[v, vx]).run P w = .ok v' w') (hgd : o.guard = none) (ho : o.op = .call { callee := .builtin .append, args := #[s, x], argTypes := #[t, t] }) (hs : a.eval s = v) (hx : a.eval x = vx)
 (h : wpList P ops Q rest (a.put o.dst v') w') : wpList P ops Q (o :: rest) a w :=
 wpList_plain hgd fun _ hK => by
  unfold Oper.wp execOp
  simp only [ho, resolve, invoke, builtin, Sem.run_bind, Sem.run_pure, Result.andThen_ok, List.map_toArray, List.map_cons, List.map_nil, hs, hx, hrun]
  exact hK _ _ h
theorem wpListIn_append_run {F : Fence} {n : Nat} {P : Program} {w : World} {ops : Array Oper} {rest : List Oper} {o : Oper} {a : Act} {Q : Exit → Act → World → Prop} {s x : Operand} {t : TypeId} {v vx v' : Value} {w' : World}
 (hrun : (Builtin.append_ #[t, t] o.type #[v, vx]).run P w = .ok v' w') (hgd : o.guard = none) (ho : o.op = .call { callee := .builtin .append, args := #[s, x], argTypes := #[t, t] }) (hs : a.eval s = v) (hx : a.eval x = vx)
 (h : wpListIn F n P ops Q rest (a.put o.dst v') w') : wpListIn F n P ops Q (o :: rest) a w :=
 wpListIn_plain hgd fun _ hK => by
  unfold Oper.wpIn
  refine ⟨?_, ?_⟩
  ·simp [Oper.about, ho, resolve, Target.leads, Sem.run_pure]
  ·rw [Oper.semAt_plain F _ _ (by rw [ho]; intro c hc'; cases hc')]
   simp [execOp, ho, resolve, invoke, builtin, hs, hx, hrun, Result.andThen]
   exact hK _ _ h
theorem Rd.drew {w : World} {n : Nat} {A : Option Addr} {f : Nat → Value} (h : Rd w w.heap.size A n f) : Rd w.drew w.drew.heap.size A n f := h
theorem bt {a b c : World} (h : Below a.heap.size a b) (k : Below b.heap.size b c) : Below a.heap.size a c := h.trans (k.mono h.size)
theorem below_drewN {B : Nat} {a w : World} (h : Below B a w) (n : Nat) : Below B a (w.drewN n) := ⟨h.os, h.tape, h.output, h.size, h.block⟩
def vInt (l : List Int) (j : Nat) : Value := .int .i64 (l[j]?.getD 0)
theorem rd_ints {w : World} {base e n m c : Nat} {A : Option Addr} {xs : List Int} (h : w.ownsRow base e 1 (.slice A m c) n (xs.map (Value.int .i64))) : m = n ∧ n ≤ c ∧ Rd w w.heap.size A m (vInt xs) :=
 Rd.of_own h (fun j hj => by have hl : xs.length = n := by simpa using h.1
                             simp [vInt, show j < xs.length by omega])
def Blk (w : World) (g : Nat) (t : TypeId) (cs : Array Value) : Prop := w.heap[g]? = some (.cells cs t (0, 0))
section
variable {w w' : World} {g : Nat} {t : TypeId} {cs : Array Value}
theorem Blk.lt (h : Blk w g t cs) : g < w.heap.size := (Array.getElem?_eq_some_iff.1 h).1
theorem Blk.cell (h : Blk w g t cs) (i : Nat) : w.cell? ⟨g, i, none⟩ = cs[i]? := by unfold Blk at h; simp [World.cell?, h]
theorem Blk.frozen (h : Blk w g t cs) (i : Nat) : w.frozen? ⟨g, i, none⟩ = false := by unfold Blk at h; simp [World.frozen?, h]
theorem Blk.new (w : World) (t : TypeId) (cs : Array Value) : Blk (w.alloc (.cells cs t)) w.heap.size t cs := World.alloc_heap_new w _
theorem Blk.alloc (h : Blk w g t cs) (o : Obj) : Blk (w.alloc o) g t cs := (Below.heap_alloc w o g h.lt).trans h
theorem Blk.set_ (h : Blk w g t cs) (i : Nat) (u : Value) : Blk (w.setCell ⟨g, i, none⟩ u) g t (cs.setIfInBounds i u) := by
 unfold Blk at h ⊢
 simp [World.setCell, Array.getElem?_modify, h]
theorem Blk.far (h : Blk w g t cs) {p : Addr} (hp : g ≠ p.block) (u : Value) : Blk (w.setCell p u) g t cs := (Below.heap_setCell w p u g hp).trans h
theorem Blk.below {B : Nat} (h : Blk w g t cs) (hb : Below B w w') (hg : g < B) : Blk w' g t cs := (hb.block g hg).trans h
theorem Blk.all (h : Blk w g t cs) (hb : Below w.heap.size w w') : Blk w' g t cs := h.below hb h.lt
theorem Blk.grown {row : Option Nat} (h : Blk w g t cs) (hb : w.grownBy w' row) (hg : some g ≠ row) : Blk w' g t cs := (hb.block g h.lt hg).trans h
end
theorem only_refl (w : World) (row : Option Nat) : w.grownBy w row := ⟨rfl, rfl, rfl, Nat.le_refl _, fun _ _ _ => rfl⟩
theorem pB {α : Type} (l : List α) (i : Nat) (x : α) : l.toArray.setIfInBounds i x = (l.set i x).toArray := List.setIfInBounds_toArray ..
theorem pC {α : Type} (y x : α) (l : List α) : (y :: l).set 0 x = x :: l := rfl
theorem pD {α : Type} (y x : α) (l : List α) (n : Nat) : (y :: l).set (n + 1) x = y :: l.set n x := rfl
end Go.Proofs.YtlcalajehnaenaaGreatDoor
namespace Go.Proofs.YtlcalajehnaenaaGreatDoor
open Go.RowKit
theorem own_lower {w : World} {base base' e size n : Nat} {v : Value} {xs : List Value} (h : w.ownsRow base e size v n xs) (hb : base' ≤ base) : w.ownsRow base' e size v n xs := by
 obtain ⟨hl, h2⟩ := h
 refine ⟨hl, ?_⟩
 rcases h2 with h2 | ⟨g, cap, cur, h2, hg, hh⟩
 ·exact .inl h2
 ·exact .inr ⟨g, cap, cur, h2, Nat.le_trans hb hg, hh⟩
end Go.Proofs.YtlcalajehnaenaaGreatDoor
namespace Go.Proofs.YtlcalajehnaenaaGreatDoor
open Go.RowKit
structure Mod (F : Nat → Prop) (w w' : World) : Prop where
 os : w'.os = w.os
 tape : w'.tape = w.tape
 output : w'.output = w.output
 size : w.heap.size ≤ w'.heap.size
 block : ∀ k, k < w.heap.size → ¬ F k → w'.heap[k]? = w.heap[k]?
section
variable {F G : Nat → Prop} {a w w' w'' : World}
theorem Mod.refl (F : Nat → Prop) (w : World) : Mod F w w := ⟨rfl, rfl, rfl, Nat.le_refl _, fun _ _ _ => rfl⟩
theorem Mod.trans (h : Mod F w w') (k : Mod G w' w'') (hG : ∀ b, G b → F b ∨ w.heap.size ≤ b) : Mod F w w'' :=
 ⟨k.os.trans h.os, k.tape.trans h.tape, k.output.trans h.output, Nat.le_trans h.size k.size, fun b hb hF => (k.block b (Nat.lt_of_lt_of_le hb h.size) (fun hg => (hG b hg).elim hF (by omega))).trans (h.block b hb hF)⟩
theorem Mod.mono (h : Mod F w w') (hF : ∀ b, F b → G b ∨ w.heap.size ≤ b) : Mod G w w' := ⟨h.os, h.tape, h.output, h.size, fun b hb hG => h.block b hb (fun hf => (hF b hf).elim hG (by omega))⟩
theorem Mod.of_below (F : Nat → Prop) (h : Below w.heap.size w w') : Mod F w w' := ⟨h.os, h.tape, h.output, h.size, fun b hb _ => h.block b hb⟩
theorem Mod.of_grown {r : Option Nat} (h : w.grownBy w' r) (hF : ∀ g, r = some g → F g ∨ w.heap.size ≤ g) : Mod F w w' := ⟨h.os, h.tape, h.output, h.size, fun b hb hf => h.block b hb (fun e => (hF b e.symm).elim hf (by omega))⟩
theorem Mod.then_below (h : Mod F w w') (k : Below w'.heap.size w' w'') : Mod F w w'' := h.trans (Mod.of_below F k) (fun _ hb => .inl hb)
theorem Mod.then_grown {r : Option Nat} (h : Mod F w w') (k : w'.grownBy w'' r) (hF : ∀ g, r = some g → F g ∨ w.heap.size ≤ g) : Mod F w w'' :=
 ⟨k.os.trans h.os, k.tape.trans h.tape, k.output.trans h.output, Nat.le_trans h.size k.size, fun b hb hf => (k.block b (Nat.lt_of_lt_of_le hb h.size) (fun e => (hF b e.symm).elim hf (by omega))).trans (h.block b hb hf)⟩
theorem Mod.below {B : Nat} (h : Below B a w) (m : Mod F w w') (hB : B ≤ w.heap.size) (hF : ∀ b, F b → B ≤ b) : Below B a w' :=
 ⟨m.os.trans h.os, m.tape.trans h.tape, m.output.trans h.output, Nat.le_trans h.size m.size, fun b hb => (m.block b (by omega) (fun hf => by have := hF b hf; omega)).trans (h.block b hb)⟩
theorem Mod.drewN (h : Mod F w w') (n : Nat) : Mod F w (w'.drewN n) := ⟨h.os, h.tape, h.output, h.size, h.block⟩
theorem Mod.drew (h : Mod F w w') : Mod F w w'.drew := ⟨h.os, h.tape, h.output, h.size, h.block⟩
theorem Mod.set (h : Mod F w w') {p : Addr} (hp : F p.block ∨ w.heap.size ≤ p.block) (u : Value) : Mod F w (w'.setCell p u) :=
 ⟨h.os, h.tape, h.output, by simpa [World.setCell] using h.size, fun i hi hf => (Below.heap_setCell w' p u i (by
  rintro rfl
  exact hp.elim hf (by omega))).trans (h.block i hi hf)⟩
theorem Mod.alloc (h : Mod F w w') (o : Obj) : Mod F w (w'.alloc o) :=
 ⟨h.os, h.tape, h.output, Nat.le_trans h.size (by simp), fun i hi hf => (Below.heap_alloc w' o i (Nat.lt_of_lt_of_le hi h.size)).trans (h.block i hi hf)⟩
theorem Mod.blk {g : Nat} {t : TypeId} {cs : Array Value} (h : Mod F w w') (hB : Blk w g t cs) (hg : ¬ F g) : Blk w' g t cs := (h.block g hB.lt hg).trans hB
theorem Mod.rd {B n : Nat} {A : Option Addr} {f : Nat → Value} (h : Mod F w w') (hR : Rd w B A n f) (hB : B ≤ w.heap.size) (hne : ∀ b off, A = some ⟨b, off, none⟩ → 0 < n → ¬ F b) : Rd w' B A n f := by
 intro hn
 obtain ⟨b, off, e, hb, hc⟩ := hR hn
 exact ⟨b, off, e, hb, fun j hj => (World.cell?_of_block (w := w) (h.block b (by omega) (hne b off e hn))).trans (hc j hj)⟩
theorem Mod.own {base e size n : Nat} {v : Value} {xs : List Value} (h : Mod F w w') (ho : w.ownsRow base e size v n xs) (hne : ∀ g, v.ownBlock = some g → ¬ F g) : w'.ownsRow base e size v n xs := by
 refine ⟨ho.1, ?_⟩
 rcases ho.2 with hn | ⟨g, cap, cur, rfl, hb, hgg, rest⟩
 ·exact .inl hn
 ·exact .inr ⟨g, cap, cur, rfl, hb, (h.block g (Array.getElem?_eq_some_iff.1 hgg).1 (hne g rfl)).trans hgg, rest⟩
def Ty (w : World) (b : Nat) (t : TypeId) : Prop := ∃ cs fr, w.heap[b]? = some (.cells cs t fr)
theorem Ty.unique {b : Nat} {t t' : TypeId} (h : Ty w b t) (h' : Ty w b t') : t = t' := by
 obtain ⟨_, _, h⟩ := h
 obtain ⟨_, _, h'⟩ := h'
 rw [h] at h'
 cases h'
 rfl
theorem Ty.not_map {b : Nat} {t : TypeId} {es : Array MapEntry} {c : Nat} (h : Ty w b t) (h' : w.heap[b]? = some (.map es c)) : False := by
 obtain ⟨_, _, h⟩ := h
 rw [h] at h'
 cases h'
theorem Blk.ty {g : Nat} {t : TypeId} {cs : Array Value} (h : Blk w g t cs) : Ty w g t := ⟨_, _, h⟩
theorem Ty.of_own {base e size n g : Nat} {v : Value} {xs : List Value} (h : w.ownsRow base e size v n xs) (hg : v.ownBlock = some g) : Ty w g e := by
 rcases h.2 with ⟨rfl, _⟩ | ⟨g', cap, cur, rfl, _, hh, _⟩
 ·simp [Value.ownBlock] at hg
 ·simp [Value.ownBlock] at hg
  subst hg
  exact ⟨_, _, hh⟩
end
end Go.Proofs.YtlcalajehnaenaaGreatDoor
namespace Go.Proofs.YtlcalajehnaenaaGreatDoor
open Go.RowKit
def IMap (w : World) (b : Nat) (es : List (Int × Value)) : Prop :=
 ∃ (l : List MapEntry) (clock : Nat), w.heap[b]? = some (.map l.toArray clock) ∧ l.map (fun e => (e.key, e.val)) = es.map (fun p => (Value.int .i64 p.1, p.2)) ∧ (es.map Prod.fst).Nodup ∧ (l.map (·.born)).Nodup ∧ ∀ e ∈ l, e.born < clock
def put : List (Int × Value) → Int → Value → List (Int × Value)
 | [], k, v => [(k, v)]
 | p :: es, k, v => if p.1 = k then (k, v) :: es else p :: put es k v
theorem IMap.block {w : World} {b : Nat} {es : List (Int × Value)} (h : IMap w b es) : ∃ l c, w.heap[b]? = some (.map l c) := by
 obtain ⟨l, c, h, _⟩ := h
 exact ⟨_, _, h⟩
theorem IMap.lt {w : World} {b : Nat} {es : List (Int × Value)} (h : IMap w b es) : b < w.heap.size := by
 obtain ⟨l, c, h⟩ := h.block
 exact (Array.getElem?_eq_some_iff.1 h).1
theorem IMap.not_ty {w : World} {b : Nat} {es : List (Int × Value)} {t : TypeId} (h : IMap w b es) : ¬ Ty w b t := by
 obtain ⟨l, c, h⟩ := h.block
 exact fun k => k.not_map h
theorem IMap.keep {w w' : World} {b : Nat} {es : List (Int × Value)} (h : IMap w b es) (hb : w'.heap[b]? = w.heap[b]?) : IMap w' b es := by
 obtain ⟨l, c, h, r⟩ := h
 exact ⟨l, c, hb.trans h, r⟩
theorem IMap.mod {F : Nat → Prop} {w w' : World} {b : Nat} {es : List (Int × Value)} (h : IMap w b es) (m : Mod F w w') (hF : ¬ F b) : IMap w' b es := h.keep (m.block b h.lt hF)
theorem IMap.all {w w' : World} {b : Nat} {es : List (Int × Value)} (h : IMap w b es) (m : Below w.heap.size w w') : IMap w' b es := h.keep (m.block b h.lt)
theorem IMap.new (w : World) : IMap (w.alloc (.map #[] 0)) w.heap.size [] := ⟨[], 0, by rw [World.alloc_heap_new], rfl, by simp, by simp, by simp⟩
theorem put_keys (es : List (Int × Value)) (k : Int) (v : Value) : (put es k v).map Prod.fst = if k ∈ es.map Prod.fst then es.map Prod.fst else es.map Prod.fst ++ [k] := by
 induction es with
 | nil => simp [put]
 | cons p es ih =>
   unfold put
   by_cases h : p.1 = k
   ·simp [h]
   ·rw [if_neg h]
    simp only [List.map_cons, ih, List.mem_cons]
    have h' : ¬ k = p.1 := fun e => h e.symm
    by_cases hm : k ∈ es.map Prod.fst
    ·rw [if_pos hm, if_pos (.inr hm)]
    ·rw [if_neg hm, if_neg (by rintro (e | e); exact h' e; exact hm e)]
     rfl
theorem put_nodup {es : List (Int × Value)} (h : (es.map Prod.fst).Nodup) (k : Int) (v : Value) : ((put es k v).map Prod.fst).Nodup := by
 rw [put_keys]
 split
 ·exact h
 ·rename_i hk
  rw [List.nodup_append]
  refine ⟨h, by simp, fun a ha b hb => ?_⟩
  rw [List.mem_singleton] at hb
  subst hb
  rintro rfl
  exact hk ha
theorem lookup_put (es : List (Int × Value)) (k j : Int) (v : Value) : (put es k v).lookup j = if j = k then some v else es.lookup j := by
 induction es with
 | nil =>
   by_cases h : j = k
   ·simp [put, h]
   ·simp [put, List.lookup, h, beq_false_of_ne h]
 | cons p es ih =>
   unfold put
   by_cases h : p.1 = k
   ·rw [if_pos h]
    by_cases hj : j = k
    ·simp [List.lookup, hj]
    ·simp [List.lookup, hj, h, beq_false_of_ne hj]
   ·rw [if_neg h]
    by_cases hj : j = p.1
    ·simp [List.lookup, hj, h]
    ·simp [List.lookup, beq_false_of_ne hj, ih]
theorem imap_find (l : List MapEntry) : ∀ (es : List (Int × Value)) (_ : l.map (fun e => (e.key, e.val)) = es.map (fun p => (Value.int .i64 p.1, p.2))) (k : Int) (i : Nat),
 (es.lookup k = none ∧ Instr.findNow (.int .i64) (.int .i64 k) l i = some none) ∨
 ∃ j v, es.lookup k = some v ∧ (∀ u, put es k u = es.set j (k, u)) ∧ j < es.length ∧ es[j]? = some (k, v) ∧ Instr.findNow (.int .i64) (.int .i64 k) l i = some (some (i + j, v)) := by
 induction l with
 | nil =>
   intro es h k i
   have : es = [] := by simpa using h.symm
   subst this
   exact .inl ⟨rfl, rfl⟩
 | cons e l ih =>
   intro es h k i
   rcases es with _ | ⟨p, es⟩
   ·simp at h
   ·simp only [List.map_cons, List.cons.injEq, Prod.mk.injEq] at h
    obtain ⟨⟨hk, hv⟩, hr⟩ := h
    have hs : Instr.sameNow (.int .i64) (.int .i64 k) e.key = some (k == p.1) := by rw [hk]; simp [Instr.sameNow]
    by_cases hkp : k = p.1
    ·right
     have hs' : Instr.sameNow (.int .i64) (.int .i64 k) e.key = some true := by rw [hs, hkp]; simp
     refine ⟨0, p.2, by simp [List.lookup, hkp], fun u => by simp [put, hkp], by simp, by rw [hkp]; rfl, ?_⟩
     unfold Instr.findNow
     rw [hs']
     simp [hv]
    ·have hs' : Instr.sameNow (.int .i64) (.int .i64 k) e.key = some false := by rw [hs]; simp [hkp]
     have hl : (p :: es).lookup k = es.lookup k := by simp [List.lookup, beq_false_of_ne hkp]
     have hf : Instr.findNow (.int .i64) (.int .i64 k) (e :: l) i = Instr.findNow (.int .i64) (.int .i64 k) l (i + 1) := by
      conv => lhs; unfold Instr.findNow
      rw [hs']
     rw [hl, hf]
     rcases ih es hr k (i + 1) with ⟨h1, h2⟩ | ⟨j, v, h1, h0, h2, h3, h4⟩
     ·exact .inl ⟨h1, h2⟩
     ·refine .inr ⟨j + 1, v, h1, fun u => ?_, by simp; omega, by simpa using h3, by rw [h4]; congr 2; simp; omega⟩
      unfold put
      rw [if_neg (fun e => hkp e.symm), h0 u]
      rfl
section
variable {P : Program} {w : World} {b : Nat} {es : List (Int × Value)} {t kt e : TypeId}
theorem run_findKey (hk : P.underlying kt = some (.int .i64)) (l : List MapEntry) (k : Int) (r : Option (Nat × Value)) (hf : Instr.findNow (.int .i64) (.int .i64 k) l 0 = some r) (w : World) : (Instr.findKey kt (.int .i64 k) l).run P w = .ok r w := by
 simp [Instr.findKey, run_underlying hk, hf]
theorem run_checkKey (hk : P.underlying kt = some (.int .i64)) (em : Bool) (k : Int) (w : World) : (Instr.checkKey em 10000 kt (.int .i64 k)).run P w = .ok () w := by
 have h : ∀ n : Nat, (Instr.checkKey em (n + 1) kt (.int .i64 k)).run P w = .ok () w := fun n => by simp [Instr.checkKey, run_underlying hk]
 exact h 9999
theorem IMap.look (h : IMap w b es) (ht : P.underlying t = some (.map kt e)) (hk : P.underlying kt = some (.int .i64)) {i : TypeInfo} {z : Value} (hi : P.info? e = some i) (hz : i.zero = some z) (k : Int) :
 (Instr.lookup t (.map (some b)) (.int .i64 k) false).run P w = .ok ((es.lookup k).getD z) w := by
 obtain ⟨l, c, hb, hl, _⟩ := h
 rcases imap_find l es hl k 0 with ⟨h1, h2⟩ | ⟨j, v, h1, _, h2, h3, h4⟩
 ·simp [Instr.lookup, run_underlying ht, MapKept.run_getObj_map hb, run_checkKey hk, run_findKey hk l k _ h2, h1, zeroValue, typeInfo, hi, hz, Result.andThen]
 ·simp [Instr.lookup, run_underlying ht, MapKept.run_getObj_map hb, run_checkKey hk, run_findKey hk l k _ h4, h1, Result.andThen]
theorem IMap.look2 (h : IMap w b es) (ht : P.underlying t = some (.map kt e)) (hk : P.underlying kt = some (.int .i64)) {i : TypeInfo} {z : Value} (hi : P.info? e = some i) (hz : i.zero = some z) (k : Int) :
 (Instr.lookup t (.map (some b)) (.int .i64 k) true).run P w = .ok (.tuple #[(es.lookup k).getD z, .bool (es.lookup k).isSome]) w := by
 obtain ⟨l, c, hb, hl, _⟩ := h
 rcases imap_find l es hl k 0 with ⟨h1, h2⟩ | ⟨j, v, h1, _, h2, h3, h4⟩
 ·simp [Instr.lookup, run_underlying ht, MapKept.run_getObj_map hb, run_checkKey hk, run_findKey hk l k _ h2, h1, zeroValue, typeInfo, hi, hz, Result.andThen]
 ·simp [Instr.lookup, run_underlying ht, MapKept.run_getObj_map hb, run_checkKey hk, run_findKey hk l k _ h4, h1, Result.andThen]
theorem heap_set_same {w : World} {b : Nat} {o : Obj} (h : b < w.heap.size) : ({ w with heap := w.heap.setIfInBounds b o } : World).heap[b]? = some o := by simp [h]
theorem grown_setObj (w : World) (b : Nat) (o : Obj) : w.grownBy { w with heap := w.heap.setIfInBounds b o } (some b) :=
 ⟨rfl, rfl, rfl, by simp, fun k _ hne => by
  have : b ≠ k := fun e => hne (by rw [e])
  simp [this]⟩
theorem IMap.store (h : IMap w b es) (ht : P.underlying t = some (.map kt e)) (hk : P.underlying kt = some (.int .i64)) (k : Int) (v : Value) :
 ∃ w', (Instr.mapUpdate t (.map (some b)) (.int .i64 k) v).run P w = .ok () w' ∧ IMap w' b (put es k v) ∧ w.grownBy w' (some b) ∧ w'.heap.size = w.heap.size := by
 obtain ⟨l, c, hb, hl, hn, hbn, hbc⟩ := h
 have hlt := (Array.getElem?_eq_some_iff.1 hb).1
 have hlen : l.length = es.length := by have := congrArg List.length hl; simpa using this
 rcases imap_find l es hl k 0 with ⟨h1, h2⟩ | ⟨j, v0, h1, h0, h2, h3, h4⟩
 ·refine ⟨_, ?_, ⟨l ++ [⟨.int .i64 k, v, c⟩], c + 1, heap_set_same hlt, ?_, put_nodup hn k v, ?_, ?_⟩, grown_setObj w b _, by simp⟩
  ·simp [Instr.mapUpdate, run_underlying ht, MapKept.run_getObj_map hb, run_checkKey hk, run_findKey hk l k _ h2, MapKept.run_setObj_map _ hb, Result.andThen]
  ·have hp : put es k v = es ++ [(k, v)] := by
    have hno : ∀ p ∈ es, p.1 ≠ k := by
     intro p hp e
     have := List.lookup_eq_none_iff.1 h1 p hp
     simp [e] at this
    clear h1 h2 hl hn hlen
    induction es with
    | nil => rfl
    | cons p es ih =>
      unfold put
      rw [if_neg (hno p (by simp)), ih (fun q hq => hno q (by simp [hq]))]
      rfl
   rw [hp]
   simp [hl]
  ·rw [List.map_append, List.nodup_append]
   refine ⟨hbn, by simp, fun a ha b hb => ?_⟩
   rw [List.map_singleton, List.mem_singleton] at hb
   obtain ⟨x, hx, rfl⟩ := List.mem_map.1 ha
   have := hbc x hx
   rw [hb]
   show x.born ≠ c
   omega
  ·intro x hx
   rw [List.mem_append, List.mem_singleton] at hx
   rcases hx with hx | rfl
   ·have := hbc x hx; omega
   ·simp
 ·have hj : j < l.length := by omega
  have hjk : l[j].key = .int .i64 k := by
   have := congrArg (fun q => q[j]?) hl
   simp [hj, h3] at this
   exact this.1
  refine ⟨_, ?_, ⟨l.set j { l[j] with key := .int .i64 k, val := v }, c, heap_set_same hlt, ?_, put_nodup hn k v, ?_, ?_⟩, grown_setObj w b _, by simp⟩
  ·have hm : l.modify j (fun e => { e with key := .int .i64 k, val := v }) = l.set j { l[j] with key := .int .i64 k, val := v } := by
    apply List.ext_getElem?
    intro i
    rw [List.getElem?_modify, List.getElem?_set]
    split
    ·rename_i hi
     subst hi
     simp [hj]
    ·simp
   simp [Instr.mapUpdate, run_underlying ht, MapKept.run_getObj_map hb, run_checkKey hk, run_findKey hk l k _ h4, Instr.keyThatStays, hj, hjk, Instr.sameBits, MapKept.run_setObj_map _ hb, Result.andThen, hm]
  ·rw [h0 v, List.map_set, List.map_set, hl]
  ·rw [List.map_set]
   have : (l.map (·.born)).set j l[j].born = l.map (·.born) := by
    apply List.ext_getElem?
    intro i
    rw [List.getElem?_set]
    split
    ·rename_i hi
     subst hi
     simp [hj]
    ·rfl
   rw [this]
   exact hbn
  ·intro x hx
   rcases List.mem_or_eq_of_mem_set hx with hx | rfl
   ·exact hbc x hx
   ·exact hbc l[j] (List.getElem_mem hj)
end
end Go.Proofs.YtlcalajehnaenaaGreatDoor
namespace Go.Proofs.YtlcalajehnaenaaGreatDoor
open Go.RowKit
def SlT (P : Program) (t e : TypeId) (size bytes : Nat) : Prop :=
 ∃ i z, P.underlying t = some (.slice e) ∧ P.info? e = some i ∧ i.zero = some z ∧ i.size = size ∧ i.bytes = bytes ∧ z.cells.size = size ∧ 0 < size
theorem SlT.of {P : Program} {t e : TypeId} {size bytes : Nat} (hu : P.underlying t = some (.slice e)) (h : (P.info? e).bind (fun i => i.zero.map fun z => (i.size, i.bytes, z.cells.size)) = some (size, bytes, size)) (hs : 0 < size) : SlT P t e size bytes := by
 obtain ⟨i, hi, h⟩ := Option.bind_eq_some_iff.1 h
 obtain ⟨z, hz, h⟩ := Option.map_eq_some_iff.1 h
 simp only [Prod.mk.injEq] at h
 exact ⟨i, z, hu, hi, hz, h.1, h.2.1, h.2.2, hs⟩
section
variable {P : Program} {w : World} {base t e size bytes n : Nat} {v : Value} {xs : List Value}
theorem run_append1 {ty : TypeId} (hT : SlT P t e size bytes) (hown : w.ownsRow base e size v n xs) {gb : Nat} {cs : Array Value} (hsrc : Blk w gb e cs) (hcs : cs.size = size) (h1 : ∀ u ∈ cs.toList, u.oneCell' = true)
 (hn : n < 1099511627776) (hby : bytes ≤ 64) (hbase : base ≤ w.heap.size) :
 ∃ g cap w', (Builtin.append_ #[t, t] ty #[v, .slice (some ⟨gb, 0, none⟩) 1 1]).run P w = .ok (.slice (some ⟨g, 0, none⟩) (n + 1) cap) w' ∧ w'.ownsRow base e size (.slice (some ⟨g, 0, none⟩) (n + 1) cap) (n + 1) (xs ++ cs.toList) ∧
  w.grownBy w' v.ownBlock ∧ (some g = v.ownBlock ∨ g = w.heap.size) := by
 obtain ⟨i, z, ht, hi, hz, hs, hb, hzs, hsz⟩ := hT
 have hmul : (n + 1) * bytes ≤ 140737488355328 := Nat.le_trans (Nat.mul_le_mul (show n + 1 ≤ 1099511627776 by omega) hby) (by decide)
 obtain ⟨v', w', hrun, h2, h3, _, h5⟩ := run_append_own_at (P := P) w base t ty e i z size bytes ht hi hz hs hb hzs hsz v n xs hown ⟨gb, 0, none⟩ 1 1 cs.toList (by simpa using hcs)
  (fun j u hu => by
   have ea : (⟨gb, 0, none⟩ : Addr).add j = ⟨gb, j, none⟩ := by unfold Addr.add; split <;> simp_all
   rw [ea, Blk.cell hsrc j]
   simpa using hu)
  h1 (by unfold maxLen; omega) hmul hbase
 obtain ⟨g, cap, rfl⟩ := ownsRow_succ h2
 refine ⟨g, cap, w', hrun, h2, h3, ?_⟩
 rcases h5 with h5 | h5
 ·exact .inl (by simpa [Value.ownBlock] using h5)
 ·exact .inr (by simpa [Value.ownBlock] using h5)
end
end Go.Proofs.YtlcalajehnaenaaGreatDoor
namespace Go.Proofs.YtlcalajehnaenaaGreatDoor
open Go.RowKit
def RowT (w : World) (t : TypeId) (A : Option Addr) (xs : List Value) : Prop := 0 < xs.length → ∃ b off cs fr, A = some ⟨b, off, none⟩ ∧ w.heap[b]? = some (.cells cs t fr) ∧ ∀ j, j < xs.length → cs[off + j]? = xs[j]?
section
variable {w w' : World} {t : TypeId} {A : Option Addr} {xs : List Value} {F : Nat → Prop}
theorem RowT.nil (w : World) (t : TypeId) (A : Option Addr) : RowT w t A [] := fun h => absurd h (by simp)
theorem RowT.mod (h : RowT w t A xs) (m : Mod F w w') (hF : ∀ b, F b → ¬ Ty w b t) : RowT w' t A xs := by
 intro hn
 obtain ⟨b, off, cs, fr, e, hh, hc⟩ := h hn
 exact ⟨b, off, cs, fr, e, (m.block b (Array.getElem?_eq_some_iff.1 hh).1 (fun hf => hF b hf ⟨_, _, hh⟩)).trans hh, hc⟩
theorem RowT.all (h : RowT w t A xs) (hb : Below w.heap.size w w') : RowT w' t A xs := h.mod (F := fun _ => False) (Mod.of_below _ hb) (fun _ hf => hf.elim)
theorem RowT.cells (h : RowT w t A xs) (h0 : 0 < xs.length) : ∃ b off, A = some ⟨b, off, none⟩ ∧ b < w.heap.size ∧ Ty w b t ∧ ∀ j, j < xs.length → w.cell? ⟨b, off + j, none⟩ = xs[j]? := by
 obtain ⟨b, off, cs, fr, e, hh, hc⟩ := h h0
 exact ⟨b, off, e, (Array.getElem?_eq_some_iff.1 hh).1, ⟨_, _, hh⟩, fun j hj => by rw [← hc j hj]; simp [World.cell?, hh]⟩
theorem RowT.of_own {base size n m c : Nat} (h : w.ownsRow base t size (.slice A m c) n xs) : RowT w t A xs := by
 intro h0
 have hl := h.1
 rcases h.2 with ⟨h2, hn⟩ | ⟨g, cap, cur, h2, _, hh, hnc, hm, hcs, htk⟩
 ·subst hn
  rw [Nat.zero_mul] at hl
  omega
 ·injection h2 with h2 _ _
  subst h2
  refine ⟨g, 0, cur, _, rfl, hh, fun j hj => ?_⟩
  rw [Nat.zero_add, ← htk, List.getElem?_take, if_pos (by omega)]
  simp
theorem RowT.drop (h : RowT w t A xs) (k : Nat) (h0 : k < xs.length) : ∃ b off, A = some ⟨b, off, none⟩ ∧ RowT w t (some ⟨b, off + k, none⟩) (xs.drop k) := by
 obtain ⟨b, off, cs, fr, e, hh, hc⟩ := h (by omega)
 refine ⟨b, off, e, fun hn => ⟨b, off + k, cs, fr, rfl, hh, fun j hj => ?_⟩⟩
 rw [List.length_drop] at hj
 rw [List.getElem?_drop, ← hc (k + j) (by omega), Nat.add_assoc]
theorem RowT.take (h : RowT w t A xs) (k : Nat) : RowT w t A (xs.take k) := by
 intro hn
 rw [List.length_take] at hn
 obtain ⟨b, off, cs, fr, e, hh, hc⟩ := h (by omega)
 refine ⟨b, off, cs, fr, e, hh, fun j hj => ?_⟩
 rw [List.length_take] at hj
 rw [hc j (by omega), List.getElem?_take, if_pos (by omega)]
end
theorem flatT_length {α : Type} (f : α → List Value) (size : Nat) (hf : ∀ x, (f x).length = size) (l : List α) : (l.flatMap f).length = l.length * size := by
 induction l with
 | nil => simp
 | cons x l ih => rw [List.flatMap_cons, List.length_append, hf, ih, List.length_cons, Nat.succ_mul, Nat.add_comm]
theorem flatT_at {α : Type} (f : α → List Value) (size : Nat) (hf : ∀ x, (f x).length = size) (l : List α) : ∀ (k i : Nat) (hk : k < l.length) (_ : i < size), (l.flatMap f)[k * size + i]? = (f l[k])[i]? := by
 induction l with
 | nil => intro k i hk; simp at hk
 | cons x l ih =>
   intro k i hk hi
   rw [List.flatMap_cons]
   rcases k with _ | k
   ·rw [Nat.zero_mul, Nat.zero_add, List.getElem?_append_left (by rw [hf]; exact hi)]
    rfl
   ·rw [List.getElem?_append_right (by rw [hf, Nat.succ_mul]; omega), hf, show (k + 1) * size + i - size = k * size + i by rw [Nat.succ_mul]; omega]
    exact ih k i (by simpa using hk) hi
theorem flatT_set {α : Type} (f : α → List Value) (size : Nat) (hf : ∀ x, (f x).length = size) (x : α) (i : Nat) (hi : i < size) (v : Value) (l : List α) : ∀ (k : Nat) (hk : k < l.length) (_ : f x = (f l[k]).set i v), (l.flatMap f).set (k * size + i) v = (l.set k x).flatMap f := by
 induction l with
 | nil => intro k hk; simp at hk
 | cons y l ih =>
   intro k hk hx
   rw [List.flatMap_cons]
   rcases k with _ | k
   ·rw [Nat.zero_mul, Nat.zero_add, List.set_append_left _ _ (by rw [hf]; exact hi), List.set_cons_zero, List.flatMap_cons, hx]
    rfl
   ·rw [List.set_append_right _ _ (by rw [hf, Nat.succ_mul]; omega), hf, show (k + 1) * size + i - size = k * size + i by rw [Nat.succ_mul]; omega, List.set_cons_succ, List.flatMap_cons, ih k (by simpa using hk) hx]
theorem RowT.at_ {α : Type} {w : World} {t : TypeId} {A : Option Addr} (f : α → List Value) (size : Nat) (hf : ∀ x, (f x).length = size) {l : List α} (h : RowT w t A (l.flatMap f)) (hs : 0 < size) {k : Nat} (hk : k < l.length) : ∃ b off, A = some ⟨b, off, none⟩ ∧ b < w.heap.size ∧ Ty w b t ∧ ∀ i, i < size → w.cell? ⟨b, off + (k * size + i), none⟩ = (f l[k])[i]? := by
 have hl := flatT_length f size hf l
 have hk1 : (k + 1) * size ≤ l.length * size := Nat.mul_le_mul_right _ hk
 rw [Nat.succ_mul] at hk1
 obtain ⟨b, off, e, hb, ht, hc⟩ := h.cells (by omega)
 exact ⟨b, off, e, hb, ht, fun i hi => by rw [hc _ (by omega), flatT_at f size hf l k i hk hi]⟩
end Go.Proofs.YtlcalajehnaenaaGreatDoor
namespace Go.Proofs.YtlcalajehnaenaaGreatDoor
def MaxU : Int := 1099511627776
structure Lot where
 flow : Int
 at_ : Int
 n : Int
deriving DecidableEq
def lotV (l : Lot) : List Value := [.int .i64 l.flow, .int .i64 l.at_, .int .i64 l.n]
theorem lotV_len (l : Lot) : (lotV l).length = 3 := rfl
def Lot.ok (l : Lot) : Prop := 0 ≤ l.flow ∧ l.flow ≤ 4611686018427387904 ∧ 0 ≤ l.at_ ∧ 1 ≤ l.n ∧ l.at_ + l.n ≤ MaxU
def LotsOk (ls : List Lot) : Prop := ∀ l ∈ ls, l.ok
def totL : List Lot → Int
 | [] => 0
 | l :: ls => l.n + totL ls
theorem totL_append (a b : List Lot) : totL (a ++ b) = totL a + totL b := by
 induction a with
 | nil => simp [totL]
 | cons x a ih => simp only [List.cons_append, totL, ih]; omega
theorem totL_nonneg {ls : List Lot} (h : LotsOk ls) : 0 ≤ totL ls := by
 induction ls with
 | nil => simp [totL]
 | cons x a ih =>
   have h1 := h x (by simp)
   have h2 := ih (fun l hl => h l (by simp [hl]))
   unfold totL
   unfold Lot.ok at h1
   omega
def putL (ls : List Lot) (x : Lot) : List Lot :=
 if x.n = 0 then ls else
 match ls.getLast? with
 | some y => if x.flow = y.flow ∧ x.at_ = y.at_ + y.n then ls.dropLast ++ [⟨y.flow, y.at_, y.n + x.n⟩] else ls ++ [x]
 | none => [x]
theorem putL_zero {ls : List Lot} {x : Lot} (h : x.n = 0) : putL ls x = ls := by unfold putL; rw [if_pos h]
theorem putL_nil {x : Lot} (h : x.n ≠ 0) : putL [] x = [x] := by unfold putL; rw [if_neg h]; rfl
theorem putL_join {ls : List Lot} {x y : Lot} (h : x.n ≠ 0) (h1 : x.flow = y.flow) (h2 : x.at_ = y.at_ + y.n) : putL (ls ++ [y]) x = ls ++ [⟨y.flow, y.at_, y.n + x.n⟩] := by
 unfold putL
 rw [if_neg h]
 simp [h1, h2]
theorem putL_snoc {ls : List Lot} {x y : Lot} (h : x.n ≠ 0) (h1 : ¬ (x.flow = y.flow ∧ x.at_ = y.at_ + y.n)) : putL (ls ++ [y]) x = ls ++ [y, x] := by
 unfold putL
 rw [if_neg h]
 simp only [List.getLast?_append, List.getLast?_singleton, Option.some_or]
 rw [if_neg h1]
 simp
theorem snoc_cases {α : Type} (l : List α) : l = [] ∨ ∃ a x, l = a ++ [x] := by
 rcases List.eq_nil_or_concat l with h | ⟨a, x, h⟩
 ·exact .inl h
 ·exact .inr ⟨a, x, by rw [h, List.concat_eq_append]⟩
theorem putL_tot (ls : List Lot) (x : Lot) : totL (putL ls x) = totL ls + x.n := by
 by_cases h : x.n = 0
 ·rw [putL_zero h, h]; omega
 ·rcases snoc_cases ls with rfl | ⟨a, y, rfl⟩
  ·rw [putL_nil h]; simp [totL]
  ·by_cases h1 : x.flow = y.flow ∧ x.at_ = y.at_ + y.n
   ·rw [putL_join h h1.1 h1.2, totL_append, totL_append]; simp [totL]; omega
   ·rw [putL_snoc h h1, totL_append, totL_append]; simp [totL]; omega
theorem putL_len (ls : List Lot) (x : Lot) : ls.length ≤ (putL ls x).length ∧ (putL ls x).length ≤ ls.length + 1 := by
 by_cases h : x.n = 0
 ·rw [putL_zero h]; omega
 ·rcases snoc_cases ls with rfl | ⟨a, y, rfl⟩
  ·rw [putL_nil h]; simp
  ·by_cases h1 : x.flow = y.flow ∧ x.at_ = y.at_ + y.n
   ·rw [putL_join h h1.1 h1.2]; simp
   ·rw [putL_snoc h h1]; simp
def Lot.piece (l : Lot) : Prop := 0 ≤ l.flow ∧ l.flow ≤ 4611686018427387904 ∧ 0 ≤ l.at_ ∧ 0 ≤ l.n ∧ l.at_ + l.n ≤ MaxU
theorem putL_ok {ls : List Lot} {x : Lot} (h : LotsOk ls) (hx : x.piece) : LotsOk (putL ls x) := by
 unfold Lot.piece at hx
 by_cases h0 : x.n = 0
 ·rw [putL_zero h0]; exact h
 ·have hx' : x.ok := by unfold Lot.ok; omega
  rcases snoc_cases ls with rfl | ⟨a, y, rfl⟩
  ·rw [putL_nil h0]
   intro l hl
   rw [List.mem_singleton] at hl
   subst hl
   exact hx'
  ·have hy := h y (by simp)
   by_cases h1 : x.flow = y.flow ∧ x.at_ = y.at_ + y.n
   ·rw [putL_join h0 h1.1 h1.2]
    intro l hl
    rcases List.mem_append.1 hl with hl | hl
    ·exact h l (by simp [hl])
    ·rw [List.mem_singleton] at hl
     subst hl
     unfold Lot.ok at hy ⊢
     dsimp only
     omega
   ·rw [putL_snoc h0 h1]
    intro l hl
    rcases List.mem_append.1 hl with hl | hl
    ·exact h l (by simp [hl])
    ·simp only [List.mem_cons, List.not_mem_nil, or_false] at hl
     rcases hl with rfl | rfl
     ·exact hy
     ·exact hx'
def divL (tk lf : List Lot) : List Lot → List Int → List Lot × List Lot
 | l :: ls, c :: cs => divL (putL tk ⟨l.flow, l.at_, c⟩) (putL lf ⟨l.flow, l.at_ + c, l.n - c⟩) ls cs
 | _, _ => (tk, lf)
def CntOk : List Lot → List Int → Prop
 | l :: ls, c :: cs => 0 ≤ c ∧ c ≤ l.n ∧ CntOk ls cs
 | [], [] => True
 | _, _ => False
def sumZ : List Int → Int
 | [] => 0
 | x :: l => x + sumZ l
theorem divL_facts : ∀ (ls : List Lot) (cs : List Int) (tk lf : List Lot), LotsOk ls → CntOk ls cs → LotsOk tk → LotsOk lf →
 LotsOk (divL tk lf ls cs).1 ∧ LotsOk (divL tk lf ls cs).2 ∧ totL (divL tk lf ls cs).1 = totL tk + sumZ cs ∧ totL (divL tk lf ls cs).2 = totL lf + totL ls - sumZ cs ∧
 (divL tk lf ls cs).1.length ≤ tk.length + ls.length ∧ (divL tk lf ls cs).2.length ≤ lf.length + ls.length
 | [], [], tk, lf, _, _, h3, h4 => by simp [divL, h3, h4, sumZ, totL]
 | l :: ls, [], _, _, _, h, _, _ => by cases h
 | [], c :: cs, _, _, _, h, _, _ => by cases h
 | l :: ls, c :: cs, tk, lf, h1, h2, h3, h4 => by
   obtain ⟨c0, c1, h2⟩ := h2
   have hl := h1 l (by simp)
   have hl' := hl
   unfold Lot.ok at hl'
   have p1 : (⟨l.flow, l.at_, c⟩ : Lot).piece := by unfold Lot.piece; dsimp only; omega
   have p2 : (⟨l.flow, l.at_ + c, l.n - c⟩ : Lot).piece := by unfold Lot.piece; dsimp only; omega
   obtain ⟨a, b, d, e, f, g⟩ := divL_facts ls cs _ _ (fun x hx => h1 x (by simp [hx])) h2 (putL_ok h3 p1) (putL_ok h4 p2)
   have t1 := putL_tot tk ⟨l.flow, l.at_, c⟩
   have t2 := putL_tot lf ⟨l.flow, l.at_ + c, l.n - c⟩
   have u1 := (putL_len tk ⟨l.flow, l.at_, c⟩).2
   have u2 := (putL_len lf ⟨l.flow, l.at_ + c, l.n - c⟩).2
   simp only [divL, sumZ, totL, List.length_cons]
   dsimp only at t1 t2
   exact ⟨a, b, by omega, by omega, by omega, by omega⟩
def cntLt : List Lot → Int → List Int
 | [], _ => []
 | l :: ls, n => min n l.n :: cntLt ls (n - min n l.n)
theorem cntL_ok : ∀ (ls : List Lot) (n : Int), LotsOk ls → 0 ≤ n → n ≤ totL ls → CntOk ls (cntLt ls n) ∧ sumZ (cntLt ls n) = n
 | [], n, _, h0, h1 => by simp [totL] at h1; simp [cntLt, CntOk, sumZ]; omega
 | l :: ls, n, h, h0, h1 => by
   have hl := h l (by simp)
   unfold Lot.ok at hl
   unfold totL at h1
   have ht := totL_nonneg (fun x hx => h x (by simp [hx]) : LotsOk ls)
   obtain ⟨h2, h3⟩ := cntL_ok ls (n - min n l.n) (fun x hx => h x (by simp [hx])) (by omega) (by omega)
   refine ⟨⟨by omega, by omega, h2⟩, ?_⟩
   simp only [cntLt, sumZ, h3]
   omega
end Go.Proofs.YtlcalajehnaenaaGreatDoor
namespace Go.Proofs.YtlcalajehnaenaaGreatDoor
open Go.RowKit
def aroundI (n most : Int) : Int := (if n < 0 then -(n + 1) else n) % most
theorem aroundI_range (n most : Int) (h : 0 < most) : 0 ≤ aroundI n most ∧ aroundI n most < most := ⟨Int.emod_nonneg _ (by omega), Int.emod_lt_of_pos _ h⟩
set_option maxHeartbeats 400000 in
theorem around_any (n most : Int) (w : World) (h1 : -9223372036854775808 ≤ n) (h2 : n ≤ 9223372036854775807) (h3 : 0 < most) (h4 : most ≤ 9223372036854775807) :
 Calls Tryz.prog 31 #[.int .i64 n, .int .i64 most] w fun e w' => e = .returned (.int .i64 (aroundI n most)) ∧ w = w' := by
 by_cases h : n < 0
 ·have HE := Lib.hid (show aroundI n most = (-(n + 1)).tmod most from by unfold aroundI; rw [if_pos h, Int.tmod_eq_emod_of_nonneg (by omega)])
  go_enter Tryz.func31, Tryz.ntmps31
  go_wp2
  go_ret
  rw [HE.out, Int.neg_tmod]
  exact ⟨rfl, rfl⟩
 ·have HE := Lib.hid (show aroundI n most = n % most from by unfold aroundI; rw [if_neg h])
  go_enter Tryz.func31, Tryz.ntmps31
  go_wp2
  go_ret
  rw [HE.out]
  exact ⟨rfl, rfl⟩
theorem around_nat (n : Int) (m : Nat) (mi : Int) (w : World) (hmi : mi = (m : Int)) (h1 : -9223372036854775808 ≤ n) (h2 : n ≤ 9223372036854775807) (h3 : 0 < m) (h4 : m ≤ 9223372036854775807) :
 Calls Tryz.prog 31 #[.int .i64 n, .int .i64 mi] w fun e w' => ∃ k : Nat, e = .returned (.int .i64 (k : Int)) ∧ k < m ∧ Hid ((k : Int) = aroundI n m) ∧ w = w' := by
 subst hmi
 have hr := aroundI_range n m (by omega)
 refine (around_any n m w h1 h2 (by omega) (by omega)).mono ?_
 rintro e w' ⟨rfl, rfl⟩
 exact ⟨(aroundI n m).toNat, by rw [Int.toNat_of_nonneg hr.1], by omega, by show _ = _; omega, rfl⟩
end Go.Proofs.YtlcalajehnaenaaGreatDoor
namespace Go.Proofs.YtlcalajehnaenaaGreatDoor
open Go.RowKit
abbrev Sl := Option Addr × Nat × Nat
def slV (s : Sl) : Value := .slice s.1 s.2.1 s.2.2
structure NIn (w : World) (B : Nat) (s : Sl) (xs : List Int) : Prop where
 len : xs.length = s.2.1
 cap : s.2.1 ≤ s.2.2
 max : s.2.2 ≤ 9223372036854775807
 rd : Rd w B s.1 s.2.1 (vInt xs)
theorem NIn.keep {w w' : World} {B : Nat} {s : Sl} {bs : List Int} (h : NIn w B s bs) (hk : ∀ b, b < B → w'.heap[b]? = w.heap[b]?) : NIn w' B s bs := ⟨h.len, h.cap, h.max, h.rd.keep hk⟩
theorem NIn.more {w : World} {B B' : Nat} {s : Sl} {bs : List Int} (h : NIn w B s bs) (hB : B ≤ B') : NIn w B' s bs := ⟨h.len, h.cap, h.max, h.rd.more hB⟩
theorem NIn.nil (w : World) (B : Nat) : NIn w B (none, 0, 0) [] := ⟨rfl, Nat.le_refl _, by simp, Rd.nil⟩
theorem NIn.own {w : World} {base e n c : Nat} {A : Option Addr} {xs : List Int} (h : w.ownsRow base e 1 (.slice A n c) n (xs.map (Value.int .i64))) : NIn w w.heap.size (A, n, c) xs := by
 obtain ⟨_, h2, h3⟩ := rd_ints h
 exact ⟨by simpa using h.1, h2, own_cap h, h3⟩
end Go.Proofs.YtlcalajehnaenaaGreatDoor
namespace Go.Proofs.YtlcalajehnaenaaGreatDoor
open Go.RowKit
structure Rows {α : Type} (f : α → List Value) (size : Nat) (w : World) (s : Sl) (L : List α) : Prop where
 len : L.length = s.2.1
 cap : s.2.1 ≤ s.2.2
 max : s.2.2 ≤ 9223372036854775807
 rd : Rd w w.heap.size s.1 (L.length * size) (fun j => ((L.flatMap f)[j]?).getD undef)
section
variable {α : Type} {f : α → List Value} {size : Nat} {w w' : World} {s : Sl} {L : List α}
theorem Rows.all (h : Rows f size w s L) (hb : Below w.heap.size w w') : Rows f size w' s L := ⟨h.len, h.cap, h.max, h.rd.all hb⟩
theorem Rows.nil : Rows f size w (none, 0, 0) [] := ⟨rfl, Nat.le_refl _, by simp, by simpa using Rd.nil⟩
theorem flat_len (hf : ∀ x, (f x).length = size) (L : List α) : (L.flatMap f).length = L.length * size := by
 induction L with
 | nil => simp
 | cons x L ih => rw [List.flatMap_cons, List.length_append, ih, hf, List.length_cons, Nat.add_mul]; omega
theorem flat_at (hf : ∀ x, (f x).length = size) : ∀ (L : List α) (k i : Nat) (hk : k < L.length), i < size → (L.flatMap f)[k * size + i]? = (f L[k])[i]?
 | [], k, i, hk, _ => absurd hk (by simp)
 | x :: L, 0, i, hk, hi => by
   rw [List.flatMap_cons, Nat.zero_mul, Nat.zero_add, List.getElem?_append_left (by rw [hf]; exact hi)]
   rfl
 | x :: L, k + 1, i, hk, hi => by
   rw [List.flatMap_cons, Nat.add_mul, Nat.one_mul, List.getElem?_append_right (by rw [hf]; omega), hf]
   have e : k * size + size + i - size = k * size + i := by omega
   rw [e, flat_at hf L k i (by simpa using hk) hi]
   rfl
theorem Rows.cells (hf : ∀ x, (f x).length = size) (h : Rows f size w s L) {k : Nat} (hk : k < L.length) (hs : 0 < size) : ∃ b off, s.1 = some ⟨b, off, none⟩ ∧ b < w.heap.size ∧ ∀ i v, (f L[k])[i]? = some v → w.cell? ⟨b, off + (k * size + i), none⟩ = some v := by
 obtain ⟨b, off, e, hb, hc⟩ := h.rd (Nat.mul_pos (by omega) hs)
 refine ⟨b, off, e, hb, fun i v hv => ?_⟩
 have hi : i < size := by
  have := (List.getElem?_eq_some_iff.1 hv).1
  rw [hf] at this
  exact this
 have hlt : k * size + i < L.length * size := by
  have h1 : (k + 1) * size ≤ L.length * size := Nat.mul_le_mul_right _ hk
  rw [Nat.add_mul, Nat.one_mul] at h1
  omega
 rw [hc _ hlt]
 dsimp only
 rw [flat_at hf L k i hk hi, hv]
 rfl
theorem Rows.of_own {base e n c : Nat} {A : Option Addr} (hf : ∀ x, (f x).length = size) (h : w.ownsRow base e size (.slice A n c) n (L.flatMap f)) (hs : 0 < size) : Rows f size w (A, n, c) L := by
 have hl : L.length = n := by
  have := h.1
  rw [flat_len hf] at this
  exact Nat.eq_of_mul_eq_mul_right hs this
 rcases h.2 with ⟨h2, h0⟩ | ⟨g, cap, cur, h2, hbg, hh, hnc, hcm, hcs, htk⟩
 ·injection h2 with h2 h3 h4
  subst h2 h3 h4
  refine ⟨hl, Nat.le_refl _, by simp, ?_⟩
  rw [hl, Nat.zero_mul]
  exact Rd.nil
 ·injection h2 with h2 _ h3
  subst h2 h3
  refine ⟨hl, hnc, hcm, fun _ => ⟨g, 0, rfl, (Array.getElem?_eq_some_iff.1 hh).1, fun j hj => ?_⟩⟩
  rw [hl] at hj
  have hmul : n * size ≤ c * size := Nat.mul_le_mul_right _ hnc
  have hj2 : j < cur.size := by rw [hcs]; omega
  dsimp only
  rw [Nat.zero_add, ← htk, List.getElem?_take_of_lt hj]
  simp [World.cell?, hh, hj2]
end
structure Bd where
 bidder : Int
 price : Int
 s : Sl
 lots : List Int
def Bd.cells (b : Bd) : List Value := [.int .i64 b.bidder, .int .i64 b.price, slV b.s]
theorem Bd.cells_length (b : Bd) : b.cells.length = 3 := rfl
def Bd.val (b : Bd) : Value := .agg #[.int .i64 b.bidder, .int .i64 b.price, slV b.s]
def Bd.ok (w : World) (b : Bd) : Prop := NIn w w.heap.size b.s b.lots
theorem NIn.all {w w' : World} {s : Sl} {xs : List Int} (h : NIn w w.heap.size s xs) (hb : Below w.heap.size w w') : NIn w' w'.heap.size s xs := (h.keep (fun b hlt => hb.block b hlt)).more hb.size
theorem Bd.ok.all {w w' : World} {b : Bd} (h : b.ok w) (hb : Below w.heap.size w w') : b.ok w' := NIn.all h hb
structure Nd where
 bid : Int
 inn : Int
 out : Int
 s : Sl
 prices : List Int
def Nd.cells (x : Nd) : List Value := [.int .i64 x.bid, .int .i64 x.inn, .int .i64 x.out, slV x.s]
theorem Nd.cells_length (x : Nd) : x.cells.length = 4 := rfl
def Nd.ok (w : World) (x : Nd) : Prop := NIn w w.heap.size x.s x.prices
theorem Nd.ok.all {w w' : World} {x : Nd} (h : x.ok w) (hb : Below w.heap.size w w') : x.ok w' := NIn.all h hb
theorem NIn.cell {w : World} {B : Nat} {s : Sl} {xs : List Int} (h : NIn w B s xs) {k : Nat} (hk : k < s.2.1) : ∃ b off, s.1 = some ⟨b, off, none⟩ ∧ b < B ∧ w.cell? ⟨b, off + k, none⟩ = some (.int .i64 (xs[k]?.getD 0)) := h.rd.at_ hk
end Go.Proofs.YtlcalajehnaenaaGreatDoor
namespace Go.Proofs.YtlcalajehnaenaaGreatDoor
open Go.RowKit
theorem run_makeMapN {P : Program} {t kt e : TypeId} (ht : P.underlying t = some (.map kt e)) (k : IntKind) (n : Int) (w : World) : (Instr.makeMap t (some (.int k n))).run P w = .ok (.map (some w.heap.size)) (w.alloc (.map #[] 0)) := by
 simp [Instr.makeMap, run_underlying ht, asInt, Result.andThen]
 rfl
theorem NIn.drew {w : World} {s : Sl} {xs : List Int} (h : NIn w w.heap.size s xs) : NIn w.drew w.drew.heap.size s xs := h.all (w' := w.drew) ⟨rfl, rfl, rfl, Nat.le_refl _, fun _ _ => rfl⟩
end Go.Proofs.YtlcalajehnaenaaGreatDoor
namespace Go.Proofs.YtlcalajehnaenaaGreatDoor
open Go.RowKit
theorem slT_ints : SlT Tryz.prog 22 3 1 8 := SlT.of Tryz.underlying22 (by kernel_rfl) (by decide)
end Go.Proofs.YtlcalajehnaenaaGreatDoor
