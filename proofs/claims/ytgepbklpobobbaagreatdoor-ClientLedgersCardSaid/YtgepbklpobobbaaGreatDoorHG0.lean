/- Words for memory: a slice that reads as a list (nil let in); blocks that are kept. -/
import Derived.WalkKit
import Derived.WalkSpells
import Derived.Deep.Draws
import Derived.Lib.ConvBytes
import Derived.Maps.AppendAt
import Derived.RangeFuncBox
import Derived.OwnWalkIn
import Derived.Laws.OwnMore
import Derived.Lib.Hide

namespace Go.Proofs.YtgepbklpobobbaaGreatDoor
open Go.RowKit

/-- The slice value '.slice A n c' holds the values 'f 0, .., f (n - 1)' in a block below B. -/
def Rd (w : World) (B : Nat) (A : Option Addr) (n : Nat) (f : Nat → Value) : Prop :=
  0 < n → ∃ b off, A = some ⟨b, off, none⟩ ∧ b < B ∧ ∀ j, j < n → w.cell? ⟨b, off + j, none⟩ = some (f j)

theorem Rd.keep {w w' : World} {B n : Nat} {A : Option Addr} {f : Nat → Value} (h : Rd w B A n f) (hk : ∀ b, b < B → w'.heap[b]? = w.heap[b]?) : Rd w' B A n f := by
  intro hn
  obtain ⟨b, off, e, hb, hc⟩ := h hn
  exact ⟨b, off, e, hb, fun j hj => (World.cell?_of_block (w := w) (hk b hb)).trans (hc j hj)⟩
theorem Rd.below {w w' : World} {B B' n : Nat} {A : Option Addr} {f : Nat → Value} (h : Rd w B A n f) (hb : Below B' w w') (hB : B ≤ B') : Rd w' B A n f := h.keep fun b hlt => hb.block b (by omega)
theorem Rd.more {w : World} {B B' n : Nat} {A : Option Addr} {f : Nat → Value} (h : Rd w B A n f) (hB : B ≤ B') : Rd w B' A n f := by
  intro hn
  obtain ⟨b, off, e, hb, hc⟩ := h hn
  exact ⟨b, off, e, by omega, hc⟩
theorem Rd.alloc {w : World} {B n : Nat} {A : Option Addr} {f : Nat → Value} (h : Rd w B A n f) (hB : B ≤ w.heap.size) (o : Obj) : Rd (w.alloc o) B A n f := h.keep fun b hb => Below.heap_alloc w o b (by omega)
theorem Rd.all {w w' : World} {n : Nat} {A : Option Addr} {f : Nat → Value} (h : Rd w w.heap.size A n f) (hb : Below w.heap.size w w') : Rd w' w'.heap.size A n f := by
  intro hn
  obtain ⟨b, off, e, hlt, hc⟩ := h hn
  exact ⟨b, off, e, Nat.lt_of_lt_of_le hlt hb.size, fun j hj => (World.cell?_of_block (w := w) (hb.block b hlt)).trans (hc j hj)⟩
theorem Rd.none_ {w : World} {B n : Nat} {A : Option Addr} {f : Nat → Value} (h : Rd w B A n f) : A = none → n = 0 := by
  intro e
  rcases Nat.eq_zero_or_pos n with h0 | h0
  · exact h0
  · obtain ⟨b, off, h', _⟩ := h h0
    rw [e] at h'; cases h'
theorem own_cap {w : World} {base e size n m c : Nat} {A : Option Addr} {xs : List Value} (h : w.ownsRow base e size (.slice A m c) n xs) : c ≤ 9223372036854775807 := by
  rcases h.2 with ⟨h, _⟩ | ⟨g, cap, cur, h, _, _, _, hm, _⟩
  · injection h with _ _ h; omega
  · injection h with _ _ h; subst h; simpa [maxLen] using hm
theorem Rd.congr {w : World} {B n : Nat} {A : Option Addr} {f g : Nat → Value} (h : Rd w B A n f) (hfg : ∀ j, j < n → f j = g j) : Rd w B A n g := by
  intro hn
  obtain ⟨b, off, e, hb, hc⟩ := h hn
  exact ⟨b, off, e, hb, fun j hj => (hc j hj).trans (congrArg some (hfg j hj))⟩
theorem Rd.nil {w : World} {B : Nat} {A : Option Addr} {f : Nat → Value} : Rd w B A 0 f := fun h => absurd h (by omega)
theorem own_slice {w : World} {base e n : Nat} {v : Value} {xs : List Value} (h : w.ownsRow base e 1 v n xs) : ∃ A c, v = .slice A n c := by
  rcases h.2 with ⟨rfl, rfl⟩ | ⟨g, cap, _, rfl, _⟩
  · exact ⟨_, _, rfl⟩
  · exact ⟨_, _, rfl⟩
theorem Rd.at_ {w : World} {B n k : Nat} {A : Option Addr} {f : Nat → Value} (h : Rd w B A n f) (hk : k < n) : ∃ b off, A = some ⟨b, off, none⟩ ∧ b < B ∧ w.cell? ⟨b, off + k, none⟩ = some (f k) := by
  obtain ⟨b, off, e, hb, hc⟩ := h (by omega)
  exact ⟨b, off, e, hb, hc k hk⟩

/-- What a slice owns it reads as. -/
theorem Rd.of_own {w : World} {base e n m c : Nat} {A : Option Addr} {xs : List Value} {f : Nat → Value} (h : w.ownsRow base e 1 (.slice A m c) n xs) (hf : ∀ j, j < n → xs[j]? = some (f j)) : m = n ∧ n ≤ c ∧ Rd w w.heap.size A m f := by
  obtain ⟨hl, h2⟩ := h
  rcases h2 with ⟨h2, h0⟩ | ⟨g, cap, cur, h2, hg, hh, hnc, hm, hcs, htk⟩
  · injection h2 with h2 h3 h4
    subst h0 h3
    exact ⟨rfl, by omega, Rd.nil⟩
  · injection h2 with h2 h3 h4
    subst h2 h3 h4
    refine ⟨rfl, hnc, fun hn => ⟨g, 0, rfl, (Array.getElem?_eq_some_iff.1 hh).1, fun j hj => ?_⟩⟩
    have := hf j hj
    rw [← htk, List.getElem?_take, if_pos (by omega)] at this
    simpa [World.cell?, hh] using this

/-- append onto a row of the call's own, the source nil, empty or not (one cell each). -/
theorem run_append_rd {P : Program} (w : World) (base : Nat) (t ty e : TypeId) (i : TypeInfo) (z : Value) (bytes : Nat) (ht : P.underlying t = some (.slice e)) (hi : P.info? e = some i) (hz : i.zero = some z)
    (hsize : i.size = 1) (hby : i.bytes = bytes) (hzs : z.cells.size = 1)
    (v : Value) (n : Nat) (xs : List Value) (hown : w.ownsRow base e 1 v n xs) (B : Nat) (A : Option Addr) (m c : Nat) (f : Nat → Value) (hr : Rd w B A m f) (hA : A = none → m = 0) (h1 : ∀ j, j < m → (f j).oneCell' = true)
    (h63 : n + m ≤ maxLen) (hbytes : (n + m) * bytes ≤ 140737488355328) (hbase : base ≤ w.heap.size) :
    ∃ v' w', (Builtin.append_ #[t, t] ty #[v, .slice A m c]).run P w = .ok v' w' ∧ w'.ownsRow base e 1 v' (n + m) (xs ++ (List.range m).map f) ∧ w.grownBy w' v.ownBlock ∧
      (v'.ownBlock = v.ownBlock ∨ v'.ownBlock = some w.heap.size) := by
  rcases A with _ | ad
  · have hm := hA rfl
    subst hm
    refine ⟨v, w, ?_, by simpa using hown, World.grownBy.refl w _, .inl rfl⟩
    rcases hown.2 with ⟨rfl, rfl⟩ | ⟨g, cap, cur, rfl, _, _, hnc, _⟩
    · simp [Builtin.append_, run_underlying ht, sizeOf, typeInfo, hi, Builtin.lenOf, Builtin.firstCells]
    · simp [Builtin.append_, run_underlying ht, sizeOf, typeInfo, hi, Builtin.lenOf, Builtin.firstCells, hnc, storeCells]
  · have hcells : ∀ j u, ((List.range m).map f)[j]? = some u → w.cell? (ad.add j) = some u := by
      intro j u hu
      have hj : j < m := by
        have := (List.getElem?_eq_some_iff.1 hu).1
        simpa using this
      obtain ⟨b, off, h, _, hc⟩ := hr (by omega)
      injection h with h
      subst h
      have e : (⟨b, off, none⟩ : Addr).add j = ⟨b, off + j, none⟩ := by unfold Addr.add; split <;> simp_all
      rw [e, hc j hj]
      simpa [hj] using hu
    obtain ⟨v', w', hrun, h2, h3, _, h5⟩ := run_append_own_at (P := P) w base t ty e i z 1 bytes ht hi hz hsize hby hzs (by decide) v n xs hown ad m c ((List.range m).map f) (by simp) hcells
      (by intro u hu; obtain ⟨j, hj, rfl⟩ := List.mem_map.1 hu; exact h1 j (by simpa using hj)) h63 hbytes hbase
    exact ⟨v', w', hrun, h2, h3, h5⟩

/-- append of one element: the walk lays it into a block of its own first. -/
theorem run_append_one {P : Program} (w : World) (base : Nat) (t ty e : TypeId) (i : TypeInfo) (z : Value) (bytes : Nat) (ht : P.underlying t = some (.slice e)) (hi : P.info? e = some i) (hz : i.zero = some z)
    (hsize : i.size = 1) (hby : i.bytes = bytes) (hzs : z.cells.size = 1)
    (v : Value) (n : Nat) (xs : List Value) (hown : w.ownsRow base e 1 v n xs) (x : Value) (h1 : x.oneCell' = true)
    (h63 : n + 1 ≤ maxLen) (hbytes : (n + 1) * bytes ≤ 140737488355328) (hbase : base ≤ w.heap.size) :
    ∃ g cap w', (Builtin.append_ #[t, t] ty #[v, .slice (some ⟨w.heap.size, 0, none⟩) 1 1]).run P (w.alloc (.cells #[x] e)) = .ok (.slice (some ⟨g, 0, none⟩) (n + 1) cap) w' ∧ w'.ownsRow base e 1 (.slice (some ⟨g, 0, none⟩) (n + 1) cap) (n + 1) (xs ++ [x]) ∧
      w.grownBy w' v.ownBlock ∧ (some g = v.ownBlock ∨ g = w.heap.size + 1) ∧ w.heap.size < w'.heap.size := by
  obtain ⟨v', w', hrun, h2, h3, _, h5⟩ := run_append_own_at (P := P) (w.alloc (.cells #[x] e)) base t ty e i z 1 bytes ht hi hz hsize hby hzs (by decide) v n xs (hown.alloc _) ⟨w.heap.size, 0, none⟩ 1 1 [x] rfl (cell_one_new w x e)
      (by intro u hu; rw [List.mem_singleton] at hu; subst hu; exact h1) h63 hbytes (by simp; omega)
  obtain ⟨g, cap, rfl⟩ := ownsRow_succ h2
  refine ⟨g, cap, w', hrun, h2, (World.grownBy_alloc w _ _).trans h3, ?_, ?_⟩
  · rcases h5 with h5 | h5
    · exact .inl (by simpa [Value.ownBlock] using h5)
    · exact .inr (by simpa [Value.ownBlock] using h5)
  · have := h3.size
    simp at this
    omega

/-- 'make([]T, 0, c)'. -/
theorem make_rd {P : Program} (w : World) (t e : TypeId) (i : TypeInfo) (z : Value) (bytes : Nat) (ht : P.underlying t = some (.slice e)) (hi : P.info? e = some i) (hz : i.zero = some z)
    (hsize : i.size = 1) (hby : i.bytes = bytes) (kl kc : IntKind) (c : Nat) (hbytes : bytes * c ≤ 281474976710656) (h63 : c ≤ maxLen) :
    ∃ w', (Instr.makeSlice t (.int kl 0) (.int kc (c : Int))).run P w = .ok (.slice (some ⟨w.heap.size, 0, none⟩) 0 c) w' ∧
      w'.ownsRow w.heap.size e 1 (.slice (some ⟨w.heap.size, 0, none⟩) 0 c) 0 [] ∧ Below w.heap.size w w' ∧ w'.heap.size = w.heap.size + 1 := by
  have h63' : (c : Int) ≤ 9223372036854775807 := by
    have h := h63
    simp [maxLen] at h
    omega
  subst hby
  have hb' : (i.bytes : Int) * (c : Int) ≤ 281474976710656 := by
    have h : ((i.bytes * c : Nat) : Int) ≤ 281474976710656 := by omega
    rwa [Int.natCast_mul] at h
  have hr := run_make (P := P) w t e i z ht hi hz kl kc 0 c (Int.le_refl _) (by omega) hb' h63'
  simp only [Int.toNat_zero, Int.toNat_natCast] at hr
  exact ⟨_, hr, World.ownsRow_made w _ c (Nat.le_refl _) h63 (by rw [size_madeCells, hsize]), (Below.refl _ _).alloc (Nat.le_refl _) _, by simp⟩

/-- What a slice owns it owns in a later world. -/
theorem own_keep {w w' : World} {base e size n : Nat} {v : Value} {xs : List Value} (h : w.ownsRow base e size v n xs) (hb : Below w.heap.size w w') : w'.ownsRow base e size v n xs :=
  h.kept (row := none) ⟨hb.os, hb.tape, hb.output, hb.size, fun k hk _ => hb.block k hk⟩ (by
    rcases h.2 with ⟨rfl, _⟩ | ⟨g, cap, cur, rfl, _⟩
    · exact .inl rfl
    · exact .inr (by simp [Value.ownBlock]))
theorem own_some {w : World} {base e size n m c : Nat} {A : Option Addr} {xs : List Value} (h : w.ownsRow base e size (.slice A m c) n xs) (hn : 0 < n) : ∃ g, A = some ⟨g, 0, none⟩ ∧ base ≤ g ∧ g < w.heap.size := by
  rcases h.2 with ⟨_, h0⟩ | ⟨g, cap, cur, h, hg, hh, _⟩
  · omega
  · injection h with h
    exact ⟨g, h, hg, (Array.getElem?_eq_some_iff.1 hh).1⟩
theorem own_cells {w : World} {base e size n : Nat} {v : Value} {xs : List Value} (h : w.ownsRow base e size v n xs) : ∀ (j : Nat) (o : Obj), v.ownBlock = some j → w.heap[j]? = some o → o.isCells = true := by
  intro j o ej hj
  rcases h.2 with ⟨rfl, _⟩ | ⟨g, cap, cur, rfl, _, hgb, _⟩
  · simp [Value.ownBlock] at ej
  · obtain rfl : g = j := by simpa [Value.ownBlock] using ej
    rw [hgb] at hj; cases hj; rfl

/-- An append whose run is known, at an operation of a plain walk and of a fenced one. -/
theorem wpList_append_run {P : Program} {w : World} {ops : Array Oper} {rest : List Oper} {o : Oper} {a : Act} {Q : Exit → Act → World → Prop} {s x : Operand} {t : TypeId} {v vx v' : Value} {w' : World}
    (hrun : (Builtin.append_ #[t, t] o.type #[v, vx]).run P w = .ok v' w') (hgd : o.guard = none) (ho : o.op = .call { callee := .builtin .append, args := #[s, x], argTypes := #[t, t] }) (hs : a.eval s = v) (hx : a.eval x = vx)
    (h : wpList P ops Q rest (a.put o.dst v') w') : wpList P ops Q (o :: rest) a w :=
  wpList_plain hgd fun _ hK => by
    unfold Oper.wp execOp
    simp only [ho, resolve, invoke, builtin, Sem.run_bind, Sem.run_pure, Result.andThen_ok, List.map_toArray, List.map_cons, List.map_nil, hs, hx, hrun]
    exact hK _ _ h
theorem wpListIn_append_run {F : Fence} {n : Nat} {P : Program} {w : World} {ops : Array Oper} {rest : List Oper} {o : Oper} {a : Act} {Q : Exit → Act → World → Prop} {s x : Operand} {t : TypeId} {v vx v' : Value} {w' : World}
    (hrun : (Builtin.append_ #[t, t] o.type #[v, vx]).run P w = .ok v' w') (hgd : o.guard = none) (ho : o.op = .call { callee := .builtin .append, args := #[s, x], argTypes := #[t, t] }) (hs : a.eval s = v) (hx : a.eval x = vx)
    (h : wpListIn F n P ops Q rest (a.put o.dst v') w') : wpListIn F n P ops Q (o :: rest) a w :=
  wpListIn_plain hgd fun _ hK => by
    unfold Oper.wpIn
    refine ⟨?_, ?_⟩
    · simp [Oper.about, ho, resolve, Target.leads, Sem.run_pure]
    · rw [Oper.semAt_plain F _ _ (by rw [ho]; intro c hc'; cases hc')]
      simp [execOp, ho, resolve, invoke, builtin, hs, hx, hrun, Result.andThen]
      exact hK _ _ h

theorem Rd.drew {w : World} {n : Nat} {A : Option Addr} {f : Nat → Value} (h : Rd w w.heap.size A n f) : Rd w.drew w.drew.heap.size A n f := h
theorem bt {a b c : World} (h : Below a.heap.size a b) (k : Below b.heap.size b c) : Below a.heap.size a c := h.trans (k.mono h.size)
theorem below_drewN {B : Nat} {a w : World} (h : Below B a w) (n : Nat) : Below B a (w.drewN n) := ⟨h.os, h.tape, h.output, h.size, h.block⟩

/-- A byte as a value; an int as a value. -/
def vByte (l : List UInt8) (j : Nat) : Value := .int .u8 ((l[j]?.getD 0).toNat : Nat)
def vInt (l : List Int) (j : Nat) : Value := .int .i64 (l[j]?.getD 0)
/-- The blocks of S lie as they lay. -/
def Keeps (S : Nat → Prop) (W W' : World) : Prop := ∀ k, S k → W'.heap[k]? = W.heap[k]?
theorem Keeps.refl (S : Nat → Prop) (W : World) : Keeps S W W := fun _ _ => rfl
theorem Keeps.trans {S : Nat → Prop} {A B C : World} (h : Keeps S A B) (k : Keeps S B C) : Keeps S A C := fun i hi => (k i hi).trans (h i hi)
theorem Keeps.cell {S : Nat → Prop} {W W' : World} (h : Keeps S W W') {p : Addr} (hp : S p.block) : W'.cell? p = W.cell? p := World.cell?_of_block (w := W) (h _ hp)

theorem rd_bytes {w : World} {base e n m c : Nat} {A : Option Addr} {bs : List UInt8} (h : w.ownsRow base e 1 (.slice A m c) n (bs.map fun b => Value.int .u8 ((b.toNat : Nat) : Int))) : m = n ∧ n ≤ c ∧ Rd w w.heap.size A m (vByte bs) :=
  Rd.of_own h (fun j hj => by have hl : bs.length = n := by simpa using h.1
                              simp [vByte, show j < bs.length by omega])
theorem rd_ints {w : World} {base e n m c : Nat} {A : Option Addr} {xs : List Int} (h : w.ownsRow base e 1 (.slice A m c) n (xs.map (Value.int .i64))) : m = n ∧ n ≤ c ∧ Rd w w.heap.size A m (vInt xs) :=
  Rd.of_own h (fun j hj => by have hl : xs.length = n := by simpa using h.1
                              simp [vInt, show j < xs.length by omega])

/-- Block g is just the cells cs of element type t, none frozen. -/
def Blk (w : World) (g : Nat) (t : TypeId) (cs : Array Value) : Prop := w.heap[g]? = some (.cells cs t (0, 0))
section
variable {w w' : World} {g : Nat} {t : TypeId} {cs : Array Value}
theorem Blk.lt (h : Blk w g t cs) : g < w.heap.size := (Array.getElem?_eq_some_iff.1 h).1
theorem Blk.cell (h : Blk w g t cs) (i : Nat) : w.cell? ⟨g, i, none⟩ = cs[i]? := by unfold Blk at h; simp [World.cell?, h]
theorem Blk.frozen (h : Blk w g t cs) (i : Nat) : w.frozen? ⟨g, i, none⟩ = false := by unfold Blk at h; simp [World.frozen?, h]
theorem Blk.new (w : World) (t : TypeId) (cs : Array Value) : Blk (w.alloc (.cells cs t)) w.heap.size t cs := World.alloc_heap_new w _
theorem Blk.alloc (h : Blk w g t cs) (o : Obj) : Blk (w.alloc o) g t cs := (Below.heap_alloc w o g h.lt).trans h
theorem Blk.set_ (h : Blk w g t cs) (i : Nat) (u : Value) : Blk (w.setCell ⟨g, i, none⟩ u) g t (cs.setIfInBounds i u) := by
  unfold Blk at h ⊢
  simp [World.setCell, Array.getElem?_modify, h]
theorem Blk.far (h : Blk w g t cs) {p : Addr} (hp : g ≠ p.block) (u : Value) : Blk (w.setCell p u) g t cs := (Below.heap_setCell w p u g hp).trans h
theorem Blk.below {B : Nat} (h : Blk w g t cs) (hb : Below B w w') (hg : g < B) : Blk w' g t cs := (hb.block g hg).trans h
theorem Blk.all (h : Blk w g t cs) (hb : Below w.heap.size w w') : Blk w' g t cs := h.below hb h.lt
theorem Blk.grown {row : Option Nat} (h : Blk w g t cs) (hb : w.grownBy w' row) (hg : some g ≠ row) : Blk w' g t cs := (hb.block g h.lt hg).trans h
end
/-- Only block g, and what is new, has turned. -/
theorem only_refl (w : World) (row : Option Nat) : w.grownBy w row := ⟨rfl, rfl, rfl, Nat.le_refl _, fun _ _ _ => rfl⟩
theorem only_set {a w : World} {g : Nat} (h : a.grownBy w (some g)) {p : Addr} (hp : p.block = g ∨ a.heap.size ≤ p.block) (u : Value) : a.grownBy (w.setCell p u) (some g) :=
  ⟨h.os, h.tape, h.output, by simpa [World.setCell] using h.size, fun i hi hne => (Below.heap_setCell w p u i (by
    rintro rfl
    rcases hp with hp | hp
    · exact hne (by rw [hp])
    · omega)).trans (h.block i hi hne)⟩
theorem only_of_below {a w : World} (h : Below a.heap.size a w) (row : Option Nat) : a.grownBy w row := ⟨h.os, h.tape, h.output, h.size, fun i hi _ => h.block i hi⟩
/-- 'string(b)'. -/
theorem conv_str {P : Program} {w : World} {src dst e : TypeId} {A : Option Addr} {B n c : Nat} {bs : List UInt8} (hs : P.underlying src = some (.slice e)) (he : P.underlying e = some (.int .u8)) (hd : P.underlying dst = some .string)
    (hl : bs.length = n) (hR : Rd w B A n (vByte bs)) : (convert src dst (.slice A n c)).run P w = .ok (.string ⟨bs.toArray⟩) w := by
  subst hl
  rcases A with _ | a
  · have h0 := hR.none_ rfl
    have hb : bs = [] := List.eq_nil_of_length_eq_zero h0
    subst hb
    exact run_convert_bytes_nil w src e hs he _ _ dst hd
  · refine run_convert_bytes_back w src dst e a c bs hs he hd (fun j hj => ?_)
    obtain ⟨b, off, h, _, hc⟩ := hR (by omega)
    injection h with h
    subst h
    have e : (⟨b, off, none⟩ : Addr).add j = ⟨b, off + j, none⟩ := by unfold Addr.add; split <;> simp_all
    rw [e, hc j hj]
    simp [vByte, hj]

/-- '[]byte(s)': a new row of the string's bytes. -/
theorem conv_bytes {P : Program} (w : World) (src dst e : TypeId) (s : ByteArray) {u : TypeDesc} (hs : P.underlying src = some u) (hd : P.underlying dst = some (.slice e)) (he : P.underlying e = some (.int .u8)) :
    ∃ cap w1, (convert src dst (.string s)).run P w = .ok (.slice (some ⟨w.heap.size, 0, none⟩) s.size cap) w1 ∧ s.size ≤ cap ∧ w1.heap.size = w.heap.size + 1 ∧ Below w.heap.size w w1 ∧
      Rd w1 (w.heap.size + 1) (some ⟨w.heap.size, 0, none⟩) s.size (vByte s.data.toList) := by
  refine ⟨_, _, Lib.run_convert_string_bytes w src dst e s hs hd he, ?_, Lib.bytesWorld_size w e s, ⟨?_, ?_, ?_, ?_, ?_⟩, ?_⟩
  · have := grownCap_ge w s.size 0 e; omega
  · simp [Lib.bytesWorld, World.freeze, World.alloc, World.drew, -World.alloc_eq, -World.drew_eq]
  · simp [Lib.bytesWorld, World.freeze, World.alloc, World.drew, -World.alloc_eq, -World.drew_eq]
  · simp [Lib.bytesWorld, World.freeze, World.alloc, World.drew, -World.alloc_eq, -World.drew_eq]
  · rw [Lib.bytesWorld_size]; omega
  · exact fun k hk => Lib.bytesWorld_at_old w e s k hk
  · intro _
    refine ⟨_, _, rfl, by omega, fun j hj => ?_⟩
    have := Lib.bytesWorld_cell w e s j hj
    simpa [vByte, List.getD] using this

/-- The frame behind a store into a slot, for hand-walked regions. -/
theorem pB {α : Type} (l : List α) (i : Nat) (x : α) : l.toArray.setIfInBounds i x = (l.set i x).toArray := List.setIfInBounds_toArray ..
theorem pC {α : Type} (y x : α) (l : List α) : (y :: l).set 0 x = x :: l := rfl
theorem pD {α : Type} (y x : α) (l : List α) (n : Nat) : (y :: l).set (n + 1) x = y :: l.set n x := rfl
end Go.Proofs.YtgepbklpobobbaaGreatDoor

/- More words for memory: make of a full row, append of a string, copies. -/
namespace Go.Proofs.YtgepbklpobobbaaGreatDoor
open Go.RowKit

theorem own_lower {w : World} {base base' e size n : Nat} {v : Value} {xs : List Value} (h : w.ownsRow base e size v n xs) (hb : base' ≤ base) : w.ownsRow base' e size v n xs := by
  obtain ⟨hl, h2⟩ := h
  refine ⟨hl, ?_⟩
  rcases h2 with h2 | ⟨g, cap, cur, h2, hg, hh⟩
  · exact .inl h2
  · exact .inr ⟨g, cap, cur, h2, Nat.le_trans hb hg, hh⟩

end Go.Proofs.YtgepbklpobobbaaGreatDoor

/- A frame by a set of blocks; the type of a block; a slice of bytes known by its block's type; rows of structs: append of one. -/
namespace Go.Proofs.YtgepbklpobobbaaGreatDoor
open Go.RowKit

/-- Only blocks of F, and what is new, have turned. -/
structure Mod (F : Nat → Prop) (w w' : World) : Prop where
  os : w'.os = w.os
  tape : w'.tape = w.tape
  output : w'.output = w.output
  size : w.heap.size ≤ w'.heap.size
  block : ∀ k, k < w.heap.size → ¬ F k → w'.heap[k]? = w.heap[k]?
section
variable {F G : Nat → Prop} {a w w' w'' : World}
theorem Mod.refl (F : Nat → Prop) (w : World) : Mod F w w := ⟨rfl, rfl, rfl, Nat.le_refl _, fun _ _ _ => rfl⟩
theorem Mod.trans (h : Mod F w w') (k : Mod G w' w'') (hG : ∀ b, G b → F b ∨ w.heap.size ≤ b) : Mod F w w'' :=
  ⟨k.os.trans h.os, k.tape.trans h.tape, k.output.trans h.output, Nat.le_trans h.size k.size, fun b hb hF => (k.block b (Nat.lt_of_lt_of_le hb h.size) (fun hg => (hG b hg).elim hF (by omega))).trans (h.block b hb hF)⟩
theorem Mod.mono (h : Mod F w w') (hF : ∀ b, F b → G b ∨ w.heap.size ≤ b) : Mod G w w' := ⟨h.os, h.tape, h.output, h.size, fun b hb hG => h.block b hb (fun hf => (hF b hf).elim hG (by omega))⟩
theorem Mod.of_below (F : Nat → Prop) (h : Below w.heap.size w w') : Mod F w w' := ⟨h.os, h.tape, h.output, h.size, fun b hb _ => h.block b hb⟩
theorem Mod.of_grown {r : Option Nat} (h : w.grownBy w' r) (hF : ∀ g, r = some g → F g ∨ w.heap.size ≤ g) : Mod F w w' := ⟨h.os, h.tape, h.output, h.size, fun b hb hf => h.block b hb (fun e => (hF b e.symm).elim hf (by omega))⟩
theorem Mod.then_below (h : Mod F w w') (k : Below w'.heap.size w' w'') : Mod F w w'' := h.trans (Mod.of_below F k) (fun _ hb => .inl hb)
theorem Mod.then_grown {r : Option Nat} (h : Mod F w w') (k : w'.grownBy w'' r) (hF : ∀ g, r = some g → F g ∨ w.heap.size ≤ g) : Mod F w w'' :=
  ⟨k.os.trans h.os, k.tape.trans h.tape, k.output.trans h.output, Nat.le_trans h.size k.size, fun b hb hf => (k.block b (Nat.lt_of_lt_of_le hb h.size) (fun e => (hF b e.symm).elim hf (by omega))).trans (h.block b hb hf)⟩
theorem Mod.below {B : Nat} (h : Below B a w) (m : Mod F w w') (hB : B ≤ w.heap.size) (hF : ∀ b, F b → B ≤ b) : Below B a w' :=
  ⟨m.os.trans h.os, m.tape.trans h.tape, m.output.trans h.output, Nat.le_trans h.size m.size, fun b hb => (m.block b (by omega) (fun hf => by have := hF b hf; omega)).trans (h.block b hb)⟩
theorem Mod.drewN (h : Mod F w w') (n : Nat) : Mod F w (w'.drewN n) := ⟨h.os, h.tape, h.output, h.size, h.block⟩
theorem Mod.drew (h : Mod F w w') : Mod F w w'.drew := ⟨h.os, h.tape, h.output, h.size, h.block⟩
theorem Mod.set (h : Mod F w w') {p : Addr} (hp : F p.block ∨ w.heap.size ≤ p.block) (u : Value) : Mod F w (w'.setCell p u) :=
  ⟨h.os, h.tape, h.output, by simpa [World.setCell] using h.size, fun i hi hf => (Below.heap_setCell w' p u i (by
    rintro rfl
    exact hp.elim hf (by omega))).trans (h.block i hi hf)⟩
theorem Mod.alloc (h : Mod F w w') (o : Obj) : Mod F w (w'.alloc o) :=
  ⟨h.os, h.tape, h.output, Nat.le_trans h.size (by simp), fun i hi hf => (Below.heap_alloc w' o i (Nat.lt_of_lt_of_le hi h.size)).trans (h.block i hi hf)⟩
theorem Mod.blk {g : Nat} {t : TypeId} {cs : Array Value} (h : Mod F w w') (hB : Blk w g t cs) (hg : ¬ F g) : Blk w' g t cs := (h.block g hB.lt hg).trans hB
theorem Mod.rd {B n : Nat} {A : Option Addr} {f : Nat → Value} (h : Mod F w w') (hR : Rd w B A n f) (hB : B ≤ w.heap.size) (hne : ∀ b off, A = some ⟨b, off, none⟩ → 0 < n → ¬ F b) : Rd w' B A n f := by
  intro hn
  obtain ⟨b, off, e, hb, hc⟩ := hR hn
  exact ⟨b, off, e, hb, fun j hj => (World.cell?_of_block (w := w) (h.block b (by omega) (hne b off e hn))).trans (hc j hj)⟩
theorem Mod.own {base e size n : Nat} {v : Value} {xs : List Value} (h : Mod F w w') (ho : w.ownsRow base e size v n xs) (hne : ∀ g, v.ownBlock = some g → ¬ F g) : w'.ownsRow base e size v n xs := by
  refine ⟨ho.1, ?_⟩
  rcases ho.2 with hn | ⟨g, cap, cur, rfl, hb, hgg, rest⟩
  · exact .inl hn
  · exact .inr ⟨g, cap, cur, rfl, hb, (h.block g (Array.getElem?_eq_some_iff.1 hgg).1 (hne g rfl)).trans hgg, rest⟩

/-- The element's type of a block. -/
def Ty (w : World) (b : Nat) (t : TypeId) : Prop := ∃ cs fr, w.heap[b]? = some (.cells cs t fr)
theorem Ty.unique {b : Nat} {t t' : TypeId} (h : Ty w b t) (h' : Ty w b t') : t = t' := by
  obtain ⟨_, _, h⟩ := h
  obtain ⟨_, _, h'⟩ := h'
  rw [h] at h'
  cases h'
  rfl
theorem Ty.not_map {b : Nat} {t : TypeId} {es : Array MapEntry} {c : Nat} (h : Ty w b t) (h' : w.heap[b]? = some (.map es c)) : False := by
  obtain ⟨_, _, h⟩ := h
  rw [h] at h'
  cases h'
theorem Blk.ty {g : Nat} {t : TypeId} {cs : Array Value} (h : Blk w g t cs) : Ty w g t := ⟨_, _, h⟩
theorem Ty.of_own {base e size n g : Nat} {v : Value} {xs : List Value} (h : w.ownsRow base e size v n xs) (hg : v.ownBlock = some g) : Ty w g e := by
  rcases h.2 with ⟨rfl, _⟩ | ⟨g', cap, cur, rfl, _, hh, _⟩
  · simp [Value.ownBlock] at hg
  · simp [Value.ownBlock] at hg
    subst hg
    exact ⟨_, _, hh⟩

/-- A slice of bytes (nil let in), by its block's type. -/
def Bts (w : World) (A : Option Addr) (n c : Nat) (bs : List UInt8) : Prop :=
  bs.length = n ∧ n ≤ c ∧ c ≤ 9223372036854775807 ∧ (0 < n → ∃ b off cs fr, A = some ⟨b, off, none⟩ ∧ w.heap[b]? = some (.cells cs 5 fr) ∧ ∀ j, j < n → cs[off + j]? = some (vByte bs j))
theorem Bts.nil (w : World) : Bts w none 0 0 [] := ⟨rfl, Nat.le_refl _, by omega, fun h => absurd h (by omega)⟩
theorem Bts.rd {A : Option Addr} {n c : Nat} {bs : List UInt8} (h : Bts w A n c bs) : Rd w w.heap.size A n (vByte bs) := by
  intro hn
  obtain ⟨b, off, cs, fr, e, hh, hc⟩ := h.2.2.2 hn
  exact ⟨b, off, e, (Array.getElem?_eq_some_iff.1 hh).1, fun j hj => by simp [World.cell?, hh, hc j hj]⟩
theorem Bts.mod {A : Option Addr} {n c : Nat} {bs : List UInt8} (h : Bts w A n c bs) (m : Mod F w w') (hF : ∀ b, F b → ¬ Ty w b 5) : Bts w' A n c bs := by
  refine ⟨h.1, h.2.1, h.2.2.1, fun hn => ?_⟩
  obtain ⟨b, off, cs, fr, e, hh, hc⟩ := h.2.2.2 hn
  exact ⟨b, off, cs, fr, e, (m.block b (Array.getElem?_eq_some_iff.1 hh).1 (fun hf => hF b hf ⟨_, _, hh⟩)).trans hh, hc⟩
theorem Bts.all {A : Option Addr} {n c : Nat} {bs : List UInt8} (h : Bts w A n c bs) (hb : Below w.heap.size w w') : Bts w' A n c bs := h.mod (F := fun _ => False) (Mod.of_below _ hb) (fun _ hf => hf.elim)
theorem Bts.of_own {A : Option Addr} {base n m c : Nat} {bs : List UInt8} (h : w.ownsRow base 5 1 (.slice A m c) n (bs.map fun b => Value.int .u8 ((b.toNat : Nat) : Int))) : Bts w A n c bs ∧ m = n := by
  have hl : bs.length = n := by simpa using h.1
  have hc := own_cap h
  rcases h.2 with ⟨h2, h0⟩ | ⟨g, cap, cur, h2, _, hh, hnc, hm, hcs, htk⟩
  · injection h2 with _ h3 h4
    subst h0 h3 h4
    exact ⟨⟨hl, by omega, by omega, fun h => absurd h (by omega)⟩, rfl⟩
  · injection h2 with h2 h3 h4
    subst h2 h3 h4
    refine ⟨⟨hl, hnc, hc, fun hn => ⟨g, 0, cur, _, rfl, hh, fun j hj => ?_⟩⟩, rfl⟩
    have : (cur.toList.take (m * 1))[j]? = (bs.map fun b => Value.int .u8 ((b.toNat : Nat) : Int))[j]? := by rw [htk]
    rw [List.getElem?_take, if_pos (by omega)] at this
    simpa [vByte, show j < bs.length by omega] using this
end

end Go.Proofs.YtgepbklpobobbaaGreatDoor
