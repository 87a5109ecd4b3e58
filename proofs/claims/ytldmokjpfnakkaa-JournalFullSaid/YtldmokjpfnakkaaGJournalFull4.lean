/- Part 4 of the texts that JournalFull needs: IMap Frame2 JrnRows JrnRef JrnFirst Range JrnScan. -/
import Derived.Maps.RangeRun
import Derived.MapKept
import Derived.Carry
import Derived.Deep.RegionLaw
import Derived.RangeFuncNested
import Derived.RangeFuncBound
import Derived.RangeFuncCalls
import Derived.RangeFuncLeaves
import Derived.RangeFuncBox
import Derived.Shelf.Abstract
import Derived.Shelf.RegionOpen
import Derived.WalkKit
import Derived.OwnWalkIn
import Derived.TacticsInMore
import Derived.LoopNIn
import Derived.LoopIn
import Derived.Test.YtldmokjpfnakkaaGJournalFull3

/- Maps from ints, known by their entries: lookup, store, make. -/
namespace Go.Proofs.Ytldmokjpfnakkaa
open Go.RowKit

/-- Block b is a map; its entries are es, in the order in which they came. -/
def IMap (w : World) (b : Nat) (es : List (Int × Value)) : Prop :=
  ∃ (l : List MapEntry) (clock : Nat), w.heap[b]? = some (.map l.toArray clock) ∧ l.map (fun e => (e.key, e.val)) = es.map (fun p => (Value.int .i64 p.1, p.2)) ∧ (es.map Prod.fst).Nodup ∧ (l.map (·.born)).Nodup ∧ ∀ e ∈ l, e.born < clock
def put : List (Int × Value) → Int → Value → List (Int × Value)
  | [], k, v => [(k, v)]
  | p :: es, k, v => if p.1 = k then (k, v) :: es else p :: put es k v
theorem IMap.block {w : World} {b : Nat} {es : List (Int × Value)} (h : IMap w b es) : ∃ l c, w.heap[b]? = some (.map l c) := by
  obtain ⟨l, c, h, _⟩ := h
  exact ⟨_, _, h⟩
theorem IMap.lt {w : World} {b : Nat} {es : List (Int × Value)} (h : IMap w b es) : b < w.heap.size := by
  obtain ⟨l, c, h⟩ := h.block
  exact (Array.getElem?_eq_some_iff.1 h).1
theorem IMap.not_ty {w : World} {b : Nat} {es : List (Int × Value)} {t : TypeId} (h : IMap w b es) : ¬ Ty w b t := by
  obtain ⟨l, c, h⟩ := h.block
  exact fun k => k.not_map h
theorem IMap.keep {w w' : World} {b : Nat} {es : List (Int × Value)} (h : IMap w b es) (hb : w'.heap[b]? = w.heap[b]?) : IMap w' b es := by
  obtain ⟨l, c, h, r⟩ := h
  exact ⟨l, c, hb.trans h, r⟩
theorem IMap.mod {F : Nat → Prop} {w w' : World} {b : Nat} {es : List (Int × Value)} (h : IMap w b es) (m : Mod F w w') (hF : ¬ F b) : IMap w' b es := h.keep (m.block b h.lt hF)
theorem IMap.all {w w' : World} {b : Nat} {es : List (Int × Value)} (h : IMap w b es) (m : Below w.heap.size w w') : IMap w' b es := h.keep (m.block b h.lt)
theorem IMap.new (w : World) : IMap (w.alloc (.map #[] 0)) w.heap.size [] := ⟨[], 0, by rw [World.alloc_heap_new], rfl, by simp, by simp, by simp⟩

theorem put_keys (es : List (Int × Value)) (k : Int) (v : Value) : (put es k v).map Prod.fst = if k ∈ es.map Prod.fst then es.map Prod.fst else es.map Prod.fst ++ [k] := by
  induction es with
  | nil => simp [put]
  | cons p es ih =>
    unfold put
    by_cases h : p.1 = k
    · simp [h]
    · rw [if_neg h]
      simp only [List.map_cons, ih, List.mem_cons]
      have h' : ¬ k = p.1 := fun e => h e.symm
      by_cases hm : k ∈ es.map Prod.fst
      · rw [if_pos hm, if_pos (.inr hm)]
      · rw [if_neg hm, if_neg (by rintro (e | e); exact h' e; exact hm e)]
        rfl
theorem put_nodup {es : List (Int × Value)} (h : (es.map Prod.fst).Nodup) (k : Int) (v : Value) : ((put es k v).map Prod.fst).Nodup := by
  rw [put_keys]
  split
  · exact h
  · rename_i hk
    rw [List.nodup_append]
    refine ⟨h, by simp, fun a ha b hb => ?_⟩
    rw [List.mem_singleton] at hb
    subst hb
    rintro rfl
    exact hk ha
theorem lookup_put (es : List (Int × Value)) (k j : Int) (v : Value) : (put es k v).lookup j = if j = k then some v else es.lookup j := by
  induction es with
  | nil =>
    by_cases h : j = k
    · simp [put, h]
    · simp [put, List.lookup, h, beq_false_of_ne h]
  | cons p es ih =>
    unfold put
    by_cases h : p.1 = k
    · rw [if_pos h]
      by_cases hj : j = k
      · simp [List.lookup, hj]
      · simp [List.lookup, hj, h, beq_false_of_ne hj]
    · rw [if_neg h]
      by_cases hj : j = p.1
      · simp [List.lookup, hj, h]
      · simp [List.lookup, beq_false_of_ne hj, ih]

theorem imap_find (l : List MapEntry) : ∀ (es : List (Int × Value)) (_ : l.map (fun e => (e.key, e.val)) = es.map (fun p => (Value.int .i64 p.1, p.2))) (k : Int) (i : Nat),
    (es.lookup k = none ∧ Instr.findNow (.int .i64) (.int .i64 k) l i = some none) ∨
    ∃ j v, es.lookup k = some v ∧ (∀ u, put es k u = es.set j (k, u)) ∧ j < es.length ∧ es[j]? = some (k, v) ∧ Instr.findNow (.int .i64) (.int .i64 k) l i = some (some (i + j, v)) := by
  induction l with
  | nil =>
    intro es h k i
    have : es = [] := by simpa using h.symm
    subst this
    exact .inl ⟨rfl, rfl⟩
  | cons e l ih =>
    intro es h k i
    rcases es with _ | ⟨p, es⟩
    · simp at h
    · simp only [List.map_cons, List.cons.injEq, Prod.mk.injEq] at h
      obtain ⟨⟨hk, hv⟩, hr⟩ := h
      have hs : Instr.sameNow (.int .i64) (.int .i64 k) e.key = some (k == p.1) := by rw [hk]; simp [Instr.sameNow]
      by_cases hkp : k = p.1
      · right
        have hs' : Instr.sameNow (.int .i64) (.int .i64 k) e.key = some true := by rw [hs, hkp]; simp
        refine ⟨0, p.2, by simp [List.lookup, hkp], fun u => by simp [put, hkp], by simp, by rw [hkp]; rfl, ?_⟩
        unfold Instr.findNow
        rw [hs']
        simp [hv]
      · have hs' : Instr.sameNow (.int .i64) (.int .i64 k) e.key = some false := by rw [hs]; simp [hkp]
        have hl : (p :: es).lookup k = es.lookup k := by simp [List.lookup, beq_false_of_ne hkp]
        have hf : Instr.findNow (.int .i64) (.int .i64 k) (e :: l) i = Instr.findNow (.int .i64) (.int .i64 k) l (i + 1) := by
          conv => lhs; unfold Instr.findNow
          rw [hs']
        rw [hl, hf]
        rcases ih es hr k (i + 1) with ⟨h1, h2⟩ | ⟨j, v, h1, h0, h2, h3, h4⟩
        · exact .inl ⟨h1, h2⟩
        · refine .inr ⟨j + 1, v, h1, fun u => ?_, by simp; omega, by simpa using h3, by rw [h4]; congr 2; simp; omega⟩
          unfold put
          rw [if_neg (fun e => hkp e.symm), h0 u]
          rfl

section
variable {P : Program} {w : World} {b : Nat} {es : List (Int × Value)} {t kt e : TypeId}
theorem run_findKey (hk : P.underlying kt = some (.int .i64)) (l : List MapEntry) (k : Int) (r : Option (Nat × Value)) (hf : Instr.findNow (.int .i64) (.int .i64 k) l 0 = some r) (w : World) : (Instr.findKey kt (.int .i64 k) l).run P w = .ok r w := by
  simp [Instr.findKey, run_underlying hk, hf]
theorem run_checkKey (hk : P.underlying kt = some (.int .i64)) (em : Bool) (k : Int) (w : World) : (Instr.checkKey em 10000 kt (.int .i64 k)).run P w = .ok () w := by
  have h : ∀ n : Nat, (Instr.checkKey em (n + 1) kt (.int .i64 k)).run P w = .ok () w := fun n => by simp [Instr.checkKey, run_underlying hk]
  exact h 9999
theorem IMap.look (h : IMap w b es) (ht : P.underlying t = some (.map kt e)) (hk : P.underlying kt = some (.int .i64)) {i : TypeInfo} {z : Value} (hi : P.info? e = some i) (hz : i.zero = some z) (k : Int) :
    (Instr.lookup t (.map (some b)) (.int .i64 k) false).run P w = .ok ((es.lookup k).getD z) w := by
  obtain ⟨l, c, hb, hl, _⟩ := h
  rcases imap_find l es hl k 0 with ⟨h1, h2⟩ | ⟨j, v, h1, _, h2, h3, h4⟩
  · simp [Instr.lookup, run_underlying ht, MapKept.run_getObj_map hb, run_checkKey hk, run_findKey hk l k _ h2, h1, zeroValue, typeInfo, hi, hz, Result.andThen]
  · simp [Instr.lookup, run_underlying ht, MapKept.run_getObj_map hb, run_checkKey hk, run_findKey hk l k _ h4, h1, Result.andThen]
theorem IMap.look2 (h : IMap w b es) (ht : P.underlying t = some (.map kt e)) (hk : P.underlying kt = some (.int .i64)) {i : TypeInfo} {z : Value} (hi : P.info? e = some i) (hz : i.zero = some z) (k : Int) :
    (Instr.lookup t (.map (some b)) (.int .i64 k) true).run P w = .ok (.tuple #[(es.lookup k).getD z, .bool (es.lookup k).isSome]) w := by
  obtain ⟨l, c, hb, hl, _⟩ := h
  rcases imap_find l es hl k 0 with ⟨h1, h2⟩ | ⟨j, v, h1, _, h2, h3, h4⟩
  · simp [Instr.lookup, run_underlying ht, MapKept.run_getObj_map hb, run_checkKey hk, run_findKey hk l k _ h2, h1, zeroValue, typeInfo, hi, hz, Result.andThen]
  · simp [Instr.lookup, run_underlying ht, MapKept.run_getObj_map hb, run_checkKey hk, run_findKey hk l k _ h4, h1, Result.andThen]
theorem heap_set_same {w : World} {b : Nat} {o : Obj} (h : b < w.heap.size) : ({ w with heap := w.heap.setIfInBounds b o } : World).heap[b]? = some o := by simp [h]
theorem grown_setObj (w : World) (b : Nat) (o : Obj) : w.grownBy { w with heap := w.heap.setIfInBounds b o } (some b) :=
  ⟨rfl, rfl, rfl, by simp, fun k _ hne => by
    have : b ≠ k := fun e => hne (by rw [e])
    simp [this]⟩
theorem IMap.store (h : IMap w b es) (ht : P.underlying t = some (.map kt e)) (hk : P.underlying kt = some (.int .i64)) (k : Int) (v : Value) :
    ∃ w', (Instr.mapUpdate t (.map (some b)) (.int .i64 k) v).run P w = .ok () w' ∧ IMap w' b (put es k v) ∧ w.grownBy w' (some b) ∧ w'.heap.size = w.heap.size := by
  obtain ⟨l, c, hb, hl, hn, hbn, hbc⟩ := h
  have hlt := (Array.getElem?_eq_some_iff.1 hb).1
  have hlen : l.length = es.length := by have := congrArg List.length hl; simpa using this
  rcases imap_find l es hl k 0 with ⟨h1, h2⟩ | ⟨j, v0, h1, h0, h2, h3, h4⟩
  · refine ⟨_, ?_, ⟨l ++ [⟨.int .i64 k, v, c⟩], c + 1, heap_set_same hlt, ?_, put_nodup hn k v, ?_, ?_⟩, grown_setObj w b _, by simp⟩
    · simp [Instr.mapUpdate, run_underlying ht, MapKept.run_getObj_map hb, run_checkKey hk, run_findKey hk l k _ h2, MapKept.run_setObj_map _ hb, Result.andThen]
    · have hp : put es k v = es ++ [(k, v)] := by
        have hno : ∀ p ∈ es, p.1 ≠ k := by
          intro p hp e
          have := List.lookup_eq_none_iff.1 h1 p hp
          simp [e] at this
        clear h1 h2 hl hn hlen
        induction es with
        | nil => rfl
        | cons p es ih =>
          unfold put
          rw [if_neg (hno p (by simp)), ih (fun q hq => hno q (by simp [hq]))]
          rfl
      rw [hp]
      simp [hl]
    · rw [List.map_append, List.nodup_append]
      refine ⟨hbn, by simp, fun a ha b hb => ?_⟩
      rw [List.map_singleton, List.mem_singleton] at hb
      obtain ⟨x, hx, rfl⟩ := List.mem_map.1 ha
      have := hbc x hx
      rw [hb]
      show x.born ≠ c
      omega
    · intro x hx
      rw [List.mem_append, List.mem_singleton] at hx
      rcases hx with hx | rfl
      · have := hbc x hx; omega
      · simp
  · have hj : j < l.length := by omega
    have hjk : l[j].key = .int .i64 k := by
      have := congrArg (fun q => q[j]?) hl
      simp [hj, h3] at this
      exact this.1
    refine ⟨_, ?_, ⟨l.set j { l[j] with key := .int .i64 k, val := v }, c, heap_set_same hlt, ?_, put_nodup hn k v, ?_, ?_⟩, grown_setObj w b _, by simp⟩
    · have hm : l.modify j (fun e => { e with key := .int .i64 k, val := v }) = l.set j { l[j] with key := .int .i64 k, val := v } := by
        apply List.ext_getElem?
        intro i
        rw [List.getElem?_modify, List.getElem?_set]
        split
        · rename_i hi
          subst hi
          simp [hj]
        · simp
      simp [Instr.mapUpdate, run_underlying ht, MapKept.run_getObj_map hb, run_checkKey hk, run_findKey hk l k _ h4, Instr.keyThatStays, hj, hjk, Instr.sameBits, MapKept.run_setObj_map _ hb, Result.andThen, hm]
    · rw [h0 v, List.map_set, List.map_set, hl]
    · rw [List.map_set]
      have : (l.map (·.born)).set j l[j].born = l.map (·.born) := by
        apply List.ext_getElem?
        intro i
        rw [List.getElem?_set]
        split
        · rename_i hi
          subst hi
          simp [hj]
        · rfl
      rw [this]
      exact hbn
    · intro x hx
      rcases List.mem_or_eq_of_mem_set hx with hx | rfl
      · exact hbc x hx
      · exact hbc l[j] (List.getElem_mem hj)
end
end Go.Proofs.Ytldmokjpfnakkaa

/- append of one element (a struct or not) onto a row of the call's own, at a plain region's list and at a step of a region that draws. -/
namespace Go.Proofs.Ytldmokjpfnakkaa
open Go.RowKit

/-- t is the type of slices of e: size cells, so many bytes. -/
def SlT (P : Program) (t e : TypeId) (size bytes : Nat) : Prop :=
  ∃ i z, P.underlying t = some (.slice e) ∧ P.info? e = some i ∧ i.zero = some z ∧ i.size = size ∧ i.bytes = bytes ∧ z.cells.size = size ∧ 0 < size
theorem SlT.of {P : Program} {t e : TypeId} {size bytes : Nat} (hu : P.underlying t = some (.slice e)) (h : (P.info? e).bind (fun i => i.zero.map fun z => (i.size, i.bytes, z.cells.size)) = some (size, bytes, size)) (hs : 0 < size) : SlT P t e size bytes := by
  obtain ⟨i, hi, h⟩ := Option.bind_eq_some_iff.1 h
  obtain ⟨z, hz, h⟩ := Option.map_eq_some_iff.1 h
  simp only [Prod.mk.injEq] at h
  exact ⟨i, z, hu, hi, hz, h.1, h.2.1, h.2.2, hs⟩
section
variable {P : Program} {w : World} {base t e size bytes n : Nat} {v : Value} {xs : List Value}
theorem run_append1 {ty : TypeId} (hT : SlT P t e size bytes) (hown : w.ownsRow base e size v n xs) {gb : Nat} {cs : Array Value} (hsrc : Blk w gb e cs) (hcs : cs.size = size) (h1 : ∀ u ∈ cs.toList, u.oneCell' = true)
    (hn : n < 1099511627776) (hby : bytes ≤ 64) (hbase : base ≤ w.heap.size) :
    ∃ g cap w', (Builtin.append_ #[t, t] ty #[v, .slice (some ⟨gb, 0, none⟩) 1 1]).run P w = .ok (.slice (some ⟨g, 0, none⟩) (n + 1) cap) w' ∧ w'.ownsRow base e size (.slice (some ⟨g, 0, none⟩) (n + 1) cap) (n + 1) (xs ++ cs.toList) ∧
      w.grownBy w' v.ownBlock ∧ (some g = v.ownBlock ∨ g = w.heap.size) := by
  obtain ⟨i, z, ht, hi, hz, hs, hb, hzs, hsz⟩ := hT
  have hmul : (n + 1) * bytes ≤ 140737488355328 := Nat.le_trans (Nat.mul_le_mul (show n + 1 ≤ 1099511627776 by omega) hby) (by decide)
  obtain ⟨v', w', hrun, h2, h3, _, h5⟩ := run_append_own_at (P := P) w base t ty e i z size bytes ht hi hz hs hb hzs hsz v n xs hown ⟨gb, 0, none⟩ 1 1 cs.toList (by simpa using hcs)
      (fun j u hu => by
        have ea : (⟨gb, 0, none⟩ : Addr).add j = ⟨gb, j, none⟩ := by unfold Addr.add; split <;> simp_all
        rw [ea, Blk.cell hsrc j]
        simpa using hu)
      h1 (by unfold maxLen; omega) hmul hbase
  obtain ⟨g, cap, rfl⟩ := ownsRow_succ h2
  refine ⟨g, cap, w', hrun, h2, h3, ?_⟩
  rcases h5 with h5 | h5
  · exact .inl (by simpa [Value.ownBlock] using h5)
  · exact .inr (by simpa [Value.ownBlock] using h5)
theorem wpList_append1 {ops : Array Oper} {rest : List Oper} {o : Oper} {a : Act} {Q : Exit → Act → World → Prop} {s x : Operand} (hT : SlT P t e size bytes) (hgd : o.guard = none)
    (ho : o.op = .call { callee := .builtin .append, args := #[s, x], argTypes := #[t, t] }) (hs : a.eval s = v) (gb : Nat) (hx : a.eval x = .slice (some ⟨gb, 0, none⟩) 1 1)
    (hown : w.ownsRow base e size v n xs) (cs : Array Value) (hsrc : Blk w gb e cs) (hcs : cs.size = size) (h1 : ∀ u ∈ cs.toList, u.oneCell' = true) (hn : n < 1099511627776) (hby : bytes ≤ 64) (hbase : base ≤ w.heap.size)
    (hK : ∀ g cap w', w'.ownsRow base e size (.slice (some ⟨g, 0, none⟩) (n + 1) cap) (n + 1) (xs ++ cs.toList) → w.grownBy w' v.ownBlock → (some g = v.ownBlock ∨ g = w.heap.size) →
      wpList P ops Q rest (a.put o.dst (.slice (some ⟨g, 0, none⟩) (n + 1) cap)) w') : wpList P ops Q (o :: rest) a w := by
  obtain ⟨g, cap, w', hrun, h2, h3, h4⟩ := run_append1 (ty := o.type) hT hown hsrc hcs h1 hn hby hbase
  exact wpList_append_run hrun hgd ho hs hx (hK g cap w' h2 h3 h4)
theorem step_append1 {ops : Array Oper} {o : Oper} {a : Act} {K : Act → World → Prop} {Q : Exit → Act → World → Prop} {E : Prop} {s x : Operand} (hT : SlT P t e size bytes) (hgd : o.guard = none)
    (ho : o.op = .call { callee := .builtin .append, args := #[s, x], argTypes := #[t, t] }) (hs : a.eval s = v) (gb : Nat) (hx : a.eval x = .slice (some ⟨gb, 0, none⟩) 1 1)
    (hown : w.ownsRow base e size v n xs) (cs : Array Value) (hsrc : Blk w gb e cs) (hcs : cs.size = size) (h1 : ∀ u ∈ cs.toList, u.oneCell' = true) (hn : n < 1099511627776) (hby : bytes ≤ 64) (hbase : base ≤ w.heap.size)
    (hK : ∀ g cap w', w'.ownsRow base e size (.slice (some ⟨g, 0, none⟩) (n + 1) cap) (n + 1) (xs ++ cs.toList) → w.grownBy w' v.ownBlock → (some g = v.ownBlock ∨ g = w.heap.size) →
      K (a.put o.dst (.slice (some ⟨g, 0, none⟩) (n + 1) cap)) w') : if Region.wanted o (yielded ops a.tmps) = true then Oper.wp P o a w K Q else E := by
  obtain ⟨g, cap, w', hrun, h2, h3, h4⟩ := run_append1 (ty := o.type) hT hown hsrc hcs h1 hn hby hbase
  have hw : Region.wanted o (yielded ops a.tmps) = true := by simp [Region.wanted, hgd]
  rw [if_pos hw]
  unfold Oper.wp
  simp [execOp, ho, resolve, invoke, builtin, hs, hx, hrun, Result.andThen]
  exact hK g cap w' h2 h3 h4
end
end Go.Proofs.Ytldmokjpfnakkaa

/- Lists of slices of bytes (a [][]byte), by their blocks' types. -/
namespace Go.Proofs.Ytldmokjpfnakkaa
open Go.RowKit

structure Bz where
  A : Option Addr
  n : Nat
  c : Nat
  bs : List UInt8
def Bz.val (z : Bz) : Value := .slice z.A z.n z.c
def Bz.ok (w : World) (z : Bz) : Prop := Bts w z.A z.n z.c z.bs
/-- A [][]byte that is read. -/
def LsAt (w : World) (A : Option Addr) (n c : Nat) (L : List Bz) : Prop :=
  L.length = n ∧ n ≤ c ∧ c ≤ 9223372036854775807 ∧ (0 < n → ∃ b off cs fr, A = some ⟨b, off, none⟩ ∧ w.heap[b]? = some (.cells cs 23 fr) ∧ ∀ (j : Nat) (hj : j < L.length), cs[off + j]? = some L[j].val) ∧ ∀ z ∈ L, z.ok w
/-- A [][]byte of the call's own. -/
def LsOwn (w : World) (base : Nat) (v : Value) (L : List Bz) : Prop := w.ownsRow base 23 1 v L.length (L.map Bz.val) ∧ ∀ z ∈ L, z.ok w
theorem slT_rows : SlT Try.prog 27 23 1 24 := SlT.of Try.underlying27 (by kernel_rfl) (by decide)
section
variable {w w' : World} {base : Nat} {v : Value} {L : List Bz} {F : Nat → Prop} {A : Option Addr} {n c : Nat}
theorem Bz.ok.mod {z : Bz} (h : z.ok w) (m : Mod F w w') (hF : ∀ b, F b → ¬ Ty w b 5) : z.ok w' := Bts.mod h m hF
theorem Bz.ok.all {z : Bz} (h : z.ok w) (hb : Below w.heap.size w w') : z.ok w' := Bts.all h hb
theorem LsOwn.nil (w : World) (base : Nat) : LsOwn w base (.slice none 0 0) [] := ⟨World.ownsRow_nil _ _ _ _, fun _ h => absurd h (by simp)⟩
theorem LsOwn.mod (h : LsOwn w base v L) (m : Mod F w w') (hv : ∀ g, v.ownBlock = some g → ¬ F g) (hF : ∀ b, F b → ¬ Ty w b 5) : LsOwn w' base v L := ⟨m.own h.1 hv, fun z hz => (h.2 z hz).mod m hF⟩
theorem LsOwn.all (h : LsOwn w base v L) (hb : Below w.heap.size w w') : LsOwn w' base v L := ⟨own_keep h.1 hb, fun z hz => (h.2 z hz).all hb⟩
theorem LsOwn.lower {base' : Nat} (h : LsOwn w base v L) (hb : base' ≤ base) : LsOwn w base' v L := ⟨own_lower h.1 hb, h.2⟩
theorem LsOwn.slice (h : LsOwn w base v L) : ∃ A c, v = .slice A L.length c := own_slice h.1
theorem LsOwn.at_ {m : Nat} (h : LsOwn w base (.slice A m c) L) : m = L.length ∧ LsAt w A m c L := by
  have hc := own_cap h.1
  obtain ⟨h1, h2⟩ := h
  rcases h1.2 with ⟨h3, h0⟩ | ⟨g, cap, cur, h3, _, hh, hnc, hm, hcs, htk⟩
  · injection h3 with h4 h5 h6
    subst h5 h6
    exact ⟨h0.symm, h0, by omega, by omega, fun h => absurd h (by omega), h2⟩
  · injection h3 with h4 h5 h6
    subst h5 h6 h4
    refine ⟨rfl, rfl, hnc, hc, fun hn => ⟨g, 0, cur, _, rfl, hh, fun j hj => ?_⟩, h2⟩
    have : (cur.toList.take (L.length * 1))[j]? = (L.map Bz.val)[j]? := by rw [htk]
    rw [List.getElem?_take, if_pos (by omega)] at this
    simpa [hj] using this
theorem LsAt.mod (h : LsAt w A n c L) (m : Mod F w w') (hR : ∀ b off, A = some ⟨b, off, none⟩ → Ty w b 23 → ¬ F b) (hF : ∀ b, F b → ¬ Ty w b 5) : LsAt w' A n c L := by
  obtain ⟨h1, h2, h3, h4, h5⟩ := h
  refine ⟨h1, h2, h3, fun hn => ?_, fun z hz => (h5 z hz).mod m hF⟩
  obtain ⟨b, off, cs, fr, e, hh, hc⟩ := h4 hn
  exact ⟨b, off, cs, fr, e, (m.block b (Array.getElem?_eq_some_iff.1 hh).1 (hR b off e ⟨_, _, hh⟩)).trans hh, hc⟩
theorem LsAt.all (h : LsAt w A n c L) (hb : Below w.heap.size w w') : LsAt w' A n c L := h.mod (F := fun _ => False) (Mod.of_below _ hb) (fun _ _ _ _ hf => hf) (fun _ hf => hf.elim)
theorem LsAt.cell (h : LsAt w A n c L) {k : Nat} (hk : k < n) : ∃ b off z, A = some ⟨b, off, none⟩ ∧ w.cell? ⟨b, off + k, none⟩ = some (.slice z.A z.n z.c) ∧ L[k]? = some z ∧ z.ok w := by
  obtain ⟨h1, h2, h3, h4, h5⟩ := h
  obtain ⟨b, off, cs, fr, e, hh, hc⟩ := h4 (by omega)
  have hk' : k < L.length := by omega
  refine ⟨b, off, L[k], e, ?_, by simp [hk'], h5 _ (List.getElem_mem _)⟩
  have := hc k hk'
  simp only [World.cell?, hh]
  simpa [Bz.val] using this
/-- append of one slice of bytes. -/
theorem LsOwn.snoc {ty : TypeId} (h : LsOwn w base v L) (z : Bz) (hz : z.ok w) (hL : L.length < 1099511627776) (hbase : base ≤ w.heap.size) :
    ∃ g cap w', (Builtin.append_ #[27, 27] ty #[v, .slice (some ⟨w.heap.size, 0, none⟩) 1 1]).run Try.prog (w.alloc (.cells #[.slice z.A z.n z.c] 23)) = .ok (.slice (some ⟨g, 0, none⟩) (L.length + 1) cap) w' ∧
      LsOwn w' base (.slice (some ⟨g, 0, none⟩) (L.length + 1) cap) (L ++ [z]) ∧ w.grownBy w' v.ownBlock ∧ (some g = v.ownBlock ∨ w.heap.size ≤ g) := by
  obtain ⟨g, cap, w', hrun, h2, h3, h4⟩ := run_append1 (ty := ty) (w := w.alloc (.cells #[.slice z.A z.n z.c] 23)) slT_rows (h.1.alloc _) (Blk.new w 23 #[.slice z.A z.n z.c]) rfl (by intro u hu; simp at hu; subst hu; rfl) (by omega) (by decide) (by simp; omega)
  have hg := (World.grownBy_alloc w (.cells #[.slice z.A z.n z.c] 23) v.ownBlock).trans h3
  refine ⟨g, cap, w', hrun, ⟨?_, ?_⟩, hg, h4.imp id (fun e => by rw [e]; simp)⟩
  · rw [List.map_append, List.length_append]
    exact h2
  · have m : Mod (fun b => v.ownBlock = some b) w w' := Mod.of_grown hg (fun g e => .inl e)
    intro y hy
    rcases List.mem_append.1 hy with hy | hy
    · exact (h.2 y hy).mod m (fun b e ht => absurd (Ty.unique (Ty.of_own h.1 e) ht) (by decide))
    · simp at hy
      subst hy
      exact hz.mod m (fun b e ht => absurd (Ty.unique (Ty.of_own h.1 e) ht) (by decide))
end
/-- The bytes lie in a block from B on. -/
def Bz.low (B : Nat) (z : Bz) : Prop := ∀ b off, z.A = some ⟨b, off, none⟩ → 0 < z.n → B ≤ b
theorem Bz.low_own {w : World} {base e n c : Nat} {A : Option Addr} {xs : List Value} {bs : List UInt8} (h : w.ownsRow base e 1 (.slice A n c) n xs) : Bz.low base ⟨A, n, c, bs⟩ := by
  intro b off e hn
  obtain ⟨g, hg, h1, -⟩ := own_some h hn
  simp only at e
  rw [hg] at e
  injection e with e
  injection e with e _ _
  omega
theorem Bz.low.mono {B B' : Nat} {z : Bz} (h : z.low B) (hB : B' ≤ B) : z.low B' := fun b off e hn => Nat.le_trans hB (h b off e hn)
theorem Bz.ok.modL {w w' : World} {F : Nat → Prop} {B : Nat} {z : Bz} (h : z.ok w) (hl : z.low B) (m : Mod F w w') (hF : ∀ b, B ≤ b → ¬ F b) : z.ok w' := by
  refine ⟨h.1, h.2.1, h.2.2.1, fun hn => ?_⟩
  obtain ⟨b, off, cs, fr, e, hh, hc⟩ := h.2.2.2 hn
  exact ⟨b, off, cs, fr, e, (m.block b (Array.getElem?_eq_some_iff.1 hh).1 (hF b (hl b off e hn))).trans hh, hc⟩
theorem LsOwn.modL {w w' : World} {base B : Nat} {v : Value} {L : List Bz} {F : Nat → Prop} (h : LsOwn w base v L) (hl : ∀ z ∈ L, z.low B) (m : Mod F w w') (hF : ∀ b, B ≤ b → ¬ F b) (hB : B ≤ base) : LsOwn w' base v L :=
  ⟨m.own h.1 (fun g e => hF g (by have := (h.1.lt g e).1; omega)), fun z hz => (h.2 z hz).modL (hl z hz) m hF⟩
/-- Slices of bytes that are read, whatever their blocks. -/
def Bz.rd (w : World) (z : Bz) : Prop := BIn w w.heap.size (z.A, z.n, z.c) z.bs
theorem Bz.rd.len {w : World} {z : Bz} (h : z.rd w) : z.bs.length = z.n := BIn.len h
theorem Bz.rd.cap {w : World} {z : Bz} (h : z.rd w) : z.n ≤ z.c := BIn.cap h
theorem Bz.rd.max {w : World} {z : Bz} (h : z.rd w) : z.c ≤ 9223372036854775807 := BIn.max h
theorem Bz.rd.rd {w : World} {z : Bz} (h : z.rd w) : Rd w w.heap.size z.A z.n (vByte z.bs) := BIn.rd h
theorem Bz.ok.rd {w : World} {z : Bz} (h : z.ok w) : z.rd w := ⟨h.1, h.2.1, h.2.2.1, Bts.rd h⟩
theorem Bz.rd.all {w w' : World} {z : Bz} (h : z.rd w) (hb : Below w.heap.size w w') : z.rd w' := (BIn.keep h (fun b hlt => hb.block b hlt)).more hb.size
def LsOwnR (w : World) (base : Nat) (v : Value) (L : List Bz) : Prop := w.ownsRow base 23 1 v L.length (L.map Bz.val) ∧ ∀ z ∈ L, z.rd w
def valAt (L : List Bz) (j : Nat) : Value := (L[j]?).elim undef Bz.val
/-- A [][]byte that is read, whatever its blocks. -/
def LsRd (w : World) (A : Option Addr) (n c : Nat) (L : List Bz) : Prop := L.length = n ∧ n ≤ c ∧ c ≤ 9223372036854775807 ∧ Rd w w.heap.size A n (valAt L) ∧ ∀ z ∈ L, z.rd w
section
variable {w w' : World} {base : Nat} {v : Value} {L : List Bz} {A : Option Addr} {n c : Nat}
theorem LsOwn.r (h : LsOwn w base v L) : LsOwnR w base v L := ⟨h.1, fun z hz => (h.2 z hz).rd⟩
theorem LsOwnR.nil (w : World) (base : Nat) : LsOwnR w base (.slice none 0 0) [] := ⟨World.ownsRow_nil _ _ _ _, fun _ h => absurd h (by simp)⟩
theorem LsOwnR.all (h : LsOwnR w base v L) (hb : Below w.heap.size w w') : LsOwnR w' base v L := ⟨own_keep h.1 hb, fun z hz => (h.2 z hz).all hb⟩
theorem LsOwnR.slice (h : LsOwnR w base v L) : ∃ A c, v = .slice A L.length c := own_slice h.1
theorem LsOwnR.rd {m : Nat} (h : LsOwnR w base (.slice A m c) L) : LsRd w A m c L := by
  have hc := own_cap h.1
  obtain ⟨e, hnc, hr⟩ := Rd.of_own (f := valAt L) h.1 (fun j hj => by simp [valAt, hj])
  exact ⟨e.symm, by omega, hc, hr, h.2⟩
theorem LsRd.all (h : LsRd w A n c L) (hb : Below w.heap.size w w') : LsRd w' A n c L := ⟨h.1, h.2.1, h.2.2.1, h.2.2.2.1.all hb, fun z hz => (h.2.2.2.2 z hz).all hb⟩
theorem LsRd.take {m : Nat} (h : LsRd w A n c L) (hm : m ≤ n) : LsRd w A m c (L.take m) := by
  obtain ⟨h1, h2, h3, h4, h5⟩ := h
  refine ⟨by rw [List.length_take, h1]; omega, by omega, h3, (h4.less hm).congr (fun j hj => by simp [valAt, hj]), fun z hz => h5 z (List.mem_of_mem_take hz)⟩
theorem LsRd.cell (h : LsRd w A n c L) {k : Nat} (hk : k < n) : ∃ b off z, A = some ⟨b, off, none⟩ ∧ b < w.heap.size ∧ w.cell? ⟨b, off + k, none⟩ = some (.slice z.A z.n z.c) ∧ L[k]? = some z ∧ z.rd w := by
  obtain ⟨h1, h2, h3, h4, h5⟩ := h
  obtain ⟨b, off, e, hb, hc⟩ := h4.at_ hk
  have hk' : k < L.length := by omega
  refine ⟨b, off, L[k], e, hb, ?_, by simp [hk'], h5 _ (List.getElem_mem _)⟩
  rw [hc]
  simp [valAt, hk', Bz.val]
theorem LsOwnR.snoc {ty : TypeId} (h : LsOwnR w base v L) (z : Bz) (hz : z.rd w) (hne : ∀ y ∈ L ++ [z], ∀ b off, y.A = some ⟨b, off, none⟩ → 0 < y.n → v.ownBlock ≠ some b) (hL : L.length < 1099511627776) (hbase : base ≤ w.heap.size) :
    ∃ g cap w', (Builtin.append_ #[27, 27] ty #[v, .slice (some ⟨w.heap.size, 0, none⟩) 1 1]).run Try.prog (w.alloc (.cells #[.slice z.A z.n z.c] 23)) = .ok (.slice (some ⟨g, 0, none⟩) (L.length + 1) cap) w' ∧
      LsOwnR w' base (.slice (some ⟨g, 0, none⟩) (L.length + 1) cap) (L ++ [z]) ∧ w.grownBy w' v.ownBlock ∧ (some g = v.ownBlock ∨ w.heap.size ≤ g) := by
  obtain ⟨g, cap, w', hrun, h2, h3, h4⟩ := run_append1 (ty := ty) (w := w.alloc (.cells #[.slice z.A z.n z.c] 23)) slT_rows (h.1.alloc _) (Blk.new w 23 #[.slice z.A z.n z.c]) rfl (by intro u hu; simp at hu; subst hu; rfl) (by omega) (by decide) (by simp; omega)
  have hg := (World.grownBy_alloc w (.cells #[.slice z.A z.n z.c] 23) v.ownBlock).trans h3
  refine ⟨g, cap, w', hrun, ⟨?_, ?_⟩, hg, h4.imp id (fun e => by rw [e]; simp)⟩
  · rw [List.map_append, List.length_append]
    exact h2
  · have m : Mod (fun b => v.ownBlock = some b) w w' := Mod.of_grown hg (fun g e => .inl e)
    intro y hy
    have hy' : y.rd w := by
      rcases List.mem_append.1 hy with hy | hy
      · exact h.2 y hy
      · simp at hy
        subst hy
        exact hz
    exact ⟨hy'.len, hy'.cap, hy'.max, (m.rd hy'.rd (Nat.le_refl _) (fun b off e hn => hne y hy b off e hn)).more hg.size⟩
end
end Go.Proofs.Ytldmokjpfnakkaa

/- journal: the reference's Core and Frame; bytes.HasPrefix. -/
namespace Go.Proofs.Ytldmokjpfnakkaa
open Go.RowKit

set_option maxRecDepth 100000 in
set_option maxHeartbeats 1000000 in
theorem rcore_any (k : Int) (A : Option Addr) (n c : Nat) (bs : List UInt8) (w : World) (HL : Hid (bs.length = n)) (hk1 : -9223372036854775808 ≤ k) (hk2 : k ≤ 9223372036854775807) (hn : n ≤ 1099511627776) (hR : Rd w w.heap.size A n (vByte bs)) :
    Calls Try.prog 38 #[.int .i64 k, .slice A n c] w (RetB (coreB k bs) w) := by
  have HR := Lib.hid hR
  clear hR
  have HK := Lib.hid (encRaw_len (bs := bs) (by rw [HL.out]; omega))
  have hl1 : (encInt k).length ≤ 10 := encInt_len hk1 hk2
  go_enter Try.func38, Try.ntmps38
  go_wp2_with fail
  refine (eint_any _ _ hk1 hk2).mono ?_
  rintro e w1 ⟨A1, n1, c1, rfl, HN1, hown1, hb1⟩
  have hz1 := hb1.size
  go_wp2_with fail
  refine (eraw_any _ _ _ bs _ HL (by omega) (HR.out.all hb1)).mono ?_
  rintro e w2 ⟨A2, n2, c2, rfl, HN2, hown2, hb2⟩
  have hz2 := hb2.size
  obtain ⟨A3, n3, c3, w3, hap, HN3, hown3, hg3⟩ := own_many (c := c2) (own_keep hown1 hb2) HN2.out (rd_bytes hown2).2.2 (by rw [← HN1.out, ← HN2.out]; have := HK.out; have := HL.out; omega) (by omega)
  have HO := Lib.hid hown3
  have HG := Lib.hid ((hb1.trans (hb2.mono hz1)).trans hg3)
  clear hown1 hown2 hown3 hb1 hb2 hg3
  go_wp2_with (at_builtin; refine wpList_append_run hap.out rfl rfl rfl rfl ?_)
  go_ret
  refine ⟨A3, n3, c3, rfl, Lib.hid ?_, HO.out, HG.out⟩
  have := HO.out.1
  simpa [coreB] using this

set_option maxRecDepth 100000 in
set_option maxHeartbeats 1000000 in
theorem rframe_any (k : Int) (A : Option Addr) (n c : Nat) (bs : List UInt8) (w : World) (HL : Hid (bs.length = n)) (hk1 : -9223372036854775808 ≤ k) (hk2 : k ≤ 9223372036854775807) (hn : n ≤ 1099511627776) (hR : Rd w w.heap.size A n (vByte bs)) :
    Calls Try.prog 13 #[.int .i64 k, .slice A n c] w (RetB (frameB k bs) w) := by
  have HR := Lib.hid hR
  clear hR
  have HK := Lib.hid (coreB_len (k := k) (bs := bs) ⟨hk1, hk2⟩ (by rw [HL.out]; omega))
  have HK2 := Lib.hid (encRaw_len (bs := coreB k bs) (by have := HK.out; have := HL.out; omega))
  have HK3 := Lib.hid (varint_len10 (recN_lt (coreB k bs)))
  go_enter Try.func13, Try.ntmps13
  go_wp2_with fail
  refine (rcore_any k _ n _ bs _ HL hk1 hk2 hn HR.out).mono ?_
  rintro e w1 ⟨A1, n1, c1, rfl, HN1, hown1, hb1⟩
  have hz1 := hb1.size
  have hn1 : n1 ≤ n + 20 := by have := HK.out; have := HL.out; have := HN1.out; omega
  obtain ⟨-, hnc1, hr1⟩ := rd_bytes hown1
  clear hown1
  go_wp2_with fail
  refine (eraw_any _ _ _ (coreB k bs) _ HN1 (by omega) hr1).mono ?_
  rintro e w2 ⟨A2, n2, c2, rfl, HN2, hown2, hb2⟩
  have hz2 := hb2.size
  have hr2 := hr1.all hb2
  have hB2 := hb1.trans (hb2.mono hz1)
  have hn2 : n2 ≤ n + 30 := by have := HK2.out; have := HN1.out; have := HN2.out; omega
  clear hr1 hb1 hb2
  go_wp2_with fail
  refine (rbytes_any _ _ n1 _ _ (coreB k bs) _ HN1 (by decide) (by omega) (by omega) (Nat.le_refl _) hr2).mono ?_
  rintro e w3 ⟨rfl, hb3⟩
  have hz3 := hb3.size
  replace hown2 := own_keep hown2 hb3
  have hB3 := hB2.trans (hb3.mono (by omega))
  clear hB2 hb3 hr2
  go_wp2_with fail
  refine (euint_any (recN (coreB k bs)) _ (recN_eq _) _ (recN_lt _)).mono ?_
  rintro e w4 ⟨A4, n4, c4, rfl, HN4, hown4, hb4⟩
  have hz4 := hb4.size
  have hn4 : n4 ≤ 10 := by have := HK3.out; have := HN4.out; omega
  obtain ⟨A5, n5, c5, w5, hap, HN5, hown5, hg5⟩ := own_many (c := c4) (own_keep hown2 hb4) HN4.out (rd_bytes hown4).2.2 (by omega) (by omega)
  have HO := Lib.hid (own_lower hown5 (show w.heap.size ≤ w1.heap.size from hz1))
  have HG := Lib.hid ((hB3.trans (hb4.mono (by omega))).trans (hg5.mono hz1))
  clear hown2 hown4 hown5 hB3 hb4 hg5
  go_wp2_with (at_builtin; refine wpList_append_run hap.out rfl rfl rfl rfl ?_)
  go_ret
  refine ⟨A5, n5, c5, rfl, Lib.hid ?_, HO.out, HG.out⟩
  have := HO.out.1
  simpa [frameB] using this

/-- A prefix, decided. -/
def preB (xs ys : List UInt8) : Bool := decide (ys <+: xs)
set_option maxRecDepth 100000 in
set_option maxHeartbeats 400000 in
theorem bequal_any (A A' : Option Addr) (n m c c' : Nat) (xs ys : List UInt8) (w : World) (hx : xs.length = n) (hy : ys.length = m) (hR : Rd w w.heap.size A n (vByte xs)) (hR' : Rd w w.heap.size A' m (vByte ys)) :
    Calls Try.prog 82 #[.slice A n c, .slice A' m c'] w fun e w' => e = .returned (.bool (decide (xs = ys))) ∧ w = w' := by
  have h1 := conv_str (P := Try.prog) (c := c) (src := 23) (dst := 9) Try.underlying23 Try.underlying5 Try.underlying9 hx hR
  have h2 := conv_str (P := Try.prog) (c := c') (src := 23) (dst := 9) Try.underlying23 Try.underlying5 Try.underlying9 hy hR'
  clear hR hR' hx hy
  go_enter Try.func82, Try.ntmps82
  go_wp2
  go_ret
  refine ⟨?_, rfl⟩
  show Ending.returned (.bool (xs == ys)) = _
  congr 2
  rw [Bool.eq_iff_iff]
  simp
set_option maxRecDepth 100000 in
set_option maxHeartbeats 400000 in
theorem hasPre_any (A A' : Option Addr) (n m c c' : Nat) (xs ys : List UInt8) (w : World) (hx : Hid (xs.length = n)) (hy : Hid (ys.length = m)) (hnc : n ≤ c) (_hc : c ≤ 9223372036854775807) (hm : 0 < m) (hR : Rd w w.heap.size A n (vByte xs)) (hR' : Rd w w.heap.size A' m (vByte ys)) :
    Calls Try.prog 74 #[.slice A n c, .slice A' m c'] w fun e w' => e = .returned (.bool (preB xs ys)) ∧ w = w' := by
  by_cases hmn : m ≤ n
  · obtain ⟨b, off, rfl, hb, hcl⟩ := hR (by omega)
    have HR : Hid (Rd w w.heap.size (some ⟨b, off, none⟩) m (vByte (xs.take m))) := Lib.hid ((hR.less hmn).congr (fun j hj => by simp [vByte, hj]))
    have HR' := Lib.hid hR'
    have HP := Lib.hid (show preB xs ys = decide (xs.take m = ys) by
      unfold preB
      rw [decide_eq_decide, List.prefix_iff_eq_take, hy.out]
      exact eq_comm)
    have HX := Lib.hid (show (xs.take m).length = m by rw [List.length_take, hx.out]; omega)
    clear hR hR' hcl
    go_enter Try.func74, Try.ntmps74
    go_wp2_with (go_at_call 82; ((with_reducible refine (bequal_any _ _ _ _ _ _ (xs.take m) ys _ HX.out hy.out HR.out HR'.out).mono ?_); rintro e w2 ⟨rfl, rfl⟩))
    go_ret
    rw [HP.out]
    exact ⟨rfl, rfl⟩
  · have HP := Lib.hid (show preB xs ys = false by
      unfold preB
      rw [decide_eq_false_iff_not]
      intro hp
      have := hp.length_le
      rw [hx.out, hy.out] at this
      omega)
    clear hR hR'
    have h1 : decide (m ≤ n) = false := by simpa using hmn
    go_enter Try.func74, Try.ntmps74
    go_wp2
    go_ret
    rw [HP.out]
    exact ⟨rfl, rfl⟩
end Go.Proofs.Ytldmokjpfnakkaa

/- journal: the walk of first. -/
namespace Go.Proofs.Ytldmokjpfnakkaa
open Go.RowKit

/-- A slice of bytes that is read, nil with no capacity. -/
def Sb (w : World) (A : Option Addr) (n c : Nat) (bs : List UInt8) : Prop :=
  bs.length = n ∧ n ≤ c ∧ c ≤ 9223372036854775807 ∧ (A = none ∧ c = 0 ∨ ∃ b off, A = some ⟨b, off, none⟩ ∧ b < w.heap.size ∧ ∀ j, j < n → w.cell? ⟨b, off + j, none⟩ = some (vByte bs j))
theorem Sb.rd {w : World} {A : Option Addr} {n c : Nat} {bs : List UInt8} (h : Sb w A n c bs) : Rd w w.heap.size A n (vByte bs) := by
  intro hn
  obtain ⟨h1, h2, h3, ⟨h4, h5⟩ | ⟨b, off, h4, h5⟩⟩ := h
  · omega
  · exact ⟨b, off, h4, h5.1, h5.2⟩
theorem Sb.all {w w' : World} {A : Option Addr} {n c : Nat} {bs : List UInt8} (h : Sb w A n c bs) (hb : Below w.heap.size w w') : Sb w' A n c bs := by
  obtain ⟨h1, h2, h3, ⟨h4, h5⟩ | ⟨b, off, h4, h5⟩⟩ := h
  · exact ⟨h1, h2, h3, .inl ⟨h4, h5⟩⟩
  · exact ⟨h1, h2, h3, .inr ⟨b, off, h4, Nat.lt_of_lt_of_le h5.1 hb.size, fun j hj => (hb.cell (p := ⟨b, off + j, none⟩) h5.1).trans (h5.2 j hj)⟩⟩
/-- What first returns. -/
def FirstPost (k : Int) (bs : List UInt8) (w : World) (e : Ending) (w' : World) : Prop :=
  (e = .returned (.tuple #[.slice none 0 0, .int .i64 0, .bool false]) ∧ FirstIs k bs none ∧ Below w.heap.size w w') ∨
  ∃ (z : Bz) (m : Nat), e = .returned (.tuple #[.slice z.A z.n z.c, .int .i64 (m : Int), .bool true]) ∧ z.ok w' ∧ FirstIs k bs (some z.bs) ∧ Hid (m = (frameB k z.bs).length) ∧ z.low w.heap.size ∧ Below w.heap.size w w'
theorem readU_len (bs : List UInt8) (e : Int) : (readU bs e).2.2.length ≤ bs.length := by
  unfold readU
  split
  · exact (decU_lt bs 0 0 (by omega) (by decide)).2
  · exact Nat.zero_le _
theorem readRaw_len (bs : List UInt8) (e : Int) : (readRaw bs e).2.1.length ≤ bs.length := by
  unfold readRaw
  split
  · have h := (decU_lt bs 0 0 (by omega) (by decide)).2
    unfold decRaw
    split
    · exact Nat.zero_le _
    · split
      · exact Nat.zero_le _
      · exact Nat.le_trans (List.length_take_le' _ _) h
  · exact Nat.zero_le _
theorem inRec_len (c : List UInt8) : (inRec c).2.1.length ≤ c.length := Nat.le_trans (readRaw_len _ _) (readU_len _ _)
theorem first_no1 {k : Int} {bs : List UInt8} {n : Nat} (hk1 : -9223372036854775808 ≤ k) (hk2 : k ≤ 9223372036854775807) (hl : bs.length = n) (hn : n ≤ 9223372036854775807) (h : n < (varint (szB bs)).length + szB bs ∨ n < (varint (szB bs)).length) : FirstIs k bs none := by
  intro x r hx
  have := (first_parts ⟨hk1, hk2⟩ hx (by omega)).2.1
  omega
theorem first_no2 {k : Int} {bs : List UInt8} {n : Nat} (hk1 : -9223372036854775808 ≤ k) (hk2 : k ≤ 9223372036854775807) (hl : bs.length = n) (hn : n ≤ 9223372036854775807) (h : endI (inRec (innerB bs)).2.2 (inRec (innerB bs)).1 ≠ 0) : FirstIs k bs none := by
  intro x r hx
  have := (first_parts ⟨hk1, hk2⟩ hx (by omega)).2.2.2.1
  rw [this] at h
  exact h rfl
theorem first_no3 {k : Int} {bs rec : List UInt8} {n : Nat} (hk1 : -9223372036854775808 ≤ k) (hk2 : k ≤ 9223372036854775807) (hl : bs.length = n) (hn : n ≤ 9223372036854775807) (hr : (inRec (innerB bs)).2.1 = rec) (h : preB bs (frameB k rec) = false) : FirstIs k bs none := by
  intro x r hx
  have := (first_parts ⟨hk1, hk2⟩ hx (by omega)).2.2.2.1
  rw [this] at hr
  subst hr
  unfold preB at h
  rw [decide_eq_false_iff_not] at h
  exact h ⟨r, hx.symm⟩
theorem first_yes {k : Int} {bs rec : List UInt8} (h : preB bs (frameB k rec) = true) : FirstIs k bs (some rec) := by
  unfold preB at h
  obtain ⟨r, hr⟩ := of_decide_eq_true h
  exact ⟨r, hr.symm⟩
set_option maxRecDepth 100000 in
set_option maxHeartbeats 1000000 in
theorem first_any (k : Int) (A : Option Addr) (n c : Nat) (bs : List UInt8) (w : World) (HS : Hid (Sb w A n c bs)) (hk1 : -9223372036854775808 ≤ k) (hk2 : k ≤ 9223372036854775807) (hn : n ≤ 1099511627776) :
    Calls Try.prog 64 #[.int .i64 k, .slice A n c] w (FirstPost k bs w) := by
  have HL := Lib.hid HS.out.1
  have hnc := HS.out.2.1
  have hc := HS.out.2.2.1
  have HR := Lib.hid HS.out.rd
  have HW0 := Lib.hid (Below.refl w.heap.size w)
  rcases HS.out.2.2.2 with ⟨rfl, rfl⟩ | ⟨b, off, rfl, -⟩
  · have h0 : n = 0 := by omega
    subst h0
    go_enter Try.func64, Try.ntmps64
    go_wp2_with fail
    refine (read_any _ _ _ (bs.take 10) _ (Lib.hid (by rw [List.length_take, HL.out]; omega)) Rd.nil (by omega)).mono ?_
    rintro e w1 ⟨g1, rfl, hg1, hR1, hb1, -⟩
    go_wp2_with fail
    refine (ruint_any _ g1 _ _ _ (Lib.hid hR1)).mono ?_
    rintro e w2 ⟨rfl, -, hg2⟩
    have hb2 := below_of_only hb1 hg2 hb1.size hg1
    clear hg2 hR1 hb1 hg1
    obtain ⟨sz, hsz⟩ : ∃ sz, szB bs = sz := ⟨_, rfl⟩
    have hsz' : (readU (bs.take 10) 0).2.1 = sz := hsz
    rw [hsz']
    have HSZ := Lib.hid hsz
    have hsz1 : sz ≤ 18446744073709551615 := by rw [← hsz']; exact readU_lt _ _
    clear hsz hsz'
    have hW3 := Wr.new w2
    have hb3 := hb2.trans (((Below.refl w2.heap.size w2).alloc (Nat.le_refl _) (.cells #[.slice none 0 0] 37)).mono hb2.size)
    have hz2 := hb2.size
    clear hb2
    go_wp2_with fail
    refine (wuint_any w2.heap.size w2.heap.size [] sz _ rfl _ (Lib.hid hW3) hsz1 (by simp)).mono ?_
    rintro e w4 ⟨rfl, hW4, hb4⟩
    have hB4 := hb3.trans (hb4.mono hz2)
    clear hb4 hb3 hW3
    go_wp2_with fail
    refine (wdone_any _ _ _ _ (Lib.hid hW4) (by have := varint_len10 hsz1; simp only [List.nil_append]; omega)).mono ?_
    rintro e w5 ⟨A5, be, c5, rfl, -, -, HN5, -, -, hb5⟩
    have hB5 := hB4.trans (hb5.mono hB4.size)
    have HBE := Lib.hid (show (varint (szB bs)).length = be by rw [HSZ.out]; simpa using HN5.out)
    have hbe : 0 < be := by rw [← HBE.out]; exact varint_pos _
    clear hb5 hB4 hW4 HN5
    go_wp2
    go_ret3
    exact .inl ⟨rfl, first_no1 hk1 hk2 HL.out (by omega) (by rw [HBE.out]; omega), hB5⟩
  · by_cases h10 : 10 ≤ n
    all_goals (
      go_enter Try.func64, Try.ntmps64
      go_wp2_with fail
      refine (read_any _ _ _ (bs.take 10) _ (Lib.hid (by rw [List.length_take, HL.out]; omega)) ((HR.out.less (by omega)).congr (fun j hj => by simp [vByte, show j < 10 by omega])) (by omega)).mono ?_
      rintro e w1 ⟨g1, rfl, hg1, hR1, hb1, -⟩
      go_wp2_with fail
      refine (ruint_any _ g1 _ _ _ (Lib.hid hR1)).mono ?_
      rintro e w2 ⟨rfl, -, hg2⟩
      have hb2 := below_of_only hb1 hg2 hb1.size hg1
      clear hg2 hR1 hb1 hg1
      obtain ⟨sz, hsz⟩ : ∃ sz, szB bs = sz := ⟨_, rfl⟩
      have hsz' : (readU (bs.take 10) 0).2.1 = sz := hsz
      rw [hsz']
      have HSZ := Lib.hid hsz
      have hsz1 : sz ≤ 18446744073709551615 := by rw [← hsz']; exact readU_lt _ _
      clear hsz hsz'
      have hW3 := Wr.new w2
      have hb3 := hb2.trans (((Below.refl w2.heap.size w2).alloc (Nat.le_refl _) (.cells #[.slice none 0 0] 37)).mono hb2.size)
      have hz2 := hb2.size
      clear hb2
      go_wp2_with fail
      refine (wuint_any w2.heap.size w2.heap.size [] sz _ rfl _ (Lib.hid hW3) hsz1 (by simp)).mono ?_
      rintro e w4 ⟨rfl, hW4, hb4⟩
      have hB4 := hb3.trans (hb4.mono hz2)
      clear hb4 hb3 hW3
      go_wp2_with fail
      refine (wdone_any _ _ _ _ (Lib.hid hW4) (by have := varint_len10 hsz1; simp only [List.nil_append]; omega)).mono ?_
      rintro e w5 ⟨A5, be, c5, rfl, -, -, HN5, -, -, hb5⟩
      have hB5 := hB4.trans (hb5.mono hB4.size)
      have HBE := Lib.hid (show (varint (szB bs)).length = be by rw [HSZ.out]; simpa using HN5.out)
      have hbe : be ≤ 10 := by have := varint_len10 hsz1; have := HN5.out; simp only [List.nil_append] at this; omega
      clear hb5 hB4 hW4 HN5
      by_cases q1 : n < be
      · go_wp2
        go_ret3
        exact .inl ⟨rfl, first_no1 hk1 hk2 HL.out (by omega) (by rw [HBE.out]; omega), hB5⟩
      · have hcv : IntKind.u64.wrap ((n : Int) - (be : Int)) = ((n - be : Nat) : Int) := by rw [wrap_u64]; omega
        by_cases q2 : n - be < sz
        · go_wp2
          go_ret3
          exact .inl ⟨rfl, first_no1 hk1 hk2 HL.out (by omega) (by rw [HBE.out, HSZ.out]; omega), hB5⟩
        · have HIN := Lib.hid (show (innerB bs).length = sz by unfold innerB; rw [HSZ.out, ← HSZ.out, HBE.out, List.length_take, List.length_drop, HL.out, HSZ.out]; omega)
          have HRI : Hid (∀ o', (0 < sz → o' = off + be) → Rd w5 w5.heap.size (some ⟨b, o', none⟩) sz (vByte (innerB bs))) := Lib.hid (fun o' ho hp => by
            obtain ⟨b', off', e, hb', hc'⟩ := (HR.out.all hB5) (by omega)
            injection e with e
            injection e with e1 e2 _
            subst e1 e2
            refine ⟨b, o', rfl, hb', fun j hj => ?_⟩
            rw [ho hp, Nat.add_assoc, hc' (be + j) (by omega)]
            unfold vByte innerB
            rw [HBE.out, HSZ.out, List.getElem?_take, if_pos hj, List.getElem?_drop])
          go_wp2_with fail
          all_goals (
            refine (read_any _ _ _ (innerB bs) _ HIN (HRI.out _ (by omega)) (by omega)).mono ?_
            rintro e w6 ⟨g6, rfl, hg6, hR6, hb6, -⟩
            have hB6 := hB5.trans (hb6.mono hB5.size)
            replace hg6 : w.heap.size ≤ g6 := Nat.le_trans hB5.size hg6
            clear hb6
            go_wp2_with fail
            refine (rint_any _ g6 _ _ _ (Lib.hid hR6)).mono ?_
            rintro e w7 ⟨rfl, hR7, hg7⟩
            have hB7 := below_of_only hB6 hg7 hB6.size hg6
            clear hB6 hg7 hR6
            go_wp2_with fail
            refine (rraw_any _ g6 _ _ _ (Lib.hid hR7)).mono ?_
            rintro e w8 ⟨A8, n8, c8, rfl, hnc8, hc8, hn8, HN8, hown8, hR8, hg8⟩
            have hB8 := below_of_only hB7 hg8 hB7.size hg6
            have hlow7 := hB7.size
            obtain ⟨rec, hrec⟩ : ∃ rec, (inRec (innerB bs)).2.1 = rec := ⟨_, rfl⟩
            replace HN8 : Hid (rec.length = n8) := by rw [← hrec]; exact HN8
            replace hown8 : w8.ownsRow w7.heap.size 5 1 (.slice A8 n8 c8) n8 (rec.map fun b => Value.int .u8 ((b.toNat : Nat) : Int)) := by rw [← hrec]; exact hown8
            have HREC := Lib.hid hrec
            clear hrec hB7 hg8 hR7
            have HBT := Lib.hid (Bts.of_own hown8).1
            have hr8 := (rd_bytes hown8).2.2
            have HLW := Lib.hid (Bz.low.mono (Bz.low_own (bs := rec) hown8) hlow7)
            clear hown8
            go_wp2_with fail
            refine (rend_any _ g6 _ _ _ (Lib.hid hR8)).mono ?_
            rintro e w9 ⟨rfl, rfl⟩
            obtain ⟨en, hen⟩ : ∃ en, endI (inRec (innerB bs)).2.2 (inRec (innerB bs)).1 = en := ⟨_, rfl⟩
            have hen' : endI (readRaw (readU (innerB bs) 0).2.2 (readU (innerB bs) 0).1).2.2 (readRaw (readU (innerB bs) 0).2.2 (readU (innerB bs) 0).1).1 = en := hen
            rw [hen']
            have HEN := Lib.hid hen
            clear hen hen' hR8
            by_cases q3 : en = 0
            · have q4 : (en != 0) = false := by simpa using q3
              clear q3
              have hn8' : n8 ≤ 1099511627776 := by
                have h1 := inRec_len (innerB bs)
                rw [HREC.out, HIN.out] at h1
                have := HN8.out
                omega
              go_wp2_with fail
              refine (frame_any k _ n8 _ rec _ HN8 hk1 hk2 hn8' hr8).mono ?_
              rintro e w10 ⟨A10, n10, c10, rfl, HN10, hown10, hb10⟩
              have hB10 := hB8.trans (hb10.mono hB8.size)
              have HBT10 := Lib.hid (HBT.out.all hb10)
              obtain ⟨-, hnc10, hr10⟩ := rd_bytes hown10
              have hp10 : 0 < n10 := by have := frameB_pos k rec; have := HN10.out; omega
              have hc10 := own_cap hown10
              clear hb10 hown10 hr8 hB8
              cases hpre : preB bs (frameB k rec) with
              | true =>
                have HP := Lib.hid hpre
                go_wp2_with fail
                refine (hasPre_any _ _ _ _ _ _ bs (frameB k rec) _ HL HN10 (by omega) (by omega) hp10 (HR.out.all hB10) hr10).mono ?_
                rintro e w11 ⟨rfl, rfl⟩
                go_wp2
                go_ret3
                exact .inr ⟨⟨A8, n8, c8, rec⟩, n10, rfl, HBT10.out, first_yes HP.out, Lib.hid HN10.out.symm, HLW.out, hB10⟩
              | false =>
                have HP := Lib.hid hpre
                go_wp2_with fail
                refine (hasPre_any _ _ _ _ _ _ bs (frameB k rec) _ HL HN10 (by omega) (by omega) hp10 (HR.out.all hB10) hr10).mono ?_
                rintro e w11 ⟨rfl, rfl⟩
                go_wp2
                go_ret3
                exact .inl ⟨rfl, first_no3 hk1 hk2 HL.out (by omega) HREC.out HP.out, hB10⟩
            · have q4 : (en != 0) = true := by simpa using q3
              go_wp2
              go_ret3
              exact .inl ⟨rfl, first_no2 hk1 hk2 HL.out (by omega) (by rw [HEN.out]; exact q3), hB8⟩))
end Go.Proofs.Ytldmokjpfnakkaa

/- A range over a function whose iterator keeps a state in memory: one law for the caller. -/
namespace Go.Proofs.Ytldmokjpfnakkaa
open Go.RowKit Go.Shelf

/-- How a round's body may be left: going on in the next state, or leaving by a jump. -/
def statePost (B : Nat) (I : World → Prop) (Ix : Code → World → Prop) (W : World) : Exit → Act → World → Prop
  | .normal, _, W' => KeepsFrom B W W' ∧ I W'
  | .ret, _, W' => KeepsFrom B W W' ∧ Ix .ret W'
  | .exit id, _, W' => KeepsFrom B W W' ∧ Ix (.exit id) W'
  | .goto t, _, W' => KeepsFrom B W W' ∧ Ix (.goto t) W'
  | .panic _, _, _ => False
  | .outgrown, _, _ => False

/-- The iterator's promise: 'Iy s x W': it stands at yield with the value x, in state s; a round that goes on leads to 'I (nxt s x)'; R: what the law keeps of the loop's own record. -/
def SeqState {α β : Type} (F : Fence) (n : Nat) (P : Program) (gf : Nat) (lb : Array Value) (encs : α → Array Value) (B : Nat) (I : β → World → Prop) (Iy : β → α → World → Prop) (nxt : β → α → β) (Ix : Code → β → World → Prop) (s0 : β) (Fin : β → Prop) : Prop :=
  ∀ (l : Nat) (R : World → Prop) (Rx : Code → World → Prop), (∀ W W', R W → KeepsFrom B W W' → R W') →
    (∀ s x W, Iy s x W → R W → YieldAt F (n - 1) P l (encs x) W fun e W' => (e = .returned (.bool true) ∧ I (nxt s x) W' ∧ R W') ∨ (e = .returned (.bool false) ∧ ∃ c, Ix c (nxt s x) W' ∧ Rx c W')) →
    ∀ W, I s0 W → R W → CallsIn F n P gf (#[.func (.yield l) #[] #[]] ++ lb) W fun e W' => (∃ v, e = .returned v) ∧ ((∃ s, Fin s ∧ I s W' ∧ R W') ∨ ∃ c s, Ix c s W' ∧ Rx c W')

variable {F : Fence} {n : Nat} {P : Program}

theorem range_state {α β : Type} {g : Operand} {ps : Array Tmp} {assign body : Code} {Q : Exit → Act → World → Prop} {a : Act} {w : World}
    (hro : F.round = none) (h1 : 1 ≤ n) {gf : Nat} {lb : Array Value} (hg : a.eval g = .func (.func gf) #[] lb) (hFg : F.fn gf) (eg : ∀ args w, (callFunc gf args).run P w = .ok (.enter gf args) w)
    {encs : α → Array Value} (hps : ∀ x, (encs x).size = ps.size)
    (I : β → World → Prop) (Iy : β → α → World → Prop) (nxt : β → α → β) (Ix : Code → β → World → Prop) (s0 : β) (Fin : β → Prop)
    (hseq : SeqState F (n - 1) P gf lb encs w.heap.size I Iy nxt Ix s0 Fin)
    (hI : OwnFrom w.heap.size I) (hIy : ∀ x, OwnFrom w.heap.size (fun s => Iy s x)) (hIx : ∀ c, OwnFrom w.heap.size (Ix c)) (h0 : I s0 w) (a₁ : α → Act)
    (hassign : ∀ (l : Nat) (x : α) (W : World) (K : Act → World → Prop), K (a₁ x) W →
      assign.wpIn (F.inRound l) (n - 1 - 1) P (Exit.then K (fun _ _ _ => False)) { tmps := (ps.zip (encs x)).foldl (fun t (p, v) => t.setIfInBounds p v) a.tmps, defers := [] } W)
    (hbody : ∀ (l : Nat) (s : β) (x : α) (W : World), Iy s x W → body.wpIn (F.inRound l) (n - 1 - 1) P (statePost w.heap.size (I (nxt s x)) (fun c => Ix c (nxt s x)) W) (a₁ x) W)
    (hdone : ∀ (D : Nat) (s : β) (W : World), w.heap.size ≤ D → Fin s → I s W → W.heap[D]? = some (.deferred (some [])) → Q .normal { a with defers := { target := .collected D, args := #[] } :: a.defers } W)
    (hstop : ∀ (D : Nat) (c : Code) (s : β) (W : World), w.heap.size ≤ D → Ix c s W → W.heap[D]? = some (.deferred (some [])) → c.wpIn F n P Q { a with defers := { target := .collected D, args := #[] } :: a.defers } W) :
    (Code.rangeFunc g ps assign body).wpIn F n P Q a w := by
  refine wpIn_rangeFunc ?_
  intro fn hfn
  rw [hro]
  obtain ⟨rec, hrec⟩ : ∃ rec : LoopState → Option Code → Loop, rec = fun st pe => { state := st, pending := pe, fn, tmps := a.tmps, params := ps, assign, body, defers := w.heap.size } := ⟨_, rfl⟩
  obtain ⟨W1, hW1⟩ : ∃ W1, (w.alloc (.deferred (some []))).alloc (.loop (rec .ready none)) = W1 := ⟨_, rfl⟩
  have hL1 : W1.heap[w.heap.size + 1]? = some (.loop (rec .ready none)) := by
    rw [← hW1]; have := World.alloc_heap_new (w.alloc (.deferred (some []))) (.loop (rec .ready none)); rwa [World.size_alloc] at this
  have hK1 : W1.heap[w.heap.size]? = some (.deferred (some [])) := by
    rw [← hW1]; exact (Below.heap_alloc _ _ _ (by simp)).trans (World.alloc_heap_new w _)
  have hI1 : I s0 W1 := by rw [← hW1]; exact hI.alloc _ (hI.alloc _ h0)
  refine ⟨w.heap.size + 1, [{ target := .collected w.heap.size, args := #[] }], W1, { target := .fn (.func gf) lb, args := #[.func (.yield (w.heap.size + 1)) #[] #[]] }, W1, gf,
    #[.func (.yield (w.heap.size + 1)) #[] #[]] ++ lb, W1, ?_, ?_, ?_, ?_, fun _ => h1, ?_⟩
  · rw [← hW1, hrec]; exact run_enterLoop_outer _ _ _ _ _
  · simp only [resolve, hg]
    simp [go_sem]
  · intro f' hf'; simp [Target.leads] at hf'; subst hf'; exact hFg
  · simp [invoke, go_sem, eg]
  · -- the record's two blocks are kept by whatever keeps what is no cells
    have hput : ∀ (W : World) (o o' : Obj), W.heap[w.heap.size + 1]? = some o → W.heap[w.heap.size]? = some (.deferred (some [])) →
        (W.putObj (w.heap.size + 1) o').heap[w.heap.size + 1]? = some o' ∧ (W.putObj (w.heap.size + 1) o').heap[w.heap.size]? = some (.deferred (some [])) := fun W o o' hl hk =>
      ⟨World.putObj_heap_same (Array.getElem?_eq_some_iff.1 hl).1, (World.putObj_heap_other (by omega)).trans hk⟩
    refine (hseq (w.heap.size + 1)
      (fun W => W.heap[w.heap.size + 1]? = some (.loop (rec .ready none)) ∧ W.heap[w.heap.size]? = some (.deferred (some [])))
      (fun c W => W.heap[w.heap.size + 1]? = some (.loop (rec .done (some c))) ∧ W.heap[w.heap.size]? = some (.deferred (some [])))
      (fun W W' hR hk => ⟨hk.same _ _ (by omega) hR.1 rfl, hk.same _ _ (Nat.le_refl _) hR.2 rfl⟩) ?_ W1 hI1 ⟨hL1, hK1⟩).mono ?_
    · -- one round
      rintro s x W hi ⟨hl, hk⟩
      have hy := run_yield (P := P) (args := encs x) hl (by rw [hrec]; exact hps x)
      rw [hrec] at hy
      refine ⟨fn, _, assign, body, hy, roundIn_of_wpIn hfn (hassign _ x W _ ⟨_, run_beginRound hl (by rw [hrec]), ?_⟩)⟩
      obtain ⟨hl2, hk2⟩ := hput W _ (.loop { rec .ready none with state := .busy }) hl hk
      refine wpIn_mono (hbody _ s x _ ((hIy x).putObj _ hi (by omega) hl rfl)) ?_
      have fin : ∀ (jump : Option Code) (W3 : World), KeepsFrom w.heap.size (W.putObj (w.heap.size + 1) (.loop { rec .ready none with state := .busy })) W3 →
          (Instr.endRound (w.heap.size + 1) jump).run P W3 = .ok (.bool jump.isNone) (W3.putObj (w.heap.size + 1) (.loop (rec (if jump.isNone then .ready else .done) jump))) ∧
          W3.heap[w.heap.size + 1]? = some (.loop { rec .ready none with state := .busy }) ∧
          (W3.putObj (w.heap.size + 1) (.loop (rec (if jump.isNone then .ready else .done) jump))).heap[w.heap.size + 1]? = some (.loop (rec (if jump.isNone then .ready else .done) jump)) ∧
          (W3.putObj (w.heap.size + 1) (.loop (rec (if jump.isNone then .ready else .done) jump))).heap[w.heap.size]? = some (.deferred (some [])) := fun jump W3 hk3 => by
        have hl3 := hk3.same _ _ (by omega) hl2 rfl
        have hd3 := hk3.same _ _ (Nat.le_refl _) hk2 rfl
        have hrun := run_endRound (P := P) jump hl3
        obtain ⟨h4, h5⟩ := hput W3 _ (.loop (rec (if jump.isNone then .ready else .done) jump)) hl3 hd3
        refine ⟨?_, hl3, h4, h5⟩
        rw [hrun, hrec]
      rintro e a3 W3 hp
      cases e with
      | normal =>
        obtain ⟨hk3, hi3⟩ := hp
        obtain ⟨hr, hl3, hl4, hk4⟩ := fin none W3 hk3
        exact ⟨_, _, hr, .inl ⟨rfl, hI.putObj _ hi3 (by omega) hl3 rfl, hl4, hk4⟩⟩
      | ret =>
        obtain ⟨hk3, hi3⟩ := hp
        obtain ⟨hr, hl3, hl4, hk4⟩ := fin (some .ret) W3 hk3
        exact ⟨_, _, hr, .inr ⟨rfl, .ret, (hIx _).putObj _ hi3 (by omega) hl3 rfl, hl4, hk4⟩⟩
      | exit id =>
        obtain ⟨hk3, hi3⟩ := hp
        obtain ⟨hr, hl3, hl4, hk4⟩ := fin (some (.exit id)) W3 hk3
        exact ⟨_, _, hr, .inr ⟨rfl, .exit id, (hIx _).putObj _ hi3 (by omega) hl3 rfl, hl4, hk4⟩⟩
      | goto t =>
        obtain ⟨hk3, hi3⟩ := hp
        obtain ⟨hr, hl3, hl4, hk4⟩ := fin (some (.goto t)) W3 hk3
        exact ⟨_, _, hr, .inr ⟨rfl, .goto t, (hIx _).putObj _ hi3 (by omega) hl3 rfl, hl4, hk4⟩⟩
      | panic ch => exact hp.elim
      | outgrown => exact hp.elim
    · -- behind the iterator
      rintro e W2 ⟨⟨v, rfl⟩, (⟨s, hS, hi, hl, hk⟩ | ⟨c, s, hi, hl, hk⟩)⟩
      · have hrun := run_endLoop (P := P) hl (by rw [hrec]; simp)
        rw [hrec] at hrun
        exact ⟨none, _, hrun, hdone _ s _ (Nat.le_refl _) hS (hI.putObj _ hi (by omega) hl rfl) ((World.putObj_heap_other (by omega)).trans hk)⟩
      · have hrun := run_endLoop (P := P) hl (by rw [hrec]; simp)
        rw [hrec] at hrun
        exact ⟨some c, _, hrun, hstop _ c s _ (Nat.le_refl _) ((hIx c).putObj _ hi (by omega) hl rfl) ((World.putObj_heap_other (by omega)).trans hk)⟩

end Go.Proofs.Ytldmokjpfnakkaa

/- journal: the walk of records' iterator and of Scan. -/
namespace Go.Proofs.Ytldmokjpfnakkaa
open Go.RowKit Go.Shelf
attribute [local go_sem] Oper.semAt_some

theorem Sb.below {w w' : World} {A : Option Addr} {n c : Nat} {bs : List UInt8} (h : Sb w A n c bs) (hb : Below w.heap.size w w') : Sb w' A n c bs := h.all hb
theorem Sb.skip {w : World} {b off n c m o' : Nat} {bs : List UInt8} (h : Sb w (some ⟨b, off, none⟩) n c bs) (hm : m ≤ n) (ho : c ≠ m → o' = off + m) : Sb w (some ⟨b, o', none⟩) (n - m) (c - m) (bs.drop m) := by
  obtain ⟨h1, h2, h3, ⟨h4, h5⟩ | ⟨b', off', h4, h5⟩⟩ := h
  · cases h4
  · injection h4 with h4
    injection h4 with h4 h6 _
    subst h4 h6
    refine ⟨by rw [List.length_drop, h1], by omega, by omega, .inr ⟨b, o', rfl, h5.1, fun j hj => ?_⟩⟩
    rw [ho (by omega), Nat.add_assoc, h5.2 (m + j) (by omega)]
    unfold vByte
    rw [List.getElem?_drop]
theorem first_drop {k : Int} {r x : List UInt8} {m : Nat} (h : FirstIs k r (some x)) (hm : m = (frameB k x).length) : r = frameB k x ++ r.drop m ∧ m ≤ r.length ∧ 0 < m := by
  obtain ⟨s, rfl⟩ := h
  have := frameB_pos k x
  subst hm
  rw [List.drop_left, List.length_append]
  exact ⟨rfl, by omega, this⟩
def bsOf (L : List Bz) : List (List UInt8) := L.map Bz.bs
theorem bsOf_snoc (L : List Bz) (z : Bz) : bsOf (L ++ [z]) = bsOf L ++ [z.bs] := by simp [bsOf]
theorem bsOf_length (L : List Bz) : (bsOf L).length = L.length := by simp [bsOf]

set_option maxRecDepth 100000 in
set_option maxHeartbeats 1000000 in
theorem recs1_in (l Bs : Nat) (w : World) (bs : List UInt8) (hbs : bs.length ≤ 1099511627776) (J : List Bz → List UInt8 → World → Prop) (Jx : World → Prop)
    (hJ : Hid (∀ L r W, J L r W → ∃ A n c, Blk W Bs 23 #[.slice A n c] ∧ Sb w A n c r ∧ Below w.heap.size w W))
    (hB : Hid (∀ L r W W', J L r W → Below W.heap.size W W' → J L r W'))
    (hS : Hid (∀ L r r' W A n c, J L r W → Sb w A n c r' → J L r' (W.setCell ⟨Bs, 0, none⟩ (.slice A n c))))
    (hY : Hid (∀ L r z (m : Nat) W, J L r W → z.ok W → z.low w.heap.size → L.length ≤ bs.length → m ≤ bs.length → m = (frameB (L.length : Nat) z.bs).length → (framesB 0 (bsOf L)).length + m ≤ bs.length → YieldAt Fence.wide 4 Try.prog l #[.slice z.A z.n z.c, .int .i64 (m : Int)] W fun e W' =>
      (e = .returned (.bool true) ∧ J (L ++ [z]) r W') ∨ (e = .returned (.bool false) ∧ Jx W')))
    (W : World) (h0 : J [] bs W) :
    CallsIn Fence.wide 5 Try.prog 63 #[.func (.yield l) #[] #[], .pointer (some ⟨Bs, 0, none⟩)] W fun e W' => (∃ v, e = .returned v) ∧ ((∃ L r, (bs = framesB 0 (bsOf L) ++ r ∧ FirstIs (L.length : Nat) r none) ∧ J L r W') ∨ Jx W') := by
  refine callsIn_of_wp Try.func63 rfl trivial ?_ rfl
  simp only [Try.ntmps63, List.size_toArray, List.length_cons, List.length_nil, Nat.reduceAdd, Nat.reduceSub, Array.replicate_succ, Array.replicate_zero, List.push_toArray, List.append_toArray, List.nil_append, List.cons_append]
  gi_wp2
  gi_loopw [3] (fun v wr => ∃ (k : Nat) (L : List Bz) (r : List UInt8), k ≤ bs.length ∧ Hid (L.length = k) ∧ v = .int .i64 (k : Int) ∧ Hid (bs = framesB 0 (bsOf L) ++ r) ∧ J L r wr) (fun v _ => bs.length + 1 - (intOf v).toNat)
  case atStart => exact ⟨0, [], bs, Nat.zero_le _, Lib.hid rfl, rfl, Lib.hid rfl, h0⟩
  case round =>
    obtain ⟨k, L, r, hk, HK, rfl, HE, hJr⟩ := hrel
    obtain ⟨A, n, c, hb, hs, hw⟩ := hJ.out L r wr hJr
    have hcell : wr.cell? ⟨Bs, 0, none⟩ = some (.slice A n c) := by simpa using hb.cell 0
    have hrl : (framesB 0 (bsOf L)).length + r.length = bs.length := by rw [← List.length_append, ← HE.out]
    have hn : n ≤ 1099511627776 := by have := hs.1; omega
    have HSb := Lib.hid (hs.below hw)
    clear hb
    gi_wp2_with fail
    refine ⟨trivial, ?_⟩
    refine (callsIn_wide.2 (first_any _ _ _ _ r _ HSb (by omega) (by omega) hn)).mono ?_
    rintro e w1 (⟨rfl, hno, hb1⟩ | ⟨z, m, rfl, hz, hyes, HM, hzl, hb1⟩)
    · have HN := Lib.hid hno
      have hJ1 := hB.out L r wr w1 hJr hb1
      clear hno hb1 hs hw hcell
      gi_wp2
      refine ⟨fun f h => (by cases h), ?_⟩
      gi_wp2
      refine bodyPost_ret (results_none rfl _ _ _) rfl ?_
      exact ⟨⟨_, rfl⟩, .inl ⟨L, r, ⟨HE.out, by rw [HK.out]; exact HN.out⟩, hJ1⟩⟩
    · have hJ1 := hB.out L r wr w1 hJr hb1
      obtain ⟨he, hml, hm0⟩ := first_drop hyes HM.out
      have HD := Lib.hid he
      obtain ⟨fn, tmps, assign, body, hy, hR3⟩ := hY.out L r z m w1 hJ1 hz (hzl.mono hw.size) (by rw [HK.out]; exact hk) (by omega) (by rw [HK.out]; exact HM.out) (by omega)
      clear he hb1 hs hw hcell hyes hzl
      gi_wp2
      refine hR3.mono ?_
      rintro e W3 (⟨rfl, hJ3⟩ | ⟨rfl, hJx3⟩)
      · obtain ⟨A3, n3, c3, hb3, hs3, hw3⟩ := hJ.out _ r W3 hJ3
        have hl3 := hs3.1
        obtain ⟨b3, o3, rfl, -⟩ := hs3.rd (by omega)
        have hcell : W3.cell? ⟨Bs, 0, none⟩ = some (.slice (some ⟨b3, o3, none⟩) n3 c3) := by simpa using hb3.cell 0
        have hfr : W3.frozen? ⟨Bs, 0, none⟩ = false := hb3.frozen 0
        have hnc3 := hs3.2.1
        have hcm3 := hs3.2.2.1
        have hmn3 : m ≤ n3 := by omega
        have HS1 : Hid (J (L ++ [z]) (r.drop m) (W3.setCell ⟨Bs, 0, none⟩ (.slice (if c3 = m then some ⟨b3, o3, none⟩ else some ⟨b3, o3 + m, none⟩) (n3 - m) (c3 - m)))) := Lib.hid (by
          split
          · exact hS.out _ r _ W3 _ _ _ hJ3 (hs3.skip hmn3 (by omega))
          · exact hS.out _ r _ W3 _ _ _ hJ3 (hs3.skip hmn3 (by omega)))
        have HE2 : Hid (bs = framesB 0 (bsOf (L ++ [z])) ++ r.drop m) := Lib.hid (by
          rw [bsOf_snoc, framesB_snoc, List.append_assoc, Nat.zero_add, bsOf_length, HK.out, ← HD.out]
          exact HE.out)
        have hk2 : k + 1 ≤ bs.length := by
          have h1 := framesB_len (bsOf (L ++ [z])) 0
          rw [bsOf_length, List.length_append] at h1
          have h2 := congrArg List.length HE2.out
          rw [List.length_append] at h2
          have := HK.out
          simp at h1
          omega
        have HK2 := Lib.hid (show (L ++ [z]).length = k + 1 by rw [List.length_append, HK.out]; rfl)
        clear hb3 hs3 hw3 hJ3 hJ1 hJr hl3
        gi_wp2
        all_goals exact ⟨⟨k + 1, L ++ [z], r.drop m, hk2, HK2, by go_num, HE2, HS1.out⟩, by simp [intOf]; omega⟩
      · gi_wp2
        refine bodyPost_ret (results_none rfl _ _ _) rfl ?_
        exact ⟨⟨_, rfl⟩, .inr hJx3⟩

/-- Scan's own state: the list, the length, what is left; L: the records so far. -/
structure ScanI (w : World) (L : List Bz) (r : List UInt8) (W : World) : Prop where
  low : ∀ z ∈ L, z.low w.heap.size
  bl : ∃ v, Blk W w.heap.size 27 #[v] ∧ LsOwn W (w.heap.size + 3) v L
  bt : Blk W (w.heap.size + 1) 3 #[.int .i64 (((framesB 0 (bsOf L)).length : Nat) : Int)]
  bb : ∃ A n c, Blk W (w.heap.size + 2) 23 #[.slice A n c] ∧ Sb w A n c r
  below : Below w.heap.size w W
theorem ScanI.mod {w W W' : World} {L : List Bz} {r : List UInt8} {F : Nat → Prop} (h : ScanI w L r W) (m : Mod F W W') (hF : ∀ b, F b → w.heap.size ≤ b ∧ ∀ t, ¬ Ty W b t) : ScanI w L r W' := by
  obtain ⟨h0, ⟨v, h1, h2⟩, h3, ⟨A, n, c, h4, h5⟩, h6⟩ := h
  refine ⟨h0, ⟨v, m.blk h1 (fun hf => (hF _ hf).2 _ h1.ty), h2.mod m (fun g e hf => (hF _ hf).2 _ (Ty.of_own h2.1 e)) (fun b hf => (hF b hf).2 _)⟩, m.blk h3 (fun hf => (hF _ hf).2 _ h3.ty), ⟨A, n, c, m.blk h4 (fun hf => (hF _ hf).2 _ h4.ty), h5⟩, m.below h6 h6.size (fun b hf => (hF b hf).1)⟩
theorem ScanI.all {w W W' : World} {L : List Bz} {r : List UInt8} (h : ScanI w L r W) (hb : Below W.heap.size W W') : ScanI w L r W' := h.mod (F := fun _ => False) (Mod.of_below _ hb) (fun _ hf => hf.elim)
theorem ScanI.own {w : World} {L : List Bz} {r : List UInt8} {B : Nat} (hB : w.heap.size ≤ B) {W W' : World} {row : Option Nat} (h : ScanI w L r W) (hg : W.grownBy W' row) (hr : ∀ r, row = some r → B ≤ r ∧ ∃ o : Obj, W.heap[r]? = some o ∧ o.isCells = false) : ScanI w L r W' := by
  refine h.mod (F := fun b => row = some b) (Mod.of_grown hg (fun g e => .inl e)) (fun b e => ?_)
  obtain ⟨h1, o, h2, h3⟩ := hr b e
  refine ⟨by omega, fun t ht => ?_⟩
  obtain ⟨cs, fr, h4⟩ := ht
  rw [h2] at h4
  injection h4 with h4
  subst h4
  cases h3
theorem ScanI.cut {w W : World} {L : List Bz} {r r' : List UInt8} {A : Option Addr} {n c : Nat} (h : ScanI w L r W) (hs : Sb w A n c r') : ScanI w L r' (W.setCell ⟨w.heap.size + 2, 0, none⟩ (.slice A n c)) := by
  obtain ⟨h0, ⟨v, h1, h2⟩, h3, ⟨A', n', c', h4, h5⟩, h6⟩ := h
  have m : Mod (fun b => b = w.heap.size + 2) W (W.setCell ⟨w.heap.size + 2, 0, none⟩ (.slice A n c)) := (Mod.refl (fun b => b = w.heap.size + 2) W).set (p := ⟨w.heap.size + 2, 0, none⟩) (.inl rfl) _
  refine ⟨h0, ⟨v, m.blk h1 (by omega), h2.mod m (fun g e hf => ?_) (fun b hf ht => ?_)⟩, m.blk h3 (by omega), ⟨A, n, c, by simpa using h4.set_ 0 (.slice A n c), hs⟩, m.below h6 h6.size (fun b hf => by omega)⟩
  · subst hf
    have := (h2.1.lt _ e).1
    omega
  · subst hf
    exact absurd (Ty.unique h4.ty ht) (by decide)

theorem records_in (n : Nat) (A : Option Addr) (len cap : Nat) (w : World) :
    CallsIn Fence.wide n Try.prog 42 #[.slice A len cap] w fun e w' => e = .returned (.func (.func 63) #[] #[.pointer (some ⟨w.heap.size, 0, none⟩)]) ∧ w.alloc (.cells #[.slice A len cap] 23) = w' := by
  refine callsIn_of_wp Try.func42 rfl trivial ?_ rfl
  simp only [Try.ntmps42, List.size_toArray, List.length_cons, List.length_nil, Nat.reduceAdd, Nat.reduceSub, Array.replicate_succ, Array.replicate_zero, List.push_toArray, List.append_toArray, List.nil_append, List.cons_append]
  gi_wp2
  go_ret
  exact ⟨rfl, rfl⟩

theorem scan_state (w : World) (bs : List UInt8) (hbs : bs.length ≤ 1099511627776) (B : Nat) (Ix : Code → List Bz × List UInt8 → World → Prop) :
    SeqState Fence.wide 5 Try.prog 63 #[.pointer (some ⟨w.heap.size + 2, 0, none⟩)] (fun x : Bz × Nat => #[Value.slice x.1.A x.1.n x.1.c, .int .i64 (x.2 : Int)]) B
      (fun s W => ScanI w s.1 s.2 W) (fun s x W => ScanI w s.1 s.2 W ∧ x.1.ok W ∧ x.1.low w.heap.size ∧ s.1.length ≤ bs.length ∧ x.2 ≤ bs.length ∧ x.2 = (frameB (s.1.length : Nat) x.1.bs).length ∧ (framesB 0 (bsOf s.1)).length + x.2 ≤ bs.length) (fun s x => (s.1 ++ [x.1], s.2)) Ix ([], bs) (fun s => bs = framesB 0 (bsOf s.1) ++ s.2 ∧ FirstIs (s.1.length : Nat) s.2 none) := by
  intro l R Rx hR hY W h0 hR0
  refine (recs1_in l (w.heap.size + 2) w bs hbs (fun L r W => ScanI w L r W ∧ R W) (fun W => ∃ c s, Ix c s W ∧ Rx c W) ?_ ?_ ?_ ?_ W ⟨h0, hR0⟩).mono ?_
  · rintro L r W ⟨h, _⟩
    obtain ⟨A, n, c, h4, h5⟩ := h.bb
    exact ⟨A, n, c, h4, h5, h.below⟩
  · rintro L r W W' ⟨h, hr⟩ hb
    exact ⟨h.all hb, hR _ _ hr ⟨hb.size, fun k _ _ hk _ => (hb.block k (Array.getElem?_eq_some_iff.1 hk).1).trans hk⟩⟩
  · rintro L r r' W A n c ⟨h, hr⟩ hs
    exact ⟨h.cut hs, hR _ _ hr ((KeepsOthers.setCell _ _ _).from _)⟩
  · rintro L r z m W ⟨h, hr⟩ hz hzl hL hm hm2 hm3
    obtain ⟨fn, tmps, assign, body, hy, hr3⟩ := hY (L, r) (z, m) W ⟨h, hz, hzl, hL, hm, hm2, hm3⟩ hr
    exact ⟨fn, tmps, assign, body, hy, hr3.mono fun e W' hh => hh.imp (fun ⟨a, b, c⟩ => ⟨a, b, c⟩) (fun ⟨a, c, b⟩ => ⟨a, c, _, b⟩)⟩
  · rintro e W' ⟨he, (⟨L, r, hf, h, hr⟩ | ⟨c, s, hx, hrx⟩)⟩
    · exact ⟨he, .inl ⟨(L, r), hf, h, hr⟩⟩
    · exact ⟨he, .inr ⟨c, s, hx, hrx⟩⟩

/-- What Scan returns. -/
def ScanPost (bs : List UInt8) (w : World) (e : Ending) (w' : World) : Prop :=
  ∃ (v : Value) (L : List Bz) (m : Nat), e = .returned (.tuple #[v, .int .i64 (m : Int)]) ∧ LsOwn w' w.heap.size v L ∧ ScanIs bs (bsOf L) m ∧ Below w.heap.size w w'
def ScanPost2 (bs : List UInt8) (w : World) (e : Ending) (w' : World) : Prop :=
  ∃ (v : Value) (L : List Bz) (m : Nat), e = .returned (.tuple #[v, .int .i64 (m : Int)]) ∧ LsOwn w' w.heap.size v L ∧ ScanIs bs (bsOf L) m ∧ Below w.heap.size w w' ∧ ∀ z ∈ L, z.low w.heap.size
set_option maxRecDepth 100000 in
set_option maxHeartbeats 1000000 in
theorem scan2_any (A : Option Addr) (n c : Nat) (bs : List UInt8) (w : World) (HS : Hid (Sb w A n c bs)) (hn : n ≤ 1099511627776) :
    Calls Try.prog 15 #[.slice A n c] w (ScanPost2 bs w) := by
  have hbs : bs.length ≤ 1099511627776 := by have := HS.out.1; omega
  refine (callsIn_wide (n := 6)).1 ?_
  refine callsIn_of_wp_marks Try.func15 rfl trivial ?_ rfl
  simp only [Try.ntmps15, List.size_toArray, List.length_cons, List.length_nil, Nat.reduceAdd, Nat.reduceSub, Array.replicate_succ, Array.replicate_zero, List.push_toArray, List.append_toArray, List.nil_append, List.cons_append]
  gi_wp2_with (refine ⟨trivial, ?_⟩; gi_at_call 42; refine (records_in _ _ _ _ _).mono ?_; rintro e w' ⟨rfl, rfl⟩)
  obtain ⟨W0, hW0⟩ : ∃ W0, ((w.alloc (.cells #[.slice none 0 0] 27)).alloc (.cells #[.int .i64 0] 3)).alloc (.cells #[.slice A n c] 23) = W0 := ⟨_, rfl⟩
  have hsz : W0.heap.size = w.heap.size + 3 := by rw [← hW0]; simp
  have hI0 : ScanI w [] bs W0 := by
    rw [← hW0]
    refine ⟨fun _ h => absurd h (by simp), ⟨.slice none 0 0, Blk.alloc (Blk.alloc (Blk.new _ _ _) _) _, LsOwn.nil _ _⟩, ?_, ⟨A, n, c, ?_, HS.out⟩, (((Below.refl _ w).alloc (Nat.le_refl _) _).alloc (by simp) _).alloc (by simp; omega) _⟩
    · have := Blk.alloc (Blk.new (w.alloc (.cells #[.slice none 0 0] 27)) 3 #[.int .i64 0]) (.cells #[.slice A n c] 23)
      rw [World.size_alloc] at this
      exact this
    · have := Blk.new ((w.alloc (.cells #[.slice none 0 0] 27)).alloc (.cells #[.int .i64 0] 3)) 23 #[.slice A n c]
      rw [World.size_alloc, World.size_alloc] at this
      exact this
  rw [hW0]
  have HSZ := Lib.hid hsz
  clear hsz hW0
  refine range_state (β := List Bz × List UInt8) (α := Bz × Nat) rfl (by decide) (gf := 63) (lb := #[.pointer (some ⟨w.heap.size + 2, 0, none⟩)]) rfl trivial (enters_of Try.func63 (by kernel_rfl) rfl)
      (encs := fun x : Bz × Nat => #[Value.slice x.1.A x.1.n x.1.c, .int .i64 (x.2 : Int)]) (fun _ => rfl)
      (fun s W => ScanI w s.1 s.2 W) (fun s x W => ScanI w s.1 s.2 W ∧ x.1.ok W ∧ x.1.low w.heap.size ∧ s.1.length ≤ bs.length ∧ x.2 ≤ bs.length ∧ x.2 = (frameB (s.1.length : Nat) x.1.bs).length ∧ (framesB 0 (bsOf s.1)).length + x.2 ≤ bs.length) (fun s x => (s.1 ++ [x.1], s.2))
      (fun _ _ _ => False) ([], bs) (fun s => bs = framesB 0 (bsOf s.1) ++ s.2 ∧ FirstIs (s.1.length : Nat) s.2 none)
      (scan_state w bs hbs _ _)
      (fun s A B row hs hg hr => hs.own (by have := HSZ.out; omega) hg hr) ?hIy
      (fun c s A B row hs hg hr => hs)
      hI0
      (fun x => { tmps := #[.slice A n c, undef, .slice none 0 0, .int .i64 0, .pointer (some ⟨w.heap.size, 0, none⟩), .pointer (some ⟨w.heap.size + 1, 0, none⟩), .slice x.1.A x.1.n x.1.c, .int .i64 (x.2 : Int), .slice A n c, .func (.func 63) #[] #[.pointer (some ⟨w.heap.size + 2, 0, none⟩)], .slice x.1.A x.1.n x.1.c, .int .i64 (x.2 : Int), undef, undef, undef, undef, undef, undef, undef, undef, undef], defers := [] }) ?assign ?body ?done ?stop
  case hIy =>
    rintro x s W W' row ⟨h1, h2, h3⟩ hg hr
    refine ⟨h1.own (by have := HSZ.out; omega) hg hr, h2.mod (F := fun b => row = some b) (Mod.of_grown hg (fun g e => .inl e)) (fun b e ht => ?_), h3⟩
    obtain ⟨-, o, h4, h5⟩ := hr b e
    obtain ⟨cs, fr, h6⟩ := ht
    rw [h4] at h6
    injection h6 with h6
    subst h6
    cases h5
  case assign =>
    intro l x W K hK
    gi_wp2
    exact hK
  case body =>
    rintro l ⟨L, r⟩ ⟨z, m⟩ W ⟨hI, hz, hzl, hL, hm, hm2, hm3⟩
    dsimp only at hI hz hzl hL hm hm2 hm3 ⊢
    obtain ⟨h0, ⟨v, h1, h2⟩, h3, h4, h5⟩ := hI
    have hL2 : L.length < 1099511627776 := by
      have := framesB_len (bsOf L) 0
      rw [bsOf_length] at this
      have := frameB_pos (L.length : Nat) z.bs
      omega
    obtain ⟨g, cap, w1, hrun, hown, hg, hgo⟩ := h2.snoc (ty := 27) z hz hL2 (by have := h1.lt; have := h3.lt; obtain ⟨_, _, _, h4, _⟩ := h4; have := h4.lt; omega)
    have hvb : ∀ b, v.ownBlock = some b → w.heap.size + 3 ≤ b := fun b e => (h2.1.lt b e).1
    have m1 : Mod (fun b => v.ownBlock = some b) W w1 := Mod.of_grown hg (fun b e => .inl e)
    have hc0 : W.cell? ⟨w.heap.size, 0, none⟩ = some v := by simpa using h1.cell 0
    have hk1 : Blk w1 w.heap.size 27 #[v] := m1.blk h1 (fun e => by have := hvb _ e; omega)
    have hk3 := m1.blk h3 (fun e => by have := hvb _ e; omega)
    have hd0 : w1.cell? ⟨w.heap.size, 0, none⟩ = some v := by simpa using hk1.cell 0
    have hd1 : w1.frozen? ⟨w.heap.size, 0, none⟩ = false := hk1.frozen 0
    have he0 : w1.cell? ⟨w.heap.size + 1, 0, none⟩ = some (.int .i64 (((framesB 0 (bsOf L)).length : Nat) : Int)) := by simpa using hk3.cell 0
    have he1 : w1.frozen? ⟨w.heap.size + 1, 0, none⟩ = false := hk3.frozen 0
    have HK1 := Lib.hid hk1
    have HK3 := Lib.hid hk3
    have HRUN := Lib.hid hrun
    have HT := Lib.hid (show (framesB 0 (bsOf (L ++ [z]))).length = (framesB 0 (bsOf L)).length + m by rw [bsOf_snoc, framesB_snoc, List.length_append, Nat.zero_add, bsOf_length, ← hm2])
    have HFIN : Hid (ScanI w (L ++ [z]) r ((w1.setCell ⟨w.heap.size, 0, none⟩ (.slice (some ⟨g, 0, none⟩) (L.length + 1) cap)).setCell ⟨w.heap.size + 1, 0, none⟩ (.int .i64 (((framesB 0 (bsOf L)).length : Nat) + (m : Int)))) ∧ KeepsFrom W0.heap.size W ((w1.setCell ⟨w.heap.size, 0, none⟩ (.slice (some ⟨g, 0, none⟩) (L.length + 1) cap)).setCell ⟨w.heap.size + 1, 0, none⟩ (.int .i64 (((framesB 0 (bsOf L)).length : Nat) + (m : Int))))) := Lib.hid (by
      obtain ⟨A', n', c', h4, h6⟩ := h4
      have hk4 := m1.blk h4 (fun e => by have := hvb _ e; omega)
      have ma : Mod (fun b => b = w.heap.size ∨ b = w.heap.size + 1) w1 ((w1.setCell ⟨w.heap.size, 0, none⟩ (.slice (some ⟨g, 0, none⟩) (L.length + 1) cap)).setCell ⟨w.heap.size + 1, 0, none⟩ (.int .i64 (((framesB 0 (bsOf L)).length : Nat) + (m : Int)))) :=
        ((Mod.refl (fun b => b = w.heap.size ∨ b = w.heap.size + 1) w1).set (p := ⟨w.heap.size, 0, none⟩) (.inl (.inl rfl)) _).set (p := ⟨w.heap.size + 1, 0, none⟩) (.inl (.inr rfl)) _
      have hbw := m1.below h5 h5.size (fun b e => by have := hvb b e; omega)
      refine ⟨⟨(fun y hy => (List.mem_append.1 hy).elim (h0 y) (fun hy => by simp at hy; subst hy; exact hzl)), ⟨_, ?_, hown.mod ma (fun b e hf => ?_) (fun b hf ht => ?_)⟩, ?_, ⟨A', n', c', ma.blk hk4 (by omega), h6⟩, ma.below hbw hbw.size (fun b hf => by omega)⟩, ?_⟩
      · exact Blk.far (by simpa using hk1.set_ 0 (.slice (some ⟨g, 0, none⟩) (L.length + 1) cap)) (by simp) _
      · have := (hown.1.lt b e).1
        omega
      · rcases hf with rfl | rfl
        · exact absurd (Ty.unique hk1.ty ht) (by decide)
        · exact absurd (Ty.unique hk3.ty ht) (by decide)
      · rw [HT.out]
        have := Blk.set_ (Blk.far (p := ⟨w.heap.size, 0, none⟩) hk3 (by simp) (.slice (some ⟨g, 0, none⟩) (L.length + 1) cap)) 0 (.int .i64 (((framesB 0 (bsOf L)).length : Nat) + (m : Int)))
        simpa using this
      · refine KeepsFrom.trans (Y := w1) ⟨hg.size, fun k o _ hk ho => ?_⟩ (((KeepsOthers.setCell _ _ _).trans (KeepsOthers.setCell _ _ _)).from _)
        refine (hg.block k (Array.getElem?_eq_some_iff.1 hk).1 (fun e => ?_)).trans hk
        obtain ⟨cs, fr, hh⟩ := Ty.of_own h2.1 e.symm
        rw [hh] at hk
        injection hk with hk
        subst hk
        cases ho)
    clear hown hg hgo m1 hk1 hk3 h1 h2 h3 h4 h5 hrun hm2 h0 hzl
    gi_wp2_with (gi_at_builtin; refine wpListIn_append_run HRUN.out rfl rfl rfl rfl ?_)
    exact ⟨HFIN.out.2, HFIN.out.1⟩
  case done =>
    rintro D ⟨L, r⟩ W hD ⟨hfin1, hfin2⟩ hI hK
    dsimp only at hfin1 hfin2 hI
    obtain ⟨h0, ⟨v, h1, h2⟩, h3, h4, h5⟩ := hI
    have hc0 : W.cell? ⟨w.heap.size, 0, none⟩ = some v := by simpa using h1.cell 0
    have he0 : W.cell? ⟨w.heap.size + 1, 0, none⟩ = some (.int .i64 (((framesB 0 (bsOf L)).length : Nat) : Int)) := by simpa using h3.cell 0
    have HF1 := Lib.hid hfin1
    have HF2 := Lib.hid hfin2
    clear hfin1 hfin2
    gi_wp2
    gi_region
    gi_wp2
    have hK2 : (W.drew).heap[D]? = some (.deferred (some [])) := hK
    refine ⟨by simp, .inl ⟨_, _, rfl, run_takeDeferred hK2, ?_⟩⟩
    have hm : Mod (fun b => b = D) W ((W.drew).putObj D (.deferred none)) := by
      have := grownBy_putObj' W.drew D (.deferred none)
      exact ⟨this.os, this.tape, this.output, this.size, fun k hk hne => this.block k hk (fun e => hne (by injection e))⟩
    have hD2 : ∀ t, ¬ Ty W D t := by
      rintro t ⟨cs, fr, hh⟩
      rw [hK] at hh
      cases hh
    refine ⟨.tuple #[v, .int .i64 (((framesB 0 (bsOf L)).length : Nat) : Int)], by simp [results, Try.f15, go_sem], v, L, _, rfl, LsOwn.lower (h2.mod hm (fun g e hf => ?_) (fun b hf => by rw [hf]; exact hD2 _)) (by omega), ⟨rfl, r, HF1.out, by rw [bsOf_length]; exact HF2.out⟩, hm.below h5 h5.size (fun b hf => by have := HSZ.out; omega), h0⟩
    rw [hf] at e
    exact hD2 _ (Ty.of_own h2.1 e)
  case stop =>
    rintro D c pre W _ h _
    exact h.elim
theorem scan_any (A : Option Addr) (n c : Nat) (bs : List UInt8) (w : World) (HS : Hid (Sb w A n c bs)) (hn : n ≤ 1099511627776) :
    Calls Try.prog 15 #[.slice A n c] w (ScanPost bs w) :=
  (scan2_any A n c bs w HS hn).mono fun _ _ ⟨v, L, m, h1, h2, h3, h4, _⟩ => ⟨v, L, m, h1, h2, h3, h4⟩
end Go.Proofs.Ytldmokjpfnakkaa
