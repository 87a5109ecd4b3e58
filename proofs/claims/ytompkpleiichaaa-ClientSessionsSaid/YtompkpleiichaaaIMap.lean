/- Maps from ints, known by their entries: lookup, store, make. -/
import Derived.Test.YtompkpleiichaaaFrame
import Derived.Maps.RangeRun
import Derived.MapKept
import Derived.Carry
namespace Go.Proofs.Ytompkpleiichaaa
open Go.RowKit

/-- Block b is a map; its entries are es, in the order in which they came. -/
def IMap (w : World) (b : Nat) (es : List (Int × Value)) : Prop :=
  ∃ (l : List MapEntry) (clock : Nat), w.heap[b]? = some (.map l.toArray clock) ∧ l.map (fun e => (e.key, e.val)) = es.map (fun p => (Value.int .i64 p.1, p.2)) ∧ (es.map Prod.fst).Nodup ∧ (l.map (·.born)).Nodup ∧ ∀ e ∈ l, e.born < clock
def put : List (Int × Value) → Int → Value → List (Int × Value)
  | [], k, v => [(k, v)]
  | p :: es, k, v => if p.1 = k then (k, v) :: es else p :: put es k v
theorem IMap.block {w : World} {b : Nat} {es : List (Int × Value)} (h : IMap w b es) : ∃ l c, w.heap[b]? = some (.map l c) := by
  obtain ⟨l, c, h, _⟩ := h
  exact ⟨_, _, h⟩
theorem IMap.lt {w : World} {b : Nat} {es : List (Int × Value)} (h : IMap w b es) : b < w.heap.size := by
  obtain ⟨l, c, h⟩ := h.block
  exact (Array.getElem?_eq_some_iff.1 h).1
theorem IMap.not_ty {w : World} {b : Nat} {es : List (Int × Value)} {t : TypeId} (h : IMap w b es) : ¬ Ty w b t := by
  obtain ⟨l, c, h⟩ := h.block
  exact fun k => k.not_map h
theorem IMap.keep {w w' : World} {b : Nat} {es : List (Int × Value)} (h : IMap w b es) (hb : w'.heap[b]? = w.heap[b]?) : IMap w' b es := by
  obtain ⟨l, c, h, r⟩ := h
  exact ⟨l, c, hb.trans h, r⟩
theorem IMap.mod {F : Nat → Prop} {w w' : World} {b : Nat} {es : List (Int × Value)} (h : IMap w b es) (m : Mod F w w') (hF : ¬ F b) : IMap w' b es := h.keep (m.block b h.lt hF)
theorem IMap.all {w w' : World} {b : Nat} {es : List (Int × Value)} (h : IMap w b es) (m : Below w.heap.size w w') : IMap w' b es := h.keep (m.block b h.lt)
theorem IMap.new (w : World) : IMap (w.alloc (.map #[] 0)) w.heap.size [] := ⟨[], 0, by rw [World.alloc_heap_new], rfl, by simp, by simp, by simp⟩

theorem put_keys (es : List (Int × Value)) (k : Int) (v : Value) : (put es k v).map Prod.fst = if k ∈ es.map Prod.fst then es.map Prod.fst else es.map Prod.fst ++ [k] := by
  induction es with
  | nil => simp [put]
  | cons p es ih =>
    unfold put
    by_cases h : p.1 = k
    · simp [h]
    · rw [if_neg h]
      simp only [List.map_cons, ih, List.mem_cons]
      have h' : ¬ k = p.1 := fun e => h e.symm
      by_cases hm : k ∈ es.map Prod.fst
      · rw [if_pos hm, if_pos (.inr hm)]
      · rw [if_neg hm, if_neg (by rintro (e | e); exact h' e; exact hm e)]
        rfl
theorem put_nodup {es : List (Int × Value)} (h : (es.map Prod.fst).Nodup) (k : Int) (v : Value) : ((put es k v).map Prod.fst).Nodup := by
  rw [put_keys]
  split
  · exact h
  · rename_i hk
    rw [List.nodup_append]
    refine ⟨h, by simp, fun a ha b hb => ?_⟩
    rw [List.mem_singleton] at hb
    subst hb
    rintro rfl
    exact hk ha
theorem lookup_put (es : List (Int × Value)) (k j : Int) (v : Value) : (put es k v).lookup j = if j = k then some v else es.lookup j := by
  induction es with
  | nil =>
    by_cases h : j = k
    · simp [put, h]
    · simp [put, List.lookup, h, beq_false_of_ne h]
  | cons p es ih =>
    unfold put
    by_cases h : p.1 = k
    · rw [if_pos h]
      by_cases hj : j = k
      · simp [List.lookup, hj]
      · simp [List.lookup, hj, h, beq_false_of_ne hj]
    · rw [if_neg h]
      by_cases hj : j = p.1
      · simp [List.lookup, hj, h]
      · simp [List.lookup, beq_false_of_ne hj, ih]

theorem imap_find (l : List MapEntry) : ∀ (es : List (Int × Value)) (_ : l.map (fun e => (e.key, e.val)) = es.map (fun p => (Value.int .i64 p.1, p.2))) (k : Int) (i : Nat),
    (es.lookup k = none ∧ Instr.findNow (.int .i64) (.int .i64 k) l i = some none) ∨
    ∃ j v, es.lookup k = some v ∧ (∀ u, put es k u = es.set j (k, u)) ∧ j < es.length ∧ es[j]? = some (k, v) ∧ Instr.findNow (.int .i64) (.int .i64 k) l i = some (some (i + j, v)) := by
  induction l with
  | nil =>
    intro es h k i
    have : es = [] := by simpa using h.symm
    subst this
    exact .inl ⟨rfl, rfl⟩
  | cons e l ih =>
    intro es h k i
    rcases es with _ | ⟨p, es⟩
    · simp at h
    · simp only [List.map_cons, List.cons.injEq, Prod.mk.injEq] at h
      obtain ⟨⟨hk, hv⟩, hr⟩ := h
      have hs : Instr.sameNow (.int .i64) (.int .i64 k) e.key = some (k == p.1) := by rw [hk]; simp [Instr.sameNow]
      by_cases hkp : k = p.1
      · right
        have hs' : Instr.sameNow (.int .i64) (.int .i64 k) e.key = some true := by rw [hs, hkp]; simp
        refine ⟨0, p.2, by simp [List.lookup, hkp], fun u => by simp [put, hkp], by simp, by rw [hkp]; rfl, ?_⟩
        unfold Instr.findNow
        rw [hs']
        simp [hv]
      · have hs' : Instr.sameNow (.int .i64) (.int .i64 k) e.key = some false := by rw [hs]; simp [hkp]
        have hl : (p :: es).lookup k = es.lookup k := by simp [List.lookup, beq_false_of_ne hkp]
        have hf : Instr.findNow (.int .i64) (.int .i64 k) (e :: l) i = Instr.findNow (.int .i64) (.int .i64 k) l (i + 1) := by
          conv => lhs; unfold Instr.findNow
          rw [hs']
        rw [hl, hf]
        rcases ih es hr k (i + 1) with ⟨h1, h2⟩ | ⟨j, v, h1, h0, h2, h3, h4⟩
        · exact .inl ⟨h1, h2⟩
        · refine .inr ⟨j + 1, v, h1, fun u => ?_, by simp; omega, by simpa using h3, by rw [h4]; congr 2; simp; omega⟩
          unfold put
          rw [if_neg (fun e => hkp e.symm), h0 u]
          rfl

section
variable {P : Program} {w : World} {b : Nat} {es : List (Int × Value)} {t kt e : TypeId}
theorem run_findKey (hk : P.underlying kt = some (.int .i64)) (l : List MapEntry) (k : Int) (r : Option (Nat × Value)) (hf : Instr.findNow (.int .i64) (.int .i64 k) l 0 = some r) (w : World) : (Instr.findKey kt (.int .i64 k) l).run P w = .ok r w := by
  simp [Instr.findKey, run_underlying hk, hf]
theorem run_checkKey (hk : P.underlying kt = some (.int .i64)) (em : Bool) (k : Int) (w : World) : (Instr.checkKey em 10000 kt (.int .i64 k)).run P w = .ok () w := by
  have h : ∀ n : Nat, (Instr.checkKey em (n + 1) kt (.int .i64 k)).run P w = .ok () w := fun n => by simp [Instr.checkKey, run_underlying hk]
  exact h 9999
theorem IMap.look (h : IMap w b es) (ht : P.underlying t = some (.map kt e)) (hk : P.underlying kt = some (.int .i64)) {i : TypeInfo} {z : Value} (hi : P.info? e = some i) (hz : i.zero = some z) (k : Int) :
    (Instr.lookup t (.map (some b)) (.int .i64 k) false).run P w = .ok ((es.lookup k).getD z) w := by
  obtain ⟨l, c, hb, hl, _⟩ := h
  rcases imap_find l es hl k 0 with ⟨h1, h2⟩ | ⟨j, v, h1, _, h2, h3, h4⟩
  · simp [Instr.lookup, run_underlying ht, MapKept.run_getObj_map hb, run_checkKey hk, run_findKey hk l k _ h2, h1, zeroValue, typeInfo, hi, hz, Result.andThen]
  · simp [Instr.lookup, run_underlying ht, MapKept.run_getObj_map hb, run_checkKey hk, run_findKey hk l k _ h4, h1, Result.andThen]
theorem IMap.look2 (h : IMap w b es) (ht : P.underlying t = some (.map kt e)) (hk : P.underlying kt = some (.int .i64)) {i : TypeInfo} {z : Value} (hi : P.info? e = some i) (hz : i.zero = some z) (k : Int) :
    (Instr.lookup t (.map (some b)) (.int .i64 k) true).run P w = .ok (.tuple #[(es.lookup k).getD z, .bool (es.lookup k).isSome]) w := by
  obtain ⟨l, c, hb, hl, _⟩ := h
  rcases imap_find l es hl k 0 with ⟨h1, h2⟩ | ⟨j, v, h1, _, h2, h3, h4⟩
  · simp [Instr.lookup, run_underlying ht, MapKept.run_getObj_map hb, run_checkKey hk, run_findKey hk l k _ h2, h1, zeroValue, typeInfo, hi, hz, Result.andThen]
  · simp [Instr.lookup, run_underlying ht, MapKept.run_getObj_map hb, run_checkKey hk, run_findKey hk l k _ h4, h1, Result.andThen]
theorem heap_set_same {w : World} {b : Nat} {o : Obj} (h : b < w.heap.size) : ({ w with heap := w.heap.setIfInBounds b o } : World).heap[b]? = some o := by simp [h]
theorem grown_setObj (w : World) (b : Nat) (o : Obj) : w.grownBy { w with heap := w.heap.setIfInBounds b o } (some b) :=
  ⟨rfl, rfl, rfl, by simp, fun k _ hne => by
    have : b ≠ k := fun e => hne (by rw [e])
    simp [this]⟩
theorem IMap.store (h : IMap w b es) (ht : P.underlying t = some (.map kt e)) (hk : P.underlying kt = some (.int .i64)) (k : Int) (v : Value) :
    ∃ w', (Instr.mapUpdate t (.map (some b)) (.int .i64 k) v).run P w = .ok () w' ∧ IMap w' b (put es k v) ∧ w.grownBy w' (some b) ∧ w'.heap.size = w.heap.size := by
  obtain ⟨l, c, hb, hl, hn, hbn, hbc⟩ := h
  have hlt := (Array.getElem?_eq_some_iff.1 hb).1
  have hlen : l.length = es.length := by have := congrArg List.length hl; simpa using this
  rcases imap_find l es hl k 0 with ⟨h1, h2⟩ | ⟨j, v0, h1, h0, h2, h3, h4⟩
  · refine ⟨_, ?_, ⟨l ++ [⟨.int .i64 k, v, c⟩], c + 1, heap_set_same hlt, ?_, put_nodup hn k v, ?_, ?_⟩, grown_setObj w b _, by simp⟩
    · simp [Instr.mapUpdate, run_underlying ht, MapKept.run_getObj_map hb, run_checkKey hk, run_findKey hk l k _ h2, MapKept.run_setObj_map _ hb, Result.andThen]
    · have hp : put es k v = es ++ [(k, v)] := by
        have hno : ∀ p ∈ es, p.1 ≠ k := by
          intro p hp e
          have := List.lookup_eq_none_iff.1 h1 p hp
          simp [e] at this
        clear h1 h2 hl hn hlen
        induction es with
        | nil => rfl
        | cons p es ih =>
          unfold put
          rw [if_neg (hno p (by simp)), ih (fun q hq => hno q (by simp [hq]))]
          rfl
      rw [hp]
      simp [hl]
    · rw [List.map_append, List.nodup_append]
      refine ⟨hbn, by simp, fun a ha b hb => ?_⟩
      rw [List.map_singleton, List.mem_singleton] at hb
      obtain ⟨x, hx, rfl⟩ := List.mem_map.1 ha
      have := hbc x hx
      rw [hb]
      show x.born ≠ c
      omega
    · intro x hx
      rw [List.mem_append, List.mem_singleton] at hx
      rcases hx with hx | rfl
      · have := hbc x hx; omega
      · simp
  · have hj : j < l.length := by omega
    have hjk : l[j].key = .int .i64 k := by
      have := congrArg (fun q => q[j]?) hl
      simp [hj, h3] at this
      exact this.1
    refine ⟨_, ?_, ⟨l.set j { l[j] with key := .int .i64 k, val := v }, c, heap_set_same hlt, ?_, put_nodup hn k v, ?_, ?_⟩, grown_setObj w b _, by simp⟩
    · have hm : l.modify j (fun e => { e with key := .int .i64 k, val := v }) = l.set j { l[j] with key := .int .i64 k, val := v } := by
        apply List.ext_getElem?
        intro i
        rw [List.getElem?_modify, List.getElem?_set]
        split
        · rename_i hi
          subst hi
          simp [hj]
        · simp
      simp [Instr.mapUpdate, run_underlying ht, MapKept.run_getObj_map hb, run_checkKey hk, run_findKey hk l k _ h4, Instr.keyThatStays, hj, hjk, Instr.sameBits, MapKept.run_setObj_map _ hb, Result.andThen, hm]
    · rw [h0 v, List.map_set, List.map_set, hl]
    · rw [List.map_set]
      have : (l.map (·.born)).set j l[j].born = l.map (·.born) := by
        apply List.ext_getElem?
        intro i
        rw [List.getElem?_set]
        split
        · rename_i hi
          subst hi
          simp [hj]
        · rfl
      rw [this]
      exact hbn
    · intro x hx
      rcases List.mem_or_eq_of_mem_set hx with hx | rfl
      · exact hbc x hx
      · exact hbc l[j] (List.getElem_mem hj)
end
end Go.Proofs.Ytompkpleiichaaa
