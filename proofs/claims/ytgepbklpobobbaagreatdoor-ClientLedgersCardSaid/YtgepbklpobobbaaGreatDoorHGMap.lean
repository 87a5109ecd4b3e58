/- Maps known by their entries, over any keys that the library calls keyed (structs too): lookup, store, delete, a range while the map stays. -/
import Derived.Test.YtgepbklpobobbaaGreatDoorHG13
import Derived.Maps.Keyed

namespace Go.Proofs.YtgepbklpobobbaaGreatDoor
open Go.RowKit
open Go.ChangeMaps (setBlock)

/-- How the keys of a map are told: enc k is the value of the key k. -/
structure KeyEnc (P : Program) (kt : TypeId) {K : Type} (enc : K → Value) : Prop where
  keyed : Go.Maps.Keyed P kt
  lit : ∀ k, ∃ l, keyOf P kt (enc k) = some l
  inj : ∀ {a b : K}, enc a = enc b → a = b
section
variable {K : Type} {enc : K → Value}
def GMap (enc : K → Value) (w : World) (b : Nat) (es : List (K × Value)) : Prop :=
  ∃ (l : List MapEntry) (clock : Nat), w.heap[b]? = some (.map l.toArray clock) ∧ l.map (fun e => (e.key, e.val)) = es.map (fun p => (enc p.1, p.2)) ∧ (es.map Prod.fst).Nodup ∧ (l.map (·.born)).Nodup ∧ ∀ e ∈ l, e.born < clock
theorem GMap.block {w : World} {b : Nat} {es : List (K × Value)} (h : GMap enc w b es) : ∃ l c, w.heap[b]? = some (.map l c) := by
  obtain ⟨l, c, h, _⟩ := h
  exact ⟨_, _, h⟩
theorem GMap.lt {w : World} {b : Nat} {es : List (K × Value)} (h : GMap enc w b es) : b < w.heap.size := by
  obtain ⟨l, c, h⟩ := h.block
  exact (Array.getElem?_eq_some_iff.1 h).1
theorem GMap.not_ty {w : World} {b : Nat} {es : List (K × Value)} {t : TypeId} (h : GMap enc w b es) : ¬ Ty w b t := by
  obtain ⟨l, c, h⟩ := h.block
  exact fun k => k.not_map h
theorem GMap.keep {w w' : World} {b : Nat} {es : List (K × Value)} (h : GMap enc w b es) (hb : w'.heap[b]? = w.heap[b]?) : GMap enc w' b es := by
  obtain ⟨l, c, h, r⟩ := h
  exact ⟨l, c, hb.trans h, r⟩
theorem GMap.mod {F : Nat → Prop} {w w' : World} {b : Nat} {es : List (K × Value)} (h : GMap enc w b es) (m : Mod F w w') (hF : ¬ F b) : GMap enc w' b es := h.keep (m.block b h.lt hF)
theorem GMap.all {w w' : World} {b : Nat} {es : List (K × Value)} (h : GMap enc w b es) (m : Below w.heap.size w w') : GMap enc w' b es := h.keep (m.block b h.lt)
theorem GMap.new (enc : K → Value) (w : World) : GMap enc (w.alloc (.map #[] 0)) w.heap.size [] := ⟨[], 0, by rw [World.alloc_heap_new], rfl, by simp, by simp, by simp⟩
theorem GMap.nodup {w : World} {b : Nat} {es : List (K × Value)} (h : GMap enc w b es) : (es.map Prod.fst).Nodup := by
  obtain ⟨l, c, _, _, h, _⟩ := h
  exact h
section
/-- An iterator at block r over the map at block mb: 'left k': the entry at k is still to come. -/
def GIter (enc : K → Value) (w : World) (mb r : Nat) (es : List (K × Value)) (left : K → Bool) : Prop :=
  ∃ (l : List MapEntry) (clock : Nat) (seen : Array Nat), w.heap[mb]? = some (.map l.toArray clock) ∧ l.map (fun e => (e.key, e.val)) = es.map (fun p => (enc p.1, p.2)) ∧ (es.map Prod.fst).Nodup ∧ (l.map (·.born)).Nodup ∧ (∀ e ∈ l, e.born < clock) ∧
    w.heap[r]? = some (.mapIter (some mb) clock seen clock) ∧ ∀ e ∈ l, ∀ k, e.key = enc k → left k = !seen.contains e.born
variable {P : Program} {w : World} {es : List (K × Value)} {w' : World} {mb r : Nat} {left : K → Bool}
theorem GIter.keep (h : GIter enc w mb r es left) (h1 : w'.heap[mb]? = w.heap[mb]?) (h2 : w'.heap[r]? = w.heap[r]?) : GIter enc w' mb r es left := by
  obtain ⟨l, clock, seen, a1, a2, a3, a4, a5, a6, a7⟩ := h
  exact ⟨l, clock, seen, h1.trans a1, a2, a3, a4, a5, h2.trans a6, a7⟩
theorem GIter.lt (h : GIter enc w mb r es left) : mb < w.heap.size ∧ r < w.heap.size := by
  obtain ⟨l, clock, seen, a1, a2, a3, a4, a5, a6, a7⟩ := h
  exact ⟨(Array.getElem?_eq_some_iff.1 a1).1, (Array.getElem?_eq_some_iff.1 a6).1⟩
theorem GIter.not_ty {t : TypeId} (h : GIter enc w mb r es left) : ¬ Ty w r t := by
  obtain ⟨l, clock, seen, a1, a2, a3, a4, a5, a6, a7⟩ := h
  rintro ⟨cs, fr, h⟩
  rw [h] at a6
  cases a6
theorem GIter.ne (h : GIter enc w mb r es left) : r ≠ mb := by
  obtain ⟨l, clock, seen, a1, a2, a3, a4, a5, a6, a7⟩ := h
  rintro rfl
  rw [a1] at a6
  cases a6
theorem GIter.not_map {c : Nat} {l : Array MapEntry} (h : GIter enc w mb r es left) : w.heap[r]? ≠ some (.map l c) := by
  obtain ⟨l, clock, seen, a1, a2, a3, a4, a5, a6, a7⟩ := h
  rw [a6]
  simp
theorem GIter.mod {F : Nat → Prop} (h : GIter enc w mb r es left) (m : Mod F w w') (h1 : ¬ F mb) (h2 : ¬ F r) : GIter enc w' mb r es left := h.keep (m.block mb h.lt.1 h1) (m.block r h.lt.2 h2)
theorem GMap.iter (h : GMap enc w mb es) {t kt e : TypeId} (ht : P.underlying t = some (.map kt e)) : ∃ w', (Instr.range t (.map (some mb))).run P w = .ok (.pointer (some ⟨w.heap.size, 0, none⟩)) w' ∧ GIter enc w' mb w.heap.size es (fun _ => true) ∧ Below w.heap.size w w' := by
  obtain ⟨l, clock, h1, h2, h3, h4, h5⟩ := h
  have hlt := (Array.getElem?_eq_some_iff.1 h1).1
  refine ⟨_, run_range_map w t kt e mb _ clock ht h1, ⟨l, clock, #[], (Below.heap_alloc w _ mb hlt).trans h1, h2, h3, h4, h5, World.alloc_heap_new w _, fun _ _ _ _ => by simp⟩, (Below.refl _ w).alloc (Nat.le_refl _) _⟩
theorem gkey_of {l : List MapEntry} (h2 : l.map (fun e => (e.key, e.val)) = es.map (fun p => (enc p.1, p.2))) {e : MapEntry} (he : e ∈ l) : ∃ k v, e.key = enc k ∧ e.val = v ∧ (k, v) ∈ es := by
  have : (e.key, e.val) ∈ l.map (fun e => (e.key, e.val)) := List.mem_map.2 ⟨e, he, rfl⟩
  rw [h2] at this
  obtain ⟨p, hp, heq⟩ := List.mem_map.1 this
  injection heq with e1 e2
  exact ⟨p.1, p.2, e1.symm, e2.symm, hp⟩
theorem gkeys_inj (hinj : ∀ {a b : K}, enc a = enc b → a = b) (l : List MapEntry) : ∀ {es : List (K × Value)} (_ : l.map (fun e => (e.key, e.val)) = es.map (fun p => (enc p.1, p.2))) (_ : (es.map Prod.fst).Nodup) {a b : MapEntry} (_ : a ∈ l) (_ : b ∈ l) (_ : a.key = b.key), a = b := by
  induction l with
  | nil => intro es _ _ a b ha; exact absurd ha (by simp)
  | cons e l ih =>
    intro es h2 h3 a b ha hb he
    rcases es with _ | ⟨p, es⟩
    · simp at h2
    · simp only [List.map_cons, List.cons.injEq, Prod.mk.injEq] at h2
      obtain ⟨⟨hk, hv⟩, hr⟩ := h2
      rw [List.map_cons, List.nodup_cons] at h3
      have hno : ∀ x ∈ l, x.key ≠ e.key := by
        intro x hx hxe
        obtain ⟨k, v, h4, -, h5⟩ := gkey_of hr hx
        rw [h4, hk] at hxe
        have hxe := hinj hxe
        exact h3.1 (List.mem_map.2 ⟨(k, v), h5, hxe⟩)
      rcases List.mem_cons.1 ha with rfl | ha'
      · rcases List.mem_cons.1 hb with rfl | hb
        · rfl
        · exact absurd he.symm (hno b hb)
      · rcases List.mem_cons.1 hb with rfl | hb
        · exact absurd he (hno a ha')
        · exact ih hr h3.2 ha' hb he
end
/-- Where an entry stands. -/
theorem genc_at {l : List MapEntry} {es : List (K × Value)} (hl : l.map (fun e => (e.key, e.val)) = es.map (fun p => (enc p.1, p.2))) {j : Nat} {e : MapEntry} (hj : l[j]? = some e) : ∃ p, es[j]? = some p ∧ e.key = enc p.1 ∧ e.val = p.2 := by
  have := congrArg (fun q => q[j]?) hl
  simp only [List.getElem?_map, hj, Option.map_some] at this
  cases hp : es[j]? with
  | none => rw [hp] at this; cases this
  | some p =>
    rw [hp] at this
    simp only [Option.map_some, Option.some.injEq, Prod.mk.injEq] at this
    exact ⟨p, rfl, this.1, this.2⟩
theorem gcheck {P : Program} {kt : TypeId} (KE : KeyEnc P kt enc) (em : Bool) (k : K) (w : World) : (Instr.checkKey em 10000 kt (enc k)).run P w = .ok () w := by
  obtain ⟨lit, hlit⟩ := KE.lit k
  exact KE.keyed.check w em hlit
theorem gstays {P : Program} {kt : TypeId} (KE : KeyEnc P kt enc) (k : K) (w : World) : (Instr.keyThatStays (enc k) (enc k)).run P w = .ok (enc k) w := by
  obtain ⟨lit, hlit⟩ := KE.lit k
  exact KE.keyed.stays w hlit
variable [DecidableEq K]
def glk : List (K × Value) → K → Option Value
  | [], _ => none
  | p :: es, k => if p.1 = k then some p.2 else glk es k
def gput : List (K × Value) → K → Value → List (K × Value)
  | [], k, v => [(k, v)]
  | p :: es, k, v => if p.1 = k then (k, v) :: es else p :: gput es k v
def gdel (es : List (K × Value)) (k : K) : List (K × Value) := es.filter fun p => decide (p.1 ≠ k)
theorem glk_cons_ne {p : K × Value} {es : List (K × Value)} {k : K} (h : p.1 ≠ k) : glk (p :: es) k = glk es k := by
  conv => lhs; unfold glk
  rw [if_neg h]
theorem gput_keys (es : List (K × Value)) (k : K) (v : Value) : (gput es k v).map Prod.fst = if k ∈ es.map Prod.fst then es.map Prod.fst else es.map Prod.fst ++ [k] := by
  induction es with
  | nil => simp [gput]
  | cons p es ih =>
    unfold gput
    by_cases h : p.1 = k
    · simp [h]
    · rw [if_neg h]
      simp only [List.map_cons, ih, List.mem_cons]
      have h' : ¬ k = p.1 := fun e => h e.symm
      by_cases hm : k ∈ es.map Prod.fst
      · rw [if_pos hm, if_pos (.inr hm)]
      · rw [if_neg hm, if_neg (by rintro (e | e); exact h' e; exact hm e)]
        rfl
theorem gput_nodup {es : List (K × Value)} (h : (es.map Prod.fst).Nodup) (k : K) (v : Value) : ((gput es k v).map Prod.fst).Nodup := by
  rw [gput_keys]
  split
  · exact h
  · rename_i hk
    rw [List.nodup_append]
    refine ⟨h, by simp, fun a ha b hb => ?_⟩
    rw [List.mem_singleton] at hb
    subst hb
    rintro rfl
    exact hk ha
theorem glk_put (es : List (K × Value)) (k j : K) (v : Value) : glk (gput es k v) j = if j = k then some v else glk es j := by
  induction es with
  | nil =>
    by_cases h : j = k
    · subst h; simp [gput, glk]
    · have : ¬ k = j := fun e => h e.symm
      simp [gput, glk, h, this]
  | cons p es ih =>
    unfold gput
    by_cases h : p.1 = k
    · rw [if_pos h]
      by_cases hj : j = k
      · subst hj; simp [glk]
      · have h1 : ¬ k = j := fun e => hj e.symm
        have h2 : ¬ p.1 = j := by rw [h]; exact h1
        simp [glk, hj, h1, h2]
    · rw [if_neg h]
      by_cases hj : p.1 = j
      · have : ¬ j = k := by rw [← hj]; exact h
        simp [glk, hj, this]
      · simp [glk, hj, ih]
theorem glk_none {es : List (K × Value)} {k : K} : glk es k = none ↔ ∀ p ∈ es, p.1 ≠ k := by
  induction es with
  | nil => simp [glk]
  | cons p es ih =>
    unfold glk
    by_cases h : p.1 = k
    · simp [h]
    · simp [h, ih]
theorem glk_of_mem {es : List (K × Value)} (hn : (es.map Prod.fst).Nodup) {k : K} {v : Value} (h : (k, v) ∈ es) : glk es k = some v := by
  induction es with
  | nil => simp at h
  | cons p es ih =>
    rw [List.map_cons, List.nodup_cons] at hn
    unfold glk
    rcases List.mem_cons.1 h with rfl | h
    · simp
    · rw [if_neg (fun e => hn.1 (by rw [e]; exact List.mem_map.2 ⟨(k, v), h, rfl⟩))]
      exact ih hn.2 h
theorem glk_del {es : List (K × Value)} (k j : K) : glk (gdel es k) j = if j = k then none else glk es j := by
  induction es with
  | nil => simp [gdel, glk]
  | cons p es ih =>
    unfold gdel at ih ⊢
    by_cases h : p.1 = k
    · rw [List.filter_cons_of_neg (by simp [h]), ih]
      by_cases hj : j = k
      · simp [hj]
      · have : ¬ p.1 = j := by rw [h]; exact fun e => hj e.symm
        simp [glk, hj, this]
    · rw [List.filter_cons_of_pos (by simp [h])]
      by_cases hj : p.1 = j
      · have : ¬ j = k := by rw [← hj]; exact h
        simp [glk, hj, this]
      · rw [glk_cons_ne hj, glk_cons_ne hj]
        exact ih
theorem gput_at : ∀ {es : List (K × Value)} {j : Nat} {k : K} {v : Value}, (es.map Prod.fst).Nodup → es[j]? = some (k, v) → ∀ u, gput es k u = es.set j (k, u)
  | [], _, _, _, _, h, _ => by simp at h
  | p :: es, 0, k, v, _, h, u => by
    simp only [List.getElem?_cons_zero, Option.some.injEq] at h
    subst h
    simp [gput]
  | p :: es, j + 1, k, v, hn, h, u => by
    rw [List.map_cons, List.nodup_cons] at hn
    have h' : es[j]? = some (k, v) := by simpa using h
    have hne : p.1 ≠ k := fun e => hn.1 (by rw [e]; exact List.mem_map.2 ⟨(k, v), List.mem_of_getElem? h', rfl⟩)
    unfold gput
    rw [if_neg hne, gput_at hn.2 h' u]
    rfl
theorem gput_new {es : List (K × Value)} {k : K} (h : ∀ p ∈ es, p.1 ≠ k) (v : Value) : gput es k v = es ++ [(k, v)] := by
  induction es with
  | nil => rfl
  | cons p es ih =>
    unfold gput
    rw [if_neg (h p (by simp)), ih (fun q hq => h q (by simp [hq]))]
    rfl
variable {P : Program} {w : World} {b : Nat} {es : List (K × Value)} {t kt e : TypeId}
theorem gfind (KE : KeyEnc P kt enc) (l : List MapEntry) (hl : l.map (fun e => (e.key, e.val)) = es.map (fun p => (enc p.1, p.2))) (hn : (es.map Prod.fst).Nodup) (k : K) (w : World) :
    ((Instr.findKey kt (enc k) l).run P w = .ok none w ∧ glk es k = none) ∨ ∃ j v, (Instr.findKey kt (enc k) l).run P w = .ok (some (j, v)) w ∧ glk es k = some v ∧ es[j]? = some (k, v) := by
  obtain ⟨lit, hlit⟩ := KE.lit k
  rcases KE.keyed.find w hlit l (fun e he => by
    obtain ⟨j, hj, rfl⟩ := List.getElem_of_mem he
    obtain ⟨p, -, h2, -⟩ := genc_at hl (List.getElem?_eq_getElem hj)
    rw [h2]
    exact KE.lit p.1) with ⟨h1, h2⟩ | ⟨j, e, h1, h2, h3⟩
  · left
    refine ⟨h1, glk_none.2 fun p hp hk => ?_⟩
    have hm : (enc p.1, p.2) ∈ l.map (fun e => (e.key, e.val)) := by rw [hl]; exact List.mem_map.2 ⟨p, hp, rfl⟩
    obtain ⟨e, he, heq⟩ := List.mem_map.1 hm
    injection heq with e1 _
    exact h2 e he (by rw [e1, hk])
  · right
    obtain ⟨p, hp, h4, h5⟩ := genc_at hl h2
    have hk : p.1 = k := KE.inj (h4.symm.trans h3)
    have hp' : es[j]? = some (k, e.val) := by rw [hp, ← hk, h5]
    exact ⟨j, e.val, h1, glk_of_mem hn (List.mem_of_getElem? hp'), hp'⟩
theorem GMap.look (h : GMap enc w b es) (KE : KeyEnc P kt enc) (ht : P.underlying t = some (.map kt e)) {i : TypeInfo} {z : Value} (hi : P.info? e = some i) (hz : i.zero = some z) (k : K) :
    (Instr.lookup t (.map (some b)) (enc k) false).run P w = .ok ((glk es k).getD z) w := by
  obtain ⟨l, c, hb, hl, hn, _⟩ := h
  rcases gfind KE l hl hn k w with ⟨h1, h2⟩ | ⟨j, v, h1, h2, h3⟩
  · simp [Instr.lookup, run_underlying ht, MapKept.run_getObj_map hb, gcheck KE, h1, h2, zeroValue, typeInfo, hi, hz, Result.andThen]
  · simp [Instr.lookup, run_underlying ht, MapKept.run_getObj_map hb, gcheck KE, h1, h2, Result.andThen]
theorem GMap.look2 (h : GMap enc w b es) (KE : KeyEnc P kt enc) (ht : P.underlying t = some (.map kt e)) {i : TypeInfo} {z : Value} (hi : P.info? e = some i) (hz : i.zero = some z) (k : K) :
    (Instr.lookup t (.map (some b)) (enc k) true).run P w = .ok (.tuple #[(glk es k).getD z, .bool (glk es k).isSome]) w := by
  obtain ⟨l, c, hb, hl, hn, _⟩ := h
  rcases gfind KE l hl hn k w with ⟨h1, h2⟩ | ⟨j, v, h1, h2, h3⟩
  · simp [Instr.lookup, run_underlying ht, MapKept.run_getObj_map hb, gcheck KE, h1, h2, zeroValue, typeInfo, hi, hz, Result.andThen]
  · simp [Instr.lookup, run_underlying ht, MapKept.run_getObj_map hb, gcheck KE, h1, h2, Result.andThen]
theorem GMap.store (h : GMap enc w b es) (KE : KeyEnc P kt enc) (ht : P.underlying t = some (.map kt e)) (k : K) (v : Value) :
    ∃ w', (Instr.mapUpdate t (.map (some b)) (enc k) v).run P w = .ok () w' ∧ GMap enc w' b (gput es k v) ∧ w.grownBy w' (some b) ∧ w'.heap.size = w.heap.size := by
  obtain ⟨l, c, hb, hl, hn, hbn, hbc⟩ := h
  have hlt := (Array.getElem?_eq_some_iff.1 hb).1
  have hlen : l.length = es.length := by have := congrArg List.length hl; simpa using this
  rcases gfind KE l hl hn k w with ⟨h1, h2⟩ | ⟨j, v0, h1, h2, h3⟩
  · refine ⟨_, ?_, ⟨l ++ [⟨enc k, v, c⟩], c + 1, heap_set_same hlt, ?_, gput_nodup hn k v, ?_, ?_⟩, grown_setObj w b _, by simp⟩
    · simp [Instr.mapUpdate, run_underlying ht, MapKept.run_getObj_map hb, gcheck KE, h1, MapKept.run_setObj_map _ hb, Result.andThen]
    · rw [gput_new (glk_none.1 h2)]
      simp [hl]
    · rw [List.map_append, List.nodup_append]
      refine ⟨hbn, by simp, fun a ha b hb => ?_⟩
      rw [List.map_singleton, List.mem_singleton] at hb
      obtain ⟨x, hx, rfl⟩ := List.mem_map.1 ha
      have := hbc x hx
      rw [hb]
      show x.born ≠ c
      omega
    · intro x hx
      rw [List.mem_append, List.mem_singleton] at hx
      rcases hx with hx | rfl
      · have := hbc x hx; omega
      · simp
  · have hj : j < l.length := by
      have := (List.getElem?_eq_some_iff.1 h3).1
      omega
    have hjk : l[j].key = enc k := by
      obtain ⟨p, hp, h4, _⟩ := genc_at hl (List.getElem?_eq_getElem hj)
      rw [h3] at hp
      injection hp with hp
      subst hp
      exact h4
    refine ⟨_, ?_, ⟨l.set j { l[j] with key := enc k, val := v }, c, heap_set_same hlt, ?_, gput_nodup hn k v, ?_, ?_⟩, grown_setObj w b _, by simp⟩
    · have hm : l.modify j (fun e => { e with key := enc k, val := v }) = l.set j { l[j] with key := enc k, val := v } := by
        apply List.ext_getElem?
        intro i
        rw [List.getElem?_modify, List.getElem?_set]
        split
        · rename_i hi
          subst hi
          simp [hj]
        · simp
      simp [Instr.mapUpdate, run_underlying ht, MapKept.run_getObj_map hb, gcheck KE, h1, hj, hjk, gstays KE, MapKept.run_setObj_map _ hb, Result.andThen, hm]
    · rw [gput_at hn h3 v, List.map_set, List.map_set, hl]
    · rw [List.map_set]
      have : (l.map (·.born)).set j l[j].born = l.map (·.born) := by
        apply List.ext_getElem?
        intro i
        rw [List.getElem?_set]
        split
        · rename_i hi
          subst hi
          simp [hj]
        · rfl
      rw [this]
      exact hbn
    · intro x hx
      rcases List.mem_or_eq_of_mem_set hx with hx | rfl
      · exact hbc x hx
      · exact hbc l[j] (List.getElem_mem hj)
theorem gdel_at {es : List (K × Value)} (hn : (es.map Prod.fst).Nodup) {j : Nat} {k : K} {v : Value} (h : es[j]? = some (k, v)) : gdel es k = es.eraseIdx j := by
  induction es generalizing j with
  | nil => simp at h
  | cons p es ih =>
    rw [List.map_cons, List.nodup_cons] at hn
    unfold gdel at ih ⊢
    rcases j with _ | j
    · simp only [List.getElem?_cons_zero, Option.some.injEq] at h
      subst h
      rw [List.filter_cons_of_neg (by simp)]
      show _ = es
      rw [List.filter_eq_self]
      intro q hq
      simp only [decide_not, Bool.not_eq_true', decide_eq_false_iff_not]
      exact fun e => hn.1 (by rw [← e]; exact List.mem_map.2 ⟨q, hq, rfl⟩)
    · have h' : es[j]? = some (k, v) := by simpa using h
      have hne : p.1 ≠ k := fun e => hn.1 (by rw [e]; exact List.mem_map.2 ⟨(k, v), List.mem_of_getElem? h', rfl⟩)
      rw [List.filter_cons_of_pos (by simp [hne]), ih hn.2 h']
      rfl
theorem GMap.del {ty : TypeId} (h : GMap enc w b es) (KE : KeyEnc P kt enc) (ht : P.underlying t = some (.map kt e)) (k : K) :
    ∃ w', (Builtin.delete_ #[t, kt] ty #[.map (some b), enc k]).run P w = .ok (.tuple #[]) w' ∧ GMap enc w' b (gdel es k) ∧ w.grownBy w' (some b) ∧ w'.heap.size = w.heap.size := by
  obtain ⟨l, c, hb, hl, hn, hbn, hbc⟩ := h
  have hlt := (Array.getElem?_eq_some_iff.1 hb).1
  have hlen : l.length = es.length := by have := congrArg List.length hl; simpa using this
  rcases gfind KE l hl hn k w with ⟨h1, h2⟩ | ⟨j, v0, h1, h2, h3⟩
  · have hd : gdel es k = es := by
      unfold gdel
      rw [List.filter_eq_self]
      intro q hq
      simpa using glk_none.1 h2 q hq
    refine ⟨_, ?_, ⟨l, c, heap_set_same hlt, by rw [hd]; exact hl, by rw [hd]; exact hn, hbn, hbc⟩, grown_setObj w b _, by simp⟩
    simp [Builtin.delete_, run_underlying ht, MapKept.run_getObj_map hb, gcheck KE, h1, MapKept.run_setObj_map _ hb, Result.andThen]
  · have hj : j < l.length := by
      have := (List.getElem?_eq_some_iff.1 h3).1
      omega
    have hsub : (l.eraseIdx j).Sublist l := List.eraseIdx_sublist _ _
    have hd := gdel_at hn h3
    refine ⟨_, ?_, ⟨l.eraseIdx j, c, heap_set_same hlt, ?_, ?_, ?_, ?_⟩, grown_setObj w b _, by simp⟩
    · simp [Builtin.delete_, run_underlying ht, MapKept.run_getObj_map hb, gcheck KE, h1, MapKept.run_setObj_map _ hb, Result.andThen]
    · rw [map_erase, hl, ← map_erase, hd]
    · rw [hd, map_erase]
      exact hn.eraseIdx _
    · rw [map_erase]
      exact hbn.eraseIdx _
    · exact fun e he => hbc e (hsub.subset he)
variable {w' : World} {mb r : Nat} {left : K → Bool}
theorem GIter.next (hinj : ∀ {a b : K}, enc a = enc b → a = b) (h : GIter enc w mb r es left) :
    ((∀ p ∈ es, left p.1 = false) ∧ ∀ ty, (Instr.next (.pointer (some ⟨r, 0, none⟩)) false ty).run P w = .ok (.tuple #[.bool false]) w) ∨
    ∃ k v w', (k, v) ∈ es ∧ left k = true ∧ (∀ ty, (Instr.next (.pointer (some ⟨r, 0, none⟩)) false ty).run P w = .ok (.tuple #[.bool true, enc k, v]) w') ∧ (Instr.entry (.pointer (some ⟨r, 0, none⟩))).run P w' = .ok (.tuple #[enc k, v]) w' ∧
      GIter enc w' mb r es (fun j => left j && !(decide (j = k))) ∧ w.grownBy w' (some r) ∧ w'.heap.size = w.heap.size ∧ iterLeft w' mb r < iterLeft w mb r := by
  obtain ⟨l, clock, seen, a1, a2, a3, a4, a5, a6, a7⟩ := h
  have hmr : mb ≠ r := by
    rintro rfl
    rw [a1] at a6
    cases a6
  have hrl := (Array.getElem?_eq_some_iff.1 a6).1
  rcases run_next_at (P := P) w 0 r mb clock clock seen l.toArray clock a6 a1 (by simpa using a5) (Nat.le_refl _) with ⟨h0, -⟩ | ⟨e, he, w1, hw1, hrun⟩
  · left
    refine ⟨fun p hp => ?_, fun ty => ?_⟩
    · have hm : (enc p.1, p.2) ∈ es.map (fun p => (enc p.1, p.2)) := List.mem_map.2 ⟨p, hp, rfl⟩
      rw [← a2] at hm
      obtain ⟨e, he, heq⟩ := List.mem_map.1 hm
      injection heq with e1 _
      rw [a7 e he p.1 e1]
      cases hc : seen.contains e.born with
      | true => rfl
      | false =>
        have : e ∈ leftOf l.toArray seen := by
          unfold leftOf
          rw [Array.mem_filter]
          exact ⟨by simpa using he, by rw [hc]; rfl⟩
        have : 0 < (leftOf l.toArray seen).size := Array.size_pos_of_mem this
        omega
    · rcases run_next_at (P := P) w ty r mb clock clock seen l.toArray clock a6 a1 (by simpa using a5) (Nat.le_refl _) with ⟨_, h1⟩ | ⟨e, he, _⟩
      · exact h1
      · have : 0 < (leftOf l.toArray seen).size := Array.size_pos_of_mem (by simpa using he)
        omega
  · right
    obtain ⟨hel, hec⟩ := mem_left he
    have hel' : e ∈ l := by simpa using hel
    obtain ⟨k, v, hk, hv, hkv⟩ := gkey_of a2 hel'
    have hW : w1.heap = w.heap := by rcases hw1 with rfl | rfl <;> rfl
    have hmb : (setBlock w1 r (.mapIter (some mb) clock (seen.push e.born) clock)).heap[mb]? = some (.map l.toArray clock) := by
      show (w1.heap.setIfInBounds r _)[mb]? = _
      rw [hW, Array.getElem?_setIfInBounds_ne (Ne.symm hmr)]
      exact a1
    have hr' : (setBlock w1 r (.mapIter (some mb) clock (seen.push e.born) clock)).heap[r]? = some (.mapIter (some mb) clock (seen.push e.born) clock) := by
      show (w1.heap.setIfInBounds r _)[r]? = _
      rw [hW]
      simp [hrl]
    rw [hk, hv] at hrun
    refine ⟨k, v, _, hkv, ?_, fun ty => hrun, ?_, ⟨l, clock, seen.push e.born, hmb, a2, a3, a4, a5, hr', ?_⟩, ?_, ?_, ?_⟩
    · rw [a7 e hel' k hk, hec]
      rfl
    · have := run_entry_at (P := P) _ r mb clock seen l.toArray clock e hr' hmb hel (by simpa using a4)
      rw [hk, hv] at this
      exact this
    · intro e2 he2 k2 hk2
      have hcp : (seen.push e.born).contains e2.born = (seen.contains e2.born || (e2.born == e.born)) := by
        rw [Bool.eq_iff_iff]
        simp
      rw [hcp, Bool.not_or, ← a7 e2 he2 k2 hk2]
      show (left k2 && !(decide (k2 = k))) = _
      by_cases hee : e2 = e
      · subst hee
        rw [hk] at hk2
        have hk2 := hinj hk2
        simp [hk2]
      · have h1 : decide (k2 = k) = false := by
          rw [decide_eq_false_iff_not]
          rintro rfl
          exact hee (gkeys_inj hinj l a2 a3 he2 hel' (hk2.trans hk.symm))
        have h2 : (e2.born == e.born) = false := by
          rw [beq_eq_false_iff_ne]
          intro h
          exact hee (borns_inj l a4 he2 hel' h)
        rw [h1, h2]
    · have hos : w1.os = w.os ∧ w1.tape = w.tape ∧ w1.output = w.output := by rcases hw1 with rfl | rfl <;> exact ⟨rfl, rfl, rfl⟩
      refine ⟨hos.1, hos.2.1, hos.2.2, ?_, fun j _ hne => ?_⟩
      · show w.heap.size ≤ (w1.heap.setIfInBounds r _).size
        rw [hW]
        simp
      · show (w1.heap.setIfInBounds r _)[j]? = _
        rw [hW, Array.getElem?_setIfInBounds_ne (fun e => hne (by rw [e]))]
    · show (w1.heap.setIfInBounds r _).size = _
      rw [hW]
      simp
    · unfold iterLeft
      rw [hmb, hr', a1, a6]
      exact left_shrinks _ _ _ he
end
end Go.Proofs.YtgepbklpobobbaaGreatDoor
