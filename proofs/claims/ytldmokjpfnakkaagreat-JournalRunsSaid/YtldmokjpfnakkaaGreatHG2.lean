/- A range over a map from ints that stays as it is while the rounds write elsewhere. -/
import Derived.Test.YtldmokjpfnakkaaGreatHG1
import Derived.Maps.RangeRun
import Derived.Deep.RegionLaw
import Derived.Test.YtldmokjpfnakkaaGreatProg
import Derived.Test.YtldmokjpfnakkaaGreatHMem
import Derived.Lib.Hide
import Derived.WalkKit
import Derived.WalkSpells
import Derived.WalkLawsBesides
import Derived.Deep.QuietTactic
import Derived.BigQuiet

namespace Go.Proofs.YtldmokjpfnakkaaGreat
open Go.RowKit
open Go.ChangeMaps (setBlock)

/-- An iterator at block r over the map at block mb: 'left k': the entry at k is still to come. -/
def IIter (w : World) (mb r : Nat) (es : List (Int × Value)) (left : Int → Bool) : Prop :=
  ∃ (l : List MapEntry) (clock : Nat) (seen : Array Nat), w.heap[mb]? = some (.map l.toArray clock) ∧ l.map (fun e => (e.key, e.val)) = es.map (fun p => (Value.int .i64 p.1, p.2)) ∧ (es.map Prod.fst).Nodup ∧ (l.map (·.born)).Nodup ∧ (∀ e ∈ l, e.born < clock) ∧
    w.heap[r]? = some (.mapIter (some mb) clock seen clock) ∧ ∀ e ∈ l, ∀ k, e.key = .int .i64 k → left k = !seen.contains e.born
/-- How many entries are to come. -/
def iterLeft (w : World) (mb r : Nat) : Nat :=
  match w.heap[mb]?, w.heap[r]? with
  | some (.map es _), some (.mapIter _ _ seen _) => (leftOf es seen).size
  | _, _ => 0
section
variable {P : Program} {w w' : World} {mb r : Nat} {es : List (Int × Value)} {left : Int → Bool}
theorem IIter.imap (h : IIter w mb r es left) : IMap w mb es := by
  obtain ⟨l, clock, seen, h1, h2, h3, h4, h5, -⟩ := h
  exact ⟨l, clock, h1, h2, h3, h4, h5⟩
theorem IIter.keep (h : IIter w mb r es left) (h1 : w'.heap[mb]? = w.heap[mb]?) (h2 : w'.heap[r]? = w.heap[r]?) : IIter w' mb r es left := by
  obtain ⟨l, clock, seen, a1, a2, a3, a4, a5, a6, a7⟩ := h
  exact ⟨l, clock, seen, h1.trans a1, a2, a3, a4, a5, h2.trans a6, a7⟩
theorem IIter.lt (h : IIter w mb r es left) : mb < w.heap.size ∧ r < w.heap.size := by
  obtain ⟨l, clock, seen, a1, a2, a3, a4, a5, a6, a7⟩ := h
  exact ⟨(Array.getElem?_eq_some_iff.1 a1).1, (Array.getElem?_eq_some_iff.1 a6).1⟩
theorem IIter.not_ty {t : TypeId} (h : IIter w mb r es left) : ¬ Ty w r t := by
  obtain ⟨l, clock, seen, a1, a2, a3, a4, a5, a6, a7⟩ := h
  rintro ⟨cs, fr, h⟩
  rw [h] at a6
  cases a6
theorem IIter.ne (h : IIter w mb r es left) : r ≠ mb := by
  obtain ⟨l, clock, seen, a1, a2, a3, a4, a5, a6, a7⟩ := h
  rintro rfl
  rw [a1] at a6
  cases a6
theorem IIter.mod {F : Nat → Prop} (h : IIter w mb r es left) (m : Mod F w w') (h1 : ¬ F mb) (h2 : ¬ F r) : IIter w' mb r es left := h.keep (m.block mb h.lt.1 h1) (m.block r h.lt.2 h2)
theorem IMap.iter (h : IMap w mb es) {t kt e : TypeId} (ht : P.underlying t = some (.map kt e)) : ∃ w', (Instr.range t (.map (some mb))).run P w = .ok (.pointer (some ⟨w.heap.size, 0, none⟩)) w' ∧ IIter w' mb w.heap.size es (fun _ => true) ∧ Below w.heap.size w w' := by
  obtain ⟨l, clock, h1, h2, h3, h4, h5⟩ := h
  have hlt := (Array.getElem?_eq_some_iff.1 h1).1
  refine ⟨_, run_range_map w t kt e mb _ clock ht h1, ⟨l, clock, #[], (Below.heap_alloc w _ mb hlt).trans h1, h2, h3, h4, h5, World.alloc_heap_new w _, fun _ _ _ _ => by simp⟩, (Below.refl _ w).alloc (Nat.le_refl _) _⟩
theorem key_of {l : List MapEntry} (h2 : l.map (fun e => (e.key, e.val)) = es.map (fun p => (Value.int .i64 p.1, p.2))) {e : MapEntry} (he : e ∈ l) : ∃ k v, e.key = .int .i64 k ∧ e.val = v ∧ (k, v) ∈ es := by
  have : (e.key, e.val) ∈ l.map (fun e => (e.key, e.val)) := List.mem_map.2 ⟨e, he, rfl⟩
  rw [h2] at this
  obtain ⟨p, hp, heq⟩ := List.mem_map.1 this
  injection heq with e1 e2
  exact ⟨p.1, p.2, e1.symm, e2.symm, hp⟩
theorem keys_inj (l : List MapEntry) : ∀ {es : List (Int × Value)} (_ : l.map (fun e => (e.key, e.val)) = es.map (fun p => (Value.int .i64 p.1, p.2))) (_ : (es.map Prod.fst).Nodup) {a b : MapEntry} (_ : a ∈ l) (_ : b ∈ l) (_ : a.key = b.key), a = b := by
  induction l with
  | nil => intro es _ _ a b ha; exact absurd ha (by simp)
  | cons e l ih =>
    intro es h2 h3 a b ha hb he
    rcases es with _ | ⟨p, es⟩
    · simp at h2
    · simp only [List.map_cons, List.cons.injEq, Prod.mk.injEq] at h2
      obtain ⟨⟨hk, hv⟩, hr⟩ := h2
      rw [List.map_cons, List.nodup_cons] at h3
      have hno : ∀ x ∈ l, x.key ≠ e.key := by
        intro x hx hxe
        obtain ⟨k, v, h4, -, h5⟩ := key_of hr hx
        rw [h4, hk] at hxe
        injection hxe with _ hxe
        exact h3.1 (List.mem_map.2 ⟨(k, v), h5, hxe⟩)
      rcases List.mem_cons.1 ha with rfl | ha'
      · rcases List.mem_cons.1 hb with rfl | hb
        · rfl
        · exact absurd he.symm (hno b hb)
      · rcases List.mem_cons.1 hb with rfl | hb
        · exact absurd he (hno a ha')
        · exact ih hr h3.2 ha' hb he
theorem borns_inj (l : List MapEntry) : ∀ (_ : (l.map (·.born)).Nodup) {a b : MapEntry} (_ : a ∈ l) (_ : b ∈ l) (_ : a.born = b.born), a = b := by
  induction l with
  | nil => intro _ a b ha; exact absurd ha (by simp)
  | cons e l ih =>
    intro h3 a b ha hb he
    rw [List.map_cons, List.nodup_cons] at h3
    have hno : ∀ x ∈ l, x.born ≠ e.born := fun x hx hxe => h3.1 (List.mem_map.2 ⟨x, hx, hxe⟩)
    rcases List.mem_cons.1 ha with rfl | ha'
    · rcases List.mem_cons.1 hb with rfl | hb
      · rfl
      · exact absurd he.symm (hno b hb)
    · rcases List.mem_cons.1 hb with rfl | hb
      · exact absurd he (hno a ha')
      · exact ih h3.2 ha' hb he
theorem IIter.next (h : IIter w mb r es left) :
    ((∀ p ∈ es, left p.1 = false) ∧ ∀ ty, (Instr.next (.pointer (some ⟨r, 0, none⟩)) false ty).run P w = .ok (.tuple #[.bool false]) w) ∨
    ∃ k v w', (k, v) ∈ es ∧ left k = true ∧ (∀ ty, (Instr.next (.pointer (some ⟨r, 0, none⟩)) false ty).run P w = .ok (.tuple #[.bool true, .int .i64 k, v]) w') ∧ (Instr.entry (.pointer (some ⟨r, 0, none⟩))).run P w' = .ok (.tuple #[.int .i64 k, v]) w' ∧
      IIter w' mb r es (fun j => left j && !(j == k)) ∧ w.grownBy w' (some r) ∧ w'.heap.size = w.heap.size ∧ iterLeft w' mb r < iterLeft w mb r := by
  obtain ⟨l, clock, seen, a1, a2, a3, a4, a5, a6, a7⟩ := h
  have hmr : mb ≠ r := by
    rintro rfl
    rw [a1] at a6
    cases a6
  have hrl := (Array.getElem?_eq_some_iff.1 a6).1
  rcases run_next_at (P := P) w 0 r mb clock clock seen l.toArray clock a6 a1 (by simpa using a5) (Nat.le_refl _) with ⟨h0, -⟩ | ⟨e, he, w1, hw1, hrun⟩
  · left
    refine ⟨fun p hp => ?_, fun ty => ?_⟩
    · have hm : (Value.int .i64 p.1, p.2) ∈ es.map (fun p => (Value.int .i64 p.1, p.2)) := List.mem_map.2 ⟨p, hp, rfl⟩
      rw [← a2] at hm
      obtain ⟨e, he, heq⟩ := List.mem_map.1 hm
      injection heq with e1 _
      rw [a7 e he p.1 e1]
      cases hc : seen.contains e.born with
      | true => rfl
      | false =>
        have : e ∈ leftOf l.toArray seen := by
          unfold leftOf
          rw [Array.mem_filter]
          exact ⟨by simpa using he, by rw [hc]; rfl⟩
        have : 0 < (leftOf l.toArray seen).size := Array.size_pos_of_mem this
        omega
    · rcases run_next_at (P := P) w ty r mb clock clock seen l.toArray clock a6 a1 (by simpa using a5) (Nat.le_refl _) with ⟨_, h1⟩ | ⟨e, he, _⟩
      · exact h1
      · have : 0 < (leftOf l.toArray seen).size := Array.size_pos_of_mem (by simpa using he)
        omega
  · right
    obtain ⟨hel, hec⟩ := mem_left he
    have hel' : e ∈ l := by simpa using hel
    obtain ⟨k, v, hk, hv, hkv⟩ := key_of a2 hel'
    have hW : w1.heap = w.heap := by rcases hw1 with rfl | rfl <;> rfl
    have hmb : (setBlock w1 r (.mapIter (some mb) clock (seen.push e.born) clock)).heap[mb]? = some (.map l.toArray clock) := by
      show (w1.heap.setIfInBounds r _)[mb]? = _
      rw [hW, Array.getElem?_setIfInBounds_ne (Ne.symm hmr)]
      exact a1
    have hr' : (setBlock w1 r (.mapIter (some mb) clock (seen.push e.born) clock)).heap[r]? = some (.mapIter (some mb) clock (seen.push e.born) clock) := by
      show (w1.heap.setIfInBounds r _)[r]? = _
      rw [hW]
      simp [hrl]
    rw [hk, hv] at hrun
    refine ⟨k, v, _, hkv, ?_, fun ty => hrun, ?_, ⟨l, clock, seen.push e.born, hmb, a2, a3, a4, a5, hr', ?_⟩, ?_, ?_, ?_⟩
    · rw [a7 e hel' k hk, hec]
      rfl
    · have := run_entry_at (P := P) _ r mb clock seen l.toArray clock e hr' hmb hel (by simpa using a4)
      rw [hk, hv] at this
      exact this
    · intro e2 he2 k2 hk2
      have hcp : (seen.push e.born).contains e2.born = (seen.contains e2.born || (e2.born == e.born)) := by
        rw [Bool.eq_iff_iff]
        simp
      rw [hcp, Bool.not_or, ← a7 e2 he2 k2 hk2]
      show (left k2 && !(k2 == k)) = _
      by_cases hee : e2 = e
      · subst hee
        rw [hk] at hk2
        injection hk2 with _ hk2
        simp [hk2]
      · have h1 : (k2 == k) = false := by
          rw [beq_eq_false_iff_ne]
          rintro rfl
          exact hee (keys_inj l a2 a3 he2 hel' (hk2.trans hk.symm))
        have h2 : (e2.born == e.born) = false := by
          rw [beq_eq_false_iff_ne]
          intro h
          exact hee (borns_inj l a4 he2 hel' h)
        rw [h1, h2]
    · have hos : w1.os = w.os ∧ w1.tape = w.tape ∧ w1.output = w.output := by rcases hw1 with rfl | rfl <;> exact ⟨rfl, rfl, rfl⟩
      refine ⟨hos.1, hos.2.1, hos.2.2, ?_, fun j _ hne => ?_⟩
      · show w.heap.size ≤ (w1.heap.setIfInBounds r _).size
        rw [hW]
        simp
      · show (w1.heap.setIfInBounds r _)[j]? = _
        rw [hW, Array.getElem?_setIfInBounds_ne (fun e => hne (by rw [e]))]
    · show (w1.heap.setIfInBounds r _).size = _
      rw [hW]
      simp
    · unfold iterLeft
      rw [hmb, hr', a1, a6]
      exact left_shrinks _ _ _ he
end
end Go.Proofs.YtldmokjpfnakkaaGreat

/- append of one element (a struct or not) onto a row of the call's own, at a plain region's list and at a step of a region that draws. -/
namespace Go.Proofs.YtldmokjpfnakkaaGreat
open Go.RowKit

/-- t is the type of slices of e: size cells, so many bytes. -/
def SlT (P : Program) (t e : TypeId) (size bytes : Nat) : Prop :=
  ∃ i z, P.underlying t = some (.slice e) ∧ P.info? e = some i ∧ i.zero = some z ∧ i.size = size ∧ i.bytes = bytes ∧ z.cells.size = size ∧ 0 < size
theorem SlT.of {P : Program} {t e : TypeId} {size bytes : Nat} (hu : P.underlying t = some (.slice e)) (h : (P.info? e).bind (fun i => i.zero.map fun z => (i.size, i.bytes, z.cells.size)) = some (size, bytes, size)) (hs : 0 < size) : SlT P t e size bytes := by
  obtain ⟨i, hi, h⟩ := Option.bind_eq_some_iff.1 h
  obtain ⟨z, hz, h⟩ := Option.map_eq_some_iff.1 h
  simp only [Prod.mk.injEq] at h
  exact ⟨i, z, hu, hi, hz, h.1, h.2.1, h.2.2, hs⟩
section
variable {P : Program} {w : World} {base t e size bytes n : Nat} {v : Value} {xs : List Value}
theorem run_append1 {ty : TypeId} (hT : SlT P t e size bytes) (hown : w.ownsRow base e size v n xs) {gb : Nat} {cs : Array Value} (hsrc : Blk w gb e cs) (hcs : cs.size = size) (h1 : ∀ u ∈ cs.toList, u.oneCell' = true)
    (hn : n < 1099511627776) (hby : bytes ≤ 64) (hbase : base ≤ w.heap.size) :
    ∃ g cap w', (Builtin.append_ #[t, t] ty #[v, .slice (some ⟨gb, 0, none⟩) 1 1]).run P w = .ok (.slice (some ⟨g, 0, none⟩) (n + 1) cap) w' ∧ w'.ownsRow base e size (.slice (some ⟨g, 0, none⟩) (n + 1) cap) (n + 1) (xs ++ cs.toList) ∧
      w.grownBy w' v.ownBlock ∧ (some g = v.ownBlock ∨ g = w.heap.size) := by
  obtain ⟨i, z, ht, hi, hz, hs, hb, hzs, hsz⟩ := hT
  have hmul : (n + 1) * bytes ≤ 140737488355328 := Nat.le_trans (Nat.mul_le_mul (show n + 1 ≤ 1099511627776 by omega) hby) (by decide)
  obtain ⟨v', w', hrun, h2, h3, _, h5⟩ := run_append_own_at (P := P) w base t ty e i z size bytes ht hi hz hs hb hzs hsz v n xs hown ⟨gb, 0, none⟩ 1 1 cs.toList (by simpa using hcs)
      (fun j u hu => by
        have ea : (⟨gb, 0, none⟩ : Addr).add j = ⟨gb, j, none⟩ := by unfold Addr.add; split <;> simp_all
        rw [ea, Blk.cell hsrc j]
        simpa using hu)
      h1 (by unfold maxLen; omega) hmul hbase
  obtain ⟨g, cap, rfl⟩ := ownsRow_succ h2
  refine ⟨g, cap, w', hrun, h2, h3, ?_⟩
  rcases h5 with h5 | h5
  · exact .inl (by simpa [Value.ownBlock] using h5)
  · exact .inr (by simpa [Value.ownBlock] using h5)
theorem wpList_append1 {ops : Array Oper} {rest : List Oper} {o : Oper} {a : Act} {Q : Exit → Act → World → Prop} {s x : Operand} (hT : SlT P t e size bytes) (hgd : o.guard = none)
    (ho : o.op = .call { callee := .builtin .append, args := #[s, x], argTypes := #[t, t] }) (hs : a.eval s = v) (gb : Nat) (hx : a.eval x = .slice (some ⟨gb, 0, none⟩) 1 1)
    (hown : w.ownsRow base e size v n xs) (cs : Array Value) (hsrc : Blk w gb e cs) (hcs : cs.size = size) (h1 : ∀ u ∈ cs.toList, u.oneCell' = true) (hn : n < 1099511627776) (hby : bytes ≤ 64) (hbase : base ≤ w.heap.size)
    (hK : ∀ g cap w', w'.ownsRow base e size (.slice (some ⟨g, 0, none⟩) (n + 1) cap) (n + 1) (xs ++ cs.toList) → w.grownBy w' v.ownBlock → (some g = v.ownBlock ∨ g = w.heap.size) →
      wpList P ops Q rest (a.put o.dst (.slice (some ⟨g, 0, none⟩) (n + 1) cap)) w') : wpList P ops Q (o :: rest) a w := by
  obtain ⟨g, cap, w', hrun, h2, h3, h4⟩ := run_append1 (ty := o.type) hT hown hsrc hcs h1 hn hby hbase
  exact wpList_append_run hrun hgd ho hs hx (hK g cap w' h2 h3 h4)
theorem step_append1 {ops : Array Oper} {o : Oper} {a : Act} {K : Act → World → Prop} {Q : Exit → Act → World → Prop} {E : Prop} {s x : Operand} (hT : SlT P t e size bytes) (hgd : o.guard = none)
    (ho : o.op = .call { callee := .builtin .append, args := #[s, x], argTypes := #[t, t] }) (hs : a.eval s = v) (gb : Nat) (hx : a.eval x = .slice (some ⟨gb, 0, none⟩) 1 1)
    (hown : w.ownsRow base e size v n xs) (cs : Array Value) (hsrc : Blk w gb e cs) (hcs : cs.size = size) (h1 : ∀ u ∈ cs.toList, u.oneCell' = true) (hn : n < 1099511627776) (hby : bytes ≤ 64) (hbase : base ≤ w.heap.size)
    (hK : ∀ g cap w', w'.ownsRow base e size (.slice (some ⟨g, 0, none⟩) (n + 1) cap) (n + 1) (xs ++ cs.toList) → w.grownBy w' v.ownBlock → (some g = v.ownBlock ∨ g = w.heap.size) →
      K (a.put o.dst (.slice (some ⟨g, 0, none⟩) (n + 1) cap)) w') : if Region.wanted o (yielded ops a.tmps) = true then Oper.wp P o a w K Q else E := by
  obtain ⟨g, cap, w', hrun, h2, h3, h4⟩ := run_append1 (ty := o.type) hT hown hsrc hcs h1 hn hby hbase
  have hw : Region.wanted o (yielded ops a.tmps) = true := by simp [Region.wanted, hgd]
  rw [if_pos hw]
  unfold Oper.wp
  simp [execOp, ho, resolve, invoke, builtin, hs, hx, hrun, Result.andThen]
  exact hK g cap w' h2 h3 h4
end
end Go.Proofs.YtldmokjpfnakkaaGreat

/- The walks of the helpers of worldmintref01: Around, Ints, Few, Short, SameInts, SameBytes. -/
namespace Go.Proofs.YtldmokjpfnakkaaGreat
open Go.RowKit

/-- What Around returns. -/
def aroundI (n most : Int) : Int := (if n < 0 then -(n + 1) else n) % most

theorem aroundI_range (n most : Int) (h : 0 < most) : 0 ≤ aroundI n most ∧ aroundI n most < most := ⟨Int.emod_nonneg _ (by omega), Int.emod_lt_of_pos _ h⟩

set_option maxHeartbeats 400000 in
theorem around_any (n most : Int) (w : World) (h1 : -9223372036854775808 ≤ n) (h2 : n ≤ 9223372036854775807) (h3 : 0 < most) (h4 : most ≤ 9223372036854775807) :
    Calls Tryz.prog 4 #[.int .i64 n, .int .i64 most] w fun e w' => e = .returned (.int .i64 (aroundI n most)) ∧ w = w' := by
  by_cases h : n < 0
  · have HE := Lib.hid (show aroundI n most = (-(n + 1)).tmod most from by unfold aroundI; rw [if_pos h, Int.tmod_eq_emod_of_nonneg (by omega)])
    go_enter Tryz.func4, Tryz.ntmps4
    go_wp2
    go_ret
    rw [HE.out, Int.neg_tmod]
    exact ⟨rfl, rfl⟩
  · have HE := Lib.hid (show aroundI n most = n % most from by unfold aroundI; rw [if_neg h])
    go_enter Tryz.func4, Tryz.ntmps4
    go_wp2
    go_ret
    rw [HE.out]
    exact ⟨rfl, rfl⟩




/-- Two rows are alike. -/
def sameF (n m : Nat) (f g : Nat → Int) : Bool := decide (n = m ∧ ∀ j, j < n → f j = g j)

set_option maxHeartbeats 400000 in
theorem sameBytes_any (A A' : Option Addr) (n m c c' B : Nat) (f g : Nat → Int) (w : World) (hB : B ≤ w.heap.size) (hR : Rd w B A n (fun j => .int .u8 (f j))) (hR' : Rd w B A' m (fun j => .int .u8 (g j))) (hn : n ≤ 9223372036854775807) (hm : m ≤ 9223372036854775807) :
    Calls Tryz.prog 20 #[.slice A n c, .slice A' m c'] w fun e w' => e = .returned (.bool (sameF n m f g)) ∧ Below w.heap.size w w' := by
  by_cases hnm : n = m
  · obtain rfl := hnm
    go_enter Tryz.func20, Tryz.ntmps20
    go_wp2
    go_loopw [5] (fun i wr => ∃ k : Nat, k ≤ n ∧ i = .int .i64 (k : Int) ∧ Hid (∀ j, j < k → f j = g j) ∧ Below w.heap.size w wr) (fun i _ => n - (intOf i).toNat)
    case atStart => exact ⟨0, by omega, rfl, fun j hj => absurd hj (by omega), Below.refl _ _⟩
    case round =>
      obtain ⟨k, hk, rfl, hj, hb⟩ := hrel
      by_cases hlt : k < n
      · obtain ⟨b, off, rfl, hbB, hc⟩ := (hR.below hb hB).at_ hlt
        obtain ⟨b', off', rfl, hbB', hc'⟩ := (hR'.below hb hB).at_ hlt
        have hi0 : (0 : Int) ≤ (k : Int) := by omega
        have hi1 : (k : Int) < (n : Int) := by omega
        by_cases he : f k = g k
        · have hd : (f k != g k) = false := by simp [he]
          go_wp2
          go_quiet (fail)
          go_wp2
          exact ⟨⟨k + 1, by omega, by go_num, fun j hjk => by rcases (show j < k ∨ j = k by omega) with h | rfl; exact hj.out j h; exact he, below_drewN hb _⟩, by simp [intOf]; omega⟩
        · have hd : (f k != g k) = true := by simp [he]
          have HF := Lib.hid (show sameF n n f g = false from decide_eq_false (fun h => he (h.2 k hlt)))
          go_wp2
          go_quiet (fail)
          go_wp2
          go_ret
          rw [HF.out]
          exact ⟨rfl, below_drewN hb _⟩
      · have HF := Lib.hid (show sameF n n f g = true from decide_eq_true ⟨rfl, fun j hjn => hj.out j (by omega)⟩)
        go_wp2
        go_ret
        rw [HF.out]
        exact ⟨rfl, hb⟩
  · have HF := Lib.hid (show sameF n m f g = false from decide_eq_false (fun h => hnm h.1))
    have hd : ((n : Int) != (m : Int)) = true := by simp; omega
    go_enter Tryz.func20, Tryz.ntmps20
    go_wp2
    go_ret
    rw [HF.out]
    exact ⟨rfl, Below.refl _ _⟩







theorem sameBytes_list (A A' : Option Addr) (n m c c' : Nat) (xs ys : List UInt8) (w : World) (hx : Hid (xs.length = n)) (hy : Hid (ys.length = m)) (hR : Rd w w.heap.size A n (vByte xs)) (hR' : Rd w w.heap.size A' m (vByte ys)) (hn : n ≤ 9223372036854775807) (hm : m ≤ 9223372036854775807) :
    Calls Tryz.prog 20 #[.slice A n c, .slice A' m c'] w fun e w' => e = .returned (.bool (decide (xs = ys))) ∧ Below w.heap.size w w' := by
  refine (sameBytes_any A A' n m c c' w.heap.size (fun j => ((xs[j]?.getD 0).toNat : Nat)) (fun j => ((ys[j]?.getD 0).toNat : Nat)) w (Nat.le_refl _) hR hR' hn hm).mono ?_
  rintro e w' ⟨rfl, hb⟩
  refine ⟨?_, hb⟩
  congr 2
  unfold sameF
  rw [decide_eq_decide]
  have h1 := hx.out
  have h2 := hy.out
  constructor
  · rintro ⟨h, hj⟩
    refine List.ext_getElem (by omega) fun i hi hi' => ?_
    have := hj i (by omega)
    simp [hi, hi'] at this
    exact UInt8.toNat_inj.1 (by omega)
  · rintro rfl
    exact ⟨by omega, fun _ _ => rfl⟩
theorem sameBytes_true (A A' : Option Addr) (n m c c' : Nat) (xs ys : List UInt8) (w : World) (he : xs = ys) (hx : Hid (xs.length = n)) (hy : Hid (ys.length = m)) (hR : Rd w w.heap.size A n (vByte xs)) (hR' : Rd w w.heap.size A' m (vByte ys)) (hn : n ≤ 9223372036854775807) (hm : m ≤ 9223372036854775807) :
    Calls Tryz.prog 20 #[.slice A n c, .slice A' m c'] w fun e w' => e = .returned (.bool true) ∧ Below w.heap.size w w' :=
  (sameBytes_list A A' n m c c' xs ys w hx hy hR hR' hn hm).mono fun e w' ⟨h, hb⟩ => ⟨by rw [h, decide_eq_true he], hb⟩





theorem around_nat (n : Int) (m : Nat) (mi : Int) (w : World) (hmi : mi = (m : Int)) (h1 : -9223372036854775808 ≤ n) (h2 : n ≤ 9223372036854775807) (h3 : 0 < m) (h4 : m ≤ 9223372036854775807) :
    Calls Tryz.prog 4 #[.int .i64 n, .int .i64 mi] w fun e w' => ∃ k : Nat, e = .returned (.int .i64 (k : Int)) ∧ k < m ∧ Hid ((k : Int) = aroundI n m) ∧ w = w' := by
  subst hmi
  have hr := aroundI_range n m (by omega)
  refine (around_any n m w h1 h2 (by omega) (by omega)).mono ?_
  rintro e w' ⟨rfl, rfl⟩
  exact ⟨(aroundI n m).toNat, by rw [Int.toNat_of_nonneg hr.1], by omega, by show _ = _; omega, rfl⟩


end Go.Proofs.YtldmokjpfnakkaaGreat

/- Words for a slice value in a cell: the bytes, the integers that it reads as. -/
namespace Go.Proofs.YtldmokjpfnakkaaGreat
open Go.RowKit

/-- A slice value as a triple: where it lies, its length, its capacity. -/
abbrev Sl := Option Addr × Nat × Nat
def slV (s : Sl) : Value := .slice s.1 s.2.1 s.2.2
/-- The slice s reads as the bytes bs. -/
structure RowIs (w : World) (s : Sl) (bs : List UInt8) : Prop where
  len : bs.length = s.2.1
  cap : s.2.1 ≤ s.2.2
  max : s.2.2 ≤ 9223372036854775807
  rd : Rd w w.heap.size s.1 s.2.1 (vByte bs)
theorem RowIs.all {w w' : World} {s : Sl} {bs : List UInt8} (h : RowIs w s bs) (hb : Below w.heap.size w w') : RowIs w' s bs := ⟨h.len, h.cap, h.max, h.rd.all hb⟩
theorem RowIs.grown {w w' : World} {s : Sl} {bs : List UInt8} {row : Option Nat} (h : RowIs w s bs) (hg : w.grownBy w' row) (hne : ∀ b off, 0 < s.2.1 → s.1 = some ⟨b, off, none⟩ → some b ≠ row) : RowIs w' s bs := by
  refine ⟨h.len, h.cap, h.max, fun hn => ?_⟩
  obtain ⟨b, off, e, hb, hc⟩ := h.rd hn
  exact ⟨b, off, e, Nat.lt_of_lt_of_le hb hg.size, fun j hj => (World.cell?_of_block (w := w) (hg.block b hb (hne b off hn e))).trans (hc j hj)⟩

/-- The slice s reads as the bytes bs, in blocks below B. -/
structure BIn (w : World) (B : Nat) (s : Sl) (bs : List UInt8) : Prop where
  len : bs.length = s.2.1
  cap : s.2.1 ≤ s.2.2
  max : s.2.2 ≤ 9223372036854775807
  rd : Rd w B s.1 s.2.1 (vByte bs)
/-- The slice s reads as the integers xs, in blocks below B. -/
structure NIn (w : World) (B : Nat) (s : Sl) (xs : List Int) : Prop where
  len : xs.length = s.2.1
  cap : s.2.1 ≤ s.2.2
  max : s.2.2 ≤ 9223372036854775807
  rd : Rd w B s.1 s.2.1 (vInt xs)
theorem BIn.keep {w w' : World} {B : Nat} {s : Sl} {bs : List UInt8} (h : BIn w B s bs) (hk : ∀ b, b < B → w'.heap[b]? = w.heap[b]?) : BIn w' B s bs := ⟨h.len, h.cap, h.max, h.rd.keep hk⟩
theorem NIn.keep {w w' : World} {B : Nat} {s : Sl} {bs : List Int} (h : NIn w B s bs) (hk : ∀ b, b < B → w'.heap[b]? = w.heap[b]?) : NIn w' B s bs := ⟨h.len, h.cap, h.max, h.rd.keep hk⟩
theorem BIn.more {w : World} {B B' : Nat} {s : Sl} {bs : List UInt8} (h : BIn w B s bs) (hB : B ≤ B') : BIn w B' s bs := ⟨h.len, h.cap, h.max, h.rd.more hB⟩
theorem NIn.more {w : World} {B B' : Nat} {s : Sl} {bs : List Int} (h : NIn w B s bs) (hB : B ≤ B') : NIn w B' s bs := ⟨h.len, h.cap, h.max, h.rd.more hB⟩
theorem BIn.nil (w : World) (B : Nat) : BIn w B (none, 0, 0) [] := ⟨rfl, Nat.le_refl _, by simp, Rd.nil⟩
theorem NIn.nil (w : World) (B : Nat) : NIn w B (none, 0, 0) [] := ⟨rfl, Nat.le_refl _, by simp, Rd.nil⟩
theorem BIn.own {w : World} {base e n c : Nat} {A : Option Addr} {bs : List UInt8} (h : w.ownsRow base e 1 (.slice A n c) n (bs.map fun b => Value.int .u8 ((b.toNat : Nat) : Int))) : BIn w w.heap.size (A, n, c) bs := by
  obtain ⟨_, h2, h3⟩ := rd_bytes h
  exact ⟨by simpa using h.1, h2, own_cap h, h3⟩
theorem NIn.own {w : World} {base e n c : Nat} {A : Option Addr} {xs : List Int} (h : w.ownsRow base e 1 (.slice A n c) n (xs.map (Value.int .i64))) : NIn w w.heap.size (A, n, c) xs := by
  obtain ⟨_, h2, h3⟩ := rd_ints h
  exact ⟨by simpa using h.1, h2, own_cap h, h3⟩
end Go.Proofs.YtldmokjpfnakkaaGreat
