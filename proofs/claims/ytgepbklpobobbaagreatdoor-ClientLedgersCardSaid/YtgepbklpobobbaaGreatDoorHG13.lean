/- The ledger's plain state: moves and steps on stacks, totals and counters. -/
import Derived.Test.YtgepbklpobobbaaGreatDoorHLdFit
import Derived.Test.YtgepbklpobobbaaGreatDoorHG1
import Derived.Maps.RangeRun

namespace Go.Proofs.YtgepbklpobobbaaGreatDoor
open Go.RowKit

/-- The keys of the stacks: accounts and items. -/
abbrev LK := Fin 2147483648 × Fin 2147483648
def kOf (a i : Int) : LK := (⟨a.toNat % 2147483648, Nat.mod_lt _ (by decide)⟩, ⟨i.toNat % 2147483648, Nat.mod_lt _ (by decide)⟩)
def kEnc (k : LK) : Value := .agg #[.int .i64 (k.1.1 : Int), .int .i64 (k.2.1 : Int)]
theorem kOf_enc {a i : Int} (ha : 0 ≤ a ∧ a < 2147483648) (hi : 0 ≤ i ∧ i < 2147483648) : kEnc (kOf a i) = .agg #[.int .i64 a, .int .i64 i] := by
  have h1 : ((a.toNat % 2147483648 : Nat) : Int) = a := by omega
  have h2 : ((i.toNat % 2147483648 : Nat) : Int) = i := by omega
  show Value.agg #[.int .i64 ((a.toNat % 2147483648 : Nat) : Int), .int .i64 ((i.toNat % 2147483648 : Nat) : Int)] = _
  rw [h1, h2]
structure LSt where
  st : LK → List Lot
  tot : Int → Int
  sh : Nat
  ns : Nat
  nf : Nat
  now : Int
def LSt.put (S : LSt) (k : LK) (ls : List Lot) : LSt := { S with st := fun k' => if k' = k then ls else S.st k' }
def Mv.src (m : Mv) : LK := kOf m.frm m.item
def Mv.tgt (m : Mv) : LK := kOf m.dst m.item
def LSt.id (S : LSt) : Int := (S.sh : Int) * 4294967296 + (S.nf : Int)
/-- A move takes its units from its source; none: there are too few. -/
def wdP (mx : Int → Bool) (S : LSt) (m : Mv) : Option LSt :=
  if m.frm = 0 then some S
  else if totL (S.st m.src) < m.n then none
  else some (S.put m.src (divL [] [] (S.st m.src) (cntM (mx m.item) (S.st m.src) m.n)).2)
def totP (S : LSt) (m : Mv) : Int := S.tot m.item + (if m.frm = 0 then m.n else 0)
/-- The rest of a move: the total, the new lot at its destination. -/
def landP (S : LSt) (m : Mv) (t : Int) : LSt :=
  { S.put m.tgt (putL (S.st m.tgt) ⟨S.id, 0, m.n⟩) with tot := fun i => if i = m.item then t else S.tot i, nf := S.nf + 1 }
def moveP (mx : Int → Bool) (S : LSt) (m : Mv) : Except Int LSt :=
  match wdP mx S m with
  | none => .error 10
  | some S1 => if MaxU < totP S m then .error 4 else if 4096 ≤ (S1.st m.tgt).length then .error 4 else .ok (landP S1 m (totP S m))
def mvsP (mx : Int → Bool) : LSt → List Mv → Except Int LSt
  | S, [] => .ok S
  | S, m :: ms => match moveP mx S m with
    | .error e => .error e
    | .ok S1 => mvsP mx S1 ms
/-- What holds of every state: K bounds the stacks of mixed items. -/
structure LOk (mx : Int → Bool) (K : Int) (S : LSt) : Prop where
  ok : ∀ k, LotsOk (S.st k)
  len : ∀ k, (S.st k).length ≤ 4096
  mix : ∀ k : LK, mx (k.2.1 : Int) = true → totL (S.st k) ≤ K
  tot : ∀ i, 0 ≤ S.tot i ∧ S.tot i ≤ MaxU
  sh : S.sh ≤ 1000
  nf : S.nf ≤ 1000000
  ns : S.ns ≤ 60000
theorem LOk.id {mx : Int → Bool} {K : Int} {S : LSt} (h : LOk mx K S) : 0 ≤ S.id ∧ S.id ≤ 4611686018427387904 := by
  have h1 := h.sh
  have h2 := h.nf
  unfold LSt.id
  omega
theorem LOk.more {mx : Int → Bool} {K K' : Int} {S : LSt} (h : LOk mx K S) (hK : K ≤ K') : LOk mx K' S := ⟨h.ok, h.len, fun k hi => Int.le_trans (h.mix k hi) hK, h.tot, h.sh, h.nf, h.ns⟩
theorem LOk.put {mx : Int → Bool} {K : Int} {S : LSt} (h : LOk mx K S) {k : LK} {ls : List Lot} (h1 : LotsOk ls) (h2 : ls.length ≤ 4096) (h3 : mx (k.2.1 : Int) = true → totL ls ≤ K) : LOk mx K (S.put k ls) := by
  refine ⟨fun k' => ?_, fun k' => ?_, fun k' hi => ?_, h.tot, h.sh, h.nf, h.ns⟩
  · show LotsOk (if k' = k then ls else S.st k')
    split
    · exact h1
    · exact h.ok k'
  · show (if k' = k then ls else S.st k').length ≤ 4096
    split
    · exact h2
    · exact h.len k'
  · show totL (if k' = k then ls else S.st k') ≤ K
    split
    · rename_i e
      subst e
      exact h3 hi
    · exact h.mix k' hi
theorem wdP_left {mx : Bool} {ls : List Lot} {n : Int} (hk : LotsOk ls) (h1 : 1 ≤ n) (hn : n ≤ totL ls) :
    LotsOk (divL [] [] ls (cntM mx ls n)).1 ∧ LotsOk (divL [] [] ls (cntM mx ls n)).2 ∧ totL (divL [] [] ls (cntM mx ls n)).1 = n ∧ totL (divL [] [] ls (cntM mx ls n)).2 = totL ls - n ∧
      (divL [] [] ls (cntM mx ls n)).1.length ≤ ls.length ∧ (divL [] [] ls (cntM mx ls n)).2.length ≤ ls.length := by
  obtain ⟨hc, hs⟩ := cntM_ok mx ls n hk h1 hn
  have hnil : LotsOk [] := fun l hl => by cases hl
  obtain ⟨f1, f2, f3, f4, f5, f6⟩ := divL_facts ls (cntM mx ls n) [] [] hk hc hnil hnil
  rw [hs] at f3 f4
  simp only [totL, List.length_nil, Nat.zero_add, Int.zero_add] at f3 f4 f5 f6
  exact ⟨f1, f2, f3, f4, f5, f6⟩
theorem wdP_ok {mx : Int → Bool} {K : Int} {S S1 : LSt} {m : Mv} (h : LOk mx K S) (hn : 1 ≤ m.n) (hw : wdP mx S m = some S1) : LOk mx K S1 ∧ S1.tot = S.tot ∧ S1.sh = S.sh ∧ S1.nf = S.nf ∧ S1.ns = S.ns ∧ S1.now = S.now := by
  unfold wdP at hw
  split at hw
  · injection hw with hw
    subst hw
    exact ⟨h, rfl, rfl, rfl, rfl, rfl⟩
  · split at hw
    · cases hw
    · injection hw with hw
      subst hw
      obtain ⟨-, f2, -, f4, -, f6⟩ := wdP_left (mx := mx m.item) (h.ok m.src) hn (by omega)
      exact ⟨h.put f2 (Nat.le_trans f6 (h.len _)) (fun hi => by have := h.mix _ hi; omega), rfl, rfl, rfl, rfl, rfl⟩
theorem LOk.land {mx : Int → Bool} {K : Int} {S : LSt} {m : Mv} {t : Int} (h : LOk mx K S) (hn : 1 ≤ m.n) (hn2 : m.n ≤ MaxU) (ht : 0 ≤ t ∧ t ≤ MaxU) (hl : (S.st m.tgt).length < 4096) (hf : S.nf < 1000000) : LOk mx (K + m.n) (landP S m t) := by
  have hid := h.id
  have hp := (h.more (K' := K + m.n) (by omega)).put (k := m.tgt) (ls := putL (S.st m.tgt) ⟨S.id, 0, m.n⟩)
    (putL_ok (h.ok _) ⟨hid.1, hid.2, Int.le_refl _, by show (0 : Int) ≤ m.n; omega, by show (0 : Int) + m.n ≤ MaxU; omega⟩) (by have := (putL_len (S.st m.tgt) ⟨S.id, 0, m.n⟩).2; omega)
    (fun hi => by rw [putL_tot]; have := h.mix _ hi; show totL _ + m.n ≤ K + m.n; omega)
  exact ⟨hp.ok, hp.len, hp.mix, fun i => by show 0 ≤ (if i = m.item then t else S.tot i) ∧ (if i = m.item then t else S.tot i) ≤ MaxU; split; exact ht; exact h.tot i, h.sh, by show S.nf + 1 ≤ 1000000; omega, h.ns⟩
theorem moveP_ok {mx : Int → Bool} {K : Int} {S S' : LSt} {m : Mv} (h : LOk mx K S) (hn : 1 ≤ m.n) (hn2 : m.n ≤ MaxU) (hf : S.nf < 1000000) (hm : moveP mx S m = .ok S') : LOk mx (K + m.n) S' ∧ S'.nf = S.nf + 1 ∧ S'.sh = S.sh ∧ S'.ns = S.ns ∧ S'.now = S.now := by
  unfold moveP at hm
  cases hw : wdP mx S m with
  | none => rw [hw] at hm; cases hm
  | some S1 =>
    rw [hw] at hm
    obtain ⟨h1, e1, e2, e3, e4, e5⟩ := wdP_ok h hn hw
    dsimp only at hm
    split at hm
    · cases hm
    · split at hm
      · cases hm
      · injection hm with hm
        subst hm
        have ht := h.tot m.item
        refine ⟨h1.land hn hn2 ?_ (by omega) (by omega), by show S1.nf + 1 = _; rw [e3], e2, e4, e5⟩
        refine ⟨?_, by omega⟩
        unfold totP
        split <;> omega
def sumN : List Mv → Int
  | [] => 0
  | m :: ms => m.n + sumN ms
theorem mvsP_ok {mx : Int → Bool} : ∀ (ms : List Mv) {K : Int} {S S' : LSt}, LOk mx K S → (∀ m ∈ ms, 1 ≤ m.n ∧ m.n ≤ MaxU) → S.nf + ms.length ≤ 1000000 → mvsP mx S ms = .ok S' → LOk mx (K + sumN ms) S' ∧ S'.nf = S.nf + ms.length ∧ S'.sh = S.sh ∧ S'.ns = S.ns ∧ S'.now = S.now
  | [], K, S, S', h, _, _, hm => by
    injection hm with hm
    subst hm
    exact ⟨h.more (by simp [sumN]), rfl, rfl, rfl, rfl⟩
  | m :: ms, K, S, S', h, hn, hf, hm => by
    unfold mvsP at hm
    have hmm := hn m (by simp)
    simp only [List.length_cons] at hf
    cases hw : moveP mx S m with
    | error e => rw [hw] at hm; cases hm
    | ok S1 =>
      rw [hw] at hm
      obtain ⟨h1, e1, e2, e3, e4⟩ := moveP_ok h hmm.1 hmm.2 (by omega) hw
      obtain ⟨h2, g1, g2, g3, g4⟩ := mvsP_ok ms h1 (fun x hx => hn x (by simp [hx])) (by omega) hm
      exact ⟨h2.more (by simp only [sumN]; omega), by simp only [List.length_cons]; omega, g2.trans e2, g3.trans e3, g4.trans e4⟩
theorem mvsP_snoc {mx : Int → Bool} : ∀ (ms : List Mv) (S S1 : LSt) (m : Mv), mvsP mx S ms = .ok S1 → mvsP mx S (ms ++ [m]) = moveP mx S1 m
  | [], S, S1, m, h => by
    injection h with h
    subst h
    simp only [List.nil_append, mvsP]
    cases moveP mx S m <;> rfl
  | x :: ms, S, S1, m, h => by
    unfold mvsP at h
    simp only [List.cons_append, mvsP]
    cases hw : moveP mx S x with
    | error e => rw [hw] at h; cases h
    | ok S2 =>
      rw [hw] at h
      exact mvsP_snoc ms S2 S1 m h
theorem mvsP_fail {mx : Int → Bool} : ∀ (ms : List Mv) (S S1 : LSt) (m : Mv) (l : List Mv) (e : Int), mvsP mx S ms = .ok S1 → moveP mx S1 m = .error e → mvsP mx S (ms ++ m :: l) = .error e
  | [], S, S1, m, l, e, h, h2 => by
    injection h with h
    subst h
    simp only [List.nil_append, mvsP, h2]
  | x :: ms, S, S1, m, l, e, h, h2 => by
    unfold mvsP at h
    simp only [List.cons_append, mvsP]
    cases hw : moveP mx S x with
    | error e' => rw [hw] at h; cases h
    | ok S2 =>
      rw [hw] at h
      exact mvsP_fail ms S2 S1 m l e h h2
end Go.Proofs.YtgepbklpobobbaaGreatDoor

/- A range over a map from ints that stays as it is while the rounds write elsewhere. -/
namespace Go.Proofs.YtgepbklpobobbaaGreatDoor
open Go.RowKit
open Go.ChangeMaps (setBlock)

/-- An iterator at block r over the map at block mb: 'left k': the entry at k is still to come. -/
def IIter (w : World) (mb r : Nat) (es : List (Int × Value)) (left : Int → Bool) : Prop :=
  ∃ (l : List MapEntry) (clock : Nat) (seen : Array Nat), w.heap[mb]? = some (.map l.toArray clock) ∧ l.map (fun e => (e.key, e.val)) = es.map (fun p => (Value.int .i64 p.1, p.2)) ∧ (es.map Prod.fst).Nodup ∧ (l.map (·.born)).Nodup ∧ (∀ e ∈ l, e.born < clock) ∧
    w.heap[r]? = some (.mapIter (some mb) clock seen clock) ∧ ∀ e ∈ l, ∀ k, e.key = .int .i64 k → left k = !seen.contains e.born
/-- How many entries are to come. -/
def iterLeft (w : World) (mb r : Nat) : Nat :=
  match w.heap[mb]?, w.heap[r]? with
  | some (.map es _), some (.mapIter _ _ seen _) => (leftOf es seen).size
  | _, _ => 0
section
variable {P : Program} {w w' : World} {mb r : Nat} {es : List (Int × Value)} {left : Int → Bool}
theorem IIter.keep (h : IIter w mb r es left) (h1 : w'.heap[mb]? = w.heap[mb]?) (h2 : w'.heap[r]? = w.heap[r]?) : IIter w' mb r es left := by
  obtain ⟨l, clock, seen, a1, a2, a3, a4, a5, a6, a7⟩ := h
  exact ⟨l, clock, seen, h1.trans a1, a2, a3, a4, a5, h2.trans a6, a7⟩
theorem IIter.lt (h : IIter w mb r es left) : mb < w.heap.size ∧ r < w.heap.size := by
  obtain ⟨l, clock, seen, a1, a2, a3, a4, a5, a6, a7⟩ := h
  exact ⟨(Array.getElem?_eq_some_iff.1 a1).1, (Array.getElem?_eq_some_iff.1 a6).1⟩
theorem IIter.not_ty {t : TypeId} (h : IIter w mb r es left) : ¬ Ty w r t := by
  obtain ⟨l, clock, seen, a1, a2, a3, a4, a5, a6, a7⟩ := h
  rintro ⟨cs, fr, h⟩
  rw [h] at a6
  cases a6
theorem IIter.ne (h : IIter w mb r es left) : r ≠ mb := by
  obtain ⟨l, clock, seen, a1, a2, a3, a4, a5, a6, a7⟩ := h
  rintro rfl
  rw [a1] at a6
  cases a6
theorem IIter.mod {F : Nat → Prop} (h : IIter w mb r es left) (m : Mod F w w') (h1 : ¬ F mb) (h2 : ¬ F r) : IIter w' mb r es left := h.keep (m.block mb h.lt.1 h1) (m.block r h.lt.2 h2)
theorem IMap.iter (h : IMap w mb es) {t kt e : TypeId} (ht : P.underlying t = some (.map kt e)) : ∃ w', (Instr.range t (.map (some mb))).run P w = .ok (.pointer (some ⟨w.heap.size, 0, none⟩)) w' ∧ IIter w' mb w.heap.size es (fun _ => true) ∧ Below w.heap.size w w' := by
  obtain ⟨l, clock, h1, h2, h3, h4, h5⟩ := h
  have hlt := (Array.getElem?_eq_some_iff.1 h1).1
  refine ⟨_, run_range_map w t kt e mb _ clock ht h1, ⟨l, clock, #[], (Below.heap_alloc w _ mb hlt).trans h1, h2, h3, h4, h5, World.alloc_heap_new w _, fun _ _ _ _ => by simp⟩, (Below.refl _ w).alloc (Nat.le_refl _) _⟩
theorem key_of {l : List MapEntry} (h2 : l.map (fun e => (e.key, e.val)) = es.map (fun p => (Value.int .i64 p.1, p.2))) {e : MapEntry} (he : e ∈ l) : ∃ k v, e.key = .int .i64 k ∧ e.val = v ∧ (k, v) ∈ es := by
  have : (e.key, e.val) ∈ l.map (fun e => (e.key, e.val)) := List.mem_map.2 ⟨e, he, rfl⟩
  rw [h2] at this
  obtain ⟨p, hp, heq⟩ := List.mem_map.1 this
  injection heq with e1 e2
  exact ⟨p.1, p.2, e1.symm, e2.symm, hp⟩
theorem keys_inj (l : List MapEntry) : ∀ {es : List (Int × Value)} (_ : l.map (fun e => (e.key, e.val)) = es.map (fun p => (Value.int .i64 p.1, p.2))) (_ : (es.map Prod.fst).Nodup) {a b : MapEntry} (_ : a ∈ l) (_ : b ∈ l) (_ : a.key = b.key), a = b := by
  induction l with
  | nil => intro es _ _ a b ha; exact absurd ha (by simp)
  | cons e l ih =>
    intro es h2 h3 a b ha hb he
    rcases es with _ | ⟨p, es⟩
    · simp at h2
    · simp only [List.map_cons, List.cons.injEq, Prod.mk.injEq] at h2
      obtain ⟨⟨hk, hv⟩, hr⟩ := h2
      rw [List.map_cons, List.nodup_cons] at h3
      have hno : ∀ x ∈ l, x.key ≠ e.key := by
        intro x hx hxe
        obtain ⟨k, v, h4, -, h5⟩ := key_of hr hx
        rw [h4, hk] at hxe
        injection hxe with _ hxe
        exact h3.1 (List.mem_map.2 ⟨(k, v), h5, hxe⟩)
      rcases List.mem_cons.1 ha with rfl | ha'
      · rcases List.mem_cons.1 hb with rfl | hb
        · rfl
        · exact absurd he.symm (hno b hb)
      · rcases List.mem_cons.1 hb with rfl | hb
        · exact absurd he (hno a ha')
        · exact ih hr h3.2 ha' hb he
theorem borns_inj (l : List MapEntry) : ∀ (_ : (l.map (·.born)).Nodup) {a b : MapEntry} (_ : a ∈ l) (_ : b ∈ l) (_ : a.born = b.born), a = b := by
  induction l with
  | nil => intro _ a b ha; exact absurd ha (by simp)
  | cons e l ih =>
    intro h3 a b ha hb he
    rw [List.map_cons, List.nodup_cons] at h3
    have hno : ∀ x ∈ l, x.born ≠ e.born := fun x hx hxe => h3.1 (List.mem_map.2 ⟨x, hx, hxe⟩)
    rcases List.mem_cons.1 ha with rfl | ha'
    · rcases List.mem_cons.1 hb with rfl | hb
      · rfl
      · exact absurd he.symm (hno b hb)
    · rcases List.mem_cons.1 hb with rfl | hb
      · exact absurd he (hno a ha')
      · exact ih h3.2 ha' hb he
theorem IIter.next (h : IIter w mb r es left) :
    ((∀ p ∈ es, left p.1 = false) ∧ ∀ ty, (Instr.next (.pointer (some ⟨r, 0, none⟩)) false ty).run P w = .ok (.tuple #[.bool false]) w) ∨
    ∃ k v w', (k, v) ∈ es ∧ left k = true ∧ (∀ ty, (Instr.next (.pointer (some ⟨r, 0, none⟩)) false ty).run P w = .ok (.tuple #[.bool true, .int .i64 k, v]) w') ∧ (Instr.entry (.pointer (some ⟨r, 0, none⟩))).run P w' = .ok (.tuple #[.int .i64 k, v]) w' ∧
      IIter w' mb r es (fun j => left j && !(j == k)) ∧ w.grownBy w' (some r) ∧ w'.heap.size = w.heap.size ∧ iterLeft w' mb r < iterLeft w mb r := by
  obtain ⟨l, clock, seen, a1, a2, a3, a4, a5, a6, a7⟩ := h
  have hmr : mb ≠ r := by
    rintro rfl
    rw [a1] at a6
    cases a6
  have hrl := (Array.getElem?_eq_some_iff.1 a6).1
  rcases run_next_at (P := P) w 0 r mb clock clock seen l.toArray clock a6 a1 (by simpa using a5) (Nat.le_refl _) with ⟨h0, -⟩ | ⟨e, he, w1, hw1, hrun⟩
  · left
    refine ⟨fun p hp => ?_, fun ty => ?_⟩
    · have hm : (Value.int .i64 p.1, p.2) ∈ es.map (fun p => (Value.int .i64 p.1, p.2)) := List.mem_map.2 ⟨p, hp, rfl⟩
      rw [← a2] at hm
      obtain ⟨e, he, heq⟩ := List.mem_map.1 hm
      injection heq with e1 _
      rw [a7 e he p.1 e1]
      cases hc : seen.contains e.born with
      | true => rfl
      | false =>
        have : e ∈ leftOf l.toArray seen := by
          unfold leftOf
          rw [Array.mem_filter]
          exact ⟨by simpa using he, by rw [hc]; rfl⟩
        have : 0 < (leftOf l.toArray seen).size := Array.size_pos_of_mem this
        omega
    · rcases run_next_at (P := P) w ty r mb clock clock seen l.toArray clock a6 a1 (by simpa using a5) (Nat.le_refl _) with ⟨_, h1⟩ | ⟨e, he, _⟩
      · exact h1
      · have : 0 < (leftOf l.toArray seen).size := Array.size_pos_of_mem (by simpa using he)
        omega
  · right
    obtain ⟨hel, hec⟩ := mem_left he
    have hel' : e ∈ l := by simpa using hel
    obtain ⟨k, v, hk, hv, hkv⟩ := key_of a2 hel'
    have hW : w1.heap = w.heap := by rcases hw1 with rfl | rfl <;> rfl
    have hmb : (setBlock w1 r (.mapIter (some mb) clock (seen.push e.born) clock)).heap[mb]? = some (.map l.toArray clock) := by
      show (w1.heap.setIfInBounds r _)[mb]? = _
      rw [hW, Array.getElem?_setIfInBounds_ne (Ne.symm hmr)]
      exact a1
    have hr' : (setBlock w1 r (.mapIter (some mb) clock (seen.push e.born) clock)).heap[r]? = some (.mapIter (some mb) clock (seen.push e.born) clock) := by
      show (w1.heap.setIfInBounds r _)[r]? = _
      rw [hW]
      simp [hrl]
    rw [hk, hv] at hrun
    refine ⟨k, v, _, hkv, ?_, fun ty => hrun, ?_, ⟨l, clock, seen.push e.born, hmb, a2, a3, a4, a5, hr', ?_⟩, ?_, ?_, ?_⟩
    · rw [a7 e hel' k hk, hec]
      rfl
    · have := run_entry_at (P := P) _ r mb clock seen l.toArray clock e hr' hmb hel (by simpa using a4)
      rw [hk, hv] at this
      exact this
    · intro e2 he2 k2 hk2
      have hcp : (seen.push e.born).contains e2.born = (seen.contains e2.born || (e2.born == e.born)) := by
        rw [Bool.eq_iff_iff]
        simp
      rw [hcp, Bool.not_or, ← a7 e2 he2 k2 hk2]
      show (left k2 && !(k2 == k)) = _
      by_cases hee : e2 = e
      · subst hee
        rw [hk] at hk2
        injection hk2 with _ hk2
        simp [hk2]
      · have h1 : (k2 == k) = false := by
          rw [beq_eq_false_iff_ne]
          rintro rfl
          exact hee (keys_inj l a2 a3 he2 hel' (hk2.trans hk.symm))
        have h2 : (e2.born == e.born) = false := by
          rw [beq_eq_false_iff_ne]
          intro h
          exact hee (borns_inj l a4 he2 hel' h)
        rw [h1, h2]
    · have hos : w1.os = w.os ∧ w1.tape = w.tape ∧ w1.output = w.output := by rcases hw1 with rfl | rfl <;> exact ⟨rfl, rfl, rfl⟩
      refine ⟨hos.1, hos.2.1, hos.2.2, ?_, fun j _ hne => ?_⟩
      · show w.heap.size ≤ (w1.heap.setIfInBounds r _).size
        rw [hW]
        simp
      · show (w1.heap.setIfInBounds r _)[j]? = _
        rw [hW, Array.getElem?_setIfInBounds_ne (fun e => hne (by rw [e]))]
    · show (w1.heap.setIfInBounds r _).size = _
      rw [hW]
      simp
    · unfold iterLeft
      rw [hmb, hr', a1, a6]
      exact left_shrinks _ _ _ he
end
end Go.Proofs.YtgepbklpobobbaaGreatDoor

/- A map from ints, known by its entries: delete. -/
namespace Go.Proofs.YtgepbklpobobbaaGreatDoor
open Go.RowKit

theorem imap_at {l1 l2 : List (Int × Value)} {k : Int} {v u : Value} {j : Nat} (hn : ((l1 ++ (k, v) :: l2).map Prod.fst).Nodup) (hj : (l1 ++ (k, v) :: l2)[j]? = some (k, u)) : j = l1.length := by
  obtain ⟨hlt, hj⟩ := List.getElem?_eq_some_iff.1 hj
  have h1 : l1.length < (l1 ++ (k, v) :: l2).length := by simp
  have e1 : ((l1 ++ (k, v) :: l2).map Prod.fst)[j]'(by simpa using hlt) = k := by rw [List.getElem_map, hj]
  have e2 : ((l1 ++ (k, v) :: l2).map Prod.fst)[l1.length]'(by simp) = k := by simp
  exact (List.getElem_inj hn).1 (e1.trans e2.symm)
theorem map_erase {α β : Type} (f : α → β) : ∀ (l : List α) (i : Nat), (l.eraseIdx i).map f = (l.map f).eraseIdx i
  | [], i => by simp
  | a :: l, 0 => by simp
  | a :: l, i + 1 => by simp [map_erase f l i]
/-- An entry is deleted. -/
theorem IMap.del {P : Program} {w : World} {b : Nat} {l1 l2 : List (Int × Value)} {k : Int} {v : Value} {t kt e ty : TypeId} (h : IMap w b (l1 ++ (k, v) :: l2)) (ht : P.underlying t = some (.map kt e)) (hk : P.underlying kt = some (.int .i64)) :
    ∃ w', (Builtin.delete_ #[t, kt] ty #[.map (some b), .int .i64 k]).run P w = .ok (.tuple #[]) w' ∧ IMap w' b (l1 ++ l2) ∧ w.grownBy w' (some b) ∧ w'.heap.size = w.heap.size := by
  obtain ⟨l, c, hb, hl, hn, hbn, hbc⟩ := h
  have hlt := (Array.getElem?_eq_some_iff.1 hb).1
  have hlen : l.length = (l1 ++ (k, v) :: l2).length := by have := congrArg List.length hl; simpa using this
  rcases imap_find l _ hl k 0 with ⟨h1, h2⟩ | ⟨j, v0, h1, h0, h2, h3, h4⟩
  · exfalso
    have := List.lookup_eq_none_iff.1 h1 (k, v) (by simp)
    simp at this
  · obtain rfl := imap_at hn h3
    have hsub : (l.eraseIdx l1.length).Sublist l := List.eraseIdx_sublist _ _
    have hers : (l1 ++ (k, v) :: l2).eraseIdx l1.length = l1 ++ l2 := by
      rw [List.eraseIdx_append_of_length_le (Nat.le_refl _)]
      simp
    refine ⟨_, ?_, ⟨l.eraseIdx l1.length, c, heap_set_same hlt, ?_, ?_, ?_, ?_⟩, grown_setObj w b _, by simp⟩
    · simp [Builtin.delete_, run_underlying ht, MapKept.run_getObj_map hb, run_checkKey hk, run_findKey hk l k _ h4, MapKept.run_setObj_map _ hb, Result.andThen]
    · rw [map_erase, hl, ← map_erase, hers]
    · rw [← hers, map_erase]
      exact hn.eraseIdx _
    · rw [map_erase]
      exact hbn.eraseIdx _
    · exact fun e he => hbc e (hsub.subset he)
end Go.Proofs.YtgepbklpobobbaaGreatDoor
