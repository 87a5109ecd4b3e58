/- A range over a map from ints that stays as it is while the rounds write elsewhere. -/
import Derived.Test.YtompkpleiichaaaHG1
import Derived.Maps.RangeRun
import Derived.Test.YtompkpleiichaaaHCliGot

namespace Go.Proofs.Ytompkpleiichaaa
open Go.RowKit
open Go.ChangeMaps (setBlock)

/-- An iterator at block r over the map at block mb: 'left k': the entry at k is still to come. -/
def IIter (w : World) (mb r : Nat) (es : List (Int × Value)) (left : Int → Bool) : Prop :=
  ∃ (l : List MapEntry) (clock : Nat) (seen : Array Nat), w.heap[mb]? = some (.map l.toArray clock) ∧ l.map (fun e => (e.key, e.val)) = es.map (fun p => (Value.int .i64 p.1, p.2)) ∧ (es.map Prod.fst).Nodup ∧ (l.map (·.born)).Nodup ∧ (∀ e ∈ l, e.born < clock) ∧
    w.heap[r]? = some (.mapIter (some mb) clock seen clock) ∧ ∀ e ∈ l, ∀ k, e.key = .int .i64 k → left k = !seen.contains e.born
/-- How many entries are to come. -/
def iterLeft (w : World) (mb r : Nat) : Nat :=
  match w.heap[mb]?, w.heap[r]? with
  | some (.map es _), some (.mapIter _ _ seen _) => (leftOf es seen).size
  | _, _ => 0
section
variable {P : Program} {w w' : World} {mb r : Nat} {es : List (Int × Value)} {left : Int → Bool}
theorem IIter.imap (h : IIter w mb r es left) : IMap w mb es := by
  obtain ⟨l, clock, seen, h1, h2, h3, h4, h5, -⟩ := h
  exact ⟨l, clock, h1, h2, h3, h4, h5⟩
theorem IIter.keep (h : IIter w mb r es left) (h1 : w'.heap[mb]? = w.heap[mb]?) (h2 : w'.heap[r]? = w.heap[r]?) : IIter w' mb r es left := by
  obtain ⟨l, clock, seen, a1, a2, a3, a4, a5, a6, a7⟩ := h
  exact ⟨l, clock, seen, h1.trans a1, a2, a3, a4, a5, h2.trans a6, a7⟩
theorem IIter.lt (h : IIter w mb r es left) : mb < w.heap.size ∧ r < w.heap.size := by
  obtain ⟨l, clock, seen, a1, a2, a3, a4, a5, a6, a7⟩ := h
  exact ⟨(Array.getElem?_eq_some_iff.1 a1).1, (Array.getElem?_eq_some_iff.1 a6).1⟩
theorem IIter.not_ty {t : TypeId} (h : IIter w mb r es left) : ¬ Ty w r t := by
  obtain ⟨l, clock, seen, a1, a2, a3, a4, a5, a6, a7⟩ := h
  rintro ⟨cs, fr, h⟩
  rw [h] at a6
  cases a6
theorem IIter.ne (h : IIter w mb r es left) : r ≠ mb := by
  obtain ⟨l, clock, seen, a1, a2, a3, a4, a5, a6, a7⟩ := h
  rintro rfl
  rw [a1] at a6
  cases a6
theorem IIter.mod {F : Nat → Prop} (h : IIter w mb r es left) (m : Mod F w w') (h1 : ¬ F mb) (h2 : ¬ F r) : IIter w' mb r es left := h.keep (m.block mb h.lt.1 h1) (m.block r h.lt.2 h2)
theorem IMap.iter (h : IMap w mb es) {t kt e : TypeId} (ht : P.underlying t = some (.map kt e)) : ∃ w', (Instr.range t (.map (some mb))).run P w = .ok (.pointer (some ⟨w.heap.size, 0, none⟩)) w' ∧ IIter w' mb w.heap.size es (fun _ => true) ∧ Below w.heap.size w w' := by
  obtain ⟨l, clock, h1, h2, h3, h4, h5⟩ := h
  have hlt := (Array.getElem?_eq_some_iff.1 h1).1
  refine ⟨_, run_range_map w t kt e mb _ clock ht h1, ⟨l, clock, #[], (Below.heap_alloc w _ mb hlt).trans h1, h2, h3, h4, h5, World.alloc_heap_new w _, fun _ _ _ _ => by simp⟩, (Below.refl _ w).alloc (Nat.le_refl _) _⟩
theorem key_of {l : List MapEntry} (h2 : l.map (fun e => (e.key, e.val)) = es.map (fun p => (Value.int .i64 p.1, p.2))) {e : MapEntry} (he : e ∈ l) : ∃ k v, e.key = .int .i64 k ∧ e.val = v ∧ (k, v) ∈ es := by
  have : (e.key, e.val) ∈ l.map (fun e => (e.key, e.val)) := List.mem_map.2 ⟨e, he, rfl⟩
  rw [h2] at this
  obtain ⟨p, hp, heq⟩ := List.mem_map.1 this
  injection heq with e1 e2
  exact ⟨p.1, p.2, e1.symm, e2.symm, hp⟩
theorem keys_inj (l : List MapEntry) : ∀ {es : List (Int × Value)} (_ : l.map (fun e => (e.key, e.val)) = es.map (fun p => (Value.int .i64 p.1, p.2))) (_ : (es.map Prod.fst).Nodup) {a b : MapEntry} (_ : a ∈ l) (_ : b ∈ l) (_ : a.key = b.key), a = b := by
  induction l with
  | nil => intro es _ _ a b ha; exact absurd ha (by simp)
  | cons e l ih =>
    intro es h2 h3 a b ha hb he
    rcases es with _ | ⟨p, es⟩
    · simp at h2
    · simp only [List.map_cons, List.cons.injEq, Prod.mk.injEq] at h2
      obtain ⟨⟨hk, hv⟩, hr⟩ := h2
      rw [List.map_cons, List.nodup_cons] at h3
      have hno : ∀ x ∈ l, x.key ≠ e.key := by
        intro x hx hxe
        obtain ⟨k, v, h4, -, h5⟩ := key_of hr hx
        rw [h4, hk] at hxe
        injection hxe with _ hxe
        exact h3.1 (List.mem_map.2 ⟨(k, v), h5, hxe⟩)
      rcases List.mem_cons.1 ha with rfl | ha'
      · rcases List.mem_cons.1 hb with rfl | hb
        · rfl
        · exact absurd he.symm (hno b hb)
      · rcases List.mem_cons.1 hb with rfl | hb
        · exact absurd he (hno a ha')
        · exact ih hr h3.2 ha' hb he
theorem borns_inj (l : List MapEntry) : ∀ (_ : (l.map (·.born)).Nodup) {a b : MapEntry} (_ : a ∈ l) (_ : b ∈ l) (_ : a.born = b.born), a = b := by
  induction l with
  | nil => intro _ a b ha; exact absurd ha (by simp)
  | cons e l ih =>
    intro h3 a b ha hb he
    rw [List.map_cons, List.nodup_cons] at h3
    have hno : ∀ x ∈ l, x.born ≠ e.born := fun x hx hxe => h3.1 (List.mem_map.2 ⟨x, hx, hxe⟩)
    rcases List.mem_cons.1 ha with rfl | ha'
    · rcases List.mem_cons.1 hb with rfl | hb
      · rfl
      · exact absurd he.symm (hno b hb)
    · rcases List.mem_cons.1 hb with rfl | hb
      · exact absurd he (hno a ha')
      · exact ih h3.2 ha' hb he
theorem IIter.next (h : IIter w mb r es left) :
    ((∀ p ∈ es, left p.1 = false) ∧ ∀ ty, (Instr.next (.pointer (some ⟨r, 0, none⟩)) false ty).run P w = .ok (.tuple #[.bool false]) w) ∨
    ∃ k v w', (k, v) ∈ es ∧ left k = true ∧ (∀ ty, (Instr.next (.pointer (some ⟨r, 0, none⟩)) false ty).run P w = .ok (.tuple #[.bool true, .int .i64 k, v]) w') ∧ (Instr.entry (.pointer (some ⟨r, 0, none⟩))).run P w' = .ok (.tuple #[.int .i64 k, v]) w' ∧
      IIter w' mb r es (fun j => left j && !(j == k)) ∧ w.grownBy w' (some r) ∧ w'.heap.size = w.heap.size ∧ iterLeft w' mb r < iterLeft w mb r := by
  obtain ⟨l, clock, seen, a1, a2, a3, a4, a5, a6, a7⟩ := h
  have hmr : mb ≠ r := by
    rintro rfl
    rw [a1] at a6
    cases a6
  have hrl := (Array.getElem?_eq_some_iff.1 a6).1
  rcases run_next_at (P := P) w 0 r mb clock clock seen l.toArray clock a6 a1 (by simpa using a5) (Nat.le_refl _) with ⟨h0, -⟩ | ⟨e, he, w1, hw1, hrun⟩
  · left
    refine ⟨fun p hp => ?_, fun ty => ?_⟩
    · have hm : (Value.int .i64 p.1, p.2) ∈ es.map (fun p => (Value.int .i64 p.1, p.2)) := List.mem_map.2 ⟨p, hp, rfl⟩
      rw [← a2] at hm
      obtain ⟨e, he, heq⟩ := List.mem_map.1 hm
      injection heq with e1 _
      rw [a7 e he p.1 e1]
      cases hc : seen.contains e.born with
      | true => rfl
      | false =>
        have : e ∈ leftOf l.toArray seen := by
          unfold leftOf
          rw [Array.mem_filter]
          exact ⟨by simpa using he, by rw [hc]; rfl⟩
        have : 0 < (leftOf l.toArray seen).size := Array.size_pos_of_mem this
        omega
    · rcases run_next_at (P := P) w ty r mb clock clock seen l.toArray clock a6 a1 (by simpa using a5) (Nat.le_refl _) with ⟨_, h1⟩ | ⟨e, he, _⟩
      · exact h1
      · have : 0 < (leftOf l.toArray seen).size := Array.size_pos_of_mem (by simpa using he)
        omega
  · right
    obtain ⟨hel, hec⟩ := mem_left he
    have hel' : e ∈ l := by simpa using hel
    obtain ⟨k, v, hk, hv, hkv⟩ := key_of a2 hel'
    have hW : w1.heap = w.heap := by rcases hw1 with rfl | rfl <;> rfl
    have hmb : (setBlock w1 r (.mapIter (some mb) clock (seen.push e.born) clock)).heap[mb]? = some (.map l.toArray clock) := by
      show (w1.heap.setIfInBounds r _)[mb]? = _
      rw [hW, Array.getElem?_setIfInBounds_ne (Ne.symm hmr)]
      exact a1
    have hr' : (setBlock w1 r (.mapIter (some mb) clock (seen.push e.born) clock)).heap[r]? = some (.mapIter (some mb) clock (seen.push e.born) clock) := by
      show (w1.heap.setIfInBounds r _)[r]? = _
      rw [hW]
      simp [hrl]
    rw [hk, hv] at hrun
    refine ⟨k, v, _, hkv, ?_, fun ty => hrun, ?_, ⟨l, clock, seen.push e.born, hmb, a2, a3, a4, a5, hr', ?_⟩, ?_, ?_, ?_⟩
    · rw [a7 e hel' k hk, hec]
      rfl
    · have := run_entry_at (P := P) _ r mb clock seen l.toArray clock e hr' hmb hel (by simpa using a4)
      rw [hk, hv] at this
      exact this
    · intro e2 he2 k2 hk2
      have hcp : (seen.push e.born).contains e2.born = (seen.contains e2.born || (e2.born == e.born)) := by
        rw [Bool.eq_iff_iff]
        simp
      rw [hcp, Bool.not_or, ← a7 e2 he2 k2 hk2]
      show (left k2 && !(k2 == k)) = _
      by_cases hee : e2 = e
      · subst hee
        rw [hk] at hk2
        injection hk2 with _ hk2
        simp [hk2]
      · have h1 : (k2 == k) = false := by
          rw [beq_eq_false_iff_ne]
          rintro rfl
          exact hee (keys_inj l a2 a3 he2 hel' (hk2.trans hk.symm))
        have h2 : (e2.born == e.born) = false := by
          rw [beq_eq_false_iff_ne]
          intro h
          exact hee (borns_inj l a4 he2 hel' h)
        rw [h1, h2]
    · have hos : w1.os = w.os ∧ w1.tape = w.tape ∧ w1.output = w.output := by rcases hw1 with rfl | rfl <;> exact ⟨rfl, rfl, rfl⟩
      refine ⟨hos.1, hos.2.1, hos.2.2, ?_, fun j _ hne => ?_⟩
      · show w.heap.size ≤ (w1.heap.setIfInBounds r _).size
        rw [hW]
        simp
      · show (w1.heap.setIfInBounds r _)[j]? = _
        rw [hW, Array.getElem?_setIfInBounds_ne (fun e => hne (by rw [e]))]
    · show (w1.heap.setIfInBounds r _).size = _
      rw [hW]
      simp
    · unfold iterLeft
      rw [hmb, hr', a1, a6]
      exact left_shrinks _ _ _ he
end
end Go.Proofs.Ytompkpleiichaaa

/- client: IndexFunc within Got. -/
namespace Go.Proofs.Ytompkpleiichaaa
open Go.RowKit

set_option maxRecDepth 100000 in
theorem got1_any (r : Rq) (gn : Nat) (num : Int) (w : World) (hn : w.cell? ⟨gn, 0, none⟩ = some (.int .i64 num)) : Calls Try.prog 61 #[r.val, .pointer (some ⟨gn, 0, none⟩)] w fun e w' => e = .returned (.bool (r.num == num)) ∧ Below w.heap.size w w' := by
  have hlt : gn < w.heap.size := World.block_lt_of_cell? w _ hn
  have hb := (Below.refl w.heap.size w).alloc (Nat.le_refl _) (.cells #[.int .i64 r.cl, .int .i64 r.num, .slice r.A r.n r.c, .int .u64 r.tag] 32)
  have hn2 := (hb.cell (p := ⟨gn, 0, none⟩) hlt).trans hn
  unfold Rq.val
  go_enter Try.func61, Try.ntmps61
  go_wp2
  go_ret
  exact ⟨rfl, hb⟩
/-- The index of the first request with a number, or -1. -/
def idxN (op : List Rq) (num : Int) : Int := match op.findIdx? (fun r => r.num == num) with | some k => (k : Int) | none => -1
set_option maxRecDepth 100000 in
set_option maxHeartbeats 1000000 in
theorem indexF_any (T : TypeId) (g gn : Nat) (cl key last : Int) (A1 : Option Addr) (c1 : Nat) (op : List Rq) (num : Int) (w : World) (HC : Hid (CallAt w T 32 g cl key last (.slice A1 op.length c1) op)) (hop : op.length ≤ 1000000) (hn : w.cell? ⟨gn, 0, none⟩ = some (.int .i64 num)) :
    Calls Try.prog 60 #[.slice A1 op.length c1, .func (.func 61) #[] #[.pointer (some ⟨gn, 0, none⟩)]] w fun e w' => e = .returned (.int .i64 (idxN op num)) ∧ Below w.heap.size w w' := by
  have hlt : gn < w.heap.size := World.block_lt_of_cell? w _ hn
  have HN := Lib.hid hn
  clear hn
  go_enter Try.func60, Try.ntmps60
  go_wp2
  go_loopw [8] (fun i wr => ∃ j : Nat, j ≤ op.length ∧ i = .int .i64 (j : Int) ∧ Hid (∀ t (ht : t < j) (hl : t < op.length), (op[t]).num ≠ num) ∧ Below w.heap.size w wr) (fun i _ => op.length - (intOf i).toNat)
  case atStart => exact ⟨0, by omega, rfl, Lib.hid (fun t ht => absurd ht (by omega)), Below.refl _ _⟩
  case round =>
    obtain ⟨j, hj, rfl, HNO, hb⟩ := hrel
    by_cases hlt2 : j < op.length
    · have hC := HC.out.all hb
      obtain ⟨g1, cap, hv, t0, t1, t2, t3⟩ := hC.row hlt2
      injection hv with hv1 _ hv3
      subst hv1 hv3
      have hi0 : (0 : Int) ≤ (j : Int) := by omega
      have hi1 : (j : Int) < (op.length : Int) := by omega
      have hnr := (hb.cell (p := ⟨gn, 0, none⟩) hlt).trans HN.out
      clear hC
      rcases hnum : ((op[j]).num == num) with _ | _
      · have HNE := Lib.hid hnum
        go_wp2_with (go_at_call 61; refine (got1_any op[j] gn num _ hnr).mono ?_; rw [hnum]; rintro e w2 ⟨rfl, hb2⟩; replace hb := bt hb hb2; clear hb2)
        exact ⟨⟨j + 1, by omega, by go_num, Lib.hid (fun t ht hl => by
          rcases Nat.lt_or_eq_of_le (Nat.lt_succ_iff.1 ht) with h | rfl
          · exact HNO.out t h hl
          · simpa using HNE.out), hb⟩, by simp [intOf]; omega⟩
      · have HNE := Lib.hid hnum
        go_wp2_with (go_at_call 61; refine (got1_any op[j] gn num _ hnr).mono ?_; rw [hnum]; rintro e w2 ⟨rfl, hb2⟩; replace hb := bt hb hb2; clear hb2)
        go_ret
        have hf : op.findIdx? (fun r => r.num == num) = some j := by
          rw [List.findIdx?_eq_some_iff_getElem]
          exact ⟨hlt2, HNE.out, fun t ht => by simpa using HNO.out t ht (by omega)⟩
        exact ⟨by unfold idxN; rw [hf]; rfl, hb⟩
    · obtain rfl : j = op.length := by omega
      go_wp2
      go_ret
      have hf : op.findIdx? (fun r => r.num == num) = none := by
        rw [List.findIdx?_eq_none_iff]
        intro r hr
        obtain ⟨t, ht, rfl⟩ := List.getElem_of_mem hr
        simpa using HNO.out t ht ht
      exact ⟨by unfold idxN; rw [hf]; rfl, hb⟩
end Go.Proofs.Ytompkpleiichaaa

/- Delete of one element of a row of structs: the two steps (append over itself, clear of the last) as runs. -/
namespace Go.Proofs.Ytompkpleiichaaa
open Go.RowKit

theorem heap_setRow {w : World} {g : Nat} {cur : Array Value} {e : TypeId} (h : w.heap[g]? = some (.cells cur e (0, 0))) (cs : Array Value) : (w.setRow g cs).heap[g]? = some (.cells cs e (0, 0)) := by
  simp [World.setRow, Array.getElem?_modify, h]
theorem grown_setRow (w : World) (g : Nat) (cs : Array Value) : w.grownBy (w.setRow g cs) (some g) :=
  ⟨rfl, rfl, rfl, by simp [World.setRow], fun k _ hne => by
    have : g ≠ k := fun e => hne (by rw [e])
    simp [World.setRow, Array.getElem?_modify, this]⟩
/-- 'append(s[:i], s[i+1:]...)'. -/
theorem run_delete {P : Program} {w : World} {base t e size bytes g n cap i : Nat} {xs : List Value} {ty : TypeId} (hT : SlT P t e size bytes) (ho : w.ownsRow base e size (.slice (some ⟨g, 0, none⟩) n cap) n xs) (hi : i < n) (h1 : ∀ u ∈ xs, u.oneCell' = true) (off c : Nat) (hoff : i + 1 < n → off = (i + 1) * size) :
    ∃ w', (Builtin.append_ #[t, t] ty #[.slice (some ⟨g, 0, none⟩) i cap, .slice (some ⟨g, off, none⟩) (n - (i + 1)) c]).run P w = .ok (.slice (some ⟨g, 0, none⟩) (i + (n - (i + 1))) cap) w' ∧ w'.ownsRow base e size (.slice (some ⟨g, 0, none⟩) (n - 1) cap) (n - 1) (xs.take (i * size) ++ xs.drop ((i + 1) * size)) ∧ w.grownBy w' (some g) := by
  obtain ⟨ti, z, ht, hti, hz, hs, hb, hzs, hsz⟩ := hT
  obtain ⟨hl, h2⟩ := ho
  rcases h2 with ⟨h2, h0⟩ | ⟨g', cap', cur, h2, hbg, hh, hnc, hcm, hcs, htk⟩
  · cases h2
  · injection h2 with h2 _ h3
    injection h2 with h2
    injection h2 with h2
    subst h2 h3 hs
    have hmul1 : (i + 1) * ti.size = i * ti.size + ti.size := by rw [Nat.add_mul, Nat.one_mul]
    have hmul2 : (n - (i + 1)) * ti.size + (i + 1) * ti.size = n * ti.size := by rw [← Nat.add_mul]; congr 1; omega
    have hmul3 : (n - 1) * ti.size + ti.size = n * ti.size := by
      have : (n - 1 + 1) * ti.size = (n - 1) * ti.size + ti.size := by rw [Nat.add_mul, Nat.one_mul]
      rw [← this]; congr 1; omega
    have hncm : n * ti.size ≤ cap * ti.size := Nat.mul_le_mul_right _ hnc
    have hnl : (xs.drop ((i + 1) * ti.size)).length = (n - (i + 1)) * ti.size := by rw [List.length_drop, hl]; omega
    have hcl : cur.toList.length = cap * ti.size := by simpa using hcs
    have hrun := run_append_room (P := P) w t ty e ti ht hti g i cap cur hh ⟨g, off, none⟩ (n - (i + 1)) c (xs.drop ((i + 1) * ti.size)) hnl (fun j u hu => by
      have hjl := (List.getElem?_eq_some_iff.1 hu).1
      rw [hnl] at hjl
      have hin : i + 1 < n := by
        rcases Nat.lt_or_ge (i + 1) n with h | h
        · exact h
        · rw [show n - (i + 1) = 0 by omega, Nat.zero_mul] at hjl
          omega
      have ea : (⟨g, off, none⟩ : Addr).add j = ⟨g, off + j, none⟩ := by unfold Addr.add; split <;> simp_all
      rw [ea, hoff hin]
      rw [List.getElem?_drop, ← htk, List.getElem?_take] at hu
      split at hu
      · simp [World.cell?, hh]
        simpa using hu
      · cases hu) (fun u hu => h1 u (List.mem_of_mem_drop hu)) (by omega) (by rw [hnl, ← Array.length_toList, hcl]; omega)
    refine ⟨_, hrun, ⟨?_, .inr ⟨g, cap, _, rfl, hbg, heap_setRow hh _, by omega, hcm, ?_, ?_⟩⟩, grown_setRow _ _ _⟩
    · rw [List.length_append, List.length_take, hl, hnl]
      omega
    · simp only [List.size_toArray, List.length_append, List.length_take, List.length_drop, hcl, hnl]
      omega
    · simp only []
      rw [List.take_append_of_le_length (by rw [List.length_append, List.length_take, hcl, hnl]; omega), List.take_of_length_le (by rw [List.length_append, List.length_take, hcl, hnl]; omega), ← htk, List.take_take, Nat.min_eq_left (by omega)]
/-- 'clear(s[n:n+1])', behind the row's end. -/
theorem run_clear1 {P : Program} {w : World} {base t e size g n cap : Nat} {xs : List Value} {ty : TypeId} {ti : TypeInfo} {z : Value} (ht : P.underlying t = some (.slice e)) (hti : P.info? e = some ti) (hz : ti.zero = some z) (hzs : z.cells.size = size) (hz1 : ∀ u ∈ z.cells.toList, u.oneCell' = true)
    (ho : w.ownsRow base e size (.slice (some ⟨g, 0, none⟩) n cap) n xs) (hroom : n + 1 ≤ cap) (c : Nat) :
    ∃ w', (Builtin.clear_ #[t] ty #[.slice (some ⟨g, n * size, none⟩) 1 c]).run P w = .ok (.tuple #[]) w' ∧ w'.ownsRow base e size (.slice (some ⟨g, 0, none⟩) n cap) n xs ∧ w.grownBy w' (some g) := by
  obtain ⟨hl, h2⟩ := ho
  rcases h2 with ⟨h2, h0⟩ | ⟨g', cap', cur, h2, hbg, hh, hnc, hcm, hcs, htk⟩
  · cases h2
  · injection h2 with h2 _ h3
    injection h2 with h2
    injection h2 with h2
    subst h2 h3
    have hmul : (n + 1) * size ≤ cap * size := Nat.mul_le_mul_right _ hroom
    have hmul1 : (n + 1) * size = n * size + size := by rw [Nat.add_mul, Nat.one_mul]
    have hcl : cur.toList.length = cap * size := by simpa using hcs
    have hz0 : (Builtin.zeroCells z.cells 1).toList = z.cells.toList := by
      simp [Builtin.zeroCells]
      apply List.ext_getElem?
      intro j
      by_cases hj : j < z.cells.size
      · simp [hj, Nat.mod_eq_of_lt hj]
      · simp [hj]
    have hzl : z.cells.toList.length = size := by simpa using hzs
    have hst := run_storeCells_at P g (n * size) e z.cells.toList 0 cur w hh (by rw [hzl, Nat.add_zero, ← Array.length_toList, hcl]; omega) hz1
    have hrun : (Builtin.clear_ #[t] ty #[.slice (some ⟨g, n * size, none⟩) 1 c]).run P w = .ok (.tuple #[]) (w.setRow g (cur.toList.take (n * size + 0) ++ z.cells.toList ++ cur.toList.drop (n * size + 0 + z.cells.toList.length)).toArray) := by
      simp [Builtin.clear_, run_underlying ht, zeroValue, typeInfo, hti, hz, hz0]
      rw [hst]
      simp [Result.andThen]
    refine ⟨_, hrun, ⟨hl, .inr ⟨g, cap, _, rfl, hbg, heap_setRow hh _, hnc, hcm, ?_, ?_⟩⟩, grown_setRow _ _ _⟩
    · simp only [List.size_toArray, List.length_append, List.length_take, List.length_drop, hcl, hzl]
      omega
    · simp only [Nat.add_zero]
      rw [List.append_assoc, List.take_append_of_le_length (by rw [List.length_take, hcl]; omega), List.take_of_length_le (by rw [List.length_take, hcl]; omega), htk]
end Go.Proofs.Ytompkpleiichaaa
