/- Part 3 of the texts that JournalApart needs: JrnPlain WireMod WireLives WireMore WireVal WireVal2 WireVals WireVals2 WireLaws WireAppend WireCut WireRefW HashWords. -/
import Derived.Deep.RegionLaw
import Derived.Deep.RegionHeld3
import Derived.Deep.AppendLies
import Derived.RangeFuncNested
import Derived.RangeFuncBound
import Derived.RangeFuncCalls
import Derived.RangeFuncLeaves
import Derived.RangeFuncBox
import Derived.Shelf.Abstract
import Derived.Shelf.RegionOpen
import Derived.WalkKit
import Derived.OwnWalkIn
import Derived.TacticsInMore
import Derived.LoopNIn
import Derived.LoopIn
import Derived.Lib.Hide
import Derived.Test.YtldmokjpfnakkaaProg
import Derived.Test.YtldmokjpfnakkaaGJournalApart2

/- journal, plain Lean: frames, what stands at the beginning of bytes, what a scan finds; a bit that is turned. -/
namespace Go.Proofs.Ytldmokjpfnakkaa
open Go.RowKit

def recB : List UInt8 := [114, 101, 99, 111, 114, 100]
def coreB (k : Int) (bs : List UInt8) : List UInt8 := encInt k ++ encRaw bs
def recN (c : List UInt8) : Nat := (bytesI recB c).toNat
def frameB (k : Int) (bs : List UInt8) : List UInt8 := encRaw (coreB k bs) ++ varint (recN (coreB k bs))
theorem bytesI_in (l bs : List UInt8) : InU (bytesI l bs) := mixI_in _ _
theorem recN_eq (c : List UInt8) : bytesI recB c = ((recN c : Nat) : Int) := by unfold recN; have := (bytesI_in recB c).1; omega
theorem recN_lt (c : List UInt8) : recN c ≤ 18446744073709551615 := by unfold recN; have := bytesI_in recB c; unfold InU at this; omega
theorem encRaw_len {bs : List UInt8} (h : bs.length ≤ 18446744073709551615) : bs.length < (encRaw bs).length ∧ (encRaw bs).length ≤ bs.length + 10 := by
  unfold encRaw
  rw [List.length_append]
  have := varint_pos bs.length
  have := varint_len10 h
  omega
theorem encRaw_lt (bs : List UInt8) : bs.length < (encRaw bs).length := by
  unfold encRaw
  rw [List.length_append]
  have := varint_pos bs.length
  omega
theorem coreB_len {k : Int} {bs : List UInt8} (hk : InI k) (h : bs.length ≤ 18446744073709551615) : (coreB k bs).length ≤ bs.length + 20 := by
  unfold coreB
  rw [List.length_append]
  have h1 := varint_len10 (zigI_lt hk.1 hk.2)
  have h2 := (encRaw_len h).2
  unfold encInt
  omega
theorem coreB_gt (k : Int) (bs : List UInt8) : bs.length < (coreB k bs).length := by
  unfold coreB
  rw [List.length_append]
  have := encRaw_lt bs
  omega
theorem frameB_gt (k : Int) (bs : List UInt8) : (coreB k bs).length + 1 < (frameB k bs).length := by
  unfold frameB
  rw [List.length_append]
  have := encRaw_lt (coreB k bs)
  have := varint_pos (recN (coreB k bs))
  omega
theorem frameB_len {k : Int} {bs : List UInt8} (hk : InI k) (h : bs.length ≤ 1152921504606846976) : (frameB k bs).length ≤ bs.length + 40 := by
  unfold frameB
  rw [List.length_append]
  have h1 := coreB_len hk (bs := bs) (by omega)
  have h2 := (encRaw_len (bs := coreB k bs) (by omega)).2
  have h3 := varint_len10 (recN_lt (coreB k bs))
  omega
theorem frameB_pos (k : Int) (bs : List UInt8) : 0 < (frameB k bs).length := by have := frameB_gt k bs; omega

theorem varint_split {a b : Nat} (ha : a ≤ 18446744073709551615) (hb : b ≤ 18446744073709551615) {r s : List UInt8} (h : varint a ++ r = varint b ++ s) : a = b ∧ r = s := by
  have h1 := decU_enc ha r
  rw [h, decU_enc hb s] at h1
  simp only [Prod.mk.injEq, true_and] at h1
  exact ⟨h1.1.symm, h1.2.symm⟩
theorem encRaw_split {a b : List UInt8} (ha : a.length ≤ 18446744073709551615) (hb : b.length ≤ 18446744073709551615) {r s : List UInt8} (h : encRaw a ++ r = encRaw b ++ s) : a = b ∧ r = s := by
  have h1 := decRaw_enc ha r
  rw [h, decRaw_enc hb s] at h1
  simp only [Prod.mk.injEq, true_and] at h1
  exact ⟨h1.1.symm, h1.2.symm⟩
theorem core_inj {k : Int} {a b : List UInt8} (ha : a.length ≤ 18446744073709551615) (hb : b.length ≤ 18446744073709551615) (h : coreB k a = coreB k b) : a = b := by
  have h1 := List.append_cancel_left h
  exact (encRaw_split (r := []) (s := []) ha hb (by simpa using h1)).1
theorem frame_split {k : Int} {a b : List UInt8} {r s : List UInt8} (ha : (frameB k a).length ≤ 18446744073709551615) (hb : (frameB k b).length ≤ 18446744073709551615) (h : frameB k a ++ r = frameB k b ++ s) : a = b ∧ r = s := by
  have l1 := frameB_gt k a
  have l2 := frameB_gt k b
  have l3 := coreB_gt k a
  have l4 := coreB_gt k b
  have h0 := h
  unfold frameB at h
  rw [List.append_assoc, List.append_assoc] at h
  obtain ⟨h1, -⟩ := encRaw_split (by omega) (by omega) h
  have e := core_inj (by omega) (by omega) h1
  subst e
  exact ⟨rfl, List.append_cancel_left h0⟩

/-- The record (if any) whose frame with the number k stands at the beginning. -/
def FirstIs (k : Int) (bs : List UInt8) : Option (List UInt8) → Prop
  | some x => ∃ r, bs = frameB k x ++ r
  | none => ∀ x r, bs ≠ frameB k x ++ r
/-- What first of the package looks at. -/
def szB (bs : List UInt8) : Nat := (readU (bs.take 10) 0).2.1
def innerB (bs : List UInt8) : List UInt8 := (bs.drop (varint (szB bs)).length).take (szB bs)
def inRec (c : List UInt8) : Int × List UInt8 × List UInt8 := readRaw (readU c 0).2.2 (readU c 0).1
theorem inRec_core {k : Int} (hk : InI k) {x r : List UInt8} (hx : x.length ≤ 18446744073709551615) : inRec (coreB k x ++ r) = (0, x, r) := by
  have e : readU (coreB k x ++ r) 0 = (0, zigI k, encRaw x ++ r) := by
    unfold readU coreB
    rw [if_pos rfl, List.append_assoc]
    exact decU_int hk _
  unfold inRec
  rw [e]
  unfold readRaw
  rw [if_pos rfl]
  exact decRaw_enc hx r
theorem first_parts {k : Int} (hk : InI k) {x r bs : List UInt8} (h : bs = frameB k x ++ r) (hb : bs.length ≤ 9223372036854775807) :
    szB bs = (coreB k x).length ∧ (varint (szB bs)).length + szB bs ≤ bs.length ∧ innerB bs = coreB k x ∧ (inRec (innerB bs)) = (0, x, []) ∧ readRaw bs 0 = (0, coreB k x, varint (recN (coreB k x)) ++ r) := by
  have l1 := frameB_gt k x
  have l2 := coreB_gt k x
  have l3 : bs.length = (frameB k x).length + r.length := by rw [h, List.length_append]
  have hc : (coreB k x).length ≤ 18446744073709551615 := by omega
  have e0 : bs = varint (coreB k x).length ++ (coreB k x ++ (varint (recN (coreB k x)) ++ r)) := by rw [h]; unfold frameB encRaw; simp only [List.append_assoc]
  have h10 := varint_len10 hc
  have e1 : szB bs = (coreB k x).length := by
    unfold szB readU
    rw [if_pos rfl]
    have : bs.take 10 = varint (coreB k x).length ++ (coreB k x ++ (varint (recN (coreB k x)) ++ r)).take (10 - (varint (coreB k x).length).length) := by
      conv => lhs; rw [e0]
      rw [List.take_append, List.take_of_length_le h10]
    rw [this, decU_enc hc]
  have l4 : bs.length = (varint (coreB k x).length).length + ((coreB k x).length + ((varint (recN (coreB k x))).length + r.length)) := by
    conv => lhs; rw [e0]
    simp only [List.length_append]
  have e2 : innerB bs = coreB k x := by
    unfold innerB
    rw [e1]
    conv => lhs; rw [e0]
    rw [List.drop_left, List.take_left]
  refine ⟨e1, by rw [e1]; omega, e2, ?_, ?_⟩
  · rw [e2]
    have := inRec_core hk (x := x) (r := []) (by omega)
    simpa using this
  · unfold readRaw
    rw [if_pos rfl, h]
    unfold frameB
    rw [List.append_assoc]
    exact decRaw_enc hc _
theorem FirstIs.unique {k : Int} {bs : List UInt8} {a b : Option (List UInt8)} (hl : bs.length ≤ 9223372036854775807) (ha : FirstIs k bs a) (hb : FirstIs k bs b) : a = b := by
  cases a with
  | none =>
    cases b with
    | none => rfl
    | some y => obtain ⟨r, hr⟩ := hb; exact absurd hr (ha y r)
  | some x =>
    obtain ⟨r, hr⟩ := ha
    cases b with
    | none => exact absurd hr (hb x r)
    | some y =>
      obtain ⟨s, hs⟩ := hb
      have l1 : bs.length = (frameB k x).length + r.length := by rw [hr, List.length_append]
      have l2 : bs.length = (frameB k y).length + s.length := by rw [hs, List.length_append]
      rw [(frame_split (by omega) (by omega) (hr.symm.trans hs)).1]

/-- Frames one after another, numbered from k on. -/
def framesB : Nat → List (List UInt8) → List UInt8
  | _, [] => []
  | k, x :: l => frameB (k : Int) x ++ framesB (k + 1) l
theorem framesB_nil (k : Nat) : framesB k [] = [] := rfl
theorem framesB_cons (k : Nat) (x : List UInt8) (l : List (List UInt8)) : framesB k (x :: l) = frameB (k : Int) x ++ framesB (k + 1) l := rfl
theorem framesB_append (x t : List (List UInt8)) : ∀ k : Nat, framesB k (x ++ t) = framesB k x ++ framesB (k + x.length) t := by
  induction x with
  | nil => intro k; rw [List.nil_append, framesB_nil, List.nil_append, List.length_nil, Nat.add_zero]
  | cons a x ih =>
    intro k
    have e : k + 1 + x.length = k + (a :: x).length := by rw [List.length_cons]; omega
    rw [List.cons_append, framesB_cons, framesB_cons, ih (k + 1), List.append_assoc, e]
theorem framesB_snoc (l : List (List UInt8)) (k : Nat) (x : List UInt8) : framesB k (l ++ [x]) = framesB k l ++ frameB ((k + l.length : Nat) : Int) x := by
  rw [framesB_append, framesB_cons, framesB_nil, List.append_nil]
theorem framesB_len (l : List (List UInt8)) : ∀ k : Nat, 2 * l.length ≤ (framesB k l).length := by
  induction l with
  | nil => intro k; exact Nat.zero_le _
  | cons x l ih =>
    intro k
    rw [framesB_cons, List.length_append, List.length_cons]
    have := ih (k + 1)
    have := frameB_gt (k : Int) x
    omega
def ScanIs (bs : List UInt8) (l : List (List UInt8)) (n : Nat) : Prop :=
  n = (framesB 0 l).length ∧ ∃ r, bs = framesB 0 l ++ r ∧ FirstIs (l.length : Nat) r none
theorem scan_ahead (x : List (List UInt8)) : ∀ (l : List (List UInt8)) (k : Nat) (rest r : List UInt8), (framesB k x ++ rest).length ≤ 9223372036854775807 → framesB k x ++ rest = framesB k l ++ r → FirstIs ((k + l.length : Nat) : Int) r none → x <+: l := by
  induction x with
  | nil => intros; exact List.nil_prefix
  | cons a x ih =>
    intro l k rest r hl h hn
    cases l with
    | nil =>
      exfalso
      rw [framesB_cons, framesB_nil, List.nil_append, List.append_assoc] at h
      rw [List.length_nil, Nat.add_zero] at hn
      exact hn a (framesB (k + 1) x ++ rest) h.symm
    | cons b l =>
      rw [framesB_cons, framesB_cons, List.append_assoc, List.append_assoc] at h
      rw [framesB_cons, List.append_assoc] at hl
      have l2 := hl
      rw [h] at l2
      rw [List.length_append] at hl l2
      obtain ⟨e, h2⟩ := frame_split (by omega) (by omega) h
      subst e
      obtain ⟨t, ht⟩ := ih l (k + 1) rest r (by omega) h2 (by
        have e : k + 1 + l.length = k + (a :: l).length := by rw [List.length_cons]; omega
        rw [e]
        exact hn)
      exact ⟨t, by rw [List.cons_append, ht]⟩
/-- A scan finds the frames that stand ahead. -/
theorem ScanIs.ahead {bs : List UInt8} {x l : List (List UInt8)} {rest : List UInt8} {n : Nat} (hl : bs.length ≤ 9223372036854775807) (h : ScanIs bs l n) (hx : bs = framesB 0 x ++ rest) : x <+: l ∧ (framesB 0 x).length ≤ n := by
  obtain ⟨rfl, r, hr, hn⟩ := h
  have hp := scan_ahead x l 0 rest r (by rw [← hx]; exact hl) (by rw [← hx]; exact hr) (by simpa using hn)
  refine ⟨hp, ?_⟩
  obtain ⟨t, rfl⟩ := hp
  rw [framesB_append, List.length_append]
  omega
theorem ScanIs.unique {bs : List UInt8} {l l' : List (List UInt8)} {n n' : Nat} (hl : bs.length ≤ 9223372036854775807) (h : ScanIs bs l n) (h' : ScanIs bs l' n') : l = l' ∧ n = n' := by
  obtain ⟨r, hr, -⟩ := h.2
  obtain ⟨r', hr', -⟩ := h'.2
  have p1 := (h.ahead hl hr').1
  have p2 := (h'.ahead hl hr).1
  have e : l = l' := (p2.eq_of_length (Nat.le_antisymm p2.length_le p1.length_le))
  subst e
  exact ⟨rfl, h.1.trans h'.1.symm⟩
theorem ScanIs.nil : ScanIs [] [] 0 := ⟨rfl, [], rfl, fun x r h => by
  have := congrArg List.length h
  rw [List.length_append] at this
  have := frameB_pos ((([] : List (List UInt8)).length : Nat) : Int) x
  simp at *
  omega⟩

/-- A bit turned behind the length: no frame of this number stands there. -/
theorem turned_none {k : Int} (hk : InI k) {x : List UInt8} (hx : x.length ≤ 1000000) {j : Nat} {v : UInt8} (hj : j < (frameB k x).length - (varint (coreB k x).length).length) (hv : ((frameB k x)[(varint (coreB k x).length).length + j]?).getD 0 ≠ v) :
    FirstIs k ((frameB k x).set ((varint (coreB k x).length).length + j) v) none := by
  intro y r hy
  have lx := frameB_len hk (bs := x) (by omega)
  have lc := coreB_len hk (bs := x) (by omega)
  have hlen := congrArg List.length hy
  rw [List.length_set, List.length_append] at hlen
  have ly := frameB_gt k y
  have ly2 := coreB_gt k y
  have e0 : frameB k x = varint (coreB k x).length ++ (coreB k x ++ varint (recN (coreB k x))) := by unfold frameB encRaw; rw [List.append_assoc]
  have e1 : frameB k y ++ r = varint (coreB k y).length ++ (coreB k y ++ (varint (recN (coreB k y)) ++ r)) := by unfold frameB encRaw; simp only [List.append_assoc]
  have hl0 : (frameB k x).length = (varint (coreB k x).length).length + (coreB k x ++ varint (recN (coreB k x))).length := by
    conv => lhs; rw [e0]
    rw [List.length_append]
  have e2 : (frameB k x).set ((varint (coreB k x).length).length + j) v = varint (coreB k x).length ++ (coreB k x ++ varint (recN (coreB k x))).set j v := by
    conv => lhs; rw [e0]
    rw [List.set_append_right _ _ (by omega), Nat.add_sub_cancel_left]
  rw [e2, e1] at hy
  obtain ⟨h1, h2⟩ := varint_split (by omega) (by omega) hy
  have hv' : ((coreB k x ++ varint (recN (coreB k x)))[j]?).getD 0 ≠ v := by
    rw [e0, List.getElem?_append_right (by omega), Nat.add_sub_cancel_left] at hv
    exact hv
  by_cases hin : j < (coreB k x).length
  · rw [List.set_append_left _ _ hin] at h2
    obtain ⟨h3, h4⟩ := List.append_inj h2 (by rw [List.length_set]; exact h1)
    have h5 := varint_split (r := []) (s := r) (recN_lt _) (recN_lt _) (by simpa using h4)
    have h6 : bytesI recB (coreB k x) = bytesI recB (coreB k y) := by rw [recN_eq, recN_eq, h5.1]
    rw [← h3] at h6
    have h7 := (bytes_one recB (g := j / 8) (a := coreB k x) (b := (coreB k x).set j v) (by simp) (by unfold nwords; omega) (fun i hi => by rw [group_set i hi])).1 h6
    apply hv'
    rw [List.getElem?_append_left hin, h7]
    simp [hin]
  · rw [List.set_append_right _ _ (by omega)] at h2
    obtain ⟨h3, h4⟩ := List.append_inj h2 h1
    have h5 := congrArg List.length h4
    rw [List.length_set, List.length_append, ← h3] at h5
    obtain rfl : r = [] := List.eq_nil_of_length_eq_zero (by omega)
    rw [List.append_nil, ← h3] at h4
    have hj2 : j - (coreB k x).length < (varint (recN (coreB k x))).length := by
      rw [hl0] at hj
      rw [List.length_append] at hj
      omega
    apply hv'
    rw [List.getElem?_append_right (by omega)]
    have h6 : (varint (recN (coreB k x)))[j - (coreB k x).length]? = ((varint (recN (coreB k x))).set (j - (coreB k x).length) v)[j - (coreB k x).length]? := by rw [h4]
    rw [h6]
    simp [hj2]
end Go.Proofs.Ytldmokjpfnakkaa

/- wire's Writer known by its own blocks: contracts that say which blocks turn. -/
namespace Go.Proofs.Ytldmokjpfnakkaa
open Go.RowKit

/-- A Writer at block gd whose slice is v, with the bytes bs. -/
def WrV (w : World) (gd : Nat) (v : Value) (bs : List UInt8) : Prop :=
  Blk w gd 37 #[v] ∧ w.ownsRow 0 5 1 v bs.length (bs.map fun b => Value.int .u8 ((b.toNat : Nat) : Int))
def WF (gd : Nat) (v : Value) (b : Nat) : Prop := b = gd ∨ v.ownBlock = some b
def WrNext (gd : Nat) (v : Value) (bs : List UInt8) (w w' : World) : Prop :=
  ∃ v', WrV w' gd v' bs ∧ Mod (WF gd v) w w' ∧ (v'.ownBlock = v.ownBlock ∨ ∀ b, v'.ownBlock = some b → w.heap.size ≤ b)
section
variable {w w' w'' : World} {gd : Nat} {v : Value} {bs bs' : List UInt8} {F : Nat → Prop}
theorem WrV.new (w : World) : WrV (w.alloc (.cells #[.slice none 0 0] 37)) w.heap.size (.slice none 0 0) [] := ⟨Blk.new _ _ _, World.ownsRow_nil _ _ _ _⟩
theorem WrV.mod (h : WrV w gd v bs) (m : Mod F w w') (hF : ∀ b, WF gd v b → ¬ F b) : WrV w' gd v bs := ⟨m.blk h.1 (hF _ (.inl rfl)), m.own h.2 (fun g e => hF g (.inr e))⟩
theorem WrV.all (h : WrV w gd v bs) (hb : Below w.heap.size w w') : WrV w' gd v bs := h.mod (F := fun _ => False) (Mod.of_below _ hb) (fun _ _ hf => hf)
theorem WrV.lt (h : WrV w gd v bs) : ∀ b, WF gd v b → b < w.heap.size := by
  rintro b (rfl | e)
  · exact h.1.lt
  · exact (h.2.lt b e).2
theorem WrV.slice (h : WrV w gd v bs) : ∃ A c, v = .slice A bs.length c := own_slice h.2
theorem WrNext.refl (h : WrV w gd v bs) : WrNext gd v bs w w := ⟨v, h, Mod.refl _ _, .inl rfl⟩
theorem WrNext.trans (h : WrNext gd v bs w w') (k : ∀ v', WrV w' gd v' bs → WrNext gd v' bs' w' w'') : WrNext gd v bs' w w'' := by
  obtain ⟨v1, h1, m1, o1⟩ := h
  obtain ⟨v2, h2, m2, o2⟩ := k v1 h1
  refine ⟨v2, h2, m1.trans m2 ?_, ?_⟩
  · rintro b (rfl | e)
    · exact .inl (.inl rfl)
    · rcases o1 with o | o
      · exact .inl (.inr (by rw [← o]; exact e))
      · exact .inr (o b e)
  · rcases o2 with o | o
    · rw [o]; exact o1
    · exact .inr (fun b e => Nat.le_trans m1.size (o b e))
theorem WrNext.step {v1 : Value} (h : WrV w' gd v1 bs) (m1 : Mod (WF gd v) w w') (o1 : v1.ownBlock = v.ownBlock ∨ ∀ b, v1.ownBlock = some b → w.heap.size ≤ b) (k : WrNext gd v1 bs' w' w'') : WrNext gd v bs' w w'' := by
  obtain ⟨v2, h2, m2, o2⟩ := k
  refine ⟨v2, h2, m1.trans m2 ?_, ?_⟩
  · rintro b (rfl | e)
    · exact .inl (.inl rfl)
    · rcases o1 with o | o
      · exact .inl (.inr (by rw [← o]; exact e))
      · exact .inr (o b e)
  · rcases o2 with o | o
    · rw [o]; exact o1
    · exact .inr (fun b e => Nat.le_trans m1.size (o b e))
theorem WrV.wr (h : WrV w gd v bs) : Wr w 0 gd bs := by
  obtain ⟨A, c, rfl⟩ := h.slice
  exact ⟨Nat.zero_le _, A, _, c, rfl, h.1, h.2⟩
theorem wrv_put {w3 : World} {v' : Value} (h : WrV w gd v bs) (hg : w.grownBy w3 v.ownBlock) (hown : w3.ownsRow 0 5 1 v' bs'.length (bs'.map fun b => Value.int .u8 ((b.toNat : Nat) : Int))) (ho : v'.ownBlock = v.ownBlock ∨ ∀ b, v'.ownBlock = some b → w.heap.size ≤ b) :
    w3.cell? ⟨gd, 0, none⟩ = some v ∧ w3.frozen? ⟨gd, 0, none⟩ = false ∧ WrNext gd v bs' w (w3.setCell ⟨gd, 0, none⟩ v') := by
  obtain ⟨k1, k2, k3, k4, -⟩ := own_put (by decide) (Nat.zero_le _) h.1 h.2 hg hown
  exact ⟨k1, k2, v', ⟨k3, k4⟩, (Mod.of_grown hg (fun g e => .inl (.inr e))).set (.inl (.inl rfl)) _, ho⟩
end
theorem WrV.one {w : World} {gd : Nat} {v : Value} {bs : List UInt8} (h : WrV w gd v bs) (hl : bs.length ≤ 35184372088832) (x : UInt8) (xi : Int) (hx : xi = ((x.toNat : Nat) : Int)) :
    ∃ A n c g cap w3, w.cell? ⟨gd, 0, none⟩ = some (.slice A n c) ∧
      Hid ((Builtin.append_ #[23, 23] 23 #[.slice A n c, .slice (some ⟨w.heap.size, 0, none⟩) 1 1]).run Try.prog (w.alloc (.cells #[.int .u8 xi] 5)) = .ok (.slice (some ⟨g, 0, none⟩) (n + 1) cap) w3) ∧
      w3.cell? ⟨gd, 0, none⟩ = some (.slice A n c) ∧ w3.frozen? ⟨gd, 0, none⟩ = false ∧ Hid (WrNext gd v (bs ++ [x]) w (w3.setCell ⟨gd, 0, none⟩ (.slice (some ⟨g, 0, none⟩) (n + 1) cap))) := by
  subst hx
  obtain ⟨A, c, rfl⟩ := h.slice
  obtain ⟨i0, hi, hz0, hz1, hz2⟩ := info_parts info_u8
  obtain ⟨g, cap, w3, hap, hown, hg, ho, _⟩ := run_append_one (P := Try.prog) w 0 23 23 5 i0 _ 1 Try.underlying23 hi hz0 hz1 hz2 rfl _ _ _ h.2 (.int .u8 ((x.toNat : Nat) : Int)) rfl (by unfold maxLen; omega) (by omega) (Nat.zero_le _)
  obtain ⟨k1, k2, k3⟩ := wrv_put (bs' := bs ++ [x]) h hg (by rw [List.map_append, List.length_append]; exact hown) (v' := .slice (some ⟨g, 0, none⟩) (bs.length + 1) cap) (ho.imp (fun e => by simpa [Value.ownBlock] using e) (fun e b eb => by simp [Value.ownBlock] at eb; omega))
  exact ⟨A, _, c, g, cap, w3, by simpa using h.1.cell 0, Lib.hid hap, k1, k2, Lib.hid k3⟩
theorem WrV.more {w : World} {gd : Nat} {v : Value} {bs : List UInt8} (h : WrV w gd v bs) (A' : Option Addr) (m c' : Nat) (xs : List UInt8) (hx : xs.length = m) (hR : Rd w w.heap.size A' m (vByte xs)) (hl : bs.length + m ≤ 70368744177664) :
    ∃ A n c A3 n3 c3 w3, w.cell? ⟨gd, 0, none⟩ = some (.slice A n c) ∧
      Hid ((Builtin.append_ #[23, 23] 23 #[.slice A n c, .slice A' m c']).run Try.prog w = .ok (.slice A3 n3 c3) w3) ∧
      w3.cell? ⟨gd, 0, none⟩ = some (.slice A n c) ∧ w3.frozen? ⟨gd, 0, none⟩ = false ∧ Hid (WrNext gd v (bs ++ xs) w (w3.setCell ⟨gd, 0, none⟩ (.slice A3 n3 c3))) := by
  obtain ⟨A, c, rfl⟩ := h.slice
  obtain ⟨i0, hi, hz0, hz1, hz2⟩ := info_parts info_u8
  obtain ⟨v', w3, hap, hown, hg, ho⟩ := run_append_rd (P := Try.prog) w 0 23 23 5 i0 _ 1 Try.underlying23 hi hz0 hz1 hz2 rfl _ _ _ h.2 w.heap.size A' m c' (vByte xs) hR hR.none_ (fun _ _ => rfl) (by unfold maxLen; omega) (by omega) (Nat.zero_le _)
  have e : (List.range m).map (vByte xs) = xs.map fun b => Value.int .u8 ((b.toNat : Nat) : Int) := by
    subst hx
    refine List.ext_getElem (by simp) fun i h1 h2 => ?_
    have hi : i < xs.length := by simpa using h2
    simp [vByte, hi]
  rw [e, ← hx] at hown
  obtain ⟨A3, c3, rfl⟩ := own_slice hown
  obtain ⟨k1, k2, k3⟩ := wrv_put (bs' := bs ++ xs) h hg (by rw [List.map_append, List.length_append]; exact hown) (ho.imp (fun e => e) (fun e b eb => by rw [e] at eb; injection eb with eb; omega))
  exact ⟨A, _, c, _, _, _, w3, by simpa using h.1.cell 0, Lib.hid hap, k1, k2, Lib.hid k3⟩

set_option maxRecDepth 100000 in
theorem wuintV_any (gd : Nat) (v : Value) (bs : List UInt8) (n : Nat) (ni : Int) (hni : ni = (n : Int)) (w : World) (HW : Hid (WrV w gd v bs)) (hn : n ≤ 18446744073709551615) (hl : bs.length ≤ 17592186044416) :
    Calls Try.prog 23 #[.pointer (some ⟨gd, 0, none⟩), .int .u64 ni] w fun e w' => e = .returned (.tuple #[]) ∧ WrNext gd v (bs ++ varint n) w w' := by
  subst hni
  have HV := Lib.hid (varint_len10 hn)
  go_enter Try.func23, Try.ntmps23
  go_wp2
  go_loopw [1] (fun u wr => ∃ m : Nat, ∃ pre : List UInt8, u = .int .u64 (m : Int) ∧ m ≤ 18446744073709551615 ∧ Hid (pre ++ varint m = bs ++ varint n) ∧ Hid (WrNext gd v pre w wr)) (fun u _ => (intOf u).toNat)
  case atStart => exact ⟨n, bs, rfl, hn, Lib.hid rfl, Lib.hid (WrNext.refl HW.out)⟩
  case round =>
    obtain ⟨m, pre, rfl, hm, HE, HWr⟩ := hrel
    have hpl : pre.length ≤ 35184372088832 := by
      have h1 := congrArg List.length HE.out
      simp only [List.length_append] at h1
      have := HV.out
      omega
    obtain ⟨v1, h1, m1, o1⟩ := HWr.out
    by_cases hge : 128 ≤ m
    · obtain ⟨A, k, c, g, cap, w3, hc, HA, hc3, hf3, HW3⟩ := h1.one hpl (UInt8.ofNat (m % 128 + 128)) (bits BinOp.or IntKind.u8 ((m : Int) % 256) 128) (or128 m)
      have HZ := Lib.hid (WrNext.step h1 m1 o1 HW3.out)
      clear h1 m1 o1 HWr HW3
      go_wp2_with (at_builtin; refine wpList_append_run HA.out rfl rfl rfl rfl ?_)
      exact ⟨⟨m / 128, _, by go_num, by omega, Lib.hid (by rw [← HE.out, varint_ge hge, List.append_assoc]; rfl), HZ⟩, by simp [intOf]; omega⟩
    · obtain ⟨A, k, c, g, cap, w3, hc, HA, hc3, hf3, HW3⟩ := h1.one hpl (UInt8.ofNat m) (m : Int) (by rw [ofNat_toNat (by omega)])
      have HZ := Lib.hid (WrNext.step h1 m1 o1 HW3.out)
      clear h1 m1 o1 HWr HW3
      go_wp2_with (at_builtin; refine wpList_append_run HA.out rfl rfl rfl rfl ?_)
      go_end0
      exact ⟨rfl, by rw [← HE.out, varint_lt (by omega)]; exact HZ.out⟩

set_option maxRecDepth 100000 in
theorem wrawV_any (gd : Nat) (v : Value) (bs xs : List UInt8) (A : Option Addr) (m c : Nat) (w : World) (HW : Hid (WrV w gd v bs)) (HX : Hid (xs.length = m)) (hm : m ≤ 17592186044416) (hR : Rd w w.heap.size A m (vByte xs)) (hF : ∀ b off, A = some ⟨b, off, none⟩ → 0 < m → ¬ WF gd v b) (hl : bs.length ≤ 17592186044416) :
    Calls Try.prog 21 #[.pointer (some ⟨gd, 0, none⟩), .slice A m c] w fun e w' => e = .returned (.tuple #[]) ∧ WrNext gd v (bs ++ encRaw xs) w w' := by
  have HV := Lib.hid (varint_len10 (n := m) (by omega))
  have HR := Lib.hid hR
  have HF := Lib.hid hF
  clear hR hF
  go_enter Try.func21, Try.ntmps21
  go_wp2_with fail
  refine (wuintV_any gd v bs m _ rfl _ HW (by omega) hl).mono ?_
  rintro e w1 ⟨rfl, v1, h1, m1, o1⟩
  obtain ⟨A1, k, c1, A3, n3, c3, w3, hc, HA, hc3, hf3, HW3⟩ := h1.more A m c xs HX.out ((m1.rd HR.out (Nat.le_refl _) HF.out).more m1.size) (by have := HV.out; simp only [List.length_append]; omega)
  have HZ := Lib.hid (WrNext.step h1 m1 o1 HW3.out)
  clear h1 m1 o1 HW3
  go_wp2_with (at_builtin; refine wpList_append_run HA.out rfl rfl rfl rfl ?_)
  go_end0
  exact ⟨rfl, by unfold encRaw; rw [HX.out, ← List.append_assoc]; exact HZ.out⟩
end Go.Proofs.Ytldmokjpfnakkaa

/- The documented examples (worldmintlaw02.lives). -/
namespace Go.Proofs.Ytldmokjpfnakkaa
open Go.RowKit

theorem varint_300 : varint 300 = [172, 2] := by rw [varint_ge (by decide), varint_lt (by decide)]; rfl
theorem encInt_m1 : encInt (-1) = [1] := by unfold encInt; rw [varint_lt (by decide)]; rfl
theorem encRaw_ab : encRaw [97, 98] = [2, 97, 98] := by unfold encRaw; rw [varint_lt (by decide)]; rfl
theorem Rdr.other {w w' : World} {B gd B1 g1 : Nat} {rest rest1 : List UInt8} {err err1 : Int} (h : Rdr w B gd rest err) (h1 : Rdr w B1 g1 rest1 err1) (hne : gd ≠ g1) (hg : w.grownBy w' (some g1)) : Rdr w' B gd rest err := by
  obtain ⟨k1, k2, A, n, c, p1, p2, p3, p4⟩ := h
  obtain ⟨_, _, A1, n1, c1, q1, _⟩ := h1
  refine ⟨k1, Nat.le_trans k2 hg.size, A, n, c, p1.grown hg (by simpa using hne), p2, p3, fun e => ⟨(p4 e).1, (p4 e).2.1, ?_⟩⟩
  intro hn
  obtain ⟨b, off, e', hb, hc⟩ := (p4 e).2.2 hn
  have hne' : b ≠ g1 := by
    rintro rfl
    have h0 := hc 0 hn
    rw [Nat.add_zero, Blk.cell q1 off] at h0
    rcases off with _ | _ | off <;> simp [vByte] at h0
  exact ⟨b, off, e', hb, fun j hj => (World.cell?_of_block (w := w) (hg.block b (by omega) (by simpa using hne'))).trans (hc j hj)⟩
theorem rd_litb (W : World) (t : TypeId) (cs : List UInt8) (m : Nat) (hm : cs.length = m) (vs : Array Value) (hv : vs = (cs.map fun b => Value.int .u8 ((b.toNat : Nat) : Int)).toArray) : Rd (W.alloc (.cells vs t)) (W.heap.size + 1) (some ⟨W.heap.size, 0, none⟩) m (vByte cs) := by
  subst hv hm
  exact fun _ => ⟨_, _, rfl, by omega, fun j hj => by
    rw [Nat.zero_add, Blk.cell (Blk.new W t _) j]
    simp [vByte, hj]⟩

end Go.Proofs.Ytldmokjpfnakkaa

/- Writers and rows beside other memory that turns. -/
namespace Go.Proofs.Ytldmokjpfnakkaa
open Go.RowKit

/-- A Writer whose blocks all lie below M. -/
def WrIn (w : World) (B M gd : Nat) (bs : List UInt8) : Prop :=
  B ≤ gd ∧ gd < M ∧ ∃ A n c, bs.length = n ∧ Blk w gd 37 #[.slice A n c] ∧ w.ownsRow B 5 1 (.slice A n c) n (bs.map fun b => Value.int .u8 ((b.toNat : Nat) : Int)) ∧ ∀ k, (Value.slice A n c).ownBlock = some k → k < M
theorem Wr.within {w : World} {B gd : Nat} {bs : List UInt8} (h : Wr w B gd bs) : WrIn w B w.heap.size gd bs := by
  obtain ⟨h0, A, n, c, h1, h2, h3⟩ := h
  exact ⟨h0, h2.lt, A, n, c, h1, h2, h3, fun k e => (h3.lt k e).2⟩
theorem WrIn.wr {w : World} {B M gd : Nat} {bs : List UInt8} (h : WrIn w B M gd bs) : Wr w B gd bs := by
  obtain ⟨h0, _, A, n, c, h1, h2, h3, _⟩ := h
  exact ⟨h0, A, n, c, h1, h2, h3⟩
theorem WrIn.grown {w w' : World} {B M gd : Nat} {bs : List UInt8} {row : Option Nat} (h : WrIn w B M gd bs) (hg : w.grownBy w' row) (hr : ∀ r, row = some r → r < B ∨ M ≤ r) : WrIn w' B M gd bs := by
  obtain ⟨h0, h0', A, n, c, h1, h2, h3, h4⟩ := h
  refine ⟨h0, h0', A, n, c, h1, h2.grown hg (fun e => by have := hr gd e.symm; omega), h3.kept hg ?_, h4⟩
  cases hv : (Value.slice A n c).ownBlock with
  | none => exact .inl rfl
  | some k => exact .inr (fun e => by
      have := hr k e.symm
      have := h4 k hv
      have := (h3.lt k hv).1
      omega)
theorem WrIn.below {w w' : World} {B M gd : Nat} {bs : List UInt8} (h : WrIn w B M gd bs) (hb : Below w.heap.size w w') : WrIn w' B M gd bs := h.grown (only_of_below hb none) (fun _ e => by cases e)
theorem own_grown {w w' : World} {base e size n : Nat} {v : Value} {xs : List Value} {row : Option Nat} (h : w.ownsRow base e size v n xs) (hg : w.grownBy w' row) (hr : ∀ r, row = some r → r < base) : w'.ownsRow base e size v n xs := by
  refine h.kept hg ?_
  cases hv : v.ownBlock with
  | none => exact .inl rfl
  | some k => exact .inr (fun e => by
      have := hr k e.symm
      have := (h.lt k hv).1
      omega)
theorem below_grown {B : Nat} {a w w' : World} {row : Option Nat} (h : Below B a w) (hg : w.grownBy w' row) (hB : B ≤ w.heap.size) (hr : ∀ r, row = some r → B ≤ r) : Below B a w' := h.grown hg hB hr

/-- 'append([]byte{}, b...)'. -/
theorem copy_run (w : World) (A : Option Addr) (n c : Nat) (bs : List UInt8) (hx : bs.length = n) (hR : Rd w w.heap.size A n (vByte bs)) (hn : n ≤ 70368744177664) :
    ∃ A' c' w3, Hid ((Builtin.append_ #[23, 23] 23 #[.slice (some ⟨w.heap.size, 0, none⟩) 0 0, .slice A n c]).run Try.prog (w.alloc (.cells #[] 5)) = .ok (.slice A' n c') w3) ∧ n ≤ c' ∧ c' ≤ 9223372036854775807 ∧
      w3.ownsRow w.heap.size 5 1 (.slice A' n c') n (bs.map fun b => Value.int .u8 ((b.toNat : Nat) : Int)) ∧ Rd w3 w3.heap.size A' n (vByte bs) ∧ Below w.heap.size w w3 := by
  obtain ⟨i0, hi, hz0, hz1, hz2⟩ := info_parts info_u8
  have ho : (w.alloc (.cells #[] 5)).ownsRow w.heap.size 5 1 (.slice (some ⟨w.heap.size, 0, none⟩) 0 0) 0 [] := World.ownsRow_made w #[] 0 (Nat.le_refl _) (by decide) rfl
  obtain ⟨v, w3, hap, hown, hg, _⟩ := run_append_rd (P := Try.prog) (w.alloc (.cells #[] 5)) w.heap.size 23 23 5 i0 _ 1 Try.underlying23 hi hz0 hz1 hz2 rfl _ 0 [] ho w.heap.size A n c (vByte bs) (hR.alloc (Nat.le_refl _) _) hR.none_ (fun _ _ => rfl) (by unfold maxLen; omega) (by omega) (by simp)
  simp only [Nat.zero_add, List.nil_append] at hown
  obtain ⟨A', c', rfl⟩ := own_slice hown
  have e : (List.range n).map (vByte bs) = bs.map fun b => Value.int .u8 ((b.toNat : Nat) : Int) := by
    refine List.ext_getElem (by simp [hx]) fun i h1 h2 => ?_
    have hi : i < bs.length := by simpa using h2
    simp [vByte, hi]
  rw [e] at hown
  obtain ⟨_, r2, r3⟩ := rd_bytes hown
  exact ⟨A', c', w3, Lib.hid hap, r2, own_cap hown, hown, r3, ((Below.refl _ _).alloc (Nat.le_refl _) _).grown hg (by simp) (fun k e => (ho.lt k e).1)⟩
end Go.Proofs.Ytldmokjpfnakkaa

/- Values of worldmintref02 in memory; write, encode. -/
namespace Go.Proofs.Ytldmokjpfnakkaa
open Go.RowKit

/-- A value (worldmintref02.Val). -/
structure V where
  kind : Int
  u : Nat
  n : Int
  b : List UInt8
  l : List Int
def V0 : V := ⟨0, 0, 0, [], []⟩
def vCells (v : V) (s t : Sl) : Array Value := #[.int .i64 v.kind, .int .u64 (v.u : Int), .int .i64 v.n, .slice s.1 s.2.1 s.2.2, .slice t.1 t.2.1 t.2.2]
/-- What is encoded. -/
def encV (v : V) : List UInt8 :=
  if v.kind = 0 then varint v.u else if v.kind = 1 then encInt v.n else if v.kind = 2 then encBool (v.n == 1) else if v.kind = 3 ∨ v.kind = 4 then encRaw v.b else encInts v.l
/-- Its parts fit. -/
structure FitV (v : V) : Prop where
  u : v.u ≤ 18446744073709551615
  n : InI v.n
  b : v.b.length ≤ 1000
  l : v.l.length ≤ 1000
  li : ∀ j : Nat, -9223372036854775808 ≤ v.l[j]?.getD 0 ∧ v.l[j]?.getD 0 ≤ 9223372036854775807
theorem encV_len {v : V} (h : FitV v) : (encV v).length ≤ 20000 := by
  unfold encV
  have h1 := varint_len10 h.u
  have h2 := encInt_len h.n.1 h.n.2
  have h3 : (encBool (v.n == 1)).length = 1 := by unfold encBool; split <;> rfl
  have h4 : (encRaw v.b).length ≤ 1010 := by
    unfold encRaw; rw [List.length_append]
    have := varint_len10 (n := v.b.length) (by have := h.b; omega)
    have := h.b
    omega
  have h5 : (encInts v.l).length ≤ 10010 := by
    rw [← encIntsTo_all v.l v.l.length (Nat.le_refl _)]
    have := encIntsTo_len v.l (by have := h.l; omega) h.li v.l.length (Nat.le_refl _)
    have := h.l
    omega
  split
  · omega
  · split
    · omega
    · split
      · omega
      · split
        · omega
        · omega

/-- The slice '.slice A n c' holds the values vs, all in blocks below B. -/
def VRow (w : World) (B : Nat) (A : Option Addr) (n : Nat) (vs : List V) : Prop :=
  vs.length = n ∧ ∃ S T : Nat → Sl, (0 < n → ∃ b off, A = some ⟨b, off, none⟩ ∧ b < B ∧ ∀ j, j < n → ∀ i, i < 5 → w.cell? ⟨b, off + j * 5 + i, none⟩ = (vCells (vs[j]?.getD V0) (S j) (T j))[i]?) ∧
    ∀ j, j < n → BIn w B (S j) (vs[j]?.getD V0).b ∧ NIn w B (T j) (vs[j]?.getD V0).l
theorem VRow.keep {w w' : World} {B n : Nat} {A : Option Addr} {vs : List V} (h : VRow w B A n vs) (hk : ∀ b, b < B → w'.heap[b]? = w.heap[b]?) : VRow w' B A n vs := by
  obtain ⟨hl, S, T, h1, h2⟩ := h
  refine ⟨hl, S, T, fun hn => ?_, fun j hj => ⟨(h2 j hj).1.keep hk, (h2 j hj).2.keep hk⟩⟩
  obtain ⟨b, off, e, hb, hc⟩ := h1 hn
  exact ⟨b, off, e, hb, fun j hj i hi => (World.cell?_of_block (w := w) (hk b hb)).trans (hc j hj i hi)⟩
theorem VRow.below {w w' : World} {B B' n : Nat} {A : Option Addr} {vs : List V} (h : VRow w B A n vs) (hb : Below B' w w') (hB : B ≤ B') : VRow w' B A n vs := h.keep fun b hlt => hb.block b (by omega)
theorem VRow.more {w : World} {B B' n : Nat} {A : Option Addr} {vs : List V} (h : VRow w B A n vs) (hB : B ≤ B') : VRow w B' A n vs := by
  obtain ⟨hl, S, T, h1, h2⟩ := h
  refine ⟨hl, S, T, fun hn => ?_, fun j hj => ⟨(h2 j hj).1.more hB, (h2 j hj).2.more hB⟩⟩
  obtain ⟨b, off, e, hb, hc⟩ := h1 hn
  exact ⟨b, off, e, by omega, hc⟩
theorem VRow.at_ {w : World} {B n k : Nat} {A : Option Addr} {vs : List V} (h : VRow w B A n vs) (hk : k < n) :
    ∃ (b off : Nat) (v : V) (s t : Sl), A = some ⟨b, off, none⟩ ∧ b < B ∧ Hid (v = vs[k]?.getD V0) ∧ w.cell? ⟨b, off + k * 5, none⟩ = some (.int .i64 v.kind) ∧ w.cell? ⟨b, off + k * 5 + 1, none⟩ = some (.int .u64 (v.u : Int)) ∧ w.cell? ⟨b, off + k * 5 + 2, none⟩ = some (.int .i64 v.n) ∧
      w.cell? ⟨b, off + k * 5 + 3, none⟩ = some (.slice s.1 s.2.1 s.2.2) ∧ w.cell? ⟨b, off + k * 5 + 4, none⟩ = some (.slice t.1 t.2.1 t.2.2) ∧ Hid (BIn w B s v.b) ∧ Hid (NIn w B t v.l) := by
  obtain ⟨_, S, T, h1, h2⟩ := h
  obtain ⟨b, off, e, hb, hc⟩ := h1 (by omega)
  have c := hc k hk
  refine ⟨b, off, _, S k, T k, e, hb, Lib.hid rfl, ?_, ?_, ?_, ?_, ?_, Lib.hid (h2 k hk).1, Lib.hid (h2 k hk).2⟩
  · simpa [vCells] using c 0 (by decide)
  · simpa [vCells] using c 1 (by decide)
  · simpa [vCells] using c 2 (by decide)
  · simpa [vCells] using c 3 (by decide)
  · simpa [vCells] using c 4 (by decide)
/-- The encoding of the first k values. -/
def encTo (vs : List V) (k : Nat) : List UInt8 := (vs.take k).flatMap encV
theorem encTo_succ (vs : List V) (k : Nat) (hk : k < vs.length) : encTo vs (k + 1) = encTo vs k ++ encV (vs[k]?.getD V0) := by
  unfold encTo
  rw [List.take_succ_eq_append_getElem hk, List.flatMap_append]
  simp [hk]
theorem encTo_len (vs : List V) (hf : ∀ j : Nat, FitV (vs[j]?.getD V0)) : ∀ k, k ≤ vs.length → (encTo vs k).length ≤ 20000 * k
  | 0, _ => by simp [encTo]
  | k + 1, h => by
    rw [encTo_succ vs k (by omega), List.length_append]
    have := encTo_len vs hf k (by omega)
    have := encV_len (hf k)
    omega

end Go.Proofs.Ytldmokjpfnakkaa

/- The walk of worldmintlaw02.read. -/
namespace Go.Proofs.Ytldmokjpfnakkaa
open Go.RowKit

/-- Reading a value of a kind: the error, the value, the rest. -/
def readV (kind : Int) (rest : List UInt8) (err : Int) : Int × V × List UInt8 :=
  if kind = 0 then ((readU rest err).1, ⟨kind, (readU rest err).2.1, 0, [], []⟩, (readU rest err).2.2)
  else if kind = 1 then ((readU rest err).1, ⟨kind, 0, unzigI (readU rest err).2.1, [], []⟩, (readU rest err).2.2)
  else if kind = 2 then ((readB rest err).1, ⟨kind, 0, if (readB rest err).2.1 then 1 else 0, [], []⟩, (readB rest err).2.2)
  else if kind = 3 ∨ kind = 4 then ((readRaw rest err).1, ⟨kind, 0, 0, (readRaw rest err).2.1, []⟩, (readRaw rest err).2.2)
  else ((readInts rest err).1, ⟨kind, 0, 0, [], (readInts rest err).2.1⟩, (readInts rest err).2.2)
/-- The slice lies in blocks from lo on. -/
def Far (lo : Nat) (s : Sl) : Prop := ∀ b off, 0 < s.2.1 → s.1 = some ⟨b, off, none⟩ → lo ≤ b
theorem Far.nil (lo : Nat) : Far lo (none, 0, 0) := fun _ _ h => absurd h (by simp)
theorem Far.own {w : World} {base e size n c : Nat} {A : Option Addr} {xs : List Value} (h : w.ownsRow base e size (.slice A n c) n xs) : Far base (A, n, c) := by
  intro b off hn he
  obtain ⟨g, e1, e2, _⟩ := own_some h hn
  simp only at he
  rw [e1] at he
  cases he
  exact e2

/-- Only the blocks b1 and b2 have turned, and nothing is new. -/
structure Keep2 (b1 b2 : Nat) (w w' : World) : Prop where
  os : w'.os = w.os
  tape : w'.tape = w.tape
  output : w'.output = w.output
  size : w'.heap.size = w.heap.size
  block : ∀ b, b ≠ b1 → b ≠ b2 → w'.heap[b]? = w.heap[b]?
theorem Keep2.refl (b1 b2 : Nat) (w : World) : Keep2 b1 b2 w w := ⟨rfl, rfl, rfl, rfl, fun _ _ _ => rfl⟩
theorem Keep2.set {b1 b2 : Nat} {w w' : World} {p : Addr} {v : Value} (h : Keep2 b1 b2 w w') (hp : p.block = b1 ∨ p.block = b2) : Keep2 b1 b2 w (w'.setCell p v) :=
  ⟨h.os, h.tape, h.output, by simpa [World.setCell] using h.size, fun b h1 h2 => (Below.heap_setCell w' p v b (by rcases hp with hp | hp <;> omega)).trans (h.block b h1 h2)⟩
theorem Keep2.grown {b1 b2 gd : Nat} {w w1 w' : World} (h : Keep2 b1 b2 w1 w') (hg : w.grownBy w1 (some gd)) (h1 : w.heap.size ≤ b1) (h2 : w.heap.size ≤ b2) : w.grownBy w' (some gd) :=
  ⟨h.os.trans hg.os, h.tape.trans hg.tape, h.output.trans hg.output, by rw [h.size]; exact hg.size, fun i hi hne => (h.block i (by omega) (by omega)).trans (hg.block i hi hne)⟩
theorem Keep2.rdr {b1 b2 B gd : Nat} {rest : List UInt8} {err : Int} {w1 w' : World} (h : Keep2 b1 b2 w1 w') (hR : Rdr w1 B gd rest err) (h1 : B ≤ b1) (h2 : B ≤ b2) : Rdr w' B gd rest err := by
  obtain ⟨k1, k2, A, n, c, p1, p2, p3, p4⟩ := hR
  exact ⟨k1, by rw [h.size]; exact k2, A, n, c, (h.block gd (by omega) (by omega)).trans p1, p2, p3, fun e => ⟨(p4 e).1, (p4 e).2.1, (p4 e).2.2.keep fun b hb => h.block b (by omega) (by omega)⟩⟩
theorem Keep2.bin {b1 b2 lo : Nat} {s : Sl} {bs : List UInt8} {w1 w' : World} (h : Keep2 b1 b2 w1 w') (hB : BIn w1 w1.heap.size s bs) (hF : Far lo s) (h1 : b1 < lo) (h2 : b2 < lo) : BIn w' w'.heap.size s bs := by
  refine ⟨hB.len, hB.cap, hB.max, fun hn => ?_⟩
  obtain ⟨b, off, e, hb, hc⟩ := hB.rd hn
  have := hF b off hn e
  exact ⟨b, off, e, by rw [h.size]; exact hb, fun j hj => (World.cell?_of_block (w := w1) (h.block b (by omega) (by omega))).trans (hc j hj)⟩
theorem Keep2.nin {b1 b2 lo : Nat} {s : Sl} {bs : List Int} {w1 w' : World} (h : Keep2 b1 b2 w1 w') (hB : NIn w1 w1.heap.size s bs) (hF : Far lo s) (h1 : b1 < lo) (h2 : b2 < lo) : NIn w' w'.heap.size s bs := by
  refine ⟨hB.len, hB.cap, hB.max, fun hn => ?_⟩
  obtain ⟨b, off, e, hb, hc⟩ := hB.rd hn
  have := hF b off hn e
  exact ⟨b, off, e, by rw [h.size]; exact hb, fun j hj => (World.cell?_of_block (w := w1) (h.block b (by omega) (by omega))).trans (hc j hj)⟩
theorem Far.more {lo lo' : Nat} {s : Sl} (h : Far lo s) (hl : lo' ≤ lo) : Far lo' s := fun b off hn e => Nat.le_trans hl (h b off hn e)

theorem blk5 {w : World} {g : Nat} {T : TypeId} {a b c d e : Value} (h : Blk w g T #[a, b, c, d, e]) :
    w.cell? ⟨g, 0, none⟩ = some a ∧ w.cell? ⟨g, 1, none⟩ = some b ∧ w.cell? ⟨g, 2, none⟩ = some c ∧ w.cell? ⟨g, 3, none⟩ = some d ∧ w.cell? ⟨g, 4, none⟩ = some e ∧
    w.frozen? ⟨g, 0, none⟩ = false ∧ w.frozen? ⟨g, 1, none⟩ = false ∧ w.frozen? ⟨g, 2, none⟩ = false ∧ w.frozen? ⟨g, 3, none⟩ = false ∧ w.frozen? ⟨g, 4, none⟩ = false :=
  ⟨by simpa using h.cell 0, by simpa using h.cell 1, by simpa using h.cell 2, by simpa using h.cell 3, by simpa using h.cell 4, h.frozen 0, h.frozen 1, h.frozen 2, h.frozen 3, h.frozen 4⟩
end Go.Proofs.Ytldmokjpfnakkaa

/- The walks of worldmintref02.Same and Vals. -/
namespace Go.Proofs.Ytldmokjpfnakkaa
open Go.RowKit

/-- append of one element of several cells: the walk lays it into a block of its own first. -/
theorem run_append_elem {P : Program} (w : World) (base : Nat) (t ty e : TypeId) (i : TypeInfo) (z : Value) (size bytes : Nat) (ht : P.underlying t = some (.slice e)) (hi : P.info? e = some i) (hz : i.zero = some z)
    (hsize : i.size = size) (hby : i.bytes = bytes) (hzs : z.cells.size = size) (hsz : 0 < size)
    (v : Value) (n : Nat) (xs : List Value) (hown : w.ownsRow base e size v n xs) (cs : Array Value) (hcs : cs.size = size) (h1 : ∀ u ∈ cs.toList, u.oneCell' = true)
    (h63 : n + 1 ≤ maxLen) (hbytes : (n + 1) * bytes ≤ 140737488355328) (hbase : base ≤ w.heap.size) :
    ∃ g cap w', (Builtin.append_ #[t, t] ty #[v, .slice (some ⟨w.heap.size, 0, none⟩) 1 1]).run P (w.alloc (.cells cs e)) = .ok (.slice (some ⟨g, 0, none⟩) (n + 1) cap) w' ∧ w'.ownsRow base e size (.slice (some ⟨g, 0, none⟩) (n + 1) cap) (n + 1) (xs ++ cs.toList) ∧
      w.grownBy w' v.ownBlock ∧ (some g = v.ownBlock ∨ g = w.heap.size + 1) ∧ w.heap.size < w'.heap.size := by
  obtain ⟨v', w', hrun, h2, h3, _, h5⟩ := run_append_own_at (P := P) (w.alloc (.cells cs e)) base t ty e i z size bytes ht hi hz hsize hby hzs hsz v n xs (hown.alloc _) ⟨w.heap.size, 0, none⟩ 1 1 cs.toList (by simp [hcs]) (World.news_of_block (World.alloc_heap_new w _)) h1 h63 hbytes (by simp; omega)
  obtain ⟨g, cap, rfl⟩ := ownsRow_succ h2
  refine ⟨g, cap, w', hrun, h2, (World.grownBy_alloc w _ _).trans h3, ?_, ?_⟩
  · rcases h5 with h5 | h5
    · exact .inl (by simpa [Value.ownBlock] using h5)
    · exact .inr (by simpa [Value.ownBlock] using h5)
  · have := h3.size
    simp at this
    omega

theorem BIn.grown {w w' : World} {s : Sl} {bs : List UInt8} {row : Option Nat} (h : BIn w w.heap.size s bs) (hg : w.grownBy w' row) (hne : ∀ b off, 0 < s.2.1 → s.1 = some ⟨b, off, none⟩ → some b ≠ row) : BIn w' w'.heap.size s bs := by
  refine ⟨h.len, h.cap, h.max, fun hn => ?_⟩
  obtain ⟨b, off, e, hb, hc⟩ := h.rd hn
  exact ⟨b, off, e, Nat.lt_of_lt_of_le hb hg.size, fun j hj => (World.cell?_of_block (w := w) (hg.block b hb (hne b off hn e))).trans (hc j hj)⟩
theorem NIn.grown {w w' : World} {s : Sl} {bs : List Int} {row : Option Nat} (h : NIn w w.heap.size s bs) (hg : w.grownBy w' row) (hne : ∀ b off, 0 < s.2.1 → s.1 = some ⟨b, off, none⟩ → some b ≠ row) : NIn w' w'.heap.size s bs := by
  refine ⟨h.len, h.cap, h.max, fun hn => ?_⟩
  obtain ⟨b, off, e, hb, hc⟩ := h.rd hn
  exact ⟨b, off, e, Nat.lt_of_lt_of_le hb hg.size, fun j hj => (World.cell?_of_block (w := w) (hg.block b hb (hne b off hn e))).trans (hc j hj)⟩
theorem BIn.all {w w' : World} {s : Sl} {bs : List UInt8} (h : BIn w w.heap.size s bs) (hb : Below w.heap.size w w') : BIn w' w'.heap.size s bs := h.grown (only_of_below hb none) (fun _ _ _ _ e => by cases e)
theorem NIn.all {w w' : World} {s : Sl} {bs : List Int} (h : NIn w w.heap.size s bs) (hb : Below w.heap.size w w') : NIn w' w'.heap.size s bs := h.grown (only_of_below hb none) (fun _ _ _ _ e => by cases e)
theorem BIn.lt {w : World} {s : Sl} {bs : List UInt8} (h : BIn w w.heap.size s bs) : ∀ b off, 0 < s.2.1 → s.1 = some ⟨b, off, none⟩ → b < w.heap.size := by
  intro b off hn e
  obtain ⟨b', off', e', hb, _⟩ := h.rd hn
  rw [e] at e'; cases e'; exact hb
theorem NIn.lt {w : World} {s : Sl} {bs : List Int} (h : NIn w w.heap.size s bs) : ∀ b off, 0 < s.2.1 → s.1 = some ⟨b, off, none⟩ → b < w.heap.size := by
  intro b off hn e
  obtain ⟨b', off', e', hb, _⟩ := h.rd hn
  rw [e] at e'; cases e'; exact hb
theorem flat5 (F : Nat → Array Value) (hF : ∀ j, (F j).size = 5) : ∀ (k j i : Nat), j < k → i < 5 → ((List.range k).flatMap fun j => (F j).toList)[j * 5 + i]? = (F j)[i]?
  | 0, j, i, hj, _ => absurd hj (by omega)
  | k + 1, j, i, hj, hi => by
    have hlen : ∀ m, ((List.range m).flatMap fun j => (F j).toList).length = m * 5 := by
      intro m
      induction m with
      | zero => rfl
      | succ m ih => rw [List.range_succ, List.flatMap_append, List.length_append, ih]; simp [hF]; omega
    rw [List.range_succ, List.flatMap_append]
    by_cases h : j < k
    · rw [List.getElem?_append_left (by rw [hlen]; omega), flat5 F hF k j i h hi]
    · obtain rfl : j = k := by omega
      rw [List.getElem?_append_right (by rw [hlen]; omega), hlen]
      simp
end Go.Proofs.Ytldmokjpfnakkaa

/- The walk of worldmintref02.Vals. -/
namespace Go.Proofs.Ytldmokjpfnakkaa
open Go.RowKit

/-- A value as Vals makes them. -/
structure GoodV (v : V) : Prop where
  fit : FitV v
  small : v.b.length ≤ 9 ∧ v.l.length ≤ 4
  norm : v = ⟨0, v.u, 0, [], []⟩ ∨ v = ⟨1, 0, v.n, [], []⟩ ∨ v = ⟨2, 0, 0, [], []⟩ ∨ v = ⟨2, 0, 1, [], []⟩ ∨ v = ⟨3, 0, 0, v.b, []⟩ ∨ v = ⟨4, 0, 0, v.b, []⟩ ∨ v = ⟨5, 0, 0, [], v.l⟩

theorem tdiv6 {x : Int} (h1 : -9223372036854775808 ≤ x) (h2 : x ≤ 9223372036854775807) : -9223372036854775808 ≤ x.tdiv 6 ∧ x.tdiv 6 ≤ 9223372036854775807 := by
  by_cases h : 0 ≤ x
  · rw [Int.tdiv_eq_ediv_of_nonneg h]; omega
  · obtain ⟨y, rfl⟩ : ∃ y, x = -y := ⟨-x, by omega⟩
    rw [Int.neg_tdiv, Int.tdiv_eq_ediv_of_nonneg (by omega)]; omega
theorem byte_of_wf8 (z : Int) : ∃ y : UInt8, IntKind.u8.wrap z = ((y.toNat : Nat) : Int) := by
  have h : 0 ≤ IntKind.u8.wrap z ∧ IntKind.u8.wrap z < 256 := by
    simp [IntKind.wrap, IntKind.bits, IntKind.signed]
    omega
  exact ⟨UInt8.ofNat (IntKind.u8.wrap z).toNat, by rw [UInt8.toNat_ofNat']; omega⟩
theorem good_snoc {vs : List V} {v : V} (h : ∀ y ∈ vs, GoodV y) (hv : GoodV v) : ∀ y ∈ vs ++ [v], GoodV y := by
  intro y hy
  rcases List.mem_append.1 hy with h1 | h1
  · exact h y h1
  · rw [List.mem_singleton] at h1; subst h1; exact hv
theorem inI0 : InI 0 := ⟨by decide, by decide⟩
theorem inI1 : InI 1 := ⟨by decide, by decide⟩
theorem wrap_byte (z : Int) : ∃ y : UInt8, IntKind.u8.wrap z = ((y.toNat : Nat) : Int) := byte_of_wf8 z
theorem good0 {u : Nat} (h : u ≤ 18446744073709551615) : GoodV ⟨0, u, 0, [], []⟩ := ⟨⟨h, inI0, by simp, by simp, by simp⟩, by simp, .inl rfl⟩
theorem good1 {n : Int} (h : InI n) : GoodV ⟨1, 0, n, [], []⟩ := ⟨⟨by simp, h, by simp, by simp, by simp⟩, by simp, .inr (.inl rfl)⟩
theorem good2 {n : Int} (h1 : 0 ≤ n) (h2 : n ≤ 1) : GoodV ⟨2, 0, n, [], []⟩ := by
  rcases (show n = 0 ∨ n = 1 by omega) with rfl | rfl
  · exact ⟨⟨by simp, inI0, by simp, by simp, by simp⟩, by simp, .inr (.inr (.inl rfl))⟩
  · exact ⟨⟨by simp, inI1, by simp, by simp, by simp⟩, by simp, .inr (.inr (.inr (.inl rfl)))⟩
theorem good34 {k : Int} {b : List UInt8} (hk : k = 3 ∨ k = 4) (hb : b.length ≤ 9) : GoodV ⟨k, 0, 0, b, []⟩ := by
  refine ⟨⟨by simp, inI0, by simp only; omega, by simp, by simp⟩, ⟨hb, by simp⟩, ?_⟩
  rcases hk with rfl | rfl
  · exact .inr (.inr (.inr (.inr (.inl rfl))))
  · exact .inr (.inr (.inr (.inr (.inr (.inl rfl)))))
theorem good5 {l : List Int} (hl : l.length ≤ 4) (hr : ∀ j : Nat, -9223372036854775808 ≤ l[j]?.getD 0 ∧ l[j]?.getD 0 ≤ 9223372036854775807) : GoodV ⟨5, 0, 0, [], l⟩ :=
  ⟨⟨by simp, inI0, by simp, by simp only; omega, hr⟩, ⟨by simp, hl⟩, .inr (.inr (.inr (.inr (.inr (.inr rfl)))))⟩
theorem shr_u64 (x : Int) (m : Nat) : ∃ u : Nat, (u : Int) = IntKind.u64.wrap x / 2 ^ m ∧ u ≤ 18446744073709551615 := by
  have h0 : 0 ≤ IntKind.u64.wrap x ∧ IntKind.u64.wrap x ≤ 18446744073709551615 := by rw [wrap_u64]; omega
  obtain ⟨y, hy⟩ := Int.eq_ofNat_of_zero_le h0.1
  rw [hy] at h0 ⊢
  exact ⟨y / 2 ^ m, by rw [Int.natCast_ediv, Int.natCast_pow]; rfl, Nat.le_trans (Nat.div_le_self _ _) (by omega)⟩
theorem shr_i64 {x : Int} (m : Nat) (h : InI x) : InI (x / 2 ^ m) := by
  obtain ⟨h1, h2⟩ := h
  have hp : (0 : Int) < 2 ^ m := Int.pow_pos (by decide)
  constructor
  · rw [Int.le_ediv_iff_mul_le hp]
    have : (-9223372036854775808 : Int) * 2 ^ m ≤ -9223372036854775808 * 1 := Int.mul_le_mul_of_nonpos_left (by decide) (by omega)
    omega
  · have : x / 2 ^ m ≤ 9223372036854775807 / 2 ^ m := Int.ediv_le_ediv hp h2
    have h3 : (9223372036854775807 : Int) / 2 ^ m ≤ 9223372036854775807 := Int.ediv_le_self _ (by decide)
    omega
theorem range_snoc {bs : List Int} {x : Int} (h : ∀ i : Nat, -9223372036854775808 ≤ bs[i]?.getD 0 ∧ bs[i]?.getD 0 ≤ 9223372036854775807) (hx : InI x) : ∀ i : Nat, -9223372036854775808 ≤ (bs ++ [x])[i]?.getD 0 ∧ (bs ++ [x])[i]?.getD 0 ≤ 9223372036854775807 := by
  intro i
  by_cases hi : i < bs.length
  · rw [List.getElem?_append_left hi]; exact h i
  · rw [List.getElem?_append_right (by omega)]
    by_cases h2 : i = bs.length
    · subst h2; simp only [Nat.sub_self, List.getElem?_cons_zero, Option.getD_some]; exact hx
    · rw [List.getElem?_eq_none (by simp; omega)]; simp
end Go.Proofs.Ytldmokjpfnakkaa

/- Plain Lean: values that are written and read. -/
namespace Go.Proofs.Ytldmokjpfnakkaa
open Go.RowKit

theorem inI_mem {l : List Int} (h : ∀ j : Nat, -9223372036854775808 ≤ l[j]?.getD 0 ∧ l[j]?.getD 0 ≤ 9223372036854775807) : ∀ n ∈ l, InI n := by
  intro n hn
  obtain ⟨j, hj, rfl⟩ := List.getElem_of_mem hn
  have := h j
  rw [List.getElem?_eq_getElem hj] at this
  exact this
theorem unzigI_zero : unzigI 0 = 0 := by decide
theorem readV_err {kind : Int} {rest : List UInt8} {err : Int} (he : err ≠ 0) : readV kind rest err = (err, ⟨kind, 0, 0, [], []⟩, []) := by
  have hu : readU rest err = (err, 0, []) := if_neg he
  have hb : readB rest err = (err, false, []) := if_neg he
  have hr : readRaw rest err = (err, [], []) := if_neg he
  have hi : readInts rest err = (err, [], []) := if_neg he
  unfold readV
  rw [hu, hb, hr, hi]
  simp only [unzigI_zero]
  split
  · rfl
  · split
    · rfl
    · split
      · rfl
      · split <;> rfl
/-- Round trip of a value. -/
theorem readV_enc {v : V} (h : GoodV v) (r : List UInt8) : readV v.kind (encV v ++ r) 0 = (0, v, r) := by
  have hf := h.fit
  have hu : ∀ n, n ≤ 18446744073709551615 → readU (varint n ++ r) 0 = (0, n, r) := fun n hn => decU_enc hn r
  rcases h.norm with e | e | e | e | e | e | e
  all_goals
    generalize v.u = u at *
    generalize v.n = n at *
    generalize v.b = b at *
    generalize v.l = l at *
    subst e
  · show ((readU (varint u ++ r) 0).1, (⟨0, (readU (varint u ++ r) 0).2.1, 0, [], []⟩ : V), (readU (varint u ++ r) 0).2.2) = _
    rw [hu u hf.u]
  · show ((readU (encInt n ++ r) 0).1, (⟨1, 0, unzigI (readU (encInt n ++ r) 0).2.1, [], []⟩ : V), (readU (encInt n ++ r) 0).2.2) = _
    rw [show readU (encInt n ++ r) 0 = (0, zigI n, r) from decU_int hf.n r, unzig_zig]
  · rfl
  · rfl
  · show ((readRaw (encRaw b ++ r) 0).1, (⟨3, 0, 0, (readRaw (encRaw b ++ r) 0).2.1, []⟩ : V), (readRaw (encRaw b ++ r) 0).2.2) = _
    rw [show readRaw (encRaw b ++ r) 0 = (0, b, r) from decRaw_enc (show b.length ≤ 18446744073709551615 from by have := hf.b; simp only at this; omega) r]
  · show ((readRaw (encRaw b ++ r) 0).1, (⟨4, 0, 0, (readRaw (encRaw b ++ r) 0).2.1, []⟩ : V), (readRaw (encRaw b ++ r) 0).2.2) = _
    rw [show readRaw (encRaw b ++ r) 0 = (0, b, r) from decRaw_enc (show b.length ≤ 18446744073709551615 from by have := hf.b; simp only at this; omega) r]
  · show ((readInts (encInts l ++ r) 0).1, (⟨5, 0, 0, [], (readInts (encInts l ++ r) 0).2.1⟩ : V), (readInts (encInts l ++ r) 0).2.2) = _
    rw [show readInts (encInts l ++ r) 0 = (0, l, r) from decInts_enc (show l.length ≤ 18446744073709551615 from by have := hf.l; simp only at this; omega) (inI_mem hf.li) r]
end Go.Proofs.Ytldmokjpfnakkaa

/- Several values appended at once. -/
namespace Go.Proofs.Ytldmokjpfnakkaa
open Go.RowKit

/-- append of several elements of several cells: the walk lays them into a block of its own first. -/
theorem run_append_elems {P : Program} (w : World) (base : Nat) (t ty e : TypeId) (i : TypeInfo) (z : Value) (size bytes : Nat) (ht : P.underlying t = some (.slice e)) (hi : P.info? e = some i) (hz : i.zero = some z)
    (hsize : i.size = size) (hby : i.bytes = bytes) (hzs : z.cells.size = size) (hsz : 0 < size)
    (v : Value) (n m : Nat) (hm : 0 < m) (xs : List Value) (hown : w.ownsRow base e size v n xs) (cs : Array Value) (hcs : cs.size = m * size) (h1 : ∀ u ∈ cs.toList, u.oneCell' = true)
    (h63 : n + m ≤ maxLen) (hbytes : (n + m) * bytes ≤ 140737488355328) (hbase : base ≤ w.heap.size) :
    ∃ g cap w', (Builtin.append_ #[t, t] ty #[v, .slice (some ⟨w.heap.size, 0, none⟩) m m]).run P (w.alloc (.cells cs e)) = .ok (.slice (some ⟨g, 0, none⟩) (n + m) cap) w' ∧ w'.ownsRow base e size (.slice (some ⟨g, 0, none⟩) (n + m) cap) (n + m) (xs ++ cs.toList) ∧
      w.grownBy w' v.ownBlock ∧ (some g = v.ownBlock ∨ g = w.heap.size + 1) ∧ w.heap.size < w'.heap.size := by
  obtain ⟨v', w', hrun, h2, h3, _, h5⟩ := run_append_own_at (P := P) (w.alloc (.cells cs e)) base t ty e i z size bytes ht hi hz hsize hby hzs hsz v n xs (hown.alloc _) ⟨w.heap.size, 0, none⟩ m m cs.toList (by simp [hcs]) (World.news_of_block (World.alloc_heap_new w _)) h1 h63 hbytes (by simp; omega)
  obtain ⟨m', rfl⟩ : ∃ m', m = m' + 1 := ⟨m - 1, by omega⟩
  obtain ⟨g, cap, rfl⟩ := ownsRow_succ (k := n + m') h2
  refine ⟨g, cap, w', hrun, h2, (World.grownBy_alloc w _ _).trans h3, ?_, ?_⟩
  · rcases h5 with h5 | h5
    · exact .inl (by simpa [Value.ownBlock] using h5)
    · exact .inr (by simpa [Value.ownBlock] using h5)
  · have := h3.size
    simp at this
    omega
theorem Rdr.drew {w : World} {B gd : Nat} {rest : List UInt8} {err : Int} (h : Rdr w B gd rest err) : Rdr w.drew B gd rest err := h
theorem only_undrew {w w' : World} {row : Option Nat} (h : w.drew.grownBy w' row) : w.grownBy w' row := ⟨h.os, h.tape, h.output, h.size, h.block⟩
/-- The values' kinds and what is left of their encoding. -/
def encFrom (vs : List V) (k : Nat) : List UInt8 := (vs.drop k).flatMap encV
theorem encFrom_zero (vs : List V) : encFrom vs 0 = vs.flatMap encV := rfl
theorem encTo_all (vs : List V) (n : Nat) (h : vs.length ≤ n) : encTo vs n = vs.flatMap encV := by unfold encTo; rw [List.take_of_length_le h]
theorem encFrom_succ (vs : List V) (k : Nat) (hk : k < vs.length) : encFrom vs k = encV (vs[k]?.getD V0) ++ encFrom vs (k + 1) := by
  unfold encFrom
  rw [List.drop_eq_getElem_cons hk, List.flatMap_cons]
  simp [hk]
theorem encFrom_end (vs : List V) (k : Nat) (h : vs.length ≤ k) : encFrom vs k = [] := by unfold encFrom; rw [List.drop_eq_nil_of_le h]; rfl
theorem fit_of_good {vs : List V} (h : ∀ y ∈ vs, GoodV y) : ∀ j : Nat, FitV (vs[j]?.getD V0) := by
  intro j
  by_cases hj : j < vs.length
  · rw [List.getElem?_eq_getElem hj]; exact (h _ (List.getElem_mem _)).fit
  · rw [List.getElem?_eq_none (by omega)]
    exact ⟨by simp [V0], inI0, by simp [V0], by simp [V0], by simp [V0]⟩
theorem good_at {vs : List V} (h : ∀ y ∈ vs, GoodV y) {j : Nat} (hj : j < vs.length) : GoodV (vs[j]?.getD V0) := by
  rw [List.getElem?_eq_getElem hj]; exact h _ (List.getElem_mem _)
end Go.Proofs.Ytldmokjpfnakkaa

/- Plain Lean: prefixes of encodings; what is read was written. -/
namespace Go.Proofs.Ytldmokjpfnakkaa
open Go.RowKit

theorem take_lt {a r : List UInt8} {c : Nat} (h : c ≤ a.length) : (a ++ r).take c = a.take c := List.take_append_of_le_length h
theorem take_ge {a r : List UInt8} {c : Nat} (h : a.length ≤ c) : (a ++ r).take c = a ++ r.take (c - a.length) := by
  rw [List.take_append, List.take_of_length_le h]
theorem decK_cut : ∀ (l : List Int) (_ : ∀ n ∈ l, InI n) (r : List UInt8) (c : Nat), c < (l.flatMap encInt).length → decK l.length ((l.flatMap encInt ++ r).take c) = (3, [], [])
  | [], _, r, c, h => absurd h (by simp)
  | n :: l, hl, r, c, h => by
    have hn := hl n (by simp)
    rw [List.flatMap_cons, List.length_append] at h
    rw [List.flatMap_cons, List.append_assoc, List.length_cons]
    by_cases hc : c < (encInt n).length
    · rw [take_lt (by omega), decK, show decU 0 0 ((encInt n).take c) = (3, 0, []) from decU_prefix (zigI_lt hn.1 hn.2) hc]
      simp
    · rw [take_ge (by omega), decK, decU_int hn, if_neg (by simp), decK_cut l (fun m hm => hl m (by simp [hm])) r _ (by omega)]
      simp
theorem decU_take {n : Nat} (h : n ≤ 18446744073709551615) (r : List UInt8) (c : Nat) : decU 0 0 ((varint n ++ r).take c) = if c < (varint n).length then (3, 0, []) else (0, n, r.take (c - (varint n).length)) := by
  by_cases hc : c < (varint n).length
  · rw [if_pos hc, take_lt (by omega)]; exact decU_prefix h hc
  · rw [if_neg hc, take_ge (by omega)]; exact decU_enc h _
theorem decRaw_cut {bs r : List UInt8} (h : bs.length ≤ 18446744073709551615) {c : Nat} (hc : c < (encRaw bs).length) : (decRaw ((encRaw bs ++ r).take c)).1 = 3 := by
  unfold encRaw at hc ⊢
  rw [List.length_append] at hc
  rw [List.append_assoc]
  unfold decRaw
  rw [decU_take h]
  by_cases h1 : c < (varint bs.length).length
  · rw [if_pos h1]; simp
  · rw [if_neg h1, if_neg (by simp), if_pos (by simp; omega)]
theorem decInts_cut {l : List Int} {r : List UInt8} (h : l.length ≤ 18446744073709551615) (hl : ∀ n ∈ l, InI n) {c : Nat} (hc : c < (encInts l).length) : (decInts ((encInts l ++ r).take c)).1 = 3 := by
  unfold encInts at hc ⊢
  rw [List.length_append] at hc
  rw [List.append_assoc]
  unfold decInts
  rw [decU_take h]
  by_cases h1 : c < (varint l.length).length
  · rw [if_pos h1]; simp
  · rw [if_neg h1, if_neg (by simp)]
    split
    · rfl
    · simp only
      rw [decK_cut l hl r _ (by omega)]
/-- A value cut off. -/
theorem readV_cut {v : V} (h : GoodV v) (r : List UInt8) {c : Nat} (hc : c < (encV v).length) : (readV v.kind ((encV v ++ r).take c) 0).1 = 3 := by
  have hf := h.fit
  rcases h.norm with e | e | e | e | e | e | e
  all_goals
    generalize v.u = u at *
    generalize v.n = n at *
    generalize v.b = b at *
    generalize v.l = l at *
    subst e
  · show (decU 0 0 ((varint u ++ r).take c)).1 = 3
    rw [decU_take (n := u) hf.u, if_pos (show c < (varint u).length from hc)]
  · show (decU 0 0 ((varint (zigI n) ++ r).take c)).1 = 3
    rw [decU_take (n := zigI n) (zigI_lt hf.n.1 hf.n.2), if_pos (show c < (varint (zigI n)).length from hc)]
  · obtain rfl : c = 0 := by
      have : (encV ⟨2, 0, 0, [], []⟩).length = 1 := rfl
      omega
    rfl
  · obtain rfl : c = 0 := by
      have : (encV ⟨2, 0, 1, [], []⟩).length = 1 := rfl
      omega
    rfl
  · exact decRaw_cut (show b.length ≤ 18446744073709551615 from by have := hf.b; simp only at this; omega) hc
  · exact decRaw_cut (show b.length ≤ 18446744073709551615 from by have := hf.b; simp only at this; omega) hc
  · exact decInts_cut (show l.length ≤ 18446744073709551615 from by have := hf.l; simp only at this; omega) (inI_mem hf.li) hc
/-- The state of a reader of a prefix: cut off, or a proper prefix of what is still to come. -/
def CutAt (vs : List V) (i : Nat) (rest : List UInt8) (err : Int) : Prop := err = 3 ∨ (err = 0 ∧ ∃ c, c < (encFrom vs i).length ∧ rest = (encFrom vs i).take c)
theorem CutAt.step {vs : List V} {i : Nat} {rest : List UInt8} {err : Int} (h : CutAt vs i rest err) (hg : ∀ y ∈ vs, GoodV y) (hi : i < vs.length) :
    CutAt vs (i + 1) (readV (vs[i]?.getD V0).kind rest err).2.2 (readV (vs[i]?.getD V0).kind rest err).1 := by
  rcases h with rfl | ⟨rfl, c, hc, rfl⟩
  · rw [readV_err (by decide)]; exact .inl rfl
  · have hgv := good_at hg hi
    rw [encFrom_succ vs i hi] at hc ⊢
    by_cases h1 : c < (encV (vs[i]?.getD V0)).length
    · exact .inl (readV_cut hgv _ h1)
    · rw [take_ge (by omega), readV_enc hgv]
      rw [List.length_append] at hc
      exact .inr ⟨rfl, _, by omega, rfl⟩
theorem CutAt.done {vs : List V} {i : Nat} {rest : List UInt8} {err : Int} (h : CutAt vs i rest err) (hi : vs.length ≤ i) : err = 3 := by
  rcases h with rfl | ⟨_, c, hc, _⟩
  · rfl
  · rw [encFrom_end vs i hi] at hc; simp at hc

/-- One encoding: what is read was written. -/
theorem decK_inv : ∀ (k : Nat) (bs : List UInt8) (l : List Int) (r : List UInt8), decK k bs = (0, l, r) → bs = l.flatMap encInt ++ r ∧ l.length = k ∧ ∀ n ∈ l, InI n
  | 0, bs, l, r, h => by
    simp only [decK, Prod.mk.injEq] at h
    obtain ⟨_, rfl, rfl⟩ := h
    exact ⟨rfl, rfl, by simp⟩
  | k + 1, bs, l, r, h => by
    rw [decK] at h
    split at h
    · rename_i he
      simp only [Prod.mk.injEq] at h
      exact absurd h.1 he
    · rename_i he
      have he' : (decU 0 0 bs).1 = 0 := by simpa using he
      split at h
      · rename_i h2
        simp only [Prod.mk.injEq] at h
        exact absurd h.1 h2
      · rename_i h2
        have h2' : (decK k (decU 0 0 bs).2.2).1 = 0 := by simpa using h2
        simp only [Prod.mk.injEq, true_and] at h
        obtain ⟨h3, h4⟩ := h
        obtain ⟨e1, e2, e3⟩ := decK_inv k (decU 0 0 bs).2.2 (decK k (decU 0 0 bs).2.2).2.1 r (by rw [← h4, ← h2'])
        have hd : bs = varint (decU 0 0 bs).2.1 ++ (decU 0 0 bs).2.2 := decU_inv (by rw [← he'])
        have hlt := (decU_lt bs 0 0 (by decide) (by decide)).1
        rw [← h3]
        refine ⟨?_, by simp [e2], fun n hn => ?_⟩
        · rw [List.flatMap_cons, List.append_assoc, ← e1]
          unfold encInt
          rw [zig_unzig]
          exact hd
        · rcases List.mem_cons.1 hn with rfl | hn
          · exact unzigI_range hlt
          · exact e3 n hn
theorem getD_range {l : List Int} (h : ∀ n ∈ l, InI n) : ∀ j : Nat, -9223372036854775808 ≤ l[j]?.getD 0 ∧ l[j]?.getD 0 ≤ 9223372036854775807 := by
  intro j
  by_cases hj : j < l.length
  · rw [List.getElem?_eq_getElem hj]; exact h _ (List.getElem_mem _)
  · rw [List.getElem?_eq_none (by omega)]; simp
theorem flat_len' (l : List Int) : l.length ≤ (l.flatMap encInt).length := flat_len l
theorem decU_eta {bs : List UInt8} (h : (decU 0 0 bs).1 = 0) : bs = varint (decU 0 0 bs).2.1 ++ (decU 0 0 bs).2.2 := decU_inv (Prod.ext h rfl)
theorem decRaw_inv {bs b r : List UInt8} (h : decRaw bs = (0, b, r)) : bs = encRaw b ++ r := by
  unfold decRaw at h
  split at h
  · rename_i he
    simp only [Prod.mk.injEq] at h
    exact absurd h.1 he
  · rename_i he
    have he' : (decU 0 0 bs).1 = 0 := by simpa using he
    split at h
    · simp at h
    · rename_i h2
      simp only [Prod.mk.injEq, true_and] at h
      obtain ⟨rfl, rfl⟩ := h
      have hd := decU_eta he'
      unfold encRaw
      rw [List.length_take, Nat.min_eq_left (by omega), List.append_assoc, List.take_append_drop]
      exact hd
theorem decInts_inv {bs : List UInt8} {l : List Int} {r : List UInt8} (h : decInts bs = (0, l, r)) : bs = encInts l ++ r ∧ ∀ n ∈ l, InI n := by
  unfold decInts at h
  split at h
  · rename_i he
    simp only [Prod.mk.injEq] at h
    exact absurd h.1 he
  · rename_i he
    have he' : (decU 0 0 bs).1 = 0 := by simpa using he
    split at h
    · simp at h
    · obtain ⟨e1, e2, e3⟩ := decK_inv _ _ _ _ h
      refine ⟨?_, e3⟩
      have hd := decU_eta he'
      unfold encInts
      rw [e2, List.append_assoc, ← e1]
      exact hd
theorem decBool_inv {bs : List UInt8} {b : Bool} {r : List UInt8} (h : decBool bs = (0, b, r)) : bs = encBool b ++ r := by
  unfold decBool at h
  cases bs with
  | nil => simp at h
  | cons c s =>
    simp only at h
    split at h
    · simp at h
    · rename_i hc
      simp only [Prod.mk.injEq, true_and] at h
      obtain ⟨rfl, rfl⟩ := h
      rcases (show c.toNat = 0 ∨ c.toNat = 1 by omega) with h0 | h0
      · have : c = 0 := UInt8.toNat_inj.1 (by rw [h0]; rfl)
        subst this; rfl
      · have : c = 1 := UInt8.toNat_inj.1 (by rw [h0]; rfl)
        subst this; rfl
/-- A value that was read fits and is encoded as it was. -/
theorem readV_inv {kind : Int} {rest : List UInt8} (h : (readV kind rest 0).1 = 0) (hl : rest.length ≤ 1000) : rest = encV (readV kind rest 0).2.1 ++ (readV kind rest 0).2.2 ∧ FitV (readV kind rest 0).2.1 ∧ (readV kind rest 0).2.1.kind = kind := by
  have hlt := (decU_lt rest 0 0 (by decide) (by decide)).1
  unfold readV at h ⊢
  by_cases h0 : kind = 0
  · rw [if_pos h0] at h ⊢
    subst h0
    exact ⟨decU_eta h, ⟨hlt, inI0, by simp, by simp, by simp⟩, rfl⟩
  rw [if_neg h0] at h ⊢
  by_cases h1 : kind = 1
  · rw [if_pos h1] at h ⊢
    subst h1
    refine ⟨?_, ⟨by simp, unzigI_range hlt, by simp, by simp, by simp⟩, rfl⟩
    have hd := decU_eta h
    show rest = encInt (unzigI (decU 0 0 rest).2.1) ++ (decU 0 0 rest).2.2
    unfold encInt
    rw [zig_unzig]
    exact hd
  rw [if_neg h1] at h ⊢
  by_cases h2 : kind = 2
  · rw [if_pos h2] at h ⊢
    subst h2
    have hd : rest = encBool (decBool rest).2.1 ++ (decBool rest).2.2 := decBool_inv (Prod.ext h rfl)
    have hs : readB rest 0 = decBool rest := rfl
    rw [hs]
    generalize (decBool rest).2.1 = b at *
    generalize (decBool rest).2.2 = r at *
    cases b
    · exact ⟨hd, ⟨by simp, inI0, by simp, by simp, by simp⟩, rfl⟩
    · exact ⟨hd, ⟨by simp, inI1, by simp, by simp, by simp⟩, rfl⟩
  rw [if_neg h2] at h ⊢
  by_cases h3 : kind = 3 ∨ kind = 4
  · rw [if_pos h3] at h ⊢
    have hd : rest = encRaw (decRaw rest).2.1 ++ (decRaw rest).2.2 := decRaw_inv (Prod.ext h rfl)
    have hs : readRaw rest 0 = decRaw rest := rfl
    rw [hs]
    generalize (decRaw rest).2.1 = b at *
    generalize (decRaw rest).2.2 = r at *
    have hbl : b.length ≤ 1000 := by
      have := congrArg List.length hd
      unfold encRaw at this
      simp only [List.length_append] at this
      omega
    refine ⟨?_, ⟨by simp, inI0, hbl, by simp, by simp⟩, rfl⟩
    unfold encV
    simp only
    rw [if_neg h0, if_neg h1, if_neg h2, if_pos h3]
    exact hd
  · rw [if_neg h3] at h ⊢
    obtain ⟨hd, hi⟩ : rest = encInts (decInts rest).2.1 ++ (decInts rest).2.2 ∧ ∀ n ∈ (decInts rest).2.1, InI n := decInts_inv (Prod.ext h rfl)
    have hs : readInts rest 0 = decInts rest := rfl
    rw [hs]
    generalize (decInts rest).2.1 = l at *
    generalize (decInts rest).2.2 = r at *
    have hbl : l.length ≤ 1000 := by
      have := congrArg List.length hd
      unfold encInts at this
      simp only [List.length_append] at this
      have := flat_len l
      omega
    refine ⟨?_, ⟨by simp, inI0, by simp, hbl, getD_range hi⟩, rfl⟩
    unfold encV
    simp only
    rw [if_neg h0, if_neg h1, if_neg h2, if_neg h3]
    exact hd
theorem encV_small {v : V} (h : GoodV v) : (encV v).length ≤ 60 := by
  have hf := h.fit
  obtain ⟨hb, hl⟩ := h.small
  unfold encV
  have h1 := varint_len10 hf.u
  have h2 := encInt_len hf.n.1 hf.n.2
  have h3 : (encBool (v.n == 1)).length = 1 := by unfold encBool; split <;> rfl
  have h4 : (encRaw v.b).length ≤ 19 := by
    unfold encRaw; rw [List.length_append]
    have := varint_len10 (n := v.b.length) (by omega)
    omega
  have h5 : (encInts v.l).length ≤ 50 := by
    rw [← encIntsTo_all v.l v.l.length (Nat.le_refl _)]
    have := encIntsTo_len v.l (by omega) hf.li v.l.length (Nat.le_refl _)
    omega
  split
  · omega
  · split
    · omega
    · split
      · omega
      · split
        · omega
        · omega
theorem flatV_small : ∀ {vs : List V} (_ : ∀ y ∈ vs, GoodV y), (vs.flatMap encV).length ≤ 60 * vs.length
  | [], _ => by simp
  | v :: vs, h => by
    rw [List.flatMap_cons, List.length_append, List.length_cons]
    have := encV_small (h v (by simp))
    have := flatV_small (vs := vs) (fun y hy => h y (by simp [hy]))
    omega
/-- A value that was not read is empty. -/
theorem readV_fail {kind : Int} {rest : List UInt8} (h : (readV kind rest 0).1 ≠ 0) : (readV kind rest 0).2 = (⟨kind, 0, 0, [], []⟩, []) := by
  have hu : (readU rest 0).1 ≠ 0 → (readU rest 0).2 = (0, []) := by
    intro hh
    rcases decU_out rest 0 0 with h1 | ⟨_, h1⟩
    · exact absurd h1 hh
    · exact h1
  have hb : (readB rest 0).1 ≠ 0 → (readB rest 0).2 = (false, []) := by
    show (decBool rest).1 ≠ 0 → (decBool rest).2 = (false, [])
    intro hh
    unfold decBool at hh ⊢
    cases rest with
    | nil => rfl
    | cons c r =>
      simp only at hh ⊢
      split
      · rfl
      · rename_i hc
        rw [if_neg hc] at hh
        exact absurd rfl hh
  have hr : (readRaw rest 0).1 ≠ 0 → (readRaw rest 0).2 = ([], []) := by
    show (decRaw rest).1 ≠ 0 → (decRaw rest).2 = ([], [])
    intro hh
    unfold decRaw at hh ⊢
    split
    · rfl
    · rename_i h1
      rw [if_neg h1] at hh
      split
      · rfl
      · rename_i h2
        rw [if_neg h2] at hh
        exact absurd rfl hh
  have hi : (readInts rest 0).1 ≠ 0 → (readInts rest 0).2 = ([], []) := by
    show (decInts rest).1 ≠ 0 → (decInts rest).2 = ([], [])
    intro hh
    unfold decInts at hh ⊢
    split
    · rfl
    · rename_i h1
      rw [if_neg h1] at hh
      split
      · rfl
      · rename_i h2
        rw [if_neg h2] at hh
        rcases decK_out (decU 0 0 rest).2.1 (decU 0 0 rest).2.2 with h3 | h3
        · exact absurd h3 hh
        · exact h3
  unfold readV at h ⊢
  by_cases h0 : kind = 0
  · rw [if_pos h0] at h ⊢
    simp only
    rw [hu h]
  rw [if_neg h0] at h ⊢
  by_cases h1 : kind = 1
  · rw [if_pos h1] at h ⊢
    simp only
    rw [hu h, unzigI_zero]
  rw [if_neg h1] at h ⊢
  by_cases h2 : kind = 2
  · rw [if_pos h2] at h ⊢
    simp only
    rw [hb h]
    rfl
  rw [if_neg h2] at h ⊢
  by_cases h3 : kind = 3 ∨ kind = 4
  · rw [if_pos h3] at h ⊢
    simp only
    rw [hr h]
  · rw [if_neg h3] at h ⊢
    simp only
    rw [hi h]
theorem fit0 (kind : Int) : FitV ⟨kind, 0, 0, [], []⟩ := ⟨by simp, inI0, by simp, by simp, by simp⟩
/-- The values that were read, and what is left: so far the bytes are theirs. -/
structure OneAt (T : List UInt8) (got : List V) (rest : List UInt8) (err : Int) : Prop where
  fit : ∀ j : Nat, FitV (got[j]?.getD V0)
  len : rest.length ≤ 1000
  eq : err = 0 → T = got.flatMap encV ++ rest
theorem fit_snoc {got : List V} {v : V} (h : ∀ j : Nat, FitV (got[j]?.getD V0)) (hv : FitV v) : ∀ j : Nat, FitV ((got ++ [v])[j]?.getD V0) := by
  intro j
  by_cases hj : j < got.length
  · rw [List.getElem?_append_left hj]; exact h j
  · rw [List.getElem?_append_right (by omega)]
    by_cases h2 : j = got.length
    · subst h2; simp only [Nat.sub_self, List.getElem?_cons_zero, Option.getD_some]; exact hv
    · rw [List.getElem?_eq_none (by simp; omega)]; exact fit0 0
theorem OneAt.start {T : List UInt8} (h : T.length ≤ 1000) : OneAt T [] T 0 := ⟨fun j => by simp; exact fit0 0, h, fun _ => rfl⟩
theorem OneAt.step {T : List UInt8} {got : List V} {rest : List UInt8} {err : Int} (h : OneAt T got rest err) (kind : Int) : OneAt T (got ++ [(readV kind rest err).2.1]) (readV kind rest err).2.2 (readV kind rest err).1 := by
  by_cases he : err = 0
  · subst he
    by_cases h1 : (readV kind rest 0).1 = 0
    · obtain ⟨e1, e2, _⟩ := readV_inv h1 h.len
      refine ⟨fit_snoc h.fit e2, ?_, fun _ => ?_⟩
      · have := congrArg List.length e1
        rw [List.length_append] at this
        have := h.len
        omega
      · rw [List.flatMap_append, List.append_assoc]
        simp only [List.flatMap_cons, List.flatMap_nil, List.append_nil]
        rw [← e1]
        exact h.eq rfl
    · have e := readV_fail h1
      refine ⟨fit_snoc h.fit ?_, ?_, fun h2 => absurd h2 h1⟩
      · rw [show (readV kind rest 0).2.1 = ⟨kind, 0, 0, [], []⟩ from congrArg Prod.fst e]; exact fit0 _
      · rw [show (readV kind rest 0).2.2 = [] from congrArg Prod.snd e]; simp
  · rw [readV_err he]
    exact ⟨fit_snoc h.fit (fit0 _), by simp, fun h2 => absurd h2 he⟩
theorem OneAt.done {T : List UInt8} {got : List V} {rest : List UInt8} {err : Int} (h : OneAt T got rest err) (he : endI rest err = 0) : T = got.flatMap encV := by
  unfold endI at he
  split at he
  · rename_i h0
    split at he
    · rename_i h1
      rw [h.eq h0, List.eq_nil_of_length_eq_zero h1, List.append_nil]
    · omega
  · rename_i h0
    exact absurd he h0
end Go.Proofs.Ytldmokjpfnakkaa

/- The walks of worldmintref02's encodings. -/
namespace Go.Proofs.Ytldmokjpfnakkaa
open Go.RowKit

/-- A row of bytes of the call's own is returned. -/
def RetB (bs : List UInt8) (w : World) (e : Ending) (w' : World) : Prop :=
  ∃ (A : Option Addr) (n c : Nat), e = .returned (.slice A n c) ∧ Hid (bs.length = n) ∧ w'.ownsRow w.heap.size 5 1 (.slice A n c) n (bs.map fun b => Value.int .u8 ((b.toNat : Nat) : Int)) ∧ Below w.heap.size w w'
theorem fit_of_mem {vs : List V} (h : ∀ y ∈ vs, FitV y) : ∀ j : Nat, FitV (vs[j]?.getD V0) := by
  intro j
  by_cases hj : j < vs.length
  · rw [List.getElem?_eq_getElem hj]; exact h _ (List.getElem_mem _)
  · rw [List.getElem?_eq_none (by omega)]; exact fit0 0
theorem VRow.take {w : World} {B n m : Nat} {A : Option Addr} {vs : List V} (h : VRow w B A n vs) (hm : m ≤ n) : VRow w B A m (vs.take m) := by
  obtain ⟨hl, S, T, h1, h2⟩ := h
  have e : ∀ j, j < m → (vs.take m)[j]?.getD V0 = vs[j]?.getD V0 := fun j hj => by rw [List.getElem?_take, if_pos hj]
  refine ⟨by rw [List.length_take, hl]; omega, S, T, fun hn => ?_, fun j hj => ?_⟩
  · obtain ⟨b, off, e1, hb, hc⟩ := h1 (by omega)
    exact ⟨b, off, e1, hb, fun j hj i hi => by rw [e j hj]; exact hc j (by omega) i hi⟩
  · rw [e j hj]; exact h2 j (by omega)
theorem Wr.drew {w : World} {B gd : Nat} {bs : List UInt8} (h : Wr w B gd bs) : Wr w.drew B gd bs := h
/-- append of one byte. -/
theorem own_one {w : World} {base k : Nat} {v : Value} {bs : List UInt8} (h : w.ownsRow base 5 1 v k (bs.map fun b => Value.int .u8 ((b.toNat : Nat) : Int))) (x : UInt8) (xi : Int) (hx : xi = ((x.toNat : Nat) : Int)) (hk : k ≤ 35184372088832) (hbase : base ≤ w.heap.size) :
    ∃ g c w', Hid ((Builtin.append_ #[23, 23] 23 #[v, .slice (some ⟨w.heap.size, 0, none⟩) 1 1]).run Try.prog (w.alloc (.cells #[.int .u8 xi] 5)) = .ok (.slice (some ⟨g, 0, none⟩) (k + 1) c) w') ∧
      w'.ownsRow base 5 1 (.slice (some ⟨g, 0, none⟩) (k + 1) c) (k + 1) ((bs ++ [x]).map fun b => Value.int .u8 ((b.toNat : Nat) : Int)) ∧ Below base w w' := by
  subst hx
  obtain ⟨i0, hi, hz0, hz1, hz2⟩ := info_parts info_u8
  obtain ⟨g, c, w', hap, hown, hg, _, _⟩ := run_append_one (P := Try.prog) w base 23 23 5 i0 _ 1 Try.underlying23 hi hz0 hz1 hz2 rfl v k _ h (.int .u8 ((x.toNat : Nat) : Int)) rfl (by unfold maxLen; omega) (by omega) hbase
  exact ⟨g, c, w', Lib.hid hap, by rw [List.map_append]; exact hown, (Below.refl base w).grown hg hbase (fun r e => (h.lt r e).1)⟩
/-- append of many bytes. -/
theorem own_many {w : World} {base k m c : Nat} {v : Value} {bs xs : List UInt8} {A : Option Addr} (h : w.ownsRow base 5 1 v k (bs.map fun b => Value.int .u8 ((b.toNat : Nat) : Int))) (hx : xs.length = m) (hR : Rd w w.heap.size A m (vByte xs)) (hk : k + m ≤ 35184372088832) (hbase : base ≤ w.heap.size) :
    ∃ A' n' c' w', Hid ((Builtin.append_ #[23, 23] 23 #[v, .slice A m c]).run Try.prog w = .ok (.slice A' n' c') w') ∧ Hid (n' = k + m) ∧
      w'.ownsRow base 5 1 (.slice A' n' c') n' ((bs ++ xs).map fun b => Value.int .u8 ((b.toNat : Nat) : Int)) ∧ Below base w w' := by
  obtain ⟨i0, hi, hz0, hz1, hz2⟩ := info_parts info_u8
  obtain ⟨v', w', hap, hown, hg, _⟩ := run_append_rd (P := Try.prog) w base 23 23 5 i0 _ 1 Try.underlying23 hi hz0 hz1 hz2 rfl v k _ h w.heap.size A m c (vByte xs) hR hR.none_ (fun _ _ => rfl) (by unfold maxLen; omega) (by omega) hbase
  obtain ⟨A', c', rfl⟩ := own_slice hown
  have e : (List.range m).map (vByte xs) = xs.map fun b => Value.int .u8 ((b.toNat : Nat) : Int) := by
    subst hx
    refine List.ext_getElem (by simp) fun i h1 h2 => ?_
    have hi : i < xs.length := by simpa using h2
    simp [vByte, hi]
  rw [e, ← List.map_append] at hown
  exact ⟨A', k + m, c', w', Lib.hid hap, Lib.hid rfl, hown, (Below.refl base w).grown hg hbase (fun r e => (h.lt r e).1)⟩

set_option maxRecDepth 100000 in
set_option maxHeartbeats 1000000 in
theorem euint_any (n : Nat) (ni : Int) (hni : ni = (n : Int)) (w : World) (hn : n ≤ 18446744073709551615) :
    Calls Try.prog 40 #[.int .u64 ni] w (RetB (varint n) w) := by
  subst hni
  have HV := Lib.hid (varint_len10 hn)
  go_enter Try.func40, Try.ntmps40
  go_wp2
  go_loopw [0, 3] (fun v o wr => ∃ m k : Nat, ∃ pre : List UInt8, v = .int .u64 (m : Int) ∧ m ≤ 18446744073709551615 ∧ k ≤ 10 ∧ Hid (pre.length = k) ∧ Hid (pre ++ varint m = varint n) ∧ wr.ownsRow w.heap.size 5 1 o k (pre.map fun b => Value.int .u8 ((b.toNat : Nat) : Int)) ∧ Below w.heap.size w wr) (fun v _ _ => (intOf v).toNat)
  case atStart => exact ⟨n, 0, [], rfl, hn, by omega, Lib.hid rfl, Lib.hid rfl, World.ownsRow_nil _ _ _ _, Below.refl _ _⟩
  case round =>
    obtain ⟨m, k, pre, rfl, hm, hk, HK, HE, hown, hb⟩ := hrel
    obtain ⟨v3, rfl⟩ : ∃ x, x = u3 := ⟨_, rfl⟩
    by_cases hge : 128 ≤ m
    · have hk9 : k + 1 ≤ 10 := by
        have h1 := congrArg List.length HE.out
        rw [List.length_append, varint_ge hge, List.length_cons] at h1
        have := HV.out
        have := HK.out
        omega
      obtain ⟨g, c, w3, HA, hown3, hb3⟩ := own_one hown (UInt8.ofNat (m % 128 + 128)) (128 + (m : Int) % 128) (by rw [ofNat_toNat (by omega)]; omega) (by omega) hb.size
      have hge' : 127 < (m : Int) := by omega
      go_wp2_with (at_builtin; refine wpList_append_run HA.out rfl rfl rfl rfl ?_)
      exact ⟨⟨m / 128, k + 1, _, by go_num, by omega, by omega, Lib.hid (by rw [List.length_append, HK.out]; rfl), Lib.hid (by rw [← HE.out, varint_ge hge, List.append_assoc]; rfl), hown3, hb.trans hb3⟩, by simp [intOf]; omega⟩
    · obtain ⟨g, c, w3, HA, hown3, hb3⟩ := own_one hown (UInt8.ofNat m) (m : Int) (by rw [ofNat_toNat (by omega)]) (by omega) hb.size
      have hge' : (m : Int) ≤ 127 := by omega
      go_wp2_with (at_builtin; refine wpList_append_run HA.out rfl rfl rfl rfl ?_)
      go_ret
      have he : pre ++ [UInt8.ofNat m] = varint n := by rw [← HE.out, varint_lt (by omega)]
      exact ⟨_, _, _, rfl, Lib.hid (by rw [← he, List.length_append, HK.out]; rfl), by rw [← he]; exact hown3, hb.trans hb3⟩

set_option maxRecDepth 100000 in
set_option maxHeartbeats 400000 in
theorem ezig_any (n : Int) (w : World) (h1 : -9223372036854775808 ≤ n) (h2 : n ≤ 9223372036854775807) :
    Calls Try.prog 71 #[.int .i64 n] w fun e w' => e = .returned (.int .u64 ((zigI n : Nat) : Int)) ∧ w = w' := by
  by_cases h : n < 0
  · have HZ := Lib.hid (show ((zigI n : Nat) : Int) = 2 * (-(n + 1)) + 1 by unfold zigI; rw [if_pos h]; omega)
    go_enter Try.func71, Try.ntmps71
    go_wp2
    go_ret
    rw [HZ.out]
    exact ⟨rfl, rfl⟩
  · have HZ := Lib.hid (show ((zigI n : Nat) : Int) = 2 * n by unfold zigI; rw [if_neg h]; omega)
    go_enter Try.func71, Try.ntmps71
    go_wp2
    go_ret
    rw [HZ.out]
    exact ⟨rfl, rfl⟩

set_option maxRecDepth 100000 in
set_option maxHeartbeats 400000 in
theorem eint_any (n : Int) (w : World) (h1 : -9223372036854775808 ≤ n) (h2 : n ≤ 9223372036854775807) :
    Calls Try.prog 60 #[.int .i64 n] w (RetB (encInt n) w) := by
  go_enter Try.func60, Try.ntmps60
  go_wp2_with (first
    | (go_at_call 71; ((with_reducible refine (ezig_any _ _ h1 h2).mono ?_); rintro e w1 ⟨rfl, rfl⟩))
    | (go_at_call 40; ((with_reducible refine (euint_any _ _ rfl _ (zigI_lt h1 h2)).mono ?_); rintro e w1 ⟨A, m, c, rfl, q1, q2, q3⟩)))
  go_ret
  exact ⟨A, m, c, rfl, q1, q2, q3⟩

set_option maxRecDepth 100000 in
set_option maxHeartbeats 400000 in
theorem eraw_any (A : Option Addr) (m c : Nat) (bs : List UInt8) (w : World) (HX : Hid (bs.length = m)) (hm : m ≤ 17592186044416) (hR : Rd w w.heap.size A m (vByte bs)) :
    Calls Try.prog 39 #[.slice A m c] w (RetB (encRaw bs) w) := by
  go_enter Try.func39, Try.ntmps39
  go_wp2_with fail
  refine (euint_any m _ rfl _ (by omega)).mono ?_
  rintro e w1 ⟨A1, n1, c1, rfl, HX1, hown1, hb1⟩
  have hn1 : n1 ≤ 10 := by rw [← HX1.out]; exact varint_len10 (by omega)
  obtain ⟨A2, n2, c2, w2, HA, HN, hown2, hb2⟩ := own_many (c := c) hown1 HX.out (hR.all hb1) (by omega) hb1.size
  go_wp2_with (at_builtin; refine wpList_append_run HA.out rfl rfl rfl rfl ?_)
  go_ret
  have he : varint m ++ bs = encRaw bs := by unfold encRaw; rw [HX.out]
  rw [he] at hown2
  exact ⟨A2, n2, c2, rfl, Lib.hid (by have := hown2.1; simpa using this), hown2, hb1.trans hb2⟩

end Go.Proofs.Ytldmokjpfnakkaa

/- The walks of hash.mix, worldmintref01.mix, hash.wordsOf and its iterator. -/
namespace Go.Proofs.Ytldmokjpfnakkaa
open Go.RowKit Go.Shelf
attribute [local go_sem] Oper.semAt_some

set_option maxHeartbeats 400000 in
theorem mix_any (a b : Int) (w : World) :
    Calls Try.prog 68 #[.int .u64 a, .int .u64 b] w fun e w' => e = .returned (.int .u64 (mixI a b)) ∧ w = w' := by
  go_enter Try.func68, Try.ntmps68
  go_wp2
  go_ret
  exact ⟨rfl, rfl⟩

set_option maxHeartbeats 400000 in
theorem rmix_any (a b : Int) (w : World) :
    Calls Try.prog 72 #[.int .u64 a, .int .u64 b] w fun e w' => e = .returned (.int .u64 (mixI a b)) ∧ w = w' := by
  go_enter Try.func72, Try.ntmps72
  go_wp2
  go_ret
  refine ⟨?_, rfl⟩
  rw [mixI_alt]; rfl

set_option maxHeartbeats 400000 in
theorem wordsOf_in (F : Fence) (n : Nat) (h25 : F.fn 48) (hro : F.round = none) (A : Option Addr) (len cap : Nat) (w : World) :
    CallsIn F n Try.prog 48 #[.slice A len cap] w fun e w' => e = .returned (.func (.func 67) #[] #[.pointer (some ⟨w.heap.size, 0, none⟩)]) ∧ w.alloc (.cells #[.slice A len cap] 23) = w' := by
  refine callsIn_of_wp Try.func48 rfl h25 ?_ hro
  simp only [Try.ntmps48, List.size_toArray, List.length_cons, List.length_nil, Nat.reduceAdd, Nat.reduceSub, Array.replicate_succ, Array.replicate_zero, List.push_toArray, List.append_toArray, List.nil_append, List.cons_append]
  gi_wp2
  go_ret
  exact ⟨rfl, rfl⟩

/-- The blocks that the iterator reads. -/
def WordsKept (A : Option Addr) (len Bs : Nat) (k : Nat) : Prop := k = Bs ∨ (0 < len ∧ ∃ ad, A = some ad ∧ k = ad.block)

set_option maxRecDepth 100000 in
set_option maxHeartbeats 1000000 in
theorem words1_in (F : Fence) (n : Nat) (h28 : F.fn 67) (hro : F.round = none) (hn : 1 ≤ n) (l Bs B len cap : Nat) (A : Option Addr) (bs : List UInt8) (HL : Hid (bs.length = len)) (hlc : len ≤ cap) (hmax : len ≤ 140737488351232)
    (J Jx : List Int → World → Prop)
    (hY : Hid (∀ pre x W, J pre W → pre.length < nwords bs → YieldAt F (n - 1) Try.prog l #[.int .u64 x] W fun e W' =>
      (e = .returned (.bool true) ∧ J (pre ++ [x]) W' ∧ Keeps (WordsKept A len Bs) W W') ∨ (e = .returned (.bool false) ∧ Jx (pre ++ [x]) W')))
    (W : World) (HB : Hid (W.cell? ⟨Bs, 0, none⟩ = some (.slice A len cap))) (hR : Rd W B A len (vByte bs)) (h0 : J [] W) :
    CallsIn F n Try.prog 67 #[.func (.yield l) #[] #[], .pointer (some ⟨Bs, 0, none⟩)] W fun e W' => (∃ v, e = .returned v) ∧
      ((∃ ys, ys = wordsI bs ∧ J ys W') ∨ (∃ pre, True ∧ Jx pre W')) := by
  refine callsIn_of_wp Try.func67 rfl h28 ?_ hro
  simp only [Try.ntmps67, List.size_toArray, List.length_cons, List.length_nil, Nat.reduceAdd, Nat.reduceSub, Array.replicate_succ, Array.replicate_zero, List.push_toArray, List.append_toArray, List.nil_append, List.cons_append]
  gi_wp2
  gi_loopw [3] (fun v wr => ∃ k s : Nat, Hid (s = 8 * k) ∧ s < len + 8 ∧ v = .int .i64 (s : Int) ∧ J (wordsTo bs k) wr ∧ Keeps (WordsKept A len Bs) W wr)
    (fun v _ => len + 8 - (intOf v).toNat)
  case atStart => exact ⟨0, 0, rfl, by omega, rfl, h0, Keeps.refl _ _⟩
  case round =>
    obtain ⟨k, s, hs, hk, rfl, hJs, hnx⟩ := hrel
    have hBs : wr.cell? ⟨Bs, 0, none⟩ = some (.slice A len cap) := (hnx.cell (p := ⟨Bs, 0, none⟩) (.inl rfl)).trans HB.out
    by_cases hlt : s < len
    · obtain ⟨b, off, rfl, hb, hc0⟩ := hR (by omega)
      have Hc : Hid (∀ j, j < (group bs k).length → wr.cell? ⟨b, off + s + j, none⟩ = some (.int .u8 (((group bs k)[j]?.getD 0).toNat : Nat))) := by
        intro j hj
        rw [group_length] at hj
        rw [hnx.cell (p := ⟨b, off + s + j, none⟩) (.inr ⟨by omega, _, rfl, rfl⟩), Nat.add_assoc, hc0 (s + j) (by have := HL.out; have := hs.out; omega)]
        simp only [vByte, group, hs.out, List.getElem?_take, List.getElem?_drop]
        rw [if_pos (by omega)]
      have Hl : Hid ((group bs k).length = min 8 (len - s)) := by show _ = _; rw [group_length, HL.out, hs.out]
      clear hc0
      by_cases h8 : s + 8 ≤ len
      · gi_wp2
        gi_loop [4, 22] (fun v i => ∃ j : Nat, j ≤ 8 ∧ i = .int .i64 (j : Int) ∧ v = .int .u64 ((wordN ((group bs k).take j) : Nat) : Int))
          (fun _ i => 8 - (intOf i).toNat)
        case atStart => exact ⟨0, by omega, rfl, by simp [wordN]⟩
        case round =>
          obtain ⟨j, hj, rfl, rfl⟩ := hrel
          by_cases hj8 : j < 8
          · have hcj := Hc.out j (by have := Hl.out; omega)
            have HS := Lib.hid (word_step (group bs k) j (by omega) (by have := Hl.out; omega))
            gi_wp2
            exact ⟨⟨j + 1, by omega, by go_num, congrArg (Value.int .u64) HS.out⟩, by simp [intOf]; omega⟩
          · obtain rfl : j = 8 := by omega
            obtain ⟨fn, tmps, assign, body, hy, hR3⟩ := hY.out _ ((wordN ((group bs k).take (8)) : Nat) : Int) wr hJs (by rw [wordsTo_length]; unfold nwords; have := HL.out; have := hs.out; omega)
            gi_wp2
            refine hR3.mono ?_
            rintro e W3 (⟨rfl, hJ3, hk3⟩ | ⟨rfl, hJx3⟩)
            · gi_wp2
              exact ⟨⟨k + 1, s + 8, by show _ = _; rw [hs.out]; omega, by omega, by go_num, by rw [wordsTo_succ]; rw [group_take _ _ _ (by have := Hl.out; omega)] at hJ3; exact hJ3, hnx.trans hk3⟩, by simp [intOf]; omega⟩
            · gi_wp2
              refine bodyPost_ret (results_none rfl _ _ _) rfl ?_
              exact ⟨⟨_, rfl⟩, .inr ⟨_, trivial, hJx3⟩⟩
      · gi_wp2
        gi_loop [4, 22] (fun v i => ∃ j : Nat, j ≤ len - s ∧ i = .int .i64 (j : Int) ∧ v = .int .u64 ((wordN ((group bs k).take j) : Nat) : Int))
          (fun _ i => len - s - (intOf i).toNat)
        case atStart => exact ⟨0, by omega, rfl, by simp [wordN]⟩
        case round =>
          obtain ⟨j, hj, rfl, rfl⟩ := hrel
          by_cases hj8 : j < len - s
          · have hcj := Hc.out j (by have := Hl.out; omega)
            have HS := Lib.hid (word_step (group bs k) j (by omega) (by have := Hl.out; omega))
            gi_wp2
            exact ⟨⟨j + 1, by omega, by go_num, congrArg (Value.int .u64) HS.out⟩, by simp [intOf]; omega⟩
          · obtain rfl : j = len - s := by omega
            obtain ⟨fn, tmps, assign, body, hy, hR3⟩ := hY.out _ ((wordN ((group bs k).take (len - s)) : Nat) : Int) wr hJs (by rw [wordsTo_length]; unfold nwords; have := HL.out; have := hs.out; omega)
            gi_wp2
            refine hR3.mono ?_
            rintro e W3 (⟨rfl, hJ3, hk3⟩ | ⟨rfl, hJx3⟩)
            · gi_wp2
              exact ⟨⟨k + 1, s + 8, by show _ = _; rw [hs.out]; omega, by omega, by go_num, by rw [wordsTo_succ]; rw [group_take _ _ _ (by have := Hl.out; omega)] at hJ3; exact hJ3, hnx.trans hk3⟩, by simp [intOf]; omega⟩
            · gi_wp2
              refine bodyPost_ret (results_none rfl _ _ _) rfl ?_
              exact ⟨⟨_, rfl⟩, .inr ⟨_, trivial, hJx3⟩⟩
    · gi_wp2
      go_end0
      exact ⟨⟨_, rfl⟩, .inl ⟨_, by unfold wordsI nwords; congr 1; have := HL.out; have := hs.out; omega, hJs⟩⟩

theorem words_stops (F : Fence) (n : Nat) (h28 : F.fn 67) (hro : F.round = none) (hn : 1 ≤ n) (Bs B len cap : Nat) (A : Option Addr) (bs : List UInt8) (hl : bs.length = len) (hlc : len ≤ cap) (hmax : len ≤ 140737488351232)
    (w : World) (hBs : Bs < w.heap.size) (hB : B ≤ w.heap.size) (hc : w.cell? ⟨Bs, 0, none⟩ = some (.slice A len cap)) (hR : Rd w B A len (vByte bs)) :
    SeqStopsK F n Try.prog 67 #[.pointer (some ⟨Bs, 0, none⟩)] (fun x : Int => #[Value.int .u64 x]) (Keeps (WordsKept A len Bs)) (fun ys => ys = wordsI bs) (fun _ => True) (nwords bs) w := fun l J Jx W hW _ _ hY h0 =>
  words1_in F n h28 hro hn l Bs B len cap A bs hl hlc hmax J Jx hY W ((hW.cell (p := ⟨Bs, 0, none⟩) hBs).trans hc) (hR.below hW hB) h0

end Go.Proofs.Ytldmokjpfnakkaa
