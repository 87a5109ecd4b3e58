/- journal: the walk of first. -/
import Derived.Test.YtldmokjpfnakkaaGreatHG14
import Derived.RangeFuncNested
import Derived.RangeFuncBound
import Derived.RangeFuncCalls
import Derived.RangeFuncLeaves
import Derived.RangeFuncBox
import Derived.Shelf.Abstract
import Derived.Shelf.RegionOpen
import Derived.WalkKit
import Derived.OwnWalkIn
import Derived.TacticsInMore
import Derived.LoopNIn
import Derived.LoopIn

namespace Go.Proofs.YtldmokjpfnakkaaGreat
open Go.RowKit

/-- A slice of bytes that is read, nil with no capacity. -/
def Sb (w : World) (A : Option Addr) (n c : Nat) (bs : List UInt8) : Prop :=
  bs.length = n ∧ n ≤ c ∧ c ≤ 9223372036854775807 ∧ (A = none ∧ c = 0 ∨ ∃ b off, A = some ⟨b, off, none⟩ ∧ b < w.heap.size ∧ ∀ j, j < n → w.cell? ⟨b, off + j, none⟩ = some (vByte bs j))
theorem Sb.rd {w : World} {A : Option Addr} {n c : Nat} {bs : List UInt8} (h : Sb w A n c bs) : Rd w w.heap.size A n (vByte bs) := by
  intro hn
  obtain ⟨h1, h2, h3, ⟨h4, h5⟩ | ⟨b, off, h4, h5⟩⟩ := h
  · omega
  · exact ⟨b, off, h4, h5.1, h5.2⟩
theorem Sb.all {w w' : World} {A : Option Addr} {n c : Nat} {bs : List UInt8} (h : Sb w A n c bs) (hb : Below w.heap.size w w') : Sb w' A n c bs := by
  obtain ⟨h1, h2, h3, ⟨h4, h5⟩ | ⟨b, off, h4, h5⟩⟩ := h
  · exact ⟨h1, h2, h3, .inl ⟨h4, h5⟩⟩
  · exact ⟨h1, h2, h3, .inr ⟨b, off, h4, Nat.lt_of_lt_of_le h5.1 hb.size, fun j hj => (hb.cell (p := ⟨b, off + j, none⟩) h5.1).trans (h5.2 j hj)⟩⟩
/-- What first returns. -/
def FirstPost (k : Int) (bs : List UInt8) (w : World) (e : Ending) (w' : World) : Prop :=
  (e = .returned (.tuple #[.slice none 0 0, .int .i64 0, .bool false]) ∧ FirstIs k bs none ∧ Below w.heap.size w w') ∨
  ∃ (z : Bz) (m : Nat), e = .returned (.tuple #[.slice z.A z.n z.c, .int .i64 (m : Int), .bool true]) ∧ z.ok w' ∧ FirstIs k bs (some z.bs) ∧ Hid (m = (frameB k z.bs).length) ∧ z.low w.heap.size ∧ Below w.heap.size w w'
theorem readU_len (bs : List UInt8) (e : Int) : (readU bs e).2.2.length ≤ bs.length := by
  unfold readU
  split
  · exact (decU_lt bs 0 0 (by omega) (by decide)).2
  · exact Nat.zero_le _
theorem readRaw_len (bs : List UInt8) (e : Int) : (readRaw bs e).2.1.length ≤ bs.length := by
  unfold readRaw
  split
  · have h := (decU_lt bs 0 0 (by omega) (by decide)).2
    unfold decRaw
    split
    · exact Nat.zero_le _
    · split
      · exact Nat.zero_le _
      · exact Nat.le_trans (List.length_take_le' _ _) h
  · exact Nat.zero_le _
theorem inRec_len (c : List UInt8) : (inRec c).2.1.length ≤ c.length := Nat.le_trans (readRaw_len _ _) (readU_len _ _)
theorem first_no1 {k : Int} {bs : List UInt8} {n : Nat} (hk1 : -9223372036854775808 ≤ k) (hk2 : k ≤ 9223372036854775807) (hl : bs.length = n) (hn : n ≤ 9223372036854775807) (h : n < (varint (szB bs)).length + szB bs ∨ n < (varint (szB bs)).length) : FirstIs k bs none := by
  intro x r hx
  have := (first_parts ⟨hk1, hk2⟩ hx (by omega)).2.1
  omega
theorem first_no2 {k : Int} {bs : List UInt8} {n : Nat} (hk1 : -9223372036854775808 ≤ k) (hk2 : k ≤ 9223372036854775807) (hl : bs.length = n) (hn : n ≤ 9223372036854775807) (h : endI (inRec (innerB bs)).2.2 (inRec (innerB bs)).1 ≠ 0) : FirstIs k bs none := by
  intro x r hx
  have := (first_parts ⟨hk1, hk2⟩ hx (by omega)).2.2.2.1
  rw [this] at h
  exact h rfl
theorem first_no3 {k : Int} {bs rec : List UInt8} {n : Nat} (hk1 : -9223372036854775808 ≤ k) (hk2 : k ≤ 9223372036854775807) (hl : bs.length = n) (hn : n ≤ 9223372036854775807) (hr : (inRec (innerB bs)).2.1 = rec) (h : preB bs (frameB k rec) = false) : FirstIs k bs none := by
  intro x r hx
  have := (first_parts ⟨hk1, hk2⟩ hx (by omega)).2.2.2.1
  rw [this] at hr
  subst hr
  unfold preB at h
  rw [decide_eq_false_iff_not] at h
  exact h ⟨r, hx.symm⟩
theorem first_yes {k : Int} {bs rec : List UInt8} (h : preB bs (frameB k rec) = true) : FirstIs k bs (some rec) := by
  unfold preB at h
  obtain ⟨r, hr⟩ := of_decide_eq_true h
  exact ⟨r, hr.symm⟩
set_option maxRecDepth 100000 in
set_option maxHeartbeats 1000000 in
theorem first_any (k : Int) (A : Option Addr) (n c : Nat) (bs : List UInt8) (w : World) (HS : Hid (Sb w A n c bs)) (hk1 : -9223372036854775808 ≤ k) (hk2 : k ≤ 9223372036854775807) (hn : n ≤ 1099511627776) :
    Calls Tryz.prog 59 #[.int .i64 k, .slice A n c] w (FirstPost k bs w) := by
  have HL := Lib.hid HS.out.1
  have hnc := HS.out.2.1
  have hc := HS.out.2.2.1
  have HR := Lib.hid HS.out.rd
  have HW0 := Lib.hid (Below.refl w.heap.size w)
  rcases HS.out.2.2.2 with ⟨rfl, rfl⟩ | ⟨b, off, rfl, -⟩
  · have h0 : n = 0 := by omega
    subst h0
    go_enter Tryz.func59, Tryz.ntmps59
    go_wp2_with fail
    refine (read_any _ _ _ (bs.take 10) _ (Lib.hid (by rw [List.length_take, HL.out]; omega)) Rd.nil (by omega)).mono ?_
    rintro e w1 ⟨g1, rfl, hg1, hR1, hb1, -⟩
    go_wp2_with fail
    refine (ruint_any _ g1 _ _ _ (Lib.hid hR1)).mono ?_
    rintro e w2 ⟨rfl, -, hg2⟩
    have hb2 := below_of_only hb1 hg2 hb1.size hg1
    clear hg2 hR1 hb1 hg1
    obtain ⟨sz, hsz⟩ : ∃ sz, szB bs = sz := ⟨_, rfl⟩
    have hsz' : (readU (bs.take 10) 0).2.1 = sz := hsz
    rw [hsz']
    have HSZ := Lib.hid hsz
    have hsz1 : sz ≤ 18446744073709551615 := by rw [← hsz']; exact readU_lt _ _
    clear hsz hsz'
    have hW3 := Wr.new w2
    have hb3 := hb2.trans (((Below.refl w2.heap.size w2).alloc (Nat.le_refl _) (.cells #[.slice none 0 0] 75)).mono hb2.size)
    have hz2 := hb2.size
    clear hb2
    go_wp2_with fail
    refine (wuint_any w2.heap.size w2.heap.size [] sz _ rfl _ (Lib.hid hW3) hsz1 (by simp)).mono ?_
    rintro e w4 ⟨rfl, hW4, hb4⟩
    have hB4 := hb3.trans (hb4.mono hz2)
    clear hb4 hb3 hW3
    go_wp2_with fail
    refine (wdone_any _ _ _ _ (Lib.hid hW4) (by have := varint_len10 hsz1; simp only [List.nil_append]; omega)).mono ?_
    rintro e w5 ⟨A5, be, c5, rfl, -, -, HN5, -, -, hb5⟩
    have hB5 := hB4.trans (hb5.mono hB4.size)
    have HBE := Lib.hid (show (varint (szB bs)).length = be by rw [HSZ.out]; simpa using HN5.out)
    have hbe : 0 < be := by rw [← HBE.out]; exact varint_pos _
    clear hb5 hB4 hW4 HN5
    go_wp2
    go_ret3
    exact .inl ⟨rfl, first_no1 hk1 hk2 HL.out (by omega) (by rw [HBE.out]; omega), hB5⟩
  · by_cases h10 : 10 ≤ n
    all_goals (
      go_enter Tryz.func59, Tryz.ntmps59
      go_wp2_with fail
      refine (read_any _ _ _ (bs.take 10) _ (Lib.hid (by rw [List.length_take, HL.out]; omega)) ((HR.out.less (by omega)).congr (fun j hj => by simp [vByte, show j < 10 by omega])) (by omega)).mono ?_
      rintro e w1 ⟨g1, rfl, hg1, hR1, hb1, -⟩
      go_wp2_with fail
      refine (ruint_any _ g1 _ _ _ (Lib.hid hR1)).mono ?_
      rintro e w2 ⟨rfl, -, hg2⟩
      have hb2 := below_of_only hb1 hg2 hb1.size hg1
      clear hg2 hR1 hb1 hg1
      obtain ⟨sz, hsz⟩ : ∃ sz, szB bs = sz := ⟨_, rfl⟩
      have hsz' : (readU (bs.take 10) 0).2.1 = sz := hsz
      rw [hsz']
      have HSZ := Lib.hid hsz
      have hsz1 : sz ≤ 18446744073709551615 := by rw [← hsz']; exact readU_lt _ _
      clear hsz hsz'
      have hW3 := Wr.new w2
      have hb3 := hb2.trans (((Below.refl w2.heap.size w2).alloc (Nat.le_refl _) (.cells #[.slice none 0 0] 75)).mono hb2.size)
      have hz2 := hb2.size
      clear hb2
      go_wp2_with fail
      refine (wuint_any w2.heap.size w2.heap.size [] sz _ rfl _ (Lib.hid hW3) hsz1 (by simp)).mono ?_
      rintro e w4 ⟨rfl, hW4, hb4⟩
      have hB4 := hb3.trans (hb4.mono hz2)
      clear hb4 hb3 hW3
      go_wp2_with fail
      refine (wdone_any _ _ _ _ (Lib.hid hW4) (by have := varint_len10 hsz1; simp only [List.nil_append]; omega)).mono ?_
      rintro e w5 ⟨A5, be, c5, rfl, -, -, HN5, -, -, hb5⟩
      have hB5 := hB4.trans (hb5.mono hB4.size)
      have HBE := Lib.hid (show (varint (szB bs)).length = be by rw [HSZ.out]; simpa using HN5.out)
      have hbe : be ≤ 10 := by have := varint_len10 hsz1; have := HN5.out; simp only [List.nil_append] at this; omega
      clear hb5 hB4 hW4 HN5
      by_cases q1 : n < be
      · go_wp2
        go_ret3
        exact .inl ⟨rfl, first_no1 hk1 hk2 HL.out (by omega) (by rw [HBE.out]; omega), hB5⟩
      · have hcv : IntKind.u64.wrap ((n : Int) - (be : Int)) = ((n - be : Nat) : Int) := by rw [wrap_u64]; omega
        by_cases q2 : n - be < sz
        · go_wp2
          go_ret3
          exact .inl ⟨rfl, first_no1 hk1 hk2 HL.out (by omega) (by rw [HBE.out, HSZ.out]; omega), hB5⟩
        · have HIN := Lib.hid (show (innerB bs).length = sz by unfold innerB; rw [HSZ.out, ← HSZ.out, HBE.out, List.length_take, List.length_drop, HL.out, HSZ.out]; omega)
          have HRI : Hid (∀ o', (0 < sz → o' = off + be) → Rd w5 w5.heap.size (some ⟨b, o', none⟩) sz (vByte (innerB bs))) := Lib.hid (fun o' ho hp => by
            obtain ⟨b', off', e, hb', hc'⟩ := (HR.out.all hB5) (by omega)
            injection e with e
            injection e with e1 e2 _
            subst e1 e2
            refine ⟨b, o', rfl, hb', fun j hj => ?_⟩
            rw [ho hp, Nat.add_assoc, hc' (be + j) (by omega)]
            unfold vByte innerB
            rw [HBE.out, HSZ.out, List.getElem?_take, if_pos hj, List.getElem?_drop])
          go_wp2_with fail
          all_goals (
            refine (read_any _ _ _ (innerB bs) _ HIN (HRI.out _ (by omega)) (by omega)).mono ?_
            rintro e w6 ⟨g6, rfl, hg6, hR6, hb6, -⟩
            have hB6 := hB5.trans (hb6.mono hB5.size)
            replace hg6 : w.heap.size ≤ g6 := Nat.le_trans hB5.size hg6
            clear hb6
            go_wp2_with fail
            refine (rint_any _ g6 _ _ _ (Lib.hid hR6)).mono ?_
            rintro e w7 ⟨rfl, hR7, hg7⟩
            have hB7 := below_of_only hB6 hg7 hB6.size hg6
            clear hB6 hg7 hR6
            go_wp2_with fail
            refine (rraw_any _ g6 _ _ _ (Lib.hid hR7)).mono ?_
            rintro e w8 ⟨A8, n8, c8, rfl, hnc8, hc8, hn8, HN8, hown8, hR8, hg8⟩
            have hB8 := below_of_only hB7 hg8 hB7.size hg6
            have hlow7 := hB7.size
            obtain ⟨rec, hrec⟩ : ∃ rec, (inRec (innerB bs)).2.1 = rec := ⟨_, rfl⟩
            replace HN8 : Hid (rec.length = n8) := by rw [← hrec]; exact HN8
            replace hown8 : w8.ownsRow w7.heap.size 5 1 (.slice A8 n8 c8) n8 (rec.map fun b => Value.int .u8 ((b.toNat : Nat) : Int)) := by rw [← hrec]; exact hown8
            have HREC := Lib.hid hrec
            clear hrec hB7 hg8 hR7
            have HBT := Lib.hid (Bts.of_own hown8).1
            have hr8 := (rd_bytes hown8).2.2
            have HLW := Lib.hid (Bz.low.mono (Bz.low_own (bs := rec) hown8) hlow7)
            clear hown8
            go_wp2_with fail
            refine (rend_any _ g6 _ _ _ (Lib.hid hR8)).mono ?_
            rintro e w9 ⟨rfl, rfl⟩
            obtain ⟨en, hen⟩ : ∃ en, endI (inRec (innerB bs)).2.2 (inRec (innerB bs)).1 = en := ⟨_, rfl⟩
            have hen' : endI (readRaw (readU (innerB bs) 0).2.2 (readU (innerB bs) 0).1).2.2 (readRaw (readU (innerB bs) 0).2.2 (readU (innerB bs) 0).1).1 = en := hen
            rw [hen']
            have HEN := Lib.hid hen
            clear hen hen' hR8
            by_cases q3 : en = 0
            · have q4 : (en != 0) = false := by simpa using q3
              clear q3
              have hn8' : n8 ≤ 1099511627776 := by
                have h1 := inRec_len (innerB bs)
                rw [HREC.out, HIN.out] at h1
                have := HN8.out
                omega
              go_wp2_with fail
              refine (frame_any k _ n8 _ rec _ HN8 hk1 hk2 hn8' hr8).mono ?_
              rintro e w10 ⟨A10, n10, c10, rfl, HN10, hown10, hb10⟩
              have hB10 := hB8.trans (hb10.mono hB8.size)
              have HBT10 := Lib.hid (HBT.out.all hb10)
              obtain ⟨-, hnc10, hr10⟩ := rd_bytes hown10
              have hp10 : 0 < n10 := by have := frameB_pos k rec; have := HN10.out; omega
              have hc10 := own_cap hown10
              clear hb10 hown10 hr8 hB8
              cases hpre : preB bs (frameB k rec) with
              | true =>
                have HP := Lib.hid hpre
                go_wp2_with fail
                refine (hasPre_any _ _ _ _ _ _ bs (frameB k rec) _ HL HN10 (by omega) (by omega) hp10 (HR.out.all hB10) hr10).mono ?_
                rintro e w11 ⟨rfl, rfl⟩
                go_wp2
                go_ret3
                exact .inr ⟨⟨A8, n8, c8, rec⟩, n10, rfl, HBT10.out, first_yes HP.out, Lib.hid HN10.out.symm, HLW.out, hB10⟩
              | false =>
                have HP := Lib.hid hpre
                go_wp2_with fail
                refine (hasPre_any _ _ _ _ _ _ bs (frameB k rec) _ HL HN10 (by omega) (by omega) hp10 (HR.out.all hB10) hr10).mono ?_
                rintro e w11 ⟨rfl, rfl⟩
                go_wp2
                go_ret3
                exact .inl ⟨rfl, first_no3 hk1 hk2 HL.out (by omega) HREC.out HP.out, hB10⟩
            · have q4 : (en != 0) = true := by simpa using q3
              go_wp2
              go_ret3
              exact .inl ⟨rfl, first_no2 hk1 hk2 HL.out (by omega) (by rw [HEN.out]; exact q3), hB8⟩))
end Go.Proofs.YtldmokjpfnakkaaGreat

/- A range over a function whose iterator keeps a state in memory: one law for the caller. -/
namespace Go.Proofs.YtldmokjpfnakkaaGreat
open Go.RowKit Go.Shelf

/-- How a round's body may be left: going on in the next state, or leaving by a jump. -/
def statePost (B : Nat) (I : World → Prop) (Ix : Code → World → Prop) (W : World) : Exit → Act → World → Prop
  | .normal, _, W' => KeepsFrom B W W' ∧ I W'
  | .ret, _, W' => KeepsFrom B W W' ∧ Ix .ret W'
  | .exit id, _, W' => KeepsFrom B W W' ∧ Ix (.exit id) W'
  | .goto t, _, W' => KeepsFrom B W W' ∧ Ix (.goto t) W'
  | .panic _, _, _ => False
  | .outgrown, _, _ => False

/-- The iterator's promise: 'Iy s x W': it stands at yield with the value x, in state s; a round that goes on leads to 'I (nxt s x)'; R: what the law keeps of the loop's own record. -/
def SeqState {α β : Type} (F : Fence) (n : Nat) (P : Program) (gf : Nat) (lb : Array Value) (encs : α → Array Value) (B : Nat) (I : β → World → Prop) (Iy : β → α → World → Prop) (nxt : β → α → β) (Ix : Code → β → World → Prop) (s0 : β) (Fin : β → Prop) : Prop :=
  ∀ (l : Nat) (R : World → Prop) (Rx : Code → World → Prop), (∀ W W', R W → KeepsFrom B W W' → R W') →
    (∀ s x W, Iy s x W → R W → YieldAt F (n - 1) P l (encs x) W fun e W' => (e = .returned (.bool true) ∧ I (nxt s x) W' ∧ R W') ∨ (e = .returned (.bool false) ∧ ∃ c, Ix c (nxt s x) W' ∧ Rx c W')) →
    ∀ W, I s0 W → R W → CallsIn F n P gf (#[.func (.yield l) #[] #[]] ++ lb) W fun e W' => (∃ v, e = .returned v) ∧ ((∃ s, Fin s ∧ I s W' ∧ R W') ∨ ∃ c s, Ix c s W' ∧ Rx c W')

variable {F : Fence} {n : Nat} {P : Program}

theorem range_state {α β : Type} {g : Operand} {ps : Array Tmp} {assign body : Code} {Q : Exit → Act → World → Prop} {a : Act} {w : World}
    (hro : F.round = none) (h1 : 1 ≤ n) {gf : Nat} {lb : Array Value} (hg : a.eval g = .func (.func gf) #[] lb) (hFg : F.fn gf) (eg : ∀ args w, (callFunc gf args).run P w = .ok (.enter gf args) w)
    {encs : α → Array Value} (hps : ∀ x, (encs x).size = ps.size)
    (I : β → World → Prop) (Iy : β → α → World → Prop) (nxt : β → α → β) (Ix : Code → β → World → Prop) (s0 : β) (Fin : β → Prop)
    (hseq : SeqState F (n - 1) P gf lb encs w.heap.size I Iy nxt Ix s0 Fin)
    (hI : OwnFrom w.heap.size I) (hIy : ∀ x, OwnFrom w.heap.size (fun s => Iy s x)) (hIx : ∀ c, OwnFrom w.heap.size (Ix c)) (h0 : I s0 w) (a₁ : α → Act)
    (hassign : ∀ (l : Nat) (x : α) (W : World) (K : Act → World → Prop), K (a₁ x) W →
      assign.wpIn (F.inRound l) (n - 1 - 1) P (Exit.then K (fun _ _ _ => False)) { tmps := (ps.zip (encs x)).foldl (fun t (p, v) => t.setIfInBounds p v) a.tmps, defers := [] } W)
    (hbody : ∀ (l : Nat) (s : β) (x : α) (W : World), Iy s x W → body.wpIn (F.inRound l) (n - 1 - 1) P (statePost w.heap.size (I (nxt s x)) (fun c => Ix c (nxt s x)) W) (a₁ x) W)
    (hdone : ∀ (D : Nat) (s : β) (W : World), w.heap.size ≤ D → Fin s → I s W → W.heap[D]? = some (.deferred (some [])) → Q .normal { a with defers := { target := .collected D, args := #[] } :: a.defers } W)
    (hstop : ∀ (D : Nat) (c : Code) (s : β) (W : World), w.heap.size ≤ D → Ix c s W → W.heap[D]? = some (.deferred (some [])) → c.wpIn F n P Q { a with defers := { target := .collected D, args := #[] } :: a.defers } W) :
    (Code.rangeFunc g ps assign body).wpIn F n P Q a w := by
  refine wpIn_rangeFunc ?_
  intro fn hfn
  rw [hro]
  obtain ⟨rec, hrec⟩ : ∃ rec : LoopState → Option Code → Loop, rec = fun st pe => { state := st, pending := pe, fn, tmps := a.tmps, params := ps, assign, body, defers := w.heap.size } := ⟨_, rfl⟩
  obtain ⟨W1, hW1⟩ : ∃ W1, (w.alloc (.deferred (some []))).alloc (.loop (rec .ready none)) = W1 := ⟨_, rfl⟩
  have hL1 : W1.heap[w.heap.size + 1]? = some (.loop (rec .ready none)) := by
    rw [← hW1]; have := World.alloc_heap_new (w.alloc (.deferred (some []))) (.loop (rec .ready none)); rwa [World.size_alloc] at this
  have hK1 : W1.heap[w.heap.size]? = some (.deferred (some [])) := by
    rw [← hW1]; exact (Below.heap_alloc _ _ _ (by simp)).trans (World.alloc_heap_new w _)
  have hI1 : I s0 W1 := by rw [← hW1]; exact hI.alloc _ (hI.alloc _ h0)
  refine ⟨w.heap.size + 1, [{ target := .collected w.heap.size, args := #[] }], W1, { target := .fn (.func gf) lb, args := #[.func (.yield (w.heap.size + 1)) #[] #[]] }, W1, gf,
    #[.func (.yield (w.heap.size + 1)) #[] #[]] ++ lb, W1, ?_, ?_, ?_, ?_, fun _ => h1, ?_⟩
  · rw [← hW1, hrec]; exact run_enterLoop_outer _ _ _ _ _
  · simp only [resolve, hg]
    simp [go_sem]
  · intro f' hf'; simp [Target.leads] at hf'; subst hf'; exact hFg
  · simp [invoke, go_sem, eg]
  · -- the record's two blocks are kept by whatever keeps what is no cells
    have hput : ∀ (W : World) (o o' : Obj), W.heap[w.heap.size + 1]? = some o → W.heap[w.heap.size]? = some (.deferred (some [])) →
        (W.putObj (w.heap.size + 1) o').heap[w.heap.size + 1]? = some o' ∧ (W.putObj (w.heap.size + 1) o').heap[w.heap.size]? = some (.deferred (some [])) := fun W o o' hl hk =>
      ⟨World.putObj_heap_same (Array.getElem?_eq_some_iff.1 hl).1, (World.putObj_heap_other (by omega)).trans hk⟩
    refine (hseq (w.heap.size + 1)
      (fun W => W.heap[w.heap.size + 1]? = some (.loop (rec .ready none)) ∧ W.heap[w.heap.size]? = some (.deferred (some [])))
      (fun c W => W.heap[w.heap.size + 1]? = some (.loop (rec .done (some c))) ∧ W.heap[w.heap.size]? = some (.deferred (some [])))
      (fun W W' hR hk => ⟨hk.same _ _ (by omega) hR.1 rfl, hk.same _ _ (Nat.le_refl _) hR.2 rfl⟩) ?_ W1 hI1 ⟨hL1, hK1⟩).mono ?_
    · -- one round
      rintro s x W hi ⟨hl, hk⟩
      have hy := run_yield (P := P) (args := encs x) hl (by rw [hrec]; exact hps x)
      rw [hrec] at hy
      refine ⟨fn, _, assign, body, hy, roundIn_of_wpIn hfn (hassign _ x W _ ⟨_, run_beginRound hl (by rw [hrec]), ?_⟩)⟩
      obtain ⟨hl2, hk2⟩ := hput W _ (.loop { rec .ready none with state := .busy }) hl hk
      refine wpIn_mono (hbody _ s x _ ((hIy x).putObj _ hi (by omega) hl rfl)) ?_
      have fin : ∀ (jump : Option Code) (W3 : World), KeepsFrom w.heap.size (W.putObj (w.heap.size + 1) (.loop { rec .ready none with state := .busy })) W3 →
          (Instr.endRound (w.heap.size + 1) jump).run P W3 = .ok (.bool jump.isNone) (W3.putObj (w.heap.size + 1) (.loop (rec (if jump.isNone then .ready else .done) jump))) ∧
          W3.heap[w.heap.size + 1]? = some (.loop { rec .ready none with state := .busy }) ∧
          (W3.putObj (w.heap.size + 1) (.loop (rec (if jump.isNone then .ready else .done) jump))).heap[w.heap.size + 1]? = some (.loop (rec (if jump.isNone then .ready else .done) jump)) ∧
          (W3.putObj (w.heap.size + 1) (.loop (rec (if jump.isNone then .ready else .done) jump))).heap[w.heap.size]? = some (.deferred (some [])) := fun jump W3 hk3 => by
        have hl3 := hk3.same _ _ (by omega) hl2 rfl
        have hd3 := hk3.same _ _ (Nat.le_refl _) hk2 rfl
        have hrun := run_endRound (P := P) jump hl3
        obtain ⟨h4, h5⟩ := hput W3 _ (.loop (rec (if jump.isNone then .ready else .done) jump)) hl3 hd3
        refine ⟨?_, hl3, h4, h5⟩
        rw [hrun, hrec]
      rintro e a3 W3 hp
      cases e with
      | normal =>
        obtain ⟨hk3, hi3⟩ := hp
        obtain ⟨hr, hl3, hl4, hk4⟩ := fin none W3 hk3
        exact ⟨_, _, hr, .inl ⟨rfl, hI.putObj _ hi3 (by omega) hl3 rfl, hl4, hk4⟩⟩
      | ret =>
        obtain ⟨hk3, hi3⟩ := hp
        obtain ⟨hr, hl3, hl4, hk4⟩ := fin (some .ret) W3 hk3
        exact ⟨_, _, hr, .inr ⟨rfl, .ret, (hIx _).putObj _ hi3 (by omega) hl3 rfl, hl4, hk4⟩⟩
      | exit id =>
        obtain ⟨hk3, hi3⟩ := hp
        obtain ⟨hr, hl3, hl4, hk4⟩ := fin (some (.exit id)) W3 hk3
        exact ⟨_, _, hr, .inr ⟨rfl, .exit id, (hIx _).putObj _ hi3 (by omega) hl3 rfl, hl4, hk4⟩⟩
      | goto t =>
        obtain ⟨hk3, hi3⟩ := hp
        obtain ⟨hr, hl3, hl4, hk4⟩ := fin (some (.goto t)) W3 hk3
        exact ⟨_, _, hr, .inr ⟨rfl, .goto t, (hIx _).putObj _ hi3 (by omega) hl3 rfl, hl4, hk4⟩⟩
      | panic ch => exact hp.elim
      | outgrown => exact hp.elim
    · -- behind the iterator
      rintro e W2 ⟨⟨v, rfl⟩, (⟨s, hS, hi, hl, hk⟩ | ⟨c, s, hi, hl, hk⟩)⟩
      · have hrun := run_endLoop (P := P) hl (by rw [hrec]; simp)
        rw [hrec] at hrun
        exact ⟨none, _, hrun, hdone _ s _ (Nat.le_refl _) hS (hI.putObj _ hi (by omega) hl rfl) ((World.putObj_heap_other (by omega)).trans hk)⟩
      · have hrun := run_endLoop (P := P) hl (by rw [hrec]; simp)
        rw [hrec] at hrun
        exact ⟨some c, _, hrun, hstop _ c s _ (Nat.le_refl _) ((hIx c).putObj _ hi (by omega) hl rfl) ((World.putObj_heap_other (by omega)).trans hk)⟩

end Go.Proofs.YtldmokjpfnakkaaGreat
