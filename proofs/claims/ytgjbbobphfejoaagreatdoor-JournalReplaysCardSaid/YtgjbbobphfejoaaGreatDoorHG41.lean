/- journal: the walk of first. -/
import Derived.Test.YtgjbbobphfejoaaGreatDoorHG40
import Derived.Test.YtgjbbobphfejoaaGreatDoorHG4
import Derived.Test.YtgjbbobphfejoaaGreatDoorHG39

namespace Go.Proofs.YtgjbbobphfejoaaGreatDoor
open Go.RowKit

/-- A slice of bytes that is read, nil with no capacity. -/
def Sb (w : World) (A : Option Addr) (n c : Nat) (bs : List UInt8) : Prop :=
  bs.length = n ∧ n ≤ c ∧ c ≤ 9223372036854775807 ∧ (A = none ∧ c = 0 ∨ ∃ b off, A = some ⟨b, off, none⟩ ∧ b < w.heap.size ∧ ∀ j, j < n → w.cell? ⟨b, off + j, none⟩ = some (vByte bs j))
theorem Sb.rd {w : World} {A : Option Addr} {n c : Nat} {bs : List UInt8} (h : Sb w A n c bs) : Rd w w.heap.size A n (vByte bs) := by
  intro hn
  obtain ⟨h1, h2, h3, ⟨h4, h5⟩ | ⟨b, off, h4, h5⟩⟩ := h
  · omega
  · exact ⟨b, off, h4, h5.1, h5.2⟩
theorem Sb.all {w w' : World} {A : Option Addr} {n c : Nat} {bs : List UInt8} (h : Sb w A n c bs) (hb : Below w.heap.size w w') : Sb w' A n c bs := by
  obtain ⟨h1, h2, h3, ⟨h4, h5⟩ | ⟨b, off, h4, h5⟩⟩ := h
  · exact ⟨h1, h2, h3, .inl ⟨h4, h5⟩⟩
  · exact ⟨h1, h2, h3, .inr ⟨b, off, h4, Nat.lt_of_lt_of_le h5.1 hb.size, fun j hj => (hb.cell (p := ⟨b, off + j, none⟩) h5.1).trans (h5.2 j hj)⟩⟩
/-- What first returns. -/
def FirstPost (k : Int) (bs : List UInt8) (w : World) (e : Ending) (w' : World) : Prop :=
  (e = .returned (.tuple #[.slice none 0 0, .int .i64 0, .bool false]) ∧ FirstIs k bs none ∧ Below w.heap.size w w') ∨
  ∃ (z : Bz) (m : Nat), e = .returned (.tuple #[.slice z.A z.n z.c, .int .i64 (m : Int), .bool true]) ∧ z.ok w' ∧ FirstIs k bs (some z.bs) ∧ Hid (m = (frameB k z.bs).length) ∧ z.low w.heap.size ∧ Below w.heap.size w w'
theorem readU_len (bs : List UInt8) (e : Int) : (readU bs e).2.2.length ≤ bs.length := by
  unfold readU
  split
  · exact (decU_lt bs 0 0 (by omega) (by decide)).2
  · exact Nat.zero_le _
theorem readRaw_len (bs : List UInt8) (e : Int) : (readRaw bs e).2.1.length ≤ bs.length := by
  unfold readRaw
  split
  · have h := (decU_lt bs 0 0 (by omega) (by decide)).2
    unfold decRaw
    split
    · exact Nat.zero_le _
    · split
      · exact Nat.zero_le _
      · exact Nat.le_trans (List.length_take_le' _ _) h
  · exact Nat.zero_le _
theorem inRec_len (c : List UInt8) : (inRec c).2.1.length ≤ c.length := Nat.le_trans (readRaw_len _ _) (readU_len _ _)
theorem first_no1 {k : Int} {bs : List UInt8} {n : Nat} (hk1 : -9223372036854775808 ≤ k) (hk2 : k ≤ 9223372036854775807) (hl : bs.length = n) (hn : n ≤ 9223372036854775807) (h : n < (varint (szB bs)).length + szB bs ∨ n < (varint (szB bs)).length) : FirstIs k bs none := by
  intro x r hx
  have := (first_parts ⟨hk1, hk2⟩ hx (by omega)).2.1
  omega
theorem first_no2 {k : Int} {bs : List UInt8} {n : Nat} (hk1 : -9223372036854775808 ≤ k) (hk2 : k ≤ 9223372036854775807) (hl : bs.length = n) (hn : n ≤ 9223372036854775807) (h : endI (inRec (innerB bs)).2.2 (inRec (innerB bs)).1 ≠ 0) : FirstIs k bs none := by
  intro x r hx
  have := (first_parts ⟨hk1, hk2⟩ hx (by omega)).2.2.2.1
  rw [this] at h
  exact h rfl
theorem first_no3 {k : Int} {bs rec : List UInt8} {n : Nat} (hk1 : -9223372036854775808 ≤ k) (hk2 : k ≤ 9223372036854775807) (hl : bs.length = n) (hn : n ≤ 9223372036854775807) (hr : (inRec (innerB bs)).2.1 = rec) (h : preB bs (frameB k rec) = false) : FirstIs k bs none := by
  intro x r hx
  have := (first_parts ⟨hk1, hk2⟩ hx (by omega)).2.2.2.1
  rw [this] at hr
  subst hr
  unfold preB at h
  rw [decide_eq_false_iff_not] at h
  exact h ⟨r, hx.symm⟩
theorem first_yes {k : Int} {bs rec : List UInt8} (h : preB bs (frameB k rec) = true) : FirstIs k bs (some rec) := by
  unfold preB at h
  obtain ⟨r, hr⟩ := of_decide_eq_true h
  exact ⟨r, hr.symm⟩
set_option maxRecDepth 100000 in
set_option maxHeartbeats 1000000 in
theorem first_any (k : Int) (A : Option Addr) (n c : Nat) (bs : List UInt8) (w : World) (HS : Hid (Sb w A n c bs)) (hk1 : -9223372036854775808 ≤ k) (hk2 : k ≤ 9223372036854775807) (hn : n ≤ 1099511627776) :
    Calls Tryz.prog 82 #[.int .i64 k, .slice A n c] w (FirstPost k bs w) := by
  have HL := Lib.hid HS.out.1
  have hnc := HS.out.2.1
  have hc := HS.out.2.2.1
  have HR := Lib.hid HS.out.rd
  have HW0 := Lib.hid (Below.refl w.heap.size w)
  rcases HS.out.2.2.2 with ⟨rfl, rfl⟩ | ⟨b, off, rfl, -⟩
  · have h0 : n = 0 := by omega
    subst h0
    go_enter Tryz.func82, Tryz.ntmps82
    go_wp2_with fail
    refine (read_any _ _ _ (bs.take 10) _ (Lib.hid (by rw [List.length_take, HL.out]; omega)) Rd.nil (by omega)).mono ?_
    rintro e w1 ⟨g1, rfl, hg1, hR1, hb1, -⟩
    go_wp2_with fail
    refine (ruint_any _ g1 _ _ _ (Lib.hid hR1)).mono ?_
    rintro e w2 ⟨rfl, -, hg2⟩
    have hb2 := below_of_only hb1 hg2 hb1.size hg1
    clear hg2 hR1 hb1 hg1
    obtain ⟨sz, hsz⟩ : ∃ sz, szB bs = sz := ⟨_, rfl⟩
    have hsz' : (readU (bs.take 10) 0).2.1 = sz := hsz
    rw [hsz']
    have HSZ := Lib.hid hsz
    have hsz1 : sz ≤ 18446744073709551615 := by rw [← hsz']; exact readU_lt _ _
    clear hsz hsz'
    have hW3 := Wr.new w2
    have hb3 := hb2.trans (((Below.refl w2.heap.size w2).alloc (Nat.le_refl _) (.cells #[.slice none 0 0] 57)).mono hb2.size)
    have hz2 := hb2.size
    clear hb2
    go_wp2_with fail
    refine (wuint_any w2.heap.size w2.heap.size [] sz _ rfl _ (Lib.hid hW3) hsz1 (by simp)).mono ?_
    rintro e w4 ⟨rfl, hW4, hb4⟩
    have hB4 := hb3.trans (hb4.mono hz2)
    clear hb4 hb3 hW3
    go_wp2_with fail
    refine (wdone_any _ _ _ _ (Lib.hid hW4) (by have := varint_len10 hsz1; simp only [List.nil_append]; omega)).mono ?_
    rintro e w5 ⟨A5, be, c5, rfl, -, -, HN5, -, -, hb5⟩
    have hB5 := hB4.trans (hb5.mono hB4.size)
    have HBE := Lib.hid (show (varint (szB bs)).length = be by rw [HSZ.out]; simpa using HN5.out)
    have hbe : 0 < be := by rw [← HBE.out]; exact varint_pos _
    clear hb5 hB4 hW4 HN5
    go_wp2
    go_ret3
    exact .inl ⟨rfl, first_no1 hk1 hk2 HL.out (by omega) (by rw [HBE.out]; omega), hB5⟩
  · by_cases h10 : 10 ≤ n
    all_goals (
      go_enter Tryz.func82, Tryz.ntmps82
      go_wp2_with fail
      refine (read_any _ _ _ (bs.take 10) _ (Lib.hid (by rw [List.length_take, HL.out]; omega)) ((HR.out.less (by omega)).congr (fun j hj => by simp [vByte, show j < 10 by omega])) (by omega)).mono ?_
      rintro e w1 ⟨g1, rfl, hg1, hR1, hb1, -⟩
      go_wp2_with fail
      refine (ruint_any _ g1 _ _ _ (Lib.hid hR1)).mono ?_
      rintro e w2 ⟨rfl, -, hg2⟩
      have hb2 := below_of_only hb1 hg2 hb1.size hg1
      clear hg2 hR1 hb1 hg1
      obtain ⟨sz, hsz⟩ : ∃ sz, szB bs = sz := ⟨_, rfl⟩
      have hsz' : (readU (bs.take 10) 0).2.1 = sz := hsz
      rw [hsz']
      have HSZ := Lib.hid hsz
      have hsz1 : sz ≤ 18446744073709551615 := by rw [← hsz']; exact readU_lt _ _
      clear hsz hsz'
      have hW3 := Wr.new w2
      have hb3 := hb2.trans (((Below.refl w2.heap.size w2).alloc (Nat.le_refl _) (.cells #[.slice none 0 0] 57)).mono hb2.size)
      have hz2 := hb2.size
      clear hb2
      go_wp2_with fail
      refine (wuint_any w2.heap.size w2.heap.size [] sz _ rfl _ (Lib.hid hW3) hsz1 (by simp)).mono ?_
      rintro e w4 ⟨rfl, hW4, hb4⟩
      have hB4 := hb3.trans (hb4.mono hz2)
      clear hb4 hb3 hW3
      go_wp2_with fail
      refine (wdone_any _ _ _ _ (Lib.hid hW4) (by have := varint_len10 hsz1; simp only [List.nil_append]; omega)).mono ?_
      rintro e w5 ⟨A5, be, c5, rfl, -, -, HN5, -, -, hb5⟩
      have hB5 := hB4.trans (hb5.mono hB4.size)
      have HBE := Lib.hid (show (varint (szB bs)).length = be by rw [HSZ.out]; simpa using HN5.out)
      have hbe : be ≤ 10 := by have := varint_len10 hsz1; have := HN5.out; simp only [List.nil_append] at this; omega
      clear hb5 hB4 hW4 HN5
      by_cases q1 : n < be
      · go_wp2
        go_ret3
        exact .inl ⟨rfl, first_no1 hk1 hk2 HL.out (by omega) (by rw [HBE.out]; omega), hB5⟩
      · have hcv : IntKind.u64.wrap ((n : Int) - (be : Int)) = ((n - be : Nat) : Int) := by rw [wrap_u64]; omega
        by_cases q2 : n - be < sz
        · go_wp2
          go_ret3
          exact .inl ⟨rfl, first_no1 hk1 hk2 HL.out (by omega) (by rw [HBE.out, HSZ.out]; omega), hB5⟩
        · have HIN := Lib.hid (show (innerB bs).length = sz by unfold innerB; rw [HSZ.out, ← HSZ.out, HBE.out, List.length_take, List.length_drop, HL.out, HSZ.out]; omega)
          have HRI : Hid (∀ o', (0 < sz → o' = off + be) → Rd w5 w5.heap.size (some ⟨b, o', none⟩) sz (vByte (innerB bs))) := Lib.hid (fun o' ho hp => by
            obtain ⟨b', off', e, hb', hc'⟩ := (HR.out.all hB5) (by omega)
            injection e with e
            injection e with e1 e2 _
            subst e1 e2
            refine ⟨b, o', rfl, hb', fun j hj => ?_⟩
            rw [ho hp, Nat.add_assoc, hc' (be + j) (by omega)]
            unfold vByte innerB
            rw [HBE.out, HSZ.out, List.getElem?_take, if_pos hj, List.getElem?_drop])
          go_wp2_with fail
          all_goals (
            refine (read_any _ _ _ (innerB bs) _ HIN (HRI.out _ (by omega)) (by omega)).mono ?_
            rintro e w6 ⟨g6, rfl, hg6, hR6, hb6, -⟩
            have hB6 := hB5.trans (hb6.mono hB5.size)
            replace hg6 : w.heap.size ≤ g6 := Nat.le_trans hB5.size hg6
            clear hb6
            go_wp2_with fail
            refine (rint_any _ g6 _ _ _ (Lib.hid hR6)).mono ?_
            rintro e w7 ⟨rfl, hR7, hg7⟩
            have hB7 := below_of_only hB6 hg7 hB6.size hg6
            clear hB6 hg7 hR6
            go_wp2_with fail
            refine (rraw_any _ g6 _ _ _ (Lib.hid hR7)).mono ?_
            rintro e w8 ⟨A8, n8, c8, rfl, hnc8, hc8, hn8, HN8, hown8, hR8, hg8⟩
            have hB8 := below_of_only hB7 hg8 hB7.size hg6
            have hlow7 := hB7.size
            obtain ⟨rec, hrec⟩ : ∃ rec, (inRec (innerB bs)).2.1 = rec := ⟨_, rfl⟩
            replace HN8 : Hid (rec.length = n8) := by rw [← hrec]; exact HN8
            replace hown8 : w8.ownsRow w7.heap.size 5 1 (.slice A8 n8 c8) n8 (rec.map fun b => Value.int .u8 ((b.toNat : Nat) : Int)) := by rw [← hrec]; exact hown8
            have HREC := Lib.hid hrec
            clear hrec hB7 hg8 hR7
            have HBT := Lib.hid (Bts.of_own hown8).1
            have hr8 := (rd_bytes hown8).2.2
            have HLW := Lib.hid (Bz.low.mono (Bz.low_own (bs := rec) hown8) hlow7)
            clear hown8
            go_wp2_with fail
            refine (rend_any _ g6 _ _ _ (Lib.hid hR8)).mono ?_
            rintro e w9 ⟨rfl, rfl⟩
            obtain ⟨en, hen⟩ : ∃ en, endI (inRec (innerB bs)).2.2 (inRec (innerB bs)).1 = en := ⟨_, rfl⟩
            have hen' : endI (readRaw (readU (innerB bs) 0).2.2 (readU (innerB bs) 0).1).2.2 (readRaw (readU (innerB bs) 0).2.2 (readU (innerB bs) 0).1).1 = en := hen
            rw [hen']
            have HEN := Lib.hid hen
            clear hen hen' hR8
            by_cases q3 : en = 0
            · have q4 : (en != 0) = false := by simpa using q3
              clear q3
              have hn8' : n8 ≤ 1099511627776 := by
                have h1 := inRec_len (innerB bs)
                rw [HREC.out, HIN.out] at h1
                have := HN8.out
                omega
              go_wp2_with fail
              refine (frame_any k _ n8 _ rec _ HN8 hk1 hk2 hn8' hr8).mono ?_
              rintro e w10 ⟨A10, n10, c10, rfl, HN10, hown10, hb10⟩
              have hB10 := hB8.trans (hb10.mono hB8.size)
              have HBT10 := Lib.hid (HBT.out.all hb10)
              obtain ⟨-, hnc10, hr10⟩ := rd_bytes hown10
              have hp10 : 0 < n10 := by have := frameB_pos k rec; have := HN10.out; omega
              have hc10 := own_cap hown10
              clear hb10 hown10 hr8 hB8
              cases hpre : preB bs (frameB k rec) with
              | true =>
                have HP := Lib.hid hpre
                go_wp2_with fail
                refine (hasPre_any _ _ _ _ _ _ bs (frameB k rec) _ HL HN10 (by omega) (by omega) hp10 (HR.out.all hB10) hr10).mono ?_
                rintro e w11 ⟨rfl, rfl⟩
                go_wp2
                go_ret3
                exact .inr ⟨⟨A8, n8, c8, rec⟩, n10, rfl, HBT10.out, first_yes HP.out, Lib.hid HN10.out.symm, HLW.out, hB10⟩
              | false =>
                have HP := Lib.hid hpre
                go_wp2_with fail
                refine (hasPre_any _ _ _ _ _ _ bs (frameB k rec) _ HL HN10 (by omega) (by omega) hp10 (HR.out.all hB10) hr10).mono ?_
                rintro e w11 ⟨rfl, rfl⟩
                go_wp2
                go_ret3
                exact .inl ⟨rfl, first_no3 hk1 hk2 HL.out (by omega) HREC.out HP.out, hB10⟩
            · have q4 : (en != 0) = true := by simpa using q3
              go_wp2
              go_ret3
              exact .inl ⟨rfl, first_no2 hk1 hk2 HL.out (by omega) (by rw [HEN.out]; exact q3), hB8⟩))
end Go.Proofs.YtgjbbobphfejoaaGreatDoor

/- journal: the walk of records' iterator and of Scan. -/
namespace Go.Proofs.YtgjbbobphfejoaaGreatDoor
open Go.RowKit Go.Shelf
attribute [local go_sem] Oper.semAt_some

theorem Sb.below {w w' : World} {A : Option Addr} {n c : Nat} {bs : List UInt8} (h : Sb w A n c bs) (hb : Below w.heap.size w w') : Sb w' A n c bs := h.all hb
theorem Sb.skip {w : World} {b off n c m o' : Nat} {bs : List UInt8} (h : Sb w (some ⟨b, off, none⟩) n c bs) (hm : m ≤ n) (ho : c ≠ m → o' = off + m) : Sb w (some ⟨b, o', none⟩) (n - m) (c - m) (bs.drop m) := by
  obtain ⟨h1, h2, h3, ⟨h4, h5⟩ | ⟨b', off', h4, h5⟩⟩ := h
  · cases h4
  · injection h4 with h4
    injection h4 with h4 h6 _
    subst h4 h6
    refine ⟨by rw [List.length_drop, h1], by omega, by omega, .inr ⟨b, o', rfl, h5.1, fun j hj => ?_⟩⟩
    rw [ho (by omega), Nat.add_assoc, h5.2 (m + j) (by omega)]
    unfold vByte
    rw [List.getElem?_drop]
theorem first_drop {k : Int} {r x : List UInt8} {m : Nat} (h : FirstIs k r (some x)) (hm : m = (frameB k x).length) : r = frameB k x ++ r.drop m ∧ m ≤ r.length ∧ 0 < m := by
  obtain ⟨s, rfl⟩ := h
  have := frameB_pos k x
  subst hm
  rw [List.drop_left, List.length_append]
  exact ⟨rfl, by omega, this⟩
def bsOf (L : List Bz) : List (List UInt8) := L.map Bz.bs
theorem bsOf_snoc (L : List Bz) (z : Bz) : bsOf (L ++ [z]) = bsOf L ++ [z.bs] := by simp [bsOf]
theorem bsOf_length (L : List Bz) : (bsOf L).length = L.length := by simp [bsOf]

set_option maxRecDepth 100000 in
set_option maxHeartbeats 1000000 in
theorem recs1_in (l Bs : Nat) (w : World) (bs : List UInt8) (hbs : bs.length ≤ 1099511627776) (J : List Bz → List UInt8 → World → Prop) (Jx : World → Prop)
    (hJ : Hid (∀ L r W, J L r W → ∃ A n c, Blk W Bs 55 #[.slice A n c] ∧ Sb w A n c r ∧ Below w.heap.size w W))
    (hB : Hid (∀ L r W W', J L r W → Below W.heap.size W W' → J L r W'))
    (hS : Hid (∀ L r r' W A n c, J L r W → Sb w A n c r' → J L r' (W.setCell ⟨Bs, 0, none⟩ (.slice A n c))))
    (hY : Hid (∀ L r z (m : Nat) W, J L r W → z.ok W → z.low w.heap.size → L.length ≤ bs.length → m ≤ bs.length → m = (frameB (L.length : Nat) z.bs).length → (framesB 0 (bsOf L)).length + m ≤ bs.length → YieldAt Fence.wide 4 Tryz.prog l #[.slice z.A z.n z.c, .int .i64 (m : Int)] W fun e W' =>
      (e = .returned (.bool true) ∧ J (L ++ [z]) r W') ∨ (e = .returned (.bool false) ∧ Jx W')))
    (W : World) (h0 : J [] bs W) :
    CallsIn Fence.wide 5 Tryz.prog 81 #[.func (.yield l) #[] #[], .pointer (some ⟨Bs, 0, none⟩)] W fun e W' => (∃ v, e = .returned v) ∧ ((∃ L r, (bs = framesB 0 (bsOf L) ++ r ∧ FirstIs (L.length : Nat) r none) ∧ J L r W') ∨ Jx W') := by
  refine callsIn_of_wp Tryz.func81 rfl trivial ?_ rfl
  simp only [Tryz.ntmps81, List.size_toArray, List.length_cons, List.length_nil, Nat.reduceAdd, Nat.reduceSub, Array.replicate_succ, Array.replicate_zero, List.push_toArray, List.append_toArray, List.nil_append, List.cons_append]
  gi_wp2
  gi_loopw [3] (fun v wr => ∃ (k : Nat) (L : List Bz) (r : List UInt8), k ≤ bs.length ∧ Hid (L.length = k) ∧ v = .int .i64 (k : Int) ∧ Hid (bs = framesB 0 (bsOf L) ++ r) ∧ J L r wr) (fun v _ => bs.length + 1 - (intOf v).toNat)
  case atStart => exact ⟨0, [], bs, Nat.zero_le _, Lib.hid rfl, rfl, Lib.hid rfl, h0⟩
  case round =>
    obtain ⟨k, L, r, hk, HK, rfl, HE, hJr⟩ := hrel
    obtain ⟨A, n, c, hb, hs, hw⟩ := hJ.out L r wr hJr
    have hcell : wr.cell? ⟨Bs, 0, none⟩ = some (.slice A n c) := by simpa using hb.cell 0
    have hrl : (framesB 0 (bsOf L)).length + r.length = bs.length := by rw [← List.length_append, ← HE.out]
    have hn : n ≤ 1099511627776 := by have := hs.1; omega
    have HSb := Lib.hid (hs.below hw)
    clear hb
    gi_wp2_with fail
    refine ⟨trivial, ?_⟩
    refine (callsIn_wide.2 (first_any _ _ _ _ r _ HSb (by omega) (by omega) hn)).mono ?_
    rintro e w1 (⟨rfl, hno, hb1⟩ | ⟨z, m, rfl, hz, hyes, HM, hzl, hb1⟩)
    · have HN := Lib.hid hno
      have hJ1 := hB.out L r wr w1 hJr hb1
      clear hno hb1 hs hw hcell
      gi_wp2
      refine ⟨fun f h => (by cases h), ?_⟩
      gi_wp2
      refine bodyPost_ret (results_none rfl _ _ _) rfl ?_
      exact ⟨⟨_, rfl⟩, .inl ⟨L, r, ⟨HE.out, by rw [HK.out]; exact HN.out⟩, hJ1⟩⟩
    · have hJ1 := hB.out L r wr w1 hJr hb1
      obtain ⟨he, hml, hm0⟩ := first_drop hyes HM.out
      have HD := Lib.hid he
      obtain ⟨fn, tmps, assign, body, hy, hR3⟩ := hY.out L r z m w1 hJ1 hz (hzl.mono hw.size) (by rw [HK.out]; exact hk) (by omega) (by rw [HK.out]; exact HM.out) (by omega)
      clear he hb1 hs hw hcell hyes hzl
      gi_wp2
      refine hR3.mono ?_
      rintro e W3 (⟨rfl, hJ3⟩ | ⟨rfl, hJx3⟩)
      · obtain ⟨A3, n3, c3, hb3, hs3, hw3⟩ := hJ.out _ r W3 hJ3
        have hl3 := hs3.1
        obtain ⟨b3, o3, rfl, -⟩ := hs3.rd (by omega)
        have hcell : W3.cell? ⟨Bs, 0, none⟩ = some (.slice (some ⟨b3, o3, none⟩) n3 c3) := by simpa using hb3.cell 0
        have hfr : W3.frozen? ⟨Bs, 0, none⟩ = false := hb3.frozen 0
        have hnc3 := hs3.2.1
        have hcm3 := hs3.2.2.1
        have hmn3 : m ≤ n3 := by omega
        have HS1 : Hid (J (L ++ [z]) (r.drop m) (W3.setCell ⟨Bs, 0, none⟩ (.slice (if c3 = m then some ⟨b3, o3, none⟩ else some ⟨b3, o3 + m, none⟩) (n3 - m) (c3 - m)))) := Lib.hid (by
          split
          · exact hS.out _ r _ W3 _ _ _ hJ3 (hs3.skip hmn3 (by omega))
          · exact hS.out _ r _ W3 _ _ _ hJ3 (hs3.skip hmn3 (by omega)))
        have HE2 : Hid (bs = framesB 0 (bsOf (L ++ [z])) ++ r.drop m) := Lib.hid (by
          rw [bsOf_snoc, framesB_snoc, List.append_assoc, Nat.zero_add, bsOf_length, HK.out, ← HD.out]
          exact HE.out)
        have hk2 : k + 1 ≤ bs.length := by
          have h1 := framesB_len (bsOf (L ++ [z])) 0
          rw [bsOf_length, List.length_append] at h1
          have h2 := congrArg List.length HE2.out
          rw [List.length_append] at h2
          have := HK.out
          simp at h1
          omega
        have HK2 := Lib.hid (show (L ++ [z]).length = k + 1 by rw [List.length_append, HK.out]; rfl)
        clear hb3 hs3 hw3 hJ3 hJ1 hJr hl3
        gi_wp2
        all_goals exact ⟨⟨k + 1, L ++ [z], r.drop m, hk2, HK2, by go_num, HE2, HS1.out⟩, by simp [intOf]; omega⟩
      · gi_wp2
        refine bodyPost_ret (results_none rfl _ _ _) rfl ?_
        exact ⟨⟨_, rfl⟩, .inr hJx3⟩

/-- Scan's own state: the list, the length, what is left; L: the records so far. -/
structure ScanI (w : World) (L : List Bz) (r : List UInt8) (W : World) : Prop where
  low : ∀ z ∈ L, z.low w.heap.size
  bl : ∃ v, Blk W w.heap.size 26 #[v] ∧ LsOwn W (w.heap.size + 3) v L
  bt : Blk W (w.heap.size + 1) 3 #[.int .i64 (((framesB 0 (bsOf L)).length : Nat) : Int)]
  bb : ∃ A n c, Blk W (w.heap.size + 2) 55 #[.slice A n c] ∧ Sb w A n c r
  below : Below w.heap.size w W
theorem ScanI.mod {w W W' : World} {L : List Bz} {r : List UInt8} {F : Nat → Prop} (h : ScanI w L r W) (m : Mod F W W') (hF : ∀ b, F b → w.heap.size ≤ b ∧ ∀ t, ¬ Ty W b t) : ScanI w L r W' := by
  obtain ⟨h0, ⟨v, h1, h2⟩, h3, ⟨A, n, c, h4, h5⟩, h6⟩ := h
  refine ⟨h0, ⟨v, m.blk h1 (fun hf => (hF _ hf).2 _ h1.ty), h2.mod m (fun g e hf => (hF _ hf).2 _ (Ty.of_own h2.1 e)) (fun b hf => (hF b hf).2 _)⟩, m.blk h3 (fun hf => (hF _ hf).2 _ h3.ty), ⟨A, n, c, m.blk h4 (fun hf => (hF _ hf).2 _ h4.ty), h5⟩, m.below h6 h6.size (fun b hf => (hF b hf).1)⟩
theorem ScanI.all {w W W' : World} {L : List Bz} {r : List UInt8} (h : ScanI w L r W) (hb : Below W.heap.size W W') : ScanI w L r W' := h.mod (F := fun _ => False) (Mod.of_below _ hb) (fun _ hf => hf.elim)
theorem ScanI.own {w : World} {L : List Bz} {r : List UInt8} {B : Nat} (hB : w.heap.size ≤ B) {W W' : World} {row : Option Nat} (h : ScanI w L r W) (hg : W.grownBy W' row) (hr : ∀ r, row = some r → B ≤ r ∧ ∃ o : Obj, W.heap[r]? = some o ∧ o.isCells = false) : ScanI w L r W' := by
  refine h.mod (F := fun b => row = some b) (Mod.of_grown hg (fun g e => .inl e)) (fun b e => ?_)
  obtain ⟨h1, o, h2, h3⟩ := hr b e
  refine ⟨by omega, fun t ht => ?_⟩
  obtain ⟨cs, fr, h4⟩ := ht
  rw [h2] at h4
  injection h4 with h4
  subst h4
  cases h3
theorem ScanI.cut {w W : World} {L : List Bz} {r r' : List UInt8} {A : Option Addr} {n c : Nat} (h : ScanI w L r W) (hs : Sb w A n c r') : ScanI w L r' (W.setCell ⟨w.heap.size + 2, 0, none⟩ (.slice A n c)) := by
  obtain ⟨h0, ⟨v, h1, h2⟩, h3, ⟨A', n', c', h4, h5⟩, h6⟩ := h
  have m : Mod (fun b => b = w.heap.size + 2) W (W.setCell ⟨w.heap.size + 2, 0, none⟩ (.slice A n c)) := (Mod.refl (fun b => b = w.heap.size + 2) W).set (p := ⟨w.heap.size + 2, 0, none⟩) (.inl rfl) _
  refine ⟨h0, ⟨v, m.blk h1 (by omega), h2.mod m (fun g e hf => ?_) (fun b hf ht => ?_)⟩, m.blk h3 (by omega), ⟨A, n, c, by simpa using h4.set_ 0 (.slice A n c), hs⟩, m.below h6 h6.size (fun b hf => by omega)⟩
  · subst hf
    have := (h2.1.lt _ e).1
    omega
  · subst hf
    exact absurd (Ty.unique h4.ty ht) (by decide)

theorem records_in (n : Nat) (A : Option Addr) (len cap : Nat) (w : World) :
    CallsIn Fence.wide n Tryz.prog 54 #[.slice A len cap] w fun e w' => e = .returned (.func (.func 81) #[] #[.pointer (some ⟨w.heap.size, 0, none⟩)]) ∧ w.alloc (.cells #[.slice A len cap] 55) = w' := by
  refine callsIn_of_wp Tryz.func54 rfl trivial ?_ rfl
  simp only [Tryz.ntmps54, List.size_toArray, List.length_cons, List.length_nil, Nat.reduceAdd, Nat.reduceSub, Array.replicate_succ, Array.replicate_zero, List.push_toArray, List.append_toArray, List.nil_append, List.cons_append]
  gi_wp2
  go_ret
  exact ⟨rfl, rfl⟩

theorem scan_state (w : World) (bs : List UInt8) (hbs : bs.length ≤ 1099511627776) (B : Nat) (Ix : Code → List Bz × List UInt8 → World → Prop) :
    SeqState Fence.wide 5 Tryz.prog 81 #[.pointer (some ⟨w.heap.size + 2, 0, none⟩)] (fun x : Bz × Nat => #[Value.slice x.1.A x.1.n x.1.c, .int .i64 (x.2 : Int)]) B
      (fun s W => ScanI w s.1 s.2 W) (fun s x W => ScanI w s.1 s.2 W ∧ x.1.ok W ∧ x.1.low w.heap.size ∧ s.1.length ≤ bs.length ∧ x.2 ≤ bs.length ∧ x.2 = (frameB (s.1.length : Nat) x.1.bs).length ∧ (framesB 0 (bsOf s.1)).length + x.2 ≤ bs.length) (fun s x => (s.1 ++ [x.1], s.2)) Ix ([], bs) (fun s => bs = framesB 0 (bsOf s.1) ++ s.2 ∧ FirstIs (s.1.length : Nat) s.2 none) := by
  intro l R Rx hR hY W h0 hR0
  refine (recs1_in l (w.heap.size + 2) w bs hbs (fun L r W => ScanI w L r W ∧ R W) (fun W => ∃ c s, Ix c s W ∧ Rx c W) ?_ ?_ ?_ ?_ W ⟨h0, hR0⟩).mono ?_
  · rintro L r W ⟨h, _⟩
    obtain ⟨A, n, c, h4, h5⟩ := h.bb
    exact ⟨A, n, c, h4, h5, h.below⟩
  · rintro L r W W' ⟨h, hr⟩ hb
    exact ⟨h.all hb, hR _ _ hr ⟨hb.size, fun k _ _ hk _ => (hb.block k (Array.getElem?_eq_some_iff.1 hk).1).trans hk⟩⟩
  · rintro L r r' W A n c ⟨h, hr⟩ hs
    exact ⟨h.cut hs, hR _ _ hr ((KeepsOthers.setCell _ _ _).from _)⟩
  · rintro L r z m W ⟨h, hr⟩ hz hzl hL hm hm2 hm3
    obtain ⟨fn, tmps, assign, body, hy, hr3⟩ := hY (L, r) (z, m) W ⟨h, hz, hzl, hL, hm, hm2, hm3⟩ hr
    exact ⟨fn, tmps, assign, body, hy, hr3.mono fun e W' hh => hh.imp (fun ⟨a, b, c⟩ => ⟨a, b, c⟩) (fun ⟨a, c, b⟩ => ⟨a, c, _, b⟩)⟩
  · rintro e W' ⟨he, (⟨L, r, hf, h, hr⟩ | ⟨c, s, hx, hrx⟩)⟩
    · exact ⟨he, .inl ⟨(L, r), hf, h, hr⟩⟩
    · exact ⟨he, .inr ⟨c, s, hx, hrx⟩⟩

/-- What Scan returns. -/
def ScanPost (bs : List UInt8) (w : World) (e : Ending) (w' : World) : Prop :=
  ∃ (v : Value) (L : List Bz) (m : Nat), e = .returned (.tuple #[v, .int .i64 (m : Int)]) ∧ LsOwn w' w.heap.size v L ∧ ScanIs bs (bsOf L) m ∧ Below w.heap.size w w'
def ScanPost2 (bs : List UInt8) (w : World) (e : Ending) (w' : World) : Prop :=
  ∃ (v : Value) (L : List Bz) (m : Nat), e = .returned (.tuple #[v, .int .i64 (m : Int)]) ∧ LsOwn w' w.heap.size v L ∧ ScanIs bs (bsOf L) m ∧ Below w.heap.size w w' ∧ ∀ z ∈ L, z.low w.heap.size
set_option maxRecDepth 100000 in
set_option maxHeartbeats 1000000 in
theorem scan2_any (A : Option Addr) (n c : Nat) (bs : List UInt8) (w : World) (HS : Hid (Sb w A n c bs)) (hn : n ≤ 1099511627776) :
    Calls Tryz.prog 25 #[.slice A n c] w (ScanPost2 bs w) := by
  have hbs : bs.length ≤ 1099511627776 := by have := HS.out.1; omega
  refine (callsIn_wide (n := 6)).1 ?_
  refine callsIn_of_wp_marks Tryz.func25 rfl trivial ?_ rfl
  simp only [Tryz.ntmps25, List.size_toArray, List.length_cons, List.length_nil, Nat.reduceAdd, Nat.reduceSub, Array.replicate_succ, Array.replicate_zero, List.push_toArray, List.append_toArray, List.nil_append, List.cons_append]
  gi_wp2_with (refine ⟨trivial, ?_⟩; gi_at_call 54; refine (records_in _ _ _ _ _).mono ?_; rintro e w' ⟨rfl, rfl⟩)
  obtain ⟨W0, hW0⟩ : ∃ W0, ((w.alloc (.cells #[.slice none 0 0] 26)).alloc (.cells #[.int .i64 0] 3)).alloc (.cells #[.slice A n c] 55) = W0 := ⟨_, rfl⟩
  have hsz : W0.heap.size = w.heap.size + 3 := by rw [← hW0]; simp
  have hI0 : ScanI w [] bs W0 := by
    rw [← hW0]
    refine ⟨fun _ h => absurd h (by simp), ⟨.slice none 0 0, Blk.alloc (Blk.alloc (Blk.new _ _ _) _) _, LsOwn.nil _ _⟩, ?_, ⟨A, n, c, ?_, HS.out⟩, (((Below.refl _ w).alloc (Nat.le_refl _) _).alloc (by simp) _).alloc (by simp; omega) _⟩
    · have := Blk.alloc (Blk.new (w.alloc (.cells #[.slice none 0 0] 26)) 3 #[.int .i64 0]) (.cells #[.slice A n c] 55)
      rw [World.size_alloc] at this
      exact this
    · have := Blk.new ((w.alloc (.cells #[.slice none 0 0] 26)).alloc (.cells #[.int .i64 0] 3)) 55 #[.slice A n c]
      rw [World.size_alloc, World.size_alloc] at this
      exact this
  rw [hW0]
  have HSZ := Lib.hid hsz
  clear hsz hW0
  refine range_state (β := List Bz × List UInt8) (α := Bz × Nat) rfl (by decide) (gf := 81) (lb := #[.pointer (some ⟨w.heap.size + 2, 0, none⟩)]) rfl trivial (enters_of Tryz.func81 (by kernel_rfl) rfl)
      (encs := fun x : Bz × Nat => #[Value.slice x.1.A x.1.n x.1.c, .int .i64 (x.2 : Int)]) (fun _ => rfl)
      (fun s W => ScanI w s.1 s.2 W) (fun s x W => ScanI w s.1 s.2 W ∧ x.1.ok W ∧ x.1.low w.heap.size ∧ s.1.length ≤ bs.length ∧ x.2 ≤ bs.length ∧ x.2 = (frameB (s.1.length : Nat) x.1.bs).length ∧ (framesB 0 (bsOf s.1)).length + x.2 ≤ bs.length) (fun s x => (s.1 ++ [x.1], s.2))
      (fun _ _ _ => False) ([], bs) (fun s => bs = framesB 0 (bsOf s.1) ++ s.2 ∧ FirstIs (s.1.length : Nat) s.2 none)
      (scan_state w bs hbs _ _)
      (fun s A B row hs hg hr => hs.own (by have := HSZ.out; omega) hg hr) ?hIy
      (fun c s A B row hs hg hr => hs)
      hI0
      (fun x => { tmps := #[.slice A n c, undef, .slice none 0 0, .int .i64 0, .pointer (some ⟨w.heap.size, 0, none⟩), .pointer (some ⟨w.heap.size + 1, 0, none⟩), .slice x.1.A x.1.n x.1.c, .int .i64 (x.2 : Int), .slice A n c, .func (.func 81) #[] #[.pointer (some ⟨w.heap.size + 2, 0, none⟩)], .slice x.1.A x.1.n x.1.c, .int .i64 (x.2 : Int), undef, undef, undef, undef, undef, undef, undef, undef, undef], defers := [] }) ?assign ?body ?done ?stop
  case hIy =>
    rintro x s W W' row ⟨h1, h2, h3⟩ hg hr
    refine ⟨h1.own (by have := HSZ.out; omega) hg hr, h2.mod (F := fun b => row = some b) (Mod.of_grown hg (fun g e => .inl e)) (fun b e ht => ?_), h3⟩
    obtain ⟨-, o, h4, h5⟩ := hr b e
    obtain ⟨cs, fr, h6⟩ := ht
    rw [h4] at h6
    injection h6 with h6
    subst h6
    cases h5
  case assign =>
    intro l x W K hK
    gi_wp2
    exact hK
  case body =>
    rintro l ⟨L, r⟩ ⟨z, m⟩ W ⟨hI, hz, hzl, hL, hm, hm2, hm3⟩
    dsimp only at hI hz hzl hL hm hm2 hm3 ⊢
    obtain ⟨h0, ⟨v, h1, h2⟩, h3, h4, h5⟩ := hI
    have hL2 : L.length < 1099511627776 := by
      have := framesB_len (bsOf L) 0
      rw [bsOf_length] at this
      have := frameB_pos (L.length : Nat) z.bs
      omega
    obtain ⟨g, cap, w1, hrun, hown, hg, hgo⟩ := h2.snoc (ty := 26) z hz hL2 (by have := h1.lt; have := h3.lt; obtain ⟨_, _, _, h4, _⟩ := h4; have := h4.lt; omega)
    have hvb : ∀ b, v.ownBlock = some b → w.heap.size + 3 ≤ b := fun b e => (h2.1.lt b e).1
    have m1 : Mod (fun b => v.ownBlock = some b) W w1 := Mod.of_grown hg (fun b e => .inl e)
    have hc0 : W.cell? ⟨w.heap.size, 0, none⟩ = some v := by simpa using h1.cell 0
    have hk1 : Blk w1 w.heap.size 26 #[v] := m1.blk h1 (fun e => by have := hvb _ e; omega)
    have hk3 := m1.blk h3 (fun e => by have := hvb _ e; omega)
    have hd0 : w1.cell? ⟨w.heap.size, 0, none⟩ = some v := by simpa using hk1.cell 0
    have hd1 : w1.frozen? ⟨w.heap.size, 0, none⟩ = false := hk1.frozen 0
    have he0 : w1.cell? ⟨w.heap.size + 1, 0, none⟩ = some (.int .i64 (((framesB 0 (bsOf L)).length : Nat) : Int)) := by simpa using hk3.cell 0
    have he1 : w1.frozen? ⟨w.heap.size + 1, 0, none⟩ = false := hk3.frozen 0
    have HK1 := Lib.hid hk1
    have HK3 := Lib.hid hk3
    have HRUN := Lib.hid hrun
    have HT := Lib.hid (show (framesB 0 (bsOf (L ++ [z]))).length = (framesB 0 (bsOf L)).length + m by rw [bsOf_snoc, framesB_snoc, List.length_append, Nat.zero_add, bsOf_length, ← hm2])
    have HFIN : Hid (ScanI w (L ++ [z]) r ((w1.setCell ⟨w.heap.size, 0, none⟩ (.slice (some ⟨g, 0, none⟩) (L.length + 1) cap)).setCell ⟨w.heap.size + 1, 0, none⟩ (.int .i64 (((framesB 0 (bsOf L)).length : Nat) + (m : Int)))) ∧ KeepsFrom W0.heap.size W ((w1.setCell ⟨w.heap.size, 0, none⟩ (.slice (some ⟨g, 0, none⟩) (L.length + 1) cap)).setCell ⟨w.heap.size + 1, 0, none⟩ (.int .i64 (((framesB 0 (bsOf L)).length : Nat) + (m : Int))))) := Lib.hid (by
      obtain ⟨A', n', c', h4, h6⟩ := h4
      have hk4 := m1.blk h4 (fun e => by have := hvb _ e; omega)
      have ma : Mod (fun b => b = w.heap.size ∨ b = w.heap.size + 1) w1 ((w1.setCell ⟨w.heap.size, 0, none⟩ (.slice (some ⟨g, 0, none⟩) (L.length + 1) cap)).setCell ⟨w.heap.size + 1, 0, none⟩ (.int .i64 (((framesB 0 (bsOf L)).length : Nat) + (m : Int)))) :=
        ((Mod.refl (fun b => b = w.heap.size ∨ b = w.heap.size + 1) w1).set (p := ⟨w.heap.size, 0, none⟩) (.inl (.inl rfl)) _).set (p := ⟨w.heap.size + 1, 0, none⟩) (.inl (.inr rfl)) _
      have hbw := m1.below h5 h5.size (fun b e => by have := hvb b e; omega)
      refine ⟨⟨(fun y hy => (List.mem_append.1 hy).elim (h0 y) (fun hy => by simp at hy; subst hy; exact hzl)), ⟨_, ?_, hown.mod ma (fun b e hf => ?_) (fun b hf ht => ?_)⟩, ?_, ⟨A', n', c', ma.blk hk4 (by omega), h6⟩, ma.below hbw hbw.size (fun b hf => by omega)⟩, ?_⟩
      · exact Blk.far (by simpa using hk1.set_ 0 (.slice (some ⟨g, 0, none⟩) (L.length + 1) cap)) (by simp) _
      · have := (hown.1.lt b e).1
        omega
      · rcases hf with rfl | rfl
        · exact absurd (Ty.unique hk1.ty ht) (by decide)
        · exact absurd (Ty.unique hk3.ty ht) (by decide)
      · rw [HT.out]
        have := Blk.set_ (Blk.far (p := ⟨w.heap.size, 0, none⟩) hk3 (by simp) (.slice (some ⟨g, 0, none⟩) (L.length + 1) cap)) 0 (.int .i64 (((framesB 0 (bsOf L)).length : Nat) + (m : Int)))
        simpa using this
      · refine KeepsFrom.trans (Y := w1) ⟨hg.size, fun k o _ hk ho => ?_⟩ (((KeepsOthers.setCell _ _ _).trans (KeepsOthers.setCell _ _ _)).from _)
        refine (hg.block k (Array.getElem?_eq_some_iff.1 hk).1 (fun e => ?_)).trans hk
        obtain ⟨cs, fr, hh⟩ := Ty.of_own h2.1 e.symm
        rw [hh] at hk
        injection hk with hk
        subst hk
        cases ho)
    clear hown hg hgo m1 hk1 hk3 h1 h2 h3 h4 h5 hrun hm2 h0 hzl
    gi_wp2_with (gi_at_builtin; refine wpListIn_append_run HRUN.out rfl rfl rfl rfl ?_)
    exact ⟨HFIN.out.2, HFIN.out.1⟩
  case done =>
    rintro D ⟨L, r⟩ W hD ⟨hfin1, hfin2⟩ hI hK
    dsimp only at hfin1 hfin2 hI
    obtain ⟨h0, ⟨v, h1, h2⟩, h3, h4, h5⟩ := hI
    have hc0 : W.cell? ⟨w.heap.size, 0, none⟩ = some v := by simpa using h1.cell 0
    have he0 : W.cell? ⟨w.heap.size + 1, 0, none⟩ = some (.int .i64 (((framesB 0 (bsOf L)).length : Nat) : Int)) := by simpa using h3.cell 0
    have HF1 := Lib.hid hfin1
    have HF2 := Lib.hid hfin2
    clear hfin1 hfin2
    gi_wp2
    gi_region
    gi_wp2
    have hK2 : (W.drew).heap[D]? = some (.deferred (some [])) := hK
    refine ⟨by simp, .inl ⟨_, _, rfl, run_takeDeferred hK2, ?_⟩⟩
    have hm : Mod (fun b => b = D) W ((W.drew).putObj D (.deferred none)) := by
      have := grownBy_putObj' W.drew D (.deferred none)
      exact ⟨this.os, this.tape, this.output, this.size, fun k hk hne => this.block k hk (fun e => hne (by injection e))⟩
    have hD2 : ∀ t, ¬ Ty W D t := by
      rintro t ⟨cs, fr, hh⟩
      rw [hK] at hh
      cases hh
    refine ⟨.tuple #[v, .int .i64 (((framesB 0 (bsOf L)).length : Nat) : Int)], by simp [results, Tryz.f25, go_sem], v, L, _, rfl, LsOwn.lower (h2.mod hm (fun g e hf => ?_) (fun b hf => by rw [hf]; exact hD2 _)) (by omega), ⟨rfl, r, HF1.out, by rw [bsOf_length]; exact HF2.out⟩, hm.below h5 h5.size (fun b hf => by have := HSZ.out; omega), h0⟩
    rw [hf] at e
    exact hD2 _ (Ty.of_own h2.1 e)
  case stop =>
    rintro D c pre W _ h _
    exact h.elim
theorem scan_any (A : Option Addr) (n c : Nat) (bs : List UInt8) (w : World) (HS : Hid (Sb w A n c bs)) (hn : n ≤ 1099511627776) :
    Calls Tryz.prog 25 #[.slice A n c] w (ScanPost bs w) :=
  (scan2_any A n c bs w HS hn).mono fun _ _ ⟨v, L, m, h1, h2, h3, h4, _⟩ => ⟨v, L, m, h1, h2, h3, h4⟩
end Go.Proofs.YtgjbbobphfejoaaGreatDoor

/- The walks of worldmintref02's Reader. -/
namespace Go.Proofs.YtgjbbobphfejoaaGreatDoor
open Go.RowKit

/-- Nil has no capacity; the block of another slice is in Q. -/
def NilQ (Q : Nat → Prop) (A : Option Addr) (c : Nat) : Prop := (A = none → c = 0) ∧ ∀ a, A = some a → Q a.block
theorem NilQ.any {A : Option Addr} {c : Nat} (h : A = none → c = 0) : NilQ (fun _ => True) A c := ⟨h, fun _ _ => trivial⟩
variable {Q : Nat → Prop}
end Go.Proofs.YtgjbbobphfejoaaGreatDoor

/- journal: the reference's first and Scan. -/
namespace Go.Proofs.YtgjbbobphfejoaaGreatDoor
open Go.RowKit

/-- The state of the reference's Scan. -/
structure RScanI (w : World) (bs : List UInt8) (v : Value) (m : Nat) (L : List Bz) (W : World) : Prop where
  own : LsOwnR W w.heap.size v L
  low : ∀ y ∈ L, NilQ (fun b => b < w.heap.size) y.A y.c
  len : m = (framesB 0 (bsOf L)).length
  cut : bs = framesB 0 (bsOf L) ++ bs.drop m
  below : Below w.heap.size w W
theorem RScanI.all {w : World} {bs : List UInt8} {v : Value} {m : Nat} {L : List Bz} {W W' : World} (h : RScanI w bs v m L W) (hb : Below W.heap.size W W') : RScanI w bs v m L W' := ⟨h.own.all hb, h.low, h.len, h.cut, h.below.trans (hb.mono h.below.size)⟩
end Go.Proofs.YtgjbbobphfejoaaGreatDoor
