/- The walks of wire's Reader: Int, Bool, End, Read and the lists. -/
import Derived.Test.YtgjbbobphfejoaaGreatDoorHG36
import Derived.Test.YtgjbbobphfejoaaGreatDoorHG26
import Derived.Test.YtgjbbobphfejoaaGreatDoorHG31
import Derived.Test.YtgjbbobphfejoaaGreatDoorHLdHold

namespace Go.Proofs.YtgjbbobphfejoaaGreatDoor
open Go.RowKit

theorem readU_lt (rest : List UInt8) (err : Int) : (readU rest err).2.1 ≤ 18446744073709551615 := by
  unfold readU
  split
  · exact (decU_lt rest 0 0 (by decide) (by decide)).1
  · simp
set_option maxRecDepth 100000 in
set_option maxHeartbeats 400000 in
theorem rint_any (B gd : Nat) (rest : List UInt8) (err : Int) (w : World) (HR : Hid (Rdr w B gd rest err)) :
    Calls Tryz.prog 48 #[.pointer (some ⟨gd, 0, none⟩)] w fun e w' => e = .returned (.int .i64 (unzigI (readU rest err).2.1)) ∧ Rdr w' B gd (readU rest err).2.2 (readU rest err).1 ∧ w.grownBy w' (some gd) := by
  go_enter Tryz.func48, Tryz.ntmps48
  go_wp2_with (first
    | (go_at_call 77; ((with_reducible refine (ruint_any B gd rest err _ HR).mono ?_); rintro e w1 ⟨rfl, hR1, ho1⟩))
    | (go_at_call 78; ((with_reducible refine (unzigzag_any _ _ rfl _ (readU_lt rest err)).mono ?_); rintro e w2 ⟨rfl, rfl⟩)))
  go_ret
  exact ⟨rfl, hR1, ho1⟩

def readB (rest : List UInt8) (err : Int) : Int × Bool × List UInt8 := if err = 0 then decBool rest else (err, false, [])
def endI (rest : List UInt8) (err : Int) : Int := if err = 0 then (if rest.length = 0 then 0 else 2) else err
set_option maxRecDepth 100000 in
set_option maxHeartbeats 400000 in
theorem rend_any (B gd : Nat) (rest : List UInt8) (err : Int) (w : World) (HR : Hid (Rdr w B gd rest err)) :
    Calls Tryz.prog 21 #[.pointer (some ⟨gd, 0, none⟩)] w fun e w' => e = .returned (.int .i64 (endI rest err)) ∧ w = w' := by
  obtain ⟨k1, k2, A, n, c, h1, h2, h3, h4⟩ := HR.out
  have hc0 : w.cell? ⟨gd, 0, none⟩ = some (.slice A n c) := by simpa using h1.cell 0
  have hc1 : w.cell? ⟨gd, 1, none⟩ = some (.int .i64 err) := by simpa using h1.cell 1
  by_cases he : err = 0
  · subst he
    have hl := (h4 rfl).1
    clear h1 h4
    by_cases hn : n = 0
    · have HE := Lib.hid (show endI rest 0 = 0 by unfold endI; rw [if_pos rfl, if_pos (by omega)])
      have hn' : (n : Int) ≤ 0 := by omega
      clear hl
      go_enter Tryz.func21, Tryz.ntmps21
      go_wp2
      go_ret
      rw [HE.out]
      exact ⟨rfl, rfl⟩
    · have HE := Lib.hid (show endI rest 0 = 2 by unfold endI; rw [if_pos rfl, if_neg (by omega)])
      have hn' : 0 < (n : Int) := by omega
      clear hl
      go_enter Tryz.func21, Tryz.ntmps21
      go_wp2
      go_ret
      rw [HE.out]
      exact ⟨rfl, rfl⟩
  · have HE := Lib.hid (show endI rest err = err by unfold endI; rw [if_neg he])
    have hq : (err != 0) = true := by simpa using he
    clear h1 h4 he
    go_enter Tryz.func21, Tryz.ntmps21
    go_wp2
    go_ret
    rw [HE.out]
    exact ⟨rfl, rfl⟩

/-- The blocks from lo to hi lie as they lay. -/
def Within (lo hi : Nat) (w w'' : World) : Prop := w.heap.size ≤ w''.heap.size ∧ ∀ b, lo ≤ b → b < hi → w''.heap[b]? = w.heap[b]?
theorem Within.grown {lo hi : Nat} {w w' w'' : World} {row : Option Nat} (h : Within lo hi w w') (hg : w'.grownBy w'' row) (hr : ∀ r, row = some r → r < lo ∨ hi ≤ r) (hhi : hi ≤ w.heap.size) : Within lo hi w w'' :=
  ⟨Nat.le_trans h.1 hg.size, fun b h1 h2 => (hg.block b (by have := h.1; omega) (fun e => by have := hr b e.symm; omega)).trans (h.2 b h1 h2)⟩
theorem Within.refl (lo hi : Nat) (w : World) : Within lo hi w w := ⟨Nat.le_refl _, fun _ _ _ => rfl⟩
set_option maxRecDepth 100000 in
set_option maxHeartbeats 400000 in
theorem read_any (A : Option Addr) (n c : Nat) (bs : List UInt8) (w : World) (HX : Hid (bs.length = n)) (hR : Rd w w.heap.size A n (vByte bs)) (hn : n ≤ 70368744177664) :
    Calls Tryz.prog 19 #[.slice A n c] w fun e w' => ∃ gd, e = .returned (.pointer (some ⟨gd, 0, none⟩)) ∧ w.heap.size ≤ gd ∧ Rdr w' w'.heap.size gd bs 0 ∧ Below w.heap.size w w' ∧ Hid (∀ w'', Within w.heap.size w'.heap.size w' w'' → Rdr w'' w'.heap.size gd bs 0) := by
  go_enter Tryz.func19, Tryz.ntmps19
  go_wp2_with (go_at_call 41; ((with_reducible refine (clone_any _ _ _ bs _ HX hR hn).mono ?_); rintro e w2 ⟨A', c', rfl, q1, q2, q3, q4, q5⟩))
  go_ret
  refine ⟨w2.heap.size, rfl, q5.size, ⟨by simp, Nat.le_refl _, A', n, c', Blk.new _ _ _, q1, q2, fun _ => ⟨HX.out, hn, (q4.alloc (Nat.le_refl _) _).more (by simp)⟩⟩, q5.alloc q5.size _, Lib.hid ?_⟩
  intro w'' hw
  refine ⟨by simp, hw.1, A', n, c', (hw.2 _ q5.size (by simp)).trans (Blk.new _ _ _), q1, q2, fun _ => ⟨HX.out, hn, fun h0 => ?_⟩⟩
  obtain ⟨g, rfl, hg1, hg2⟩ := own_some q3 h0
  obtain ⟨b, off, e, hb, hc⟩ := q4 h0
  cases e
  refine ⟨g, 0, rfl, by simp; omega, fun j hj => ?_⟩
  rw [World.cell?_of_block (w := w2.alloc _) (hw.2 g hg1 (by simp; omega)), ((Below.refl _ w2).alloc (Nat.le_refl _) _).cell hb]
  exact hc j hj

theorem only_more {a w w' : World} {gd : Nat} {row : Option Nat} (h : a.grownBy w (some gd)) (hg : w.grownBy w' row) (hr : ∀ r, row = some r → a.heap.size ≤ r) : a.grownBy w' (some gd) :=
  ⟨hg.os.trans h.os, hg.tape.trans h.tape, hg.output.trans h.output, Nat.le_trans h.size hg.size, fun i hi hne => (hg.block i (Nat.lt_of_lt_of_le hi h.size) (fun e => by have := hr i e.symm; omega)).trans (h.block i hi hne)⟩

def readRaw (rest : List UInt8) (err : Int) : Int × List UInt8 × List UInt8 := if err = 0 then decRaw rest else (err, [], [])
theorem readRaw_err {rest : List UInt8} {err : Int} (h : (readU rest err).1 ≠ 0) : readRaw rest err = ((readU rest err).1, [], []) := by
  unfold readRaw
  unfold readU at h ⊢
  split
  · rename_i he
    rw [if_pos he] at h
    unfold decRaw
    rw [if_pos h]
  · rfl
theorem readU_ok {rest : List UInt8} {err : Int} (h : (readU rest err).1 = 0) : err = 0 ∧ readU rest err = decU 0 0 rest := by
  unfold readU at h ⊢
  split at h
  · rename_i he
    exact ⟨he, if_pos he⟩
  · rename_i he
    exact absurd h he
theorem readRaw_more {rest : List UInt8} {err : Int} (h : (readU rest err).1 = 0) (h2 : (readU rest err).2.2.length < (readU rest err).2.1) : readRaw rest err = (3, [], []) := by
  obtain ⟨rfl, e⟩ := readU_ok h
  rw [e] at h h2
  unfold readRaw decRaw
  rw [if_pos rfl, if_neg (by simpa using h), if_pos h2]
theorem readRaw_ok {rest : List UInt8} {err : Int} (h : (readU rest err).1 = 0) (h2 : (readU rest err).2.1 ≤ (readU rest err).2.2.length) : readRaw rest err = (0, (readU rest err).2.2.take (readU rest err).2.1, (readU rest err).2.2.drop (readU rest err).2.1) := by
  obtain ⟨rfl, e⟩ := readU_ok h
  rw [e] at h h2 ⊢
  unfold readRaw decRaw
  rw [if_pos rfl, if_neg (by simpa using h), if_neg (by omega)]

set_option maxRecDepth 100000 in
set_option maxHeartbeats 1000000 in
theorem listb_any (B gd : Nat) (rest : List UInt8) (err : Int) (w : World) (HR : Hid (Rdr w B gd rest err)) :
    Calls Tryz.prog 180 #[.pointer (some ⟨gd, 0, none⟩), .func (.func 149) #[.pointer (some ⟨gd, 0, none⟩)] #[]] w fun e w' => ∃ A' n' c', e = .returned (.slice A' n' c') ∧ n' ≤ c' ∧ c' ≤ 9223372036854775807 ∧ n' ≤ 70368744177664 ∧ Hid ((readRaw rest err).2.1.length = n') ∧
      w'.ownsRow w.heap.size 5 1 (.slice A' n' c') n' ((readRaw rest err).2.1.map fun b => Value.int .u8 ((b.toNat : Nat) : Int)) ∧ Rdr w' B gd (readRaw rest err).2.2 (readRaw rest err).1 ∧ w.grownBy w' (some gd) := by
  obtain ⟨i0, hi, hz0, hz1, hz2⟩ := info_parts info_u8
  have hgB := HR.out.lt
  go_enter Tryz.func180, Tryz.ntmps180
  go_wp2_with fail
  refine (ruint_any B gd rest err _ HR).mono ?_
  rintro e w1 ⟨rfl, hR1, ho1⟩
  have hlt := readU_lt rest err
  by_cases he : (readU rest err).1 = 0
  · by_cases hm : (readU rest err).2.2.length < (readU rest err).2.1
    · have HE := Lib.hid (readRaw_more he hm)
      generalize readU rest err = q at *
      obtain ⟨e1, n, r1⟩ := q
      simp only at *
      subst he
      obtain ⟨k1, k2, A, m, c, h1, h2, h3, h4⟩ := hR1
      obtain ⟨hl, hmx, hRd⟩ := h4 rfl
      have hc0 : w1.cell? ⟨gd, 0, none⟩ = some (.slice A m c) := by simpa using h1.cell 0
      have hc1 : w1.cell? ⟨gd, 1, none⟩ = some (.int .i64 0) := by simpa using h1.cell 1
      have hf1 : w1.frozen? ⟨gd, 1, none⟩ = false := h1.frozen 1
      have HF := Lib.hid (Rdr.fail (rest := r1) ⟨k1, k2, A, m, c, h1, h2, h3, h4⟩ 3 (by decide))
      have hmn : m < n := by omega
      clear h1 h4 hl hm
      go_wp2
      go_ret
      rw [HE.out]
      exact ⟨none, 0, 0, rfl, by omega, by omega, by omega, Lib.hid rfl, World.ownsRow_nil _ _ _ _, HF.out, only_set ho1 (.inl rfl) _⟩
    · have HE := Lib.hid (readRaw_ok he (by omega))
      generalize readU rest err = q at *
      obtain ⟨e1, n, r1⟩ := q
      simp only at *
      subst he
      obtain ⟨k1, k2, A, m, c, h1, h2, h3, h4⟩ := hR1
      obtain ⟨hl, hmx, hRd⟩ := h4 rfl
      have hc0 : w1.cell? ⟨gd, 0, none⟩ = some (.slice A m c) := by simpa using h1.cell 0
      have hc1 : w1.cell? ⟨gd, 1, none⟩ = some (.int .i64 0) := by simpa using h1.cell 1
      have hR1 : Rdr w1 B gd r1 0 := ⟨k1, k2, A, m, c, h1, h2, h3, h4⟩
      have hmn : n ≤ m := by omega
      have hmd : decide (m < n) = false := by simpa using hmn
      have HL : Hid (r1.length = m) := Lib.hid hl
      obtain ⟨w2, hmk, hown2, hb2, hs2⟩ := make_rd (P := Tryz.prog) w1 55 5 i0 _ 1 Tryz.underlying55 hi hz0 hz1 hz2 .i64 .i64 n (by omega) (by unfold maxLen; omega)
      have hR2 := Lib.hid (hR1.all hb2)
      have ho2 := only_below ho1 hb2
      have hown2' := own_lower hown2 ho1.size
      clear h1 h4 hl hm hown2 hb2 hRd hR1
      go_wp2
      go_loopw [6, 30] (fun v iv wr => ∃ k : Nat, k ≤ n ∧ iv = .int .i64 (k : Int) ∧ wr.ownsRow w.heap.size 5 1 v k ((r1.take k).map fun b => Value.int .u8 ((b.toNat : Nat) : Int)) ∧ Hid (Rdr wr B gd (r1.drop k) 0) ∧ w.grownBy wr (some gd)) (fun _ iv _ => n - (intOf iv).toNat)
      case atStart => exact ⟨0, by omega, rfl, hown2', hR2, ho2⟩
      case round =>
        clear hown2' hR2 ho2 ho1 hmk hc0 hc1 hs2
        obtain ⟨k, hk, rfl, hown, HRr, ho⟩ := hrel
        obtain ⟨v6, rfl⟩ : ∃ x, x = u6 := ⟨_, rfl⟩
        by_cases hlt : k < n
        · have hkl : k < r1.length := by rw [HL.out]; omega
          have ed : r1.drop k = r1[k] :: r1.drop (k + 1) := List.drop_eq_getElem_cons hkl
          have et : r1.take (k + 1) = r1.take k ++ [r1[k]] := List.take_succ_eq_append_getElem hkl
          rw [ed] at HRr
          have HT := Lib.hid et
          generalize r1[k] = x at *
          clear ed et hkl
          go_wp2_with fail
          refine (octet_cons B gd x _ _ HRr).mono ?_
          rintro e w3 ⟨rfl, hR3, ho3⟩
          have hown3 := hown.kept ho3 (.inr (fun e => by have := (hown.lt gd e).1; omega))
          obtain ⟨g, cap, w4, hap, hown4, hg4, _, _⟩ := run_append_one (P := Tryz.prog) w3 w.heap.size 55 55 5 i0 _ 1 Tryz.underlying55 hi hz0 hz1 hz2 rfl _ _ _ hown3 (.int .u8 ((x.toNat : Nat) : Int)) rfl (by unfold maxLen; omega) (by omega) (Nat.le_trans ho.size ho3.size)
          have HA := Lib.hid hap; clear hap
          have hR4 := hR3.grown hg4 (fun r er => by have := (hown3.lt r er).1; omega)
          have ho4 := only_more (ho.trans ho3) hg4 (fun r er => (hown3.lt r er).1)
          obtain ⟨hc1, hf1⟩ := hR4.err_cell
          have HR4 := Lib.hid hR4
          clear hR3 hown3 hg4 ho3 hR4
          go_wp2_with (at_builtin; refine wpList_append_run HA.out rfl rfl rfl rfl ?_)
          refine ⟨⟨k + 1, by omega, by go_num, ?_, HR4, ho4⟩, by simp [intOf]; omega⟩
          rw [HT.out, List.map_append]
          exact hown4
        · obtain rfl : k = n := by omega
          obtain ⟨A', c', rfl⟩ := own_slice hown
          have hr := rd_bytes hown
          go_wp2
          go_ret
          rw [HE.out]
          exact ⟨A', k, c', rfl, hr.2.1, own_cap hown, by omega, Lib.hid (by simp [HL.out]; omega), hown, HRr.out, ho⟩
  · have HE := Lib.hid (readRaw_err he)
    obtain ⟨hc1, hf1⟩ := hR1.err_cell
    generalize readU rest err = q at *
    obtain ⟨e1, n, r1⟩ := q
    simp only at *
    have hq : (e1 != 0) = true := by simpa using he
    go_wp2
    go_ret
    rw [HE.out]
    exact ⟨none, 0, 0, rfl, by omega, by omega, by omega, Lib.hid rfl, World.ownsRow_nil _ _ _ _, hR1.any he _, ho1⟩

set_option maxRecDepth 100000 in
set_option maxHeartbeats 400000 in
theorem rraw_any (B gd : Nat) (rest : List UInt8) (err : Int) (w : World) (HR : Hid (Rdr w B gd rest err)) :
    Calls Tryz.prog 152 #[.pointer (some ⟨gd, 0, none⟩)] w fun e w' => ∃ A' n' c', e = .returned (.slice A' n' c') ∧ n' ≤ c' ∧ c' ≤ 9223372036854775807 ∧ n' ≤ 70368744177664 ∧ Hid ((readRaw rest err).2.1.length = n') ∧
      w'.ownsRow w.heap.size 5 1 (.slice A' n' c') n' ((readRaw rest err).2.1.map fun b => Value.int .u8 ((b.toNat : Nat) : Int)) ∧ Rdr w' B gd (readRaw rest err).2.2 (readRaw rest err).1 ∧ w.grownBy w' (some gd) := by
  go_enter Tryz.func152, Tryz.ntmps152
  go_wp2_with (go_at_call 180; ((with_reducible refine (listb_any B gd rest err _ HR).mono ?_); rintro e w2 ⟨A', n', c', rfl, q1, q2, q3, q4, q5, q6, q7⟩))
  go_ret
  exact ⟨A', n', c', rfl, q1, q2, q3, q4, q5, q6, q7⟩


def readInts (rest : List UInt8) (err : Int) : Int × List Int × List UInt8 := if err = 0 then decInts rest else (err, [], [])
theorem readInts_err {rest : List UInt8} {err : Int} (h : (readU rest err).1 ≠ 0) : readInts rest err = ((readU rest err).1, [], []) := by
  unfold readInts
  unfold readU at h ⊢
  split
  · rename_i he
    rw [if_pos he] at h
    unfold decInts
    rw [if_pos h]
  · rfl
theorem readInts_more {rest : List UInt8} {err : Int} (h : (readU rest err).1 = 0) (h2 : (readU rest err).2.2.length < (readU rest err).2.1) : readInts rest err = (3, [], []) := by
  obtain ⟨rfl, e⟩ := readU_ok h
  rw [e] at h h2
  unfold readInts decInts
  rw [if_pos rfl, if_neg (by simpa using h), if_pos h2]
theorem readInts_ok {rest : List UInt8} {err : Int} (h : (readU rest err).1 = 0) (h2 : (readU rest err).2.1 ≤ (readU rest err).2.2.length) : readInts rest err = decK (readU rest err).2.1 (readU rest err).2.2 := by
  obtain ⟨rfl, e⟩ := readU_ok h
  rw [e] at h h2 ⊢
  unfold readInts decInts
  rw [if_pos rfl, if_neg (by simpa using h), if_neg (by omega)]
/-- Numbers ahead of what is read. -/
def ahead (pre : List Int) (q : Int × List Int × List UInt8) : Int × List Int × List UInt8 := if q.1 = 0 then (0, pre ++ q.2.1, q.2.2) else (q.1, [], [])
theorem decK_out : ∀ (k : Nat) (r : List UInt8), (decK k r).1 = 0 ∨ (decK k r).2 = ([], [])
  | 0, r => .inl rfl
  | k + 1, r => by
    rw [decK]
    split
    · exact .inr rfl
    · split
      · exact .inr rfl
      · exact .inl rfl
theorem ahead_nil (k : Nat) (r : List UInt8) : ahead [] (decK k r) = decK k r := by
  unfold ahead
  split
  · rename_i h; rw [List.nil_append, ← h]
  · rename_i h
    rcases decK_out k r with h2 | h2
    · exact absurd h2 h
    · rw [← h2]
theorem ahead_bad {pre : List Int} {k : Nat} {r : List UInt8} (h : (decU 0 0 r).1 ≠ 0) : ahead pre (decK (k + 1) r) = ((decU 0 0 r).1, [], []) := by
  rw [decK, if_pos h]
  unfold ahead
  rw [if_neg h]
theorem ahead_go {pre : List Int} {k : Nat} {r : List UInt8} (h : (decU 0 0 r).1 = 0) : ahead pre (decK (k + 1) r) = ahead (pre ++ [unzigI (decU 0 0 r).2.1]) (decK k (decU 0 0 r).2.2) := by
  rw [decK, if_neg (by simpa using h)]
  unfold ahead
  by_cases h2 : (decK k (decU 0 0 r).2.2).1 = 0
  · simp [h2]
  · simp [h2]
theorem info_i64 : (Tryz.prog.info? 3).map (fun i => (i.zero, i.size, i.bytes)) = some (some (.int .i64 0), 1, 8) := by kernel_rfl

set_option maxRecDepth 100000 in
set_option maxHeartbeats 1000000 in
theorem listi_any (B gd : Nat) (rest : List UInt8) (err : Int) (w : World) (HR : Hid (Rdr w B gd rest err)) (hbig : rest.length ≤ 17592186044416) :
    Calls Tryz.prog 47 #[.pointer (some ⟨gd, 0, none⟩), .func (.func 48) #[.pointer (some ⟨gd, 0, none⟩)] #[]] w fun e w' => ∃ A' n' c', e = .returned (.slice A' n' c') ∧ n' ≤ c' ∧ c' ≤ 9223372036854775807 ∧ n' ≤ 17592186044416 ∧ Hid ((readInts rest err).2.1.length = n') ∧
      w'.ownsRow w.heap.size 3 1 (.slice A' n' c') n' ((readInts rest err).2.1.map (Value.int .i64)) ∧ Rdr w' B gd (readInts rest err).2.2 (readInts rest err).1 ∧ w.grownBy w' (some gd) := by
  obtain ⟨i0, hi, hz0, hz1, hz2⟩ := info_parts info_i64
  have hgB := HR.out.lt
  have hbig2 : (readU rest err).2.2.length ≤ 17592186044416 := by
    unfold readU
    split
    · have := (decU_lt rest 0 0 (by decide) (by decide)).2; omega
    · simp
  go_enter Tryz.func47, Tryz.ntmps47
  go_wp2_with fail
  refine (ruint_any B gd rest err _ HR).mono ?_
  rintro e w1 ⟨rfl, hR1, ho1⟩
  have hlt := readU_lt rest err
  by_cases he : (readU rest err).1 = 0
  · by_cases hm : (readU rest err).2.2.length < (readU rest err).2.1
    · have HE := Lib.hid (readInts_more he hm)
      generalize readU rest err = q at *
      obtain ⟨e1, n, r1⟩ := q
      simp only at *
      subst he
      obtain ⟨k1, k2, A, m, c, h1, h2, h3, h4⟩ := hR1
      obtain ⟨hl, hmx, hRd⟩ := h4 rfl
      have hc0 : w1.cell? ⟨gd, 0, none⟩ = some (.slice A m c) := by simpa using h1.cell 0
      have hc1 : w1.cell? ⟨gd, 1, none⟩ = some (.int .i64 0) := by simpa using h1.cell 1
      have hf1 : w1.frozen? ⟨gd, 1, none⟩ = false := h1.frozen 1
      have HF := Lib.hid (Rdr.fail (rest := r1) ⟨k1, k2, A, m, c, h1, h2, h3, h4⟩ 3 (by decide))
      have hmn : m < n := by omega
      clear h1 h4 hl hm
      go_wp2
      go_ret
      rw [HE.out]
      exact ⟨none, 0, 0, rfl, by omega, by omega, by omega, Lib.hid rfl, World.ownsRow_nil _ _ _ _, HF.out, only_set ho1 (.inl rfl) _⟩
    · have HE := Lib.hid (readInts_ok he (by omega))
      generalize readU rest err = q at *
      obtain ⟨e1, n, r1⟩ := q
      simp only at *
      subst he
      obtain ⟨k1, k2, A, m, c, h1, h2, h3, h4⟩ := hR1
      obtain ⟨hl, hmx, hRd⟩ := h4 rfl
      have hc0 : w1.cell? ⟨gd, 0, none⟩ = some (.slice A m c) := by simpa using h1.cell 0
      have hc1 : w1.cell? ⟨gd, 1, none⟩ = some (.int .i64 0) := by simpa using h1.cell 1
      have hR1 : Rdr w1 B gd r1 0 := ⟨k1, k2, A, m, c, h1, h2, h3, h4⟩
      have hmn : n ≤ m := by omega
      have hmd : decide (m < n) = false := by simpa using hmn
      have hn17 : n ≤ 17592186044416 := by omega
      obtain ⟨w2, hmk, hown2, hb2, hs2⟩ := make_rd (P := Tryz.prog) w1 22 3 i0 _ 8 Tryz.underlying22 hi hz0 hz1 hz2 .i64 .i64 n (by omega) (by unfold maxLen; omega)
      have hR2 := Lib.hid (hR1.all hb2)
      have ho2 := only_below ho1 hb2
      have hown2' := own_lower hown2 ho1.size
      clear h1 h4 hl hm hown2 hb2 hRd hR1
      go_wp2
      go_loopw [6, 30] (fun v iv wr => ∃ k : Nat, ∃ pre : List Int, ∃ cur : List UInt8, k ≤ n ∧ iv = .int .i64 (k : Int) ∧ wr.ownsRow w.heap.size 3 1 v k (pre.map (Value.int .i64)) ∧ Hid (ahead pre (decK (n - k) cur) = decK n r1) ∧ Hid (Rdr wr B gd cur 0) ∧ w.grownBy wr (some gd)) (fun _ iv _ => n - (intOf iv).toNat)
      case atStart => exact ⟨0, [], r1, by omega, rfl, hown2', Lib.hid (ahead_nil _ _), hR2, ho2⟩
      case round =>
        clear hown2' hR2 ho2 ho1 hmk hc0 hc1 hs2
        obtain ⟨k, pre, cur, hk, rfl, hown, HD, HRr, ho⟩ := hrel
        obtain ⟨v6, rfl⟩ : ∃ x, x = u6 := ⟨_, rfl⟩
        by_cases hlt : k < n
        · have hnk : n - k = (n - (k + 1)) + 1 := by omega
          rw [hnk] at HD
          clear hnk
          go_wp2_with fail
          refine (rint_any B gd cur 0 _ HRr).mono ?_
          rw [show readU cur 0 = decU 0 0 cur from rfl]
          rintro e w3 ⟨rfl, hR3, ho3⟩
          have hown3 := hown.kept ho3 (.inr (fun e => by have := (hown.lt gd e).1; omega))
          obtain ⟨g, cap, w4, hap, hown4, hg4, _, _⟩ := run_append_one (P := Tryz.prog) w3 w.heap.size 22 22 3 i0 _ 8 Tryz.underlying22 hi hz0 hz1 hz2 rfl _ _ _ hown3 (.int .i64 (unzigI (decU 0 0 cur).2.1)) rfl (by unfold maxLen; omega) (by omega) (Nat.le_trans ho.size ho3.size)
          have HA := Lib.hid hap; clear hap
          have hR4 := hR3.grown hg4 (fun r er => by have := (hown3.lt r er).1; omega)
          have ho4 := only_more (ho.trans ho3) hg4 (fun r er => (hown3.lt r er).1)
          obtain ⟨hc1, hf1⟩ := hR4.err_cell
          have HR4 := Lib.hid hR4
          clear hR3 hown3 hg4 ho3 hR4
          by_cases hq : (decU 0 0 cur).1 = 0
          · rw [ahead_go hq] at HD
            rw [hq] at HR4 hc1
            clear hq
            go_wp2_with (at_builtin; refine wpList_append_run HA.out rfl rfl rfl rfl ?_)
            refine ⟨⟨k + 1, _, _, by omega, by go_num, ?_, HD, HR4, ho4⟩, by simp [intOf]; omega⟩
            rw [List.map_append]
            exact hown4
          · rw [ahead_bad hq] at HD
            have hq' : ((decU 0 0 cur).1 != 0) = true := by simpa using hq
            go_wp2_with (at_builtin; refine wpList_append_run HA.out rfl rfl rfl rfl ?_)
            go_ret
            rw [HE.out, ← HD.out]
            exact ⟨none, 0, 0, rfl, by omega, by omega, by omega, Lib.hid rfl, World.ownsRow_nil _ _ _ _, HR4.out.any (by simpa using hq') _, ho4⟩
        · obtain rfl : k = n := by omega
          obtain ⟨A', c', rfl⟩ := own_slice hown
          have hr := rd_ints hown
          have HL := Lib.hid (show pre.length = k by simpa using hown.1)
          have HP : Hid (decK k r1 = (0, pre, cur)) := Lib.hid (by rw [← HD.out, Nat.sub_self]; simp [decK, ahead])
          go_wp2
          go_ret
          rw [HE.out, HP.out]
          exact ⟨A', k, c', rfl, hr.2.1, own_cap hown, by omega, HL, hown, HRr.out, ho⟩
  · have HE := Lib.hid (readInts_err he)
    obtain ⟨hc1, hf1⟩ := hR1.err_cell
    generalize readU rest err = q at *
    obtain ⟨e1, n, r1⟩ := q
    simp only at *
    have hq : (e1 != 0) = true := by simpa using he
    go_wp2
    go_ret
    rw [HE.out]
    exact ⟨none, 0, 0, rfl, by omega, by omega, by omega, Lib.hid rfl, World.ownsRow_nil _ _ _ _, hR1.any he _, ho1⟩

set_option maxRecDepth 100000 in
set_option maxHeartbeats 400000 in
theorem rints_any (B gd : Nat) (rest : List UInt8) (err : Int) (w : World) (HR : Hid (Rdr w B gd rest err)) (hbig : rest.length ≤ 17592186044416) :
    Calls Tryz.prog 20 #[.pointer (some ⟨gd, 0, none⟩)] w fun e w' => ∃ A' n' c', e = .returned (.slice A' n' c') ∧ n' ≤ c' ∧ c' ≤ 9223372036854775807 ∧ n' ≤ 17592186044416 ∧ Hid ((readInts rest err).2.1.length = n') ∧
      w'.ownsRow w.heap.size 3 1 (.slice A' n' c') n' ((readInts rest err).2.1.map (Value.int .i64)) ∧ Rdr w' B gd (readInts rest err).2.2 (readInts rest err).1 ∧ w.grownBy w' (some gd) := by
  go_enter Tryz.func20, Tryz.ntmps20
  go_wp2_with (go_at_call 47; ((with_reducible refine (listi_any B gd rest err _ HR hbig).mono ?_); rintro e w2 ⟨A', n', c', rfl, q1, q2, q3, q4, q5, q6, q7⟩))
  go_ret
  exact ⟨A', n', c', rfl, q1, q2, q3, q4, q5, q6, q7⟩

end Go.Proofs.YtgjbbobphfejoaaGreatDoor

/- Plain Lean: what is written is read; what is read was written; prefixes. -/
namespace Go.Proofs.YtgjbbobphfejoaaGreatDoor
open Go.RowKit

def InI (n : Int) : Prop := -9223372036854775808 ≤ n ∧ n ≤ 9223372036854775807
theorem decU_int {n : Int} (h : InI n) (r : List UInt8) : decU 0 0 (encInt n ++ r) = (0, zigI n, r) := decU_enc (zigI_lt h.1 h.2) r
theorem encInt_pos (n : Int) : 0 < (encInt n).length := varint_pos _
theorem decRaw_enc {bs : List UInt8} (h : bs.length ≤ 18446744073709551615) (r : List UInt8) : decRaw (encRaw bs ++ r) = (0, bs, r) := by
  have e : decU 0 0 (encRaw bs ++ r) = (0, bs.length, bs ++ r) := by unfold encRaw; rw [List.append_assoc]; exact decU_enc h _
  unfold decRaw
  rw [e]
  simp
theorem decK_enc : ∀ (l : List Int) (_ : ∀ n ∈ l, InI n) (r : List UInt8), decK l.length (l.flatMap encInt ++ r) = (0, l, r)
  | [], _, r => rfl
  | n :: l, h, r => by
    have hn := h n (by simp)
    have ih := decK_enc l (fun m hm => h m (by simp [hm])) r
    rw [List.flatMap_cons, List.append_assoc, List.length_cons, decK, decU_int hn, if_neg (by simp), ih, if_neg (by simp), unzig_zig]
theorem flatI_len (l : List Int) : l.length ≤ (l.flatMap encInt).length := by
  induction l with
  | nil => simp
  | cons n l ih => rw [List.flatMap_cons, List.length_append, List.length_cons]; have := encInt_pos n; omega
theorem decInts_enc {l : List Int} (hl : l.length ≤ 18446744073709551615) (h : ∀ n ∈ l, InI n) (r : List UInt8) : decInts (encInts l ++ r) = (0, l, r) := by
  have e : decU 0 0 (encInts l ++ r) = (0, l.length, l.flatMap encInt ++ r) := by unfold encInts; rw [List.append_assoc]; exact decU_enc hl _
  have := flatI_len l
  unfold decInts
  rw [e, if_neg (by simp), if_neg (by simp only [List.length_append]; omega)]
  exact decK_enc l h r
end Go.Proofs.YtgjbbobphfejoaaGreatDoor

/- JournalReplays, in plain words: sequences of steps, what holds along them. -/
namespace Go.Proofs.YtgjbbobphfejoaaGreatDoor
open Go.RowKit

abbrev Qs := List (Bool × Mv)
def smallK (k : LK) : Prop := k.1.1 ≤ 4 ∧ k.2.1 ≤ 3
structure QOk (q : Bool × Mv) : Prop where
  n : 1 ≤ q.2.n ∧ q.2.n ≤ 39
  frm : if q.1 = true then q.2.frm = 0 else 1 ≤ q.2.frm
  f : 0 ≤ q.2.frm ∧ q.2.frm ≤ 3
  d : 1 ≤ q.2.dst ∧ q.2.dst ≤ 4
  i : 0 ≤ q.2.item ∧ q.2.item ≤ 3
  ne : q.2.frm ≠ q.2.dst
def stepS (mx : Int → Bool) (S : LSt) (q : Bool × Mv) : Except Int LSt :=
  match mvsP mx S [q.2] with
  | .error e => .error e
  | .ok S' => .ok { S' with ns := S.ns + 1, now := 0 }
def runQ (mx : Int → Bool) : LSt → Qs → Option LSt
  | S, [] => some S
  | S, q :: qs => match stepS mx S q with
    | .error _ => none
    | .ok S' => runQ mx S' qs
theorem runQ_snoc {mx : Int → Bool} : ∀ (qs : Qs) {S S1 S2 : LSt} {q : Bool × Mv}, runQ mx S qs = some S1 → stepS mx S1 q = .ok S2 → runQ mx S (qs ++ [q]) = some S2
  | [], S, S1, S2, q, h, h2 => by
    injection h with h
    subst h
    simp only [List.nil_append, runQ, h2]
  | x :: qs, S, S1, S2, q, h, h2 => by
    unfold runQ at h
    simp only [List.cons_append, runQ]
    cases hx : stepS mx S x with
    | error e => rw [hx] at h; cases h
    | ok S' => rw [hx] at h; exact runQ_snoc qs h h2
structure SInv (mx : Int → Bool) (j : Nat) (S : LSt) : Prop where
  ok : LOk mx ((40 * j : Nat) : Int) S
  ns : S.ns = j
  nf : S.nf = j
  now : S.now = 0
  sh : S.sh = 0
  sm : ∀ k, S.st k ≠ [] → smallK k
theorem SInv.zero (mx : Int → Bool) : SInv mx 0 (lst0 0) where
  ok := ⟨fun k l hl => (nomatch hl), fun k => (by show 0 ≤ 4096; decide), fun k _ => (by show totL [] ≤ ((40 * 0 : Nat) : Int); exact Int.le_refl _), fun i => ⟨Int.le_refl _, (by show (0 : Int) ≤ MaxU; decide)⟩, (by show 0 ≤ 1000; decide), (by show 0 ≤ 1000000; decide), (by show 0 ≤ 60000; decide)⟩
  ns := rfl
  nf := rfl
  now := rfl
  sh := rfl
  sm := fun k hk => absurd rfl hk
theorem kOf_small {a i : Int} (ha : 0 ≤ a ∧ a ≤ 4) (hi : 0 ≤ i ∧ i ≤ 3) : smallK (kOf a i) := by
  unfold smallK kOf
  dsimp only
  omega
theorem moveP_small {mx : Int → Bool} {S S' : LSt} {m : Mv} (hs : ∀ k, S.st k ≠ [] → smallK k) (h1 : smallK m.src) (h2 : smallK m.tgt) (h : moveP mx S m = .ok S') : ∀ k, S'.st k ≠ [] → smallK k := by
  unfold moveP at h
  cases hw : wdP mx S m with
  | none => rw [hw] at h; cases h
  | some S1 =>
    rw [hw] at h
    dsimp only at h
    have hs1 : ∀ k, S1.st k ≠ [] → smallK k := by
      unfold wdP at hw
      split at hw
      · injection hw with hw
        subst hw
        exact hs
      · split at hw
        · cases hw
        · injection hw with hw
          subst hw
          intro k hk
          unfold LSt.put at hk
          dsimp only at hk
          split at hk
          · rename_i e; rw [e]; exact h1
          · exact hs k hk
    split at h
    · cases h
    · split at h
      · cases h
      · injection h with h
        subst h
        intro k hk
        unfold landP LSt.put at hk
        dsimp only at hk
        split at hk
        · rename_i e; rw [e]; exact h2
        · exact hs1 k hk
theorem SInv.step {mx : Int → Bool} {j : Nat} {S S' : LSt} {q : Bool × Mv} (h : SInv mx j S) (hq : QOk q) (hj : j ≤ 1000) (hs : stepS mx S q = .ok S') : SInv mx (j + 1) S' := by
  unfold stepS at hs
  cases hm : mvsP mx S [q.2] with
  | error e => rw [hm] at hs; cases hs
  | ok S1 =>
    rw [hm] at hs
    dsimp only at hs
    injection hs with hs
    subst hs
    have hn := h.nf
    have hns := h.ns
    obtain ⟨k1, k2, k3, k4, k5⟩ := mvsP_ok [q.2] h.ok (fun m hm => by rw [List.mem_singleton] at hm; subst hm; exact ⟨hq.n.1, Int.le_trans hq.n.2 (by decide)⟩) (by show S.nf + 1 ≤ 1000000; omega) hm
    have hsm : sumN [q.2] = q.2.n := by simp [sumN]
    rw [hsm] at k1
    have k1' := k1.more (K' := ((40 * (j + 1) : Nat) : Int)) (by have := hq.n.2; omega)
    have e1 : moveP mx S q.2 = .ok S1 := by
      have := hm
      unfold mvsP at this
      cases hx : moveP mx S q.2 with
      | error e => rw [hx] at this; cases this
      | ok S2 => rw [hx] at this; exact this
    refine ⟨⟨k1'.ok, k1'.len, k1'.mix, k1'.tot, k1'.sh, k1'.nf, by show S.ns + 1 ≤ 60000; omega⟩, by show S.ns + 1 = j + 1; omega, by show S1.nf = j + 1; rw [k2]; show S.nf + 1 = j + 1; omega, rfl, by show S1.sh = 0; rw [k3]; exact h.sh, fun k hk => moveP_small (S' := S1) h.sm (kOf_small ⟨hq.f.1, by have := hq.f.2; omega⟩ hq.i) (kOf_small ⟨by have := hq.d.1; omega, hq.d.2⟩ hq.i) e1 k hk⟩
theorem SInv.run {mx : Int → Bool} : ∀ (qs : Qs) {j : Nat} {S S' : LSt}, SInv mx j S → (∀ q ∈ qs, QOk q) → j + qs.length ≤ 1000 → runQ mx S qs = some S' → SInv mx (j + qs.length) S'
  | [], j, S, S', h, _, _, hr => by
    injection hr with hr
    subst hr
    exact h
  | q :: qs, j, S, S', h, hq, hl, hr => by
    unfold runQ at hr
    rw [List.length_cons] at hl ⊢
    cases hx : stepS mx S q with
    | error e => rw [hx] at hr; cases hr
    | ok S1 =>
      rw [hx] at hr
      have h1 := h.step (hq q (by simp)) (by omega) hx
      have := SInv.run qs h1 (fun x hx => hq x (by simp [hx])) (by omega) hr
      rw [show j + (qs.length + 1) = j + 1 + qs.length by omega]
      exact this
def allK : List LK := (List.range 5).flatMap fun (a : Nat) => (List.range 4).map fun (i : Nat) => kOf (a : Int) (i : Int)
theorem smallK.mem {k : LK} (h : smallK k) : k ∈ allK := by
  obtain ⟨⟨a, ha⟩, ⟨i, hi⟩⟩ := k
  unfold smallK at h
  dsimp only at h
  unfold allK
  rw [List.mem_flatMap]
  refine ⟨a, List.mem_range.2 (by omega), List.mem_map.2 ⟨i, List.mem_range.2 (by omega), ?_⟩⟩
  unfold kOf
  simp only [Int.toNat_natCast, Prod.mk.injEq, Fin.mk.injEq]
  exact ⟨Nat.mod_eq_of_lt ha, Nat.mod_eq_of_lt hi⟩
theorem LedAt.few {mx : Int → Bool} {w : World} {L : Led} {S : LSt} (h : LedAt mx w L S) (hs : ∀ k, S.st k ≠ [] → smallK k) : L.es.length ≤ 100000 := by
  have h1 := nodup_len (a := L.es.map Prod.fst) (b := allK) h.s.nodup (fun k hk => by
    obtain ⟨p, hp, rfl⟩ := List.mem_map.1 hk
    refine (hs p.1 (fun e => ?_)).mem
    have h2 := h.ne p.1 e
    exact glk_none.1 h2 p hp rfl)
  rw [List.length_map] at h1
  have h2 : allK.length = 20 := rfl
  omega
def recI (q : Bool × Mv) : List Int := [kindZ q.1, q.2.frm, q.2.dst, q.2.item, q.2.n]
def recQ (q : Bool × Mv) : List UInt8 := encInts (recI q)
theorem QOk.inI {q : Bool × Mv} (h : QOk q) : ∀ n ∈ recI q, InI n := by
  intro n hn
  obtain ⟨h1, _, h3, h4, h5, _⟩ := h
  simp only [recI, List.mem_cons, List.not_mem_nil, or_false] at hn
  unfold InI
  rcases hn with rfl | rfl | rfl | rfl | rfl
  · cases q.1 <;> decide
  all_goals omega
theorem recQ_dec {q : Bool × Mv} (h : QOk q) : decInts (recQ q) = (0, recI q, []) := by
  have := decInts_enc (l := recI q) (by show 5 ≤ 18446744073709551615; decide) h.inI []
  rw [List.append_nil] at this
  exact this
end Go.Proofs.YtgjbbobphfejoaaGreatDoor

/- JournalReplays: the row of the states' holdings. -/
namespace Go.Proofs.YtgjbbobphfejoaaGreatDoor
open Go.RowKit

def HoldV (w : World) (val : Value) (S : LSt) : Prop := ∃ (A : Option Addr) (ks : List LK) (c : Nat), val = .slice A ks.length c ∧ HoldIs S ks ∧ ks.length ≤ c ∧ c ≤ 9223372036854775807 ∧ RowT w 69 A (ks.flatMap (hcells S))
def StatesAt (B : Nat) (mx : Int → Bool) (w : World) (v : Value) (qs : Qs) : Prop :=
  ∃ vals : List Value, vals.length = qs.length + 1 ∧ w.ownsRow B 51 1 v (qs.length + 1) vals ∧ ∀ k, k ≤ qs.length → ∃ S val, runQ mx (lst0 0) (qs.take k) = some S ∧ vals[k]? = some val ∧ HoldV w val S
theorem HoldV.mod {w w' : World} {val : Value} {S : LSt} {F : Nat → Prop} (h : HoldV w val S) (m : Mod F w w') (hF : ∀ b, F b → ¬ Ty w b 69) : HoldV w' val S := by
  obtain ⟨A, ks, c, h1, h2, h3, h4, h5⟩ := h
  exact ⟨A, ks, c, h1, h2, h3, h4, h5.mod m hF⟩
theorem StatesAt.mod {B : Nat} {mx : Int → Bool} {w w' : World} {v : Value} {qs : Qs} {F : Nat → Prop} (h : StatesAt B mx w v qs) (m : Mod F w w') (hF : ∀ b, F b → v.ownBlock ≠ some b ∧ ¬ Ty w b 69) : StatesAt B mx w' v qs := by
  obtain ⟨vals, h1, h2, h3⟩ := h
  refine ⟨vals, h1, m.own h2 (fun b hb hf => (hF b hf).1 hb), fun k hk => ?_⟩
  obtain ⟨S, val, a1, a2, a3⟩ := h3 k hk
  exact ⟨S, val, a1, a2, a3.mod m (fun b hb => (hF b hb).2)⟩
theorem StatesAt.all {B : Nat} {mx : Int → Bool} {w w' : World} {v : Value} {qs : Qs} (h : StatesAt B mx w v qs) (hb : Below w.heap.size w w') : StatesAt B mx w' v qs := h.mod (F := fun _ => False) (Mod.of_below _ hb) (fun _ hf => hf.elim)
theorem slT_states : SlT Tryz.prog 53 51 1 24 := SlT.of Tryz.underlying53 (by kernel_rfl) (by decide)
/-- The states behind the append of the holdings of the state that a step leads to. -/
theorem StatesAt.push {B : Nat} {mx : Int → Bool} {w : World} {v : Value} {qs : Qs} (h : StatesAt B mx w v qs) (hB : B ≤ w.heap.size) (hn : qs.length < 1000) {q : Bool × Mv} {S S' : LSt} (hr : runQ mx (lst0 0) qs = some S) (hs : stepS mx S q = .ok S') {A : Option Addr} {m c : Nat} (hv : HoldV w (.slice A m c) S') (ty : TypeId) :
    ∃ g cc w', (Builtin.append_ #[53, 53] ty #[v, .slice (some ⟨w.heap.size, 0, none⟩) 1 1]).run Tryz.prog (w.alloc (.cells #[.slice A m c] 51)) = .ok (.slice (some ⟨g, 0, none⟩) (qs.length + 1 + 1) cc) w' ∧
      StatesAt B mx w' (.slice (some ⟨g, 0, none⟩) (qs.length + 1 + 1) cc) (qs ++ [q]) ∧ Mod (fun b => v.ownBlock = some b) w w' ∧ Below B w w' ∧ (v.ownBlock = some g ∨ w.heap.size ≤ g) := by
  have hb1 := (Below.refl w.heap.size w).alloc (Nat.le_refl _) (.cells #[.slice A m c] 51)
  have h2 := h.all hb1
  have hv2 : HoldV (w.alloc (.cells #[.slice A m c] 51)) (.slice A m c) S' := hv.mod (F := fun _ => False) (Mod.of_below _ hb1) (fun _ hf => hf.elim)
  have k1 := Blk.new w 51 #[.slice A m c]
  obtain ⟨W, hW⟩ : ∃ W, w.alloc (.cells #[.slice A m c] 51) = W := ⟨_, rfl⟩
  rw [hW] at hb1 h2 hv2 k1 ⊢
  obtain ⟨vals, a1, a2, a3⟩ := h2
  obtain ⟨g, cc, w', hrun, hown, hg, hnew⟩ := run_append1b (ty := ty) slT_states a2 k1 rfl (by
    intro u hu
    simp only [List.mem_cons, List.not_mem_nil, or_false] at hu
    subst hu
    rfl) (by omega) (by decide) (Nat.le_trans hB hb1.size)
  have m1 : Mod (fun b => v.ownBlock = some b) W w' := Mod.of_grown hg (fun g e => .inl e)
  have mm : Mod (fun b => v.ownBlock = some b) w w' := (Mod.of_below _ hb1).trans m1 (fun b hb => .inl hb)
  have hty : ∀ b, v.ownBlock = some b → ¬ Ty W b 69 := fun b hb ht => absurd (ht.unique (Ty.of_own a2 hb)) (by decide)
  refine ⟨g, cc, w', hrun, ⟨vals ++ [.slice A m c], ?_, ?_, ?_⟩, mm, ?_, ?_⟩
  · simp [a1]
  · rw [List.length_append]
    exact hown
  · intro k hk
    rw [List.length_append, List.length_singleton] at hk
    rcases Nat.lt_or_ge k (qs.length + 1) with hlt | hge
    · obtain ⟨S0, val, b1, b2, b3⟩ := a3 k (by omega)
      exact ⟨S0, val, by rw [List.take_append_of_le_length (by omega)]; exact b1, by rw [List.getElem?_append_left (by omega)]; exact b2, b3.mod m1 hty⟩
    · obtain rfl : k = qs.length + 1 := by omega
      refine ⟨S', .slice A m c, ?_, ?_, hv2.mod m1 hty⟩
      · rw [List.take_of_length_le (by rw [List.length_append]; exact Nat.le_refl _)]
        exact runQ_snoc qs hr hs
      · rw [List.getElem?_append_right (by omega), a1]
        simp
  · obtain ⟨vals', b1, b2, b3⟩ := h
    exact mm.below (Below.refl _ _) hB (fun b hb => (b2.lt b hb).1)
  · rcases hnew with e | e
    · exact .inl e.symm
    · exact .inr (by have := hb1.size; omega)
end Go.Proofs.YtgjbbobphfejoaaGreatDoor
