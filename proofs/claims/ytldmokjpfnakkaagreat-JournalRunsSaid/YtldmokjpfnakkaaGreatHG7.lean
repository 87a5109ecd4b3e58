/- The walks of wire's Reader: Int, Bool, End, Read and the lists. -/
import Derived.Test.YtldmokjpfnakkaaGreatHG6

namespace Go.Proofs.YtldmokjpfnakkaaGreat
open Go.RowKit

theorem readU_lt (rest : List UInt8) (err : Int) : (readU rest err).2.1 ≤ 18446744073709551615 := by
  unfold readU
  split
  · exact (decU_lt rest 0 0 (by decide) (by decide)).1
  · simp
set_option maxRecDepth 100000 in
set_option maxHeartbeats 400000 in
theorem rint_any (B gd : Nat) (rest : List UInt8) (err : Int) (w : World) (HR : Hid (Rdr w B gd rest err)) :
    Calls Tryz.prog 74 #[.pointer (some ⟨gd, 0, none⟩)] w fun e w' => e = .returned (.int .i64 (unzigI (readU rest err).2.1)) ∧ Rdr w' B gd (readU rest err).2.2 (readU rest err).1 ∧ w.grownBy w' (some gd) := by
  go_enter Tryz.func74, Tryz.ntmps74
  go_wp2_with (first
    | (go_at_call 73; ((with_reducible refine (ruint_any B gd rest err _ HR).mono ?_); rintro e w1 ⟨rfl, hR1, ho1⟩))
    | (go_at_call 87; ((with_reducible refine (unzigzag_any _ _ rfl _ (readU_lt rest err)).mono ?_); rintro e w2 ⟨rfl, rfl⟩)))
  go_ret
  exact ⟨rfl, hR1, ho1⟩

def readB (rest : List UInt8) (err : Int) : Int × Bool × List UInt8 := if err = 0 then decBool rest else (err, false, [])

def endI (rest : List UInt8) (err : Int) : Int := if err = 0 then (if rest.length = 0 then 0 else 2) else err
set_option maxRecDepth 100000 in
set_option maxHeartbeats 400000 in
theorem rend_any (B gd : Nat) (rest : List UInt8) (err : Int) (w : World) (HR : Hid (Rdr w B gd rest err)) :
    Calls Tryz.prog 76 #[.pointer (some ⟨gd, 0, none⟩)] w fun e w' => e = .returned (.int .i64 (endI rest err)) ∧ w = w' := by
  obtain ⟨k1, k2, A, n, c, h1, h2, h3, h4⟩ := HR.out
  have hc0 : w.cell? ⟨gd, 0, none⟩ = some (.slice A n c) := by simpa using h1.cell 0
  have hc1 : w.cell? ⟨gd, 1, none⟩ = some (.int .i64 err) := by simpa using h1.cell 1
  by_cases he : err = 0
  · subst he
    have hl := (h4 rfl).1
    clear h1 h4
    by_cases hn : n = 0
    · have HE := Lib.hid (show endI rest 0 = 0 by unfold endI; rw [if_pos rfl, if_pos (by omega)])
      have hn' : (n : Int) ≤ 0 := by omega
      clear hl
      go_enter Tryz.func76, Tryz.ntmps76
      go_wp2
      go_ret
      rw [HE.out]
      exact ⟨rfl, rfl⟩
    · have HE := Lib.hid (show endI rest 0 = 2 by unfold endI; rw [if_pos rfl, if_neg (by omega)])
      have hn' : 0 < (n : Int) := by omega
      clear hl
      go_enter Tryz.func76, Tryz.ntmps76
      go_wp2
      go_ret
      rw [HE.out]
      exact ⟨rfl, rfl⟩
  · have HE := Lib.hid (show endI rest err = err by unfold endI; rw [if_neg he])
    have hq : (err != 0) = true := by simpa using he
    clear h1 h4 he
    go_enter Tryz.func76, Tryz.ntmps76
    go_wp2
    go_ret
    rw [HE.out]
    exact ⟨rfl, rfl⟩

/-- The blocks from lo to hi lie as they lay. -/
def Within (lo hi : Nat) (w w'' : World) : Prop := w.heap.size ≤ w''.heap.size ∧ ∀ b, lo ≤ b → b < hi → w''.heap[b]? = w.heap[b]?
theorem Within.grown {lo hi : Nat} {w w' w'' : World} {row : Option Nat} (h : Within lo hi w w') (hg : w'.grownBy w'' row) (hr : ∀ r, row = some r → r < lo ∨ hi ≤ r) (hhi : hi ≤ w.heap.size) : Within lo hi w w'' :=
  ⟨Nat.le_trans h.1 hg.size, fun b h1 h2 => (hg.block b (by have := h.1; omega) (fun e => by have := hr b e.symm; omega)).trans (h.2 b h1 h2)⟩
theorem Within.refl (lo hi : Nat) (w : World) : Within lo hi w w := ⟨Nat.le_refl _, fun _ _ _ => rfl⟩
set_option maxRecDepth 100000 in
set_option maxHeartbeats 400000 in
theorem read_any (A : Option Addr) (n c : Nat) (bs : List UInt8) (w : World) (HX : Hid (bs.length = n)) (hR : Rd w w.heap.size A n (vByte bs)) (hn : n ≤ 70368744177664) :
    Calls Tryz.prog 72 #[.slice A n c] w fun e w' => ∃ gd, e = .returned (.pointer (some ⟨gd, 0, none⟩)) ∧ w.heap.size ≤ gd ∧ Rdr w' w'.heap.size gd bs 0 ∧ Below w.heap.size w w' ∧ Hid (∀ w'', Within w.heap.size w'.heap.size w' w'' → Rdr w'' w'.heap.size gd bs 0) := by
  go_enter Tryz.func72, Tryz.ntmps72
  go_wp2_with (go_at_call 36; ((with_reducible refine (clone_any _ _ _ bs _ HX hR hn).mono ?_); rintro e w2 ⟨A', c', rfl, q1, q2, q3, q4, q5⟩))
  go_ret
  refine ⟨w2.heap.size, rfl, q5.size, ⟨by simp, Nat.le_refl _, A', n, c', Blk.new _ _ _, q1, q2, fun _ => ⟨HX.out, hn, (q4.alloc (Nat.le_refl _) _).more (by simp)⟩⟩, q5.alloc q5.size _, Lib.hid ?_⟩
  intro w'' hw
  refine ⟨by simp, hw.1, A', n, c', (hw.2 _ q5.size (by simp)).trans (Blk.new _ _ _), q1, q2, fun _ => ⟨HX.out, hn, fun h0 => ?_⟩⟩
  obtain ⟨g, rfl, hg1, hg2⟩ := own_some q3 h0
  obtain ⟨b, off, e, hb, hc⟩ := q4 h0
  cases e
  refine ⟨g, 0, rfl, by simp; omega, fun j hj => ?_⟩
  rw [World.cell?_of_block (w := w2.alloc _) (hw.2 g hg1 (by simp; omega)), ((Below.refl _ w2).alloc (Nat.le_refl _) _).cell hb]
  exact hc j hj

theorem only_more {a w w' : World} {gd : Nat} {row : Option Nat} (h : a.grownBy w (some gd)) (hg : w.grownBy w' row) (hr : ∀ r, row = some r → a.heap.size ≤ r) : a.grownBy w' (some gd) :=
  ⟨hg.os.trans h.os, hg.tape.trans h.tape, hg.output.trans h.output, Nat.le_trans h.size hg.size, fun i hi hne => (hg.block i (Nat.lt_of_lt_of_le hi h.size) (fun e => by have := hr i e.symm; omega)).trans (h.block i hi hne)⟩

def readRaw (rest : List UInt8) (err : Int) : Int × List UInt8 × List UInt8 := if err = 0 then decRaw rest else (err, [], [])
theorem readRaw_err {rest : List UInt8} {err : Int} (h : (readU rest err).1 ≠ 0) : readRaw rest err = ((readU rest err).1, [], []) := by
  unfold readRaw
  unfold readU at h ⊢
  split
  · rename_i he
    rw [if_pos he] at h
    unfold decRaw
    rw [if_pos h]
  · rfl
theorem readU_ok {rest : List UInt8} {err : Int} (h : (readU rest err).1 = 0) : err = 0 ∧ readU rest err = decU 0 0 rest := by
  unfold readU at h ⊢
  split at h
  · rename_i he
    exact ⟨he, if_pos he⟩
  · rename_i he
    exact absurd h he
theorem readRaw_more {rest : List UInt8} {err : Int} (h : (readU rest err).1 = 0) (h2 : (readU rest err).2.2.length < (readU rest err).2.1) : readRaw rest err = (3, [], []) := by
  obtain ⟨rfl, e⟩ := readU_ok h
  rw [e] at h h2
  unfold readRaw decRaw
  rw [if_pos rfl, if_neg (by simpa using h), if_pos h2]
theorem readRaw_ok {rest : List UInt8} {err : Int} (h : (readU rest err).1 = 0) (h2 : (readU rest err).2.1 ≤ (readU rest err).2.2.length) : readRaw rest err = (0, (readU rest err).2.2.take (readU rest err).2.1, (readU rest err).2.2.drop (readU rest err).2.1) := by
  obtain ⟨rfl, e⟩ := readU_ok h
  rw [e] at h h2 ⊢
  unfold readRaw decRaw
  rw [if_pos rfl, if_neg (by simpa using h), if_neg (by omega)]

set_option maxRecDepth 100000 in
set_option maxHeartbeats 1000000 in
theorem listb_any (B gd : Nat) (rest : List UInt8) (err : Int) (w : World) (HR : Hid (Rdr w B gd rest err)) :
    Calls Tryz.prog 88 #[.pointer (some ⟨gd, 0, none⟩), .func (.func 86) #[.pointer (some ⟨gd, 0, none⟩)] #[]] w fun e w' => ∃ A' n' c', e = .returned (.slice A' n' c') ∧ n' ≤ c' ∧ c' ≤ 9223372036854775807 ∧ n' ≤ 70368744177664 ∧ Hid ((readRaw rest err).2.1.length = n') ∧
      w'.ownsRow w.heap.size 5 1 (.slice A' n' c') n' ((readRaw rest err).2.1.map fun b => Value.int .u8 ((b.toNat : Nat) : Int)) ∧ Rdr w' B gd (readRaw rest err).2.2 (readRaw rest err).1 ∧ w.grownBy w' (some gd) := by
  obtain ⟨i0, hi, hz0, hz1, hz2⟩ := info_parts info_u8
  have hgB := HR.out.lt
  go_enter Tryz.func88, Tryz.ntmps88
  go_wp2_with fail
  refine (ruint_any B gd rest err _ HR).mono ?_
  rintro e w1 ⟨rfl, hR1, ho1⟩
  have hlt := readU_lt rest err
  by_cases he : (readU rest err).1 = 0
  · by_cases hm : (readU rest err).2.2.length < (readU rest err).2.1
    · have HE := Lib.hid (readRaw_more he hm)
      generalize readU rest err = q at *
      obtain ⟨e1, n, r1⟩ := q
      simp only at *
      subst he
      obtain ⟨k1, k2, A, m, c, h1, h2, h3, h4⟩ := hR1
      obtain ⟨hl, hmx, hRd⟩ := h4 rfl
      have hc0 : w1.cell? ⟨gd, 0, none⟩ = some (.slice A m c) := by simpa using h1.cell 0
      have hc1 : w1.cell? ⟨gd, 1, none⟩ = some (.int .i64 0) := by simpa using h1.cell 1
      have hf1 : w1.frozen? ⟨gd, 1, none⟩ = false := h1.frozen 1
      have HF := Lib.hid (Rdr.fail (rest := r1) ⟨k1, k2, A, m, c, h1, h2, h3, h4⟩ 3 (by decide))
      have hmn : m < n := by omega
      clear h1 h4 hl hm
      go_wp2
      go_ret
      rw [HE.out]
      exact ⟨none, 0, 0, rfl, by omega, by omega, by omega, Lib.hid rfl, World.ownsRow_nil _ _ _ _, HF.out, only_set ho1 (.inl rfl) _⟩
    · have HE := Lib.hid (readRaw_ok he (by omega))
      generalize readU rest err = q at *
      obtain ⟨e1, n, r1⟩ := q
      simp only at *
      subst he
      obtain ⟨k1, k2, A, m, c, h1, h2, h3, h4⟩ := hR1
      obtain ⟨hl, hmx, hRd⟩ := h4 rfl
      have hc0 : w1.cell? ⟨gd, 0, none⟩ = some (.slice A m c) := by simpa using h1.cell 0
      have hc1 : w1.cell? ⟨gd, 1, none⟩ = some (.int .i64 0) := by simpa using h1.cell 1
      have hR1 : Rdr w1 B gd r1 0 := ⟨k1, k2, A, m, c, h1, h2, h3, h4⟩
      have hmn : n ≤ m := by omega
      have hmd : decide (m < n) = false := by simpa using hmn
      have HL : Hid (r1.length = m) := Lib.hid hl
      obtain ⟨w2, hmk, hown2, hb2, hs2⟩ := make_rd (P := Tryz.prog) w1 39 5 i0 _ 1 Tryz.underlying39 hi hz0 hz1 hz2 .i64 .i64 n (by omega) (by unfold maxLen; omega)
      have hR2 := Lib.hid (hR1.all hb2)
      have ho2 := only_below ho1 hb2
      have hown2' := own_lower hown2 ho1.size
      clear h1 h4 hl hm hown2 hb2 hRd hR1
      go_wp2
      go_loopw [6, 30] (fun v iv wr => ∃ k : Nat, k ≤ n ∧ iv = .int .i64 (k : Int) ∧ wr.ownsRow w.heap.size 5 1 v k ((r1.take k).map fun b => Value.int .u8 ((b.toNat : Nat) : Int)) ∧ Hid (Rdr wr B gd (r1.drop k) 0) ∧ w.grownBy wr (some gd)) (fun _ iv _ => n - (intOf iv).toNat)
      case atStart => exact ⟨0, by omega, rfl, hown2', hR2, ho2⟩
      case round =>
        clear hown2' hR2 ho2 ho1 hmk hc0 hc1 hs2
        obtain ⟨k, hk, rfl, hown, HRr, ho⟩ := hrel
        obtain ⟨v6, rfl⟩ : ∃ x, x = u6 := ⟨_, rfl⟩
        by_cases hlt : k < n
        · have hkl : k < r1.length := by rw [HL.out]; omega
          have ed : r1.drop k = r1[k] :: r1.drop (k + 1) := List.drop_eq_getElem_cons hkl
          have et : r1.take (k + 1) = r1.take k ++ [r1[k]] := List.take_succ_eq_append_getElem hkl
          rw [ed] at HRr
          have HT := Lib.hid et
          generalize r1[k] = x at *
          clear ed et hkl
          go_wp2_with fail
          refine (octet_cons B gd x _ _ HRr).mono ?_
          rintro e w3 ⟨rfl, hR3, ho3⟩
          have hown3 := hown.kept ho3 (.inr (fun e => by have := (hown.lt gd e).1; omega))
          obtain ⟨g, cap, w4, hap, hown4, hg4, _, _⟩ := run_append_one (P := Tryz.prog) w3 w.heap.size 39 39 5 i0 _ 1 Tryz.underlying39 hi hz0 hz1 hz2 rfl _ _ _ hown3 (.int .u8 ((x.toNat : Nat) : Int)) rfl (by unfold maxLen; omega) (by omega) (Nat.le_trans ho.size ho3.size)
          have HA := Lib.hid hap; clear hap
          have hR4 := hR3.grown hg4 (fun r er => by have := (hown3.lt r er).1; omega)
          have ho4 := only_more (ho.trans ho3) hg4 (fun r er => (hown3.lt r er).1)
          obtain ⟨hc1, hf1⟩ := hR4.err_cell
          have HR4 := Lib.hid hR4
          clear hR3 hown3 hg4 ho3 hR4
          go_wp2_with (at_builtin; refine wpList_append_run HA.out rfl rfl rfl rfl ?_)
          refine ⟨⟨k + 1, by omega, by go_num, ?_, HR4, ho4⟩, by simp [intOf]; omega⟩
          rw [HT.out, List.map_append]
          exact hown4
        · obtain rfl : k = n := by omega
          obtain ⟨A', c', rfl⟩ := own_slice hown
          have hr := rd_bytes hown
          go_wp2
          go_ret
          rw [HE.out]
          exact ⟨A', k, c', rfl, hr.2.1, own_cap hown, by omega, Lib.hid (by simp [HL.out]; omega), hown, HRr.out, ho⟩
  · have HE := Lib.hid (readRaw_err he)
    obtain ⟨hc1, hf1⟩ := hR1.err_cell
    generalize readU rest err = q at *
    obtain ⟨e1, n, r1⟩ := q
    simp only at *
    have hq : (e1 != 0) = true := by simpa using he
    go_wp2
    go_ret
    rw [HE.out]
    exact ⟨none, 0, 0, rfl, by omega, by omega, by omega, Lib.hid rfl, World.ownsRow_nil _ _ _ _, hR1.any he _, ho1⟩

set_option maxRecDepth 100000 in
set_option maxHeartbeats 400000 in
theorem rraw_any (B gd : Nat) (rest : List UInt8) (err : Int) (w : World) (HR : Hid (Rdr w B gd rest err)) :
    Calls Tryz.prog 75 #[.pointer (some ⟨gd, 0, none⟩)] w fun e w' => ∃ A' n' c', e = .returned (.slice A' n' c') ∧ n' ≤ c' ∧ c' ≤ 9223372036854775807 ∧ n' ≤ 70368744177664 ∧ Hid ((readRaw rest err).2.1.length = n') ∧
      w'.ownsRow w.heap.size 5 1 (.slice A' n' c') n' ((readRaw rest err).2.1.map fun b => Value.int .u8 ((b.toNat : Nat) : Int)) ∧ Rdr w' B gd (readRaw rest err).2.2 (readRaw rest err).1 ∧ w.grownBy w' (some gd) := by
  go_enter Tryz.func75, Tryz.ntmps75
  go_wp2_with (go_at_call 88; ((with_reducible refine (listb_any B gd rest err _ HR).mono ?_); rintro e w2 ⟨A', n', c', rfl, q1, q2, q3, q4, q5, q6, q7⟩))
  go_ret
  exact ⟨A', n', c', rfl, q1, q2, q3, q4, q5, q6, q7⟩


def readInts (rest : List UInt8) (err : Int) : Int × List Int × List UInt8 := if err = 0 then decInts rest else (err, [], [])
theorem readInts_err {rest : List UInt8} {err : Int} (h : (readU rest err).1 ≠ 0) : readInts rest err = ((readU rest err).1, [], []) := by
  unfold readInts
  unfold readU at h ⊢
  split
  · rename_i he
    rw [if_pos he] at h
    unfold decInts
    rw [if_pos h]
  · rfl
theorem readInts_more {rest : List UInt8} {err : Int} (h : (readU rest err).1 = 0) (h2 : (readU rest err).2.2.length < (readU rest err).2.1) : readInts rest err = (3, [], []) := by
  obtain ⟨rfl, e⟩ := readU_ok h
  rw [e] at h h2
  unfold readInts decInts
  rw [if_pos rfl, if_neg (by simpa using h), if_pos h2]
theorem readInts_ok {rest : List UInt8} {err : Int} (h : (readU rest err).1 = 0) (h2 : (readU rest err).2.1 ≤ (readU rest err).2.2.length) : readInts rest err = decK (readU rest err).2.1 (readU rest err).2.2 := by
  obtain ⟨rfl, e⟩ := readU_ok h
  rw [e] at h h2 ⊢
  unfold readInts decInts
  rw [if_pos rfl, if_neg (by simpa using h), if_neg (by omega)]
/-- Numbers ahead of what is read. -/
def ahead (pre : List Int) (q : Int × List Int × List UInt8) : Int × List Int × List UInt8 := if q.1 = 0 then (0, pre ++ q.2.1, q.2.2) else (q.1, [], [])
theorem decK_out : ∀ (k : Nat) (r : List UInt8), (decK k r).1 = 0 ∨ (decK k r).2 = ([], [])
  | 0, r => .inl rfl
  | k + 1, r => by
    rw [decK]
    split
    · exact .inr rfl
    · split
      · exact .inr rfl
      · exact .inl rfl
theorem ahead_nil (k : Nat) (r : List UInt8) : ahead [] (decK k r) = decK k r := by
  unfold ahead
  split
  · rename_i h; rw [List.nil_append, ← h]
  · rename_i h
    rcases decK_out k r with h2 | h2
    · exact absurd h2 h
    · rw [← h2]
theorem ahead_bad {pre : List Int} {k : Nat} {r : List UInt8} (h : (decU 0 0 r).1 ≠ 0) : ahead pre (decK (k + 1) r) = ((decU 0 0 r).1, [], []) := by
  rw [decK, if_pos h]
  unfold ahead
  rw [if_neg h]
theorem ahead_go {pre : List Int} {k : Nat} {r : List UInt8} (h : (decU 0 0 r).1 = 0) : ahead pre (decK (k + 1) r) = ahead (pre ++ [unzigI (decU 0 0 r).2.1]) (decK k (decU 0 0 r).2.2) := by
  rw [decK, if_neg (by simpa using h)]
  unfold ahead
  by_cases h2 : (decK k (decU 0 0 r).2.2).1 = 0
  · simp [h2]
  · simp [h2]



end Go.Proofs.YtldmokjpfnakkaaGreat

/- Plain Lean: what is written is read; what is read was written; prefixes. -/
namespace Go.Proofs.YtldmokjpfnakkaaGreat
open Go.RowKit

def InI (n : Int) : Prop := -9223372036854775808 ≤ n ∧ n ≤ 9223372036854775807
theorem decU_int {n : Int} (h : InI n) (r : List UInt8) : decU 0 0 (encInt n ++ r) = (0, zigI n, r) := decU_enc (zigI_lt h.1 h.2) r
theorem encInt_pos (n : Int) : 0 < (encInt n).length := varint_pos _
theorem decRaw_enc {bs : List UInt8} (h : bs.length ≤ 18446744073709551615) (r : List UInt8) : decRaw (encRaw bs ++ r) = (0, bs, r) := by
  have e : decU 0 0 (encRaw bs ++ r) = (0, bs.length, bs ++ r) := by unfold encRaw; rw [List.append_assoc]; exact decU_enc h _
  unfold decRaw
  rw [e]
  simp
theorem decK_enc : ∀ (l : List Int) (_ : ∀ n ∈ l, InI n) (r : List UInt8), decK l.length (l.flatMap encInt ++ r) = (0, l, r)
  | [], _, r => rfl
  | n :: l, h, r => by
    have hn := h n (by simp)
    have ih := decK_enc l (fun m hm => h m (by simp [hm])) r
    rw [List.flatMap_cons, List.append_assoc, List.length_cons, decK, decU_int hn, if_neg (by simp), ih, if_neg (by simp), unzig_zig]
theorem flatI_len (l : List Int) : l.length ≤ (l.flatMap encInt).length := by
  induction l with
  | nil => simp
  | cons n l ih => rw [List.flatMap_cons, List.length_append, List.length_cons]; have := encInt_pos n; omega
theorem decInts_enc {l : List Int} (hl : l.length ≤ 18446744073709551615) (h : ∀ n ∈ l, InI n) (r : List UInt8) : decInts (encInts l ++ r) = (0, l, r) := by
  have e : decU 0 0 (encInts l ++ r) = (0, l.length, l.flatMap encInt ++ r) := by unfold encInts; rw [List.append_assoc]; exact decU_enc hl _
  have := flatI_len l
  unfold decInts
  rw [e, if_neg (by simp), if_neg (by simp only [List.length_append]; omega)]
  exact decK_enc l h r
theorem decBool_enc (b : Bool) (r : List UInt8) : decBool (encBool b ++ r) = (0, b, r) := by cases b <;> rfl
end Go.Proofs.YtldmokjpfnakkaaGreat
