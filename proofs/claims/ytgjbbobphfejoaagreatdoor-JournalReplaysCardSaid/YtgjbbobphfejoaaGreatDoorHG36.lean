/- The walks of wire's Reader. -/
import Derived.Test.YtgjbbobphfejoaaGreatDoorHG35

namespace Go.Proofs.YtgjbbobphfejoaaGreatDoor
open Go.RowKit

/-- A Reader at block gd: at no error the bytes that are left. -/
def Rdr (w : World) (B gd : Nat) (rest : List UInt8) (err : Int) : Prop :=
  gd < B ∧ B ≤ w.heap.size ∧ ∃ A n c, Blk w gd 118 #[.slice A n c, .int .i64 err] ∧ n ≤ c ∧ c ≤ 9223372036854775807 ∧ (err = 0 → rest.length = n ∧ n ≤ 70368744177664 ∧ Rd w B A n (vByte rest))
theorem Rdr.grown {w w' : World} {B gd : Nat} {rest : List UInt8} {err : Int} {row : Option Nat} (h : Rdr w B gd rest err) (hg : w.grownBy w' row) (hr : ∀ r, row = some r → B ≤ r) : Rdr w' B gd rest err := by
  obtain ⟨k1, k2, A, n, c, h1, h2, h3, h4⟩ := h
  have hne : ∀ b, b < B → some b ≠ row := fun b hb e => by have := hr b e.symm; omega
  refine ⟨k1, Nat.le_trans k2 hg.size, A, n, c, h1.grown hg (hne gd k1), h2, h3, fun e => ⟨(h4 e).1, (h4 e).2.1, ?_⟩⟩
  exact (h4 e).2.2.keep fun b hb => hg.block b (by omega) (hne b hb)
theorem Rdr.all {w w' : World} {B gd : Nat} {rest : List UInt8} {err : Int} (h : Rdr w B gd rest err) (hb : Below w.heap.size w w') : Rdr w' B gd rest err :=
  h.grown (only_of_below hb none) (fun _ e => by cases e)
theorem Rdr.more {w : World} {B B' gd : Nat} {rest : List UInt8} {err : Int} (h : Rdr w B gd rest err) (hB : B ≤ B') (hB' : B' ≤ w.heap.size) : Rdr w B' gd rest err := by
  obtain ⟨k1, k2, A, n, c, h1, h2, h3, h4⟩ := h
  exact ⟨by omega, hB', A, n, c, h1, h2, h3, fun e => ⟨(h4 e).1, (h4 e).2.1, (h4 e).2.2.more hB⟩⟩
theorem Rdr.lt {w : World} {B gd : Nat} {rest : List UInt8} {err : Int} (h : Rdr w B gd rest err) : gd < B ∧ B ≤ w.heap.size := ⟨h.1, h.2.1⟩
/-- The row of what is left does not lie in the Reader's own block. -/
theorem rd_set {w : World} {B gd n m c k : Nat} {A A' : Option Addr} {bs : List UInt8} {T : TypeId} {err : Int} {u : Value} (hR : Rd w B A n (vByte bs)) (hD : Blk w gd T #[.slice A' m c, .int .i64 err]) : Rd (w.setCell ⟨gd, k, none⟩ u) B A n (vByte bs) := by
  intro h
  obtain ⟨b, off, e, hb, hc⟩ := hR h
  have hne : b ≠ gd := by
    rintro rfl
    have h0 := hc 0 h
    rw [Nat.add_zero, Blk.cell hD off] at h0
    rcases off with _ | _ | off <;> simp [vByte] at h0
  exact ⟨b, off, e, hb, fun j hj => (World.cell?_of_block (w := w) (Below.heap_setCell w _ u b hne)).trans (hc j hj)⟩
/-- An error is recorded. -/
theorem Rdr.fail {w : World} {B gd : Nat} {rest : List UInt8} {err : Int} (h : Rdr w B gd rest err) (e : Int) (he : e ≠ 0) : Rdr (w.setCell ⟨gd, 1, none⟩ (.int .i64 e)) B gd [] e := by
  obtain ⟨k1, k2, A, n, c, h1, h2, h3, h4⟩ := h
  exact ⟨k1, by simpa [World.setCell] using k2, A, n, c, by simpa using h1.set_ 1 (.int .i64 e), h2, h3, fun h => absurd h he⟩

set_option maxRecDepth 100000 in
set_option maxHeartbeats 400000 in
theorem octet_err (B gd : Nat) (rest : List UInt8) (err : Int) (w : World) (HR : Hid (Rdr w B gd rest err)) (he : err ≠ 0) :
    Calls Tryz.prog 149 #[.pointer (some ⟨gd, 0, none⟩)] w fun e w' => e = .returned (.int .u8 0) ∧ w = w' := by
  obtain ⟨k1, k2, A, n, c, h1, h2, h3, h4⟩ := HR.out
  have hc1 : w.cell? ⟨gd, 1, none⟩ = some (.int .i64 err) := by simpa using h1.cell 1
  have hb : (err != 0) = true := by simpa using he
  clear h1 h4 he
  go_enter Tryz.func149, Tryz.ntmps149
  go_wp2
  go_ret
  exact ⟨rfl, rfl⟩

set_option maxRecDepth 100000 in
set_option maxHeartbeats 400000 in
theorem octet_nil (B gd : Nat) (w : World) (HR : Hid (Rdr w B gd [] 0)) :
    Calls Tryz.prog 149 #[.pointer (some ⟨gd, 0, none⟩)] w fun e w' => e = .returned (.int .u8 0) ∧ Rdr w' B gd [] 3 ∧ w.grownBy w' (some gd) := by
  obtain ⟨k1, k2, A, n, c, h1, h2, h3, h4⟩ := HR.out
  have hc0 : w.cell? ⟨gd, 0, none⟩ = some (.slice A n c) := by simpa using h1.cell 0
  have hc1 : w.cell? ⟨gd, 1, none⟩ = some (.int .i64 0) := by simpa using h1.cell 1
  have hf1 : w.frozen? ⟨gd, 1, none⟩ = false := h1.frozen 1
  have hn : ((n : Int) == 0) = true := by have := (h4 rfl).1; simp at this; simp; omega
  have HF := Lib.hid (HR.out.fail 3 (by decide))
  clear h1 h4
  go_enter Tryz.func149, Tryz.ntmps149
  go_wp2
  go_ret
  exact ⟨rfl, HF.out, only_set (only_refl _ _) (.inl rfl) _⟩

theorem Rdr.step {w : World} {B gd n c bk off : Nat} {b : UInt8} {r : List UInt8} (hB : Blk w gd 118 #[.slice (some ⟨bk, off, none⟩) n c, .int .i64 0]) (k1 : gd < B) (k2 : B ≤ w.heap.size) (hR : Rd w B (some ⟨bk, off, none⟩) n (vByte (b :: r))) (hl : (b :: r).length = n) (hn : 1 ≤ n) (hnc : n ≤ c) (hc : c ≤ 9223372036854775807) (hm : n ≤ 70368744177664)
    (o' : Nat) (ho : c ≠ 1 → o' = off + 1) : Rdr (w.setCell ⟨gd, 0, none⟩ (.slice (some ⟨bk, o', none⟩) (n - 1) (c - 1))) B gd r 0 := by
  refine ⟨k1, by simpa [World.setCell] using k2, some ⟨bk, o', none⟩, n - 1, c - 1, by simpa using hB.set_ 0 (.slice (some ⟨bk, o', none⟩) (n - 1) (c - 1)), by omega, by omega, fun _ => ⟨by simp at hl; omega, by omega, ?_⟩⟩
  refine rd_set (T := 118) (A' := some ⟨bk, off, none⟩) (m := n) (c := c) (err := 0) ?_ hB
  intro h0
  have := ho (by omega)
  subst this
  obtain ⟨b', off', e, hb, hcell⟩ := hR (by omega)
  cases e
  exact ⟨bk, off + 1, rfl, hb, fun j hj => by
    rw [Nat.add_right_comm, Nat.add_assoc, hcell (j + 1) (by omega)]
    simp [vByte]⟩
set_option maxRecDepth 100000 in
set_option maxHeartbeats 400000 in
theorem octet_cons (B gd : Nat) (b : UInt8) (r : List UInt8) (w : World) (HR : Hid (Rdr w B gd (b :: r) 0)) :
    Calls Tryz.prog 149 #[.pointer (some ⟨gd, 0, none⟩)] w fun e w' => e = .returned (.int .u8 ((b.toNat : Nat) : Int)) ∧ Rdr w' B gd r 0 ∧ w.grownBy w' (some gd) := by
  obtain ⟨k1, k2, A, n, c, h1, h2, h3, h4⟩ := HR.out
  have hc0 : w.cell? ⟨gd, 0, none⟩ = some (.slice A n c) := by simpa using h1.cell 0
  have hc1 : w.cell? ⟨gd, 1, none⟩ = some (.int .i64 0) := by simpa using h1.cell 1
  have hf0 : w.frozen? ⟨gd, 0, none⟩ = false := h1.frozen 0
  obtain ⟨hl, hmx, hR⟩ := h4 rfl
  have hn1 : 1 ≤ n := by simp at hl; omega
  have hn : ((n : Int) == 0) = false := by simp; omega
  obtain ⟨bk, off, rfl, hbk, hcell⟩ := hR (by omega)
  have hcb : w.cell? ⟨bk, off, none⟩ = some (.int .u8 ((b.toNat : Nat) : Int)) := by simpa [vByte] using hcell 0 (by omega)
  have hcp : 1 ≤ c := by omega
  have HL := Lib.hid hl
  have HH := Lib.hid h1
  have HHR := Lib.hid hR
  clear hR h1 h4 hcell hl
  go_enter Tryz.func149, Tryz.ntmps149
  go_wp2
  · go_ret
    have hc1' : c = 1 := by assumption
    subst hc1'
    exact ⟨rfl, Rdr.step (c := 1) HH.out k1 k2 HHR.out HL.out hn1 h2 (by omega) hmx off (fun h => absurd rfl h), only_set (only_refl _ _) (.inl rfl) _⟩
  · go_ret
    exact ⟨rfl, Rdr.step HH.out k1 k2 HHR.out HL.out hn1 h2 (by omega) hmx (off + 1) (fun _ => rfl), only_set (only_refl _ _) (.inl rfl) _⟩

/-- Reading in a state. -/
def readU (rest : List UInt8) (err : Int) : Int × Nat × List UInt8 := if err = 0 then decU 0 0 rest else (err, 0, [])
theorem Rdr.any {w : World} {B gd : Nat} {rest : List UInt8} {err : Int} (h : Rdr w B gd rest err) (he : err ≠ 0) (rest' : List UInt8) : Rdr w B gd rest' err := by
  obtain ⟨k1, k2, A, n, c, h1, h2, h3, h4⟩ := h
  exact ⟨k1, k2, A, n, c, h1, h2, h3, fun h => absurd h he⟩
theorem Rdr.err_cell {w : World} {B gd : Nat} {rest : List UInt8} {err : Int} (h : Rdr w B gd rest err) : w.cell? ⟨gd, 1, none⟩ = some (.int .i64 err) ∧ w.frozen? ⟨gd, 1, none⟩ = false := by
  obtain ⟨_, _, A, n, c, h1, h2, h3, h4⟩ := h
  exact ⟨by simpa using h1.cell 1, h1.frozen 1⟩
theorem bad_cases {i : Nat} {c : UInt8} (h : badAt i c = true) :
    (((i : Int) == 9) = true ∧ 1 < ((c.toNat : Nat) : Int)) ∨ (((i : Int) == 9) = false ∧ 0 < (i : Int) ∧ (((c.toNat : Nat) : Int) == 0) = true) ∨ (((i : Int) == 9) = true ∧ ((c.toNat : Nat) : Int) ≤ 1 ∧ 0 < (i : Int) ∧ (((c.toNat : Nat) : Int) == 0) = true) := by
  unfold badAt at h
  simp at h ⊢
  omega
theorem ok_cases {i : Nat} {c : UInt8} (h : badAt i c = false) :
    (((i : Int) == 9) = true ∧ ((c.toNat : Nat) : Int) ≤ 1 ∧ 0 < (i : Int) ∧ (((c.toNat : Nat) : Int) == 0) = false) ∨ (((i : Int) == 9) = false ∧ 0 < (i : Int) ∧ (((c.toNat : Nat) : Int) == 0) = false) ∨ (((i : Int) == 9) = false ∧ (i : Int) ≤ 0) := by
  unfold badAt at h
  simp at h ⊢
  omega

set_option maxRecDepth 100000 in
set_option maxHeartbeats 400000 in
theorem ruint_any (B gd : Nat) (rest : List UInt8) (err : Int) (w : World) (HR : Hid (Rdr w B gd rest err)) :
    Calls Tryz.prog 77 #[.pointer (some ⟨gd, 0, none⟩)] w fun e w' => e = .returned (.int .u64 (((readU rest err).2.1 : Nat) : Int)) ∧ Rdr w' B gd (readU rest err).2.2 (readU rest err).1 ∧ w.grownBy w' (some gd) := by
  by_cases he : err = 0
  · subst he
    have HU := Lib.hid (show readU rest 0 = decU 0 0 rest from rfl)
    go_enter Tryz.func77, Tryz.ntmps77
    go_wp2
    go_loopw [3, 4] (fun nv iv wr => ∃ i acc : Nat, ∃ cur : List UInt8, i ≤ 9 ∧ iv = .int .i64 (i : Int) ∧ nv = .int .u64 (acc : Int) ∧ Hid (acc < 128 ^ i) ∧ acc ≤ 18446744073709551615 ∧ Hid (decU i acc cur = decU 0 0 rest) ∧ Hid (Rdr wr B gd cur 0) ∧ w.grownBy wr (some gd)) (fun _ iv _ => 10 - (intOf iv).toNat)
    case atStart => exact ⟨0, 0, rest, by omega, rfl, rfl, Lib.hid (by decide), by omega, Lib.hid rfl, HR, only_refl _ _⟩
    case round =>
      obtain ⟨i, acc, cur, hi, rfl, rfl, HA, hacc, HD, HRr, ho⟩ := hrel
      cases cur with
      | nil =>
        go_wp2_with fail
        refine (octet_nil B gd _ HRr).mono ?_
        rintro e w1 ⟨rfl, hR1, ho1⟩
        obtain ⟨hc1, hf1⟩ := hR1.err_cell
        go_wp2
        go_ret
        rw [HU.out, ← HD.out, decU_nil]
        exact ⟨rfl, hR1, ho.trans ho1⟩
      | cons c r =>
        go_wp2_with fail
        refine (octet_cons B gd c r _ HRr).mono ?_
        rintro e w1 ⟨rfl, hR1, ho1⟩
        replace ho := ho.trans ho1
        obtain ⟨hc1, hf1⟩ := hR1.err_cell
        have hcl := c.toNat_lt
        cases hbad : badAt i c with
        | true =>
          have HF := Lib.hid (hR1.fail 2 (by decide))
          rw [decU_bad hbad] at HD
          rcases bad_cases hbad with ⟨q1, q2⟩ | ⟨q1, q2, q3⟩ | ⟨q1, q2, q3, q4⟩
          all_goals
            clear hbad ho1
            go_wp2
            go_ret
            rw [HU.out, ← HD.out]
            exact ⟨rfl, HF.out, only_set ho (.inl rfl) _⟩
        | false =>
          rcases ok_cases hbad with ⟨q1, q2, q3, q4⟩ | ⟨q1, q2, q3⟩ | ⟨q1, q2⟩
          all_goals
            clear ho1
            have HB := Lib.hid (or_step (c := c) hi HA.out (fun h => by subst h; unfold badAt at hbad; simp at hbad; omega))
            by_cases hc : c.toNat < 128
            · rw [decU_end hbad hc] at HD
              clear hbad
              go_wp2
              go_ret
              rw [HU.out, ← HD.out, HB.out, Nat.mod_eq_of_lt hc]
              exact ⟨rfl, hR1, ho⟩
            · first
                | (exfalso; omega)
                | (rw [decU_go hbad (by omega)] at HD
                   have hi9 : i ≠ 9 := by rintro rfl; unfold badAt at hbad; simp at hbad; omega
                   have HA2 : Hid (acc + c.toNat % 128 * 128 ^ i < 128 ^ (i + 1)) := by
                     refine Lib.hid ?_
                     have h1 := HA.out
                     have h2 : c.toNat % 128 * 128 ^ i ≤ 127 * 128 ^ i := Nat.mul_le_mul (by omega) (Nat.le_refl _)
                     rw [Nat.pow_succ]; omega
                   have hle : acc + c.toNat % 128 * 128 ^ i ≤ 18446744073709551615 := by
                     have h1 := HA2.out
                     have h2 : 128 ^ (i + 1) ≤ 128 ^ 9 := Nat.pow_le_pow_right (by decide) (by omega)
                     omega
                   have HLE := Lib.hid hle
                   clear hbad hle
                   go_wp2
                   exact ⟨⟨i + 1, _, r, by omega, by go_num, congrArg (Value.int .u64) HB.out, HA2, HLE.out, HD, Lib.hid hR1, ho⟩, by simp [intOf]; omega⟩)
  · have HU := Lib.hid (show readU rest err = (err, 0, []) from if_neg he)
    obtain ⟨hc1, hf1⟩ := HR.out.err_cell
    have hq : (err != 0) = true := by simpa using he
    go_enter Tryz.func77, Tryz.ntmps77
    go_wp2
    go_loopw [3, 4] (fun nv iv wr => nv = .int .u64 0 ∧ iv = .int .i64 0 ∧ wr = w) (fun _ _ _ => 0)
    case atStart => exact ⟨rfl, rfl, rfl⟩
    case round =>
      obtain ⟨rfl, rfl, rfl⟩ := hrel
      go_wp2_with fail
      refine (octet_err B gd rest err _ HR he).mono ?_
      rintro e w1 ⟨rfl, rfl⟩
      clear he
      go_wp2
      go_ret
      rw [HU.out]
      exact ⟨rfl, HR.out.any (by simpa using hq) _, only_refl _ _⟩

end Go.Proofs.YtgjbbobphfejoaaGreatDoor

/- The walks of wire's Reader: Int, Bool, End, Read and the lists. -/
namespace Go.Proofs.YtgjbbobphfejoaaGreatDoor
open Go.RowKit

theorem readU_lt (rest : List UInt8) (err : Int) : (readU rest err).2.1 ≤ 18446744073709551615 := by
  unfold readU
  split
  · exact (decU_lt rest 0 0 (by decide) (by decide)).1
  · simp
set_option maxRecDepth 100000 in
set_option maxHeartbeats 400000 in
theorem rint_any (B gd : Nat) (rest : List UInt8) (err : Int) (w : World) (HR : Hid (Rdr w B gd rest err)) :
    Calls Tryz.prog 48 #[.pointer (some ⟨gd, 0, none⟩)] w fun e w' => e = .returned (.int .i64 (unzigI (readU rest err).2.1)) ∧ Rdr w' B gd (readU rest err).2.2 (readU rest err).1 ∧ w.grownBy w' (some gd) := by
  go_enter Tryz.func48, Tryz.ntmps48
  go_wp2_with (first
    | (go_at_call 77; ((with_reducible refine (ruint_any B gd rest err _ HR).mono ?_); rintro e w1 ⟨rfl, hR1, ho1⟩))
    | (go_at_call 78; ((with_reducible refine (unzigzag_any _ _ rfl _ (readU_lt rest err)).mono ?_); rintro e w2 ⟨rfl, rfl⟩)))
  go_ret
  exact ⟨rfl, hR1, ho1⟩

def endI (rest : List UInt8) (err : Int) : Int := if err = 0 then (if rest.length = 0 then 0 else 2) else err
set_option maxRecDepth 100000 in
set_option maxHeartbeats 400000 in
theorem rend_any (B gd : Nat) (rest : List UInt8) (err : Int) (w : World) (HR : Hid (Rdr w B gd rest err)) :
    Calls Tryz.prog 21 #[.pointer (some ⟨gd, 0, none⟩)] w fun e w' => e = .returned (.int .i64 (endI rest err)) ∧ w = w' := by
  obtain ⟨k1, k2, A, n, c, h1, h2, h3, h4⟩ := HR.out
  have hc0 : w.cell? ⟨gd, 0, none⟩ = some (.slice A n c) := by simpa using h1.cell 0
  have hc1 : w.cell? ⟨gd, 1, none⟩ = some (.int .i64 err) := by simpa using h1.cell 1
  by_cases he : err = 0
  · subst he
    have hl := (h4 rfl).1
    clear h1 h4
    by_cases hn : n = 0
    · have HE := Lib.hid (show endI rest 0 = 0 by unfold endI; rw [if_pos rfl, if_pos (by omega)])
      have hn' : (n : Int) ≤ 0 := by omega
      clear hl
      go_enter Tryz.func21, Tryz.ntmps21
      go_wp2
      go_ret
      rw [HE.out]
      exact ⟨rfl, rfl⟩
    · have HE := Lib.hid (show endI rest 0 = 2 by unfold endI; rw [if_pos rfl, if_neg (by omega)])
      have hn' : 0 < (n : Int) := by omega
      clear hl
      go_enter Tryz.func21, Tryz.ntmps21
      go_wp2
      go_ret
      rw [HE.out]
      exact ⟨rfl, rfl⟩
  · have HE := Lib.hid (show endI rest err = err by unfold endI; rw [if_neg he])
    have hq : (err != 0) = true := by simpa using he
    clear h1 h4 he
    go_enter Tryz.func21, Tryz.ntmps21
    go_wp2
    go_ret
    rw [HE.out]
    exact ⟨rfl, rfl⟩

/-- The blocks from lo to hi lie as they lay. -/
def Within (lo hi : Nat) (w w'' : World) : Prop := w.heap.size ≤ w''.heap.size ∧ ∀ b, lo ≤ b → b < hi → w''.heap[b]? = w.heap[b]?
theorem Within.grown {lo hi : Nat} {w w' w'' : World} {row : Option Nat} (h : Within lo hi w w') (hg : w'.grownBy w'' row) (hr : ∀ r, row = some r → r < lo ∨ hi ≤ r) (hhi : hi ≤ w.heap.size) : Within lo hi w w'' :=
  ⟨Nat.le_trans h.1 hg.size, fun b h1 h2 => (hg.block b (by have := h.1; omega) (fun e => by have := hr b e.symm; omega)).trans (h.2 b h1 h2)⟩
theorem Within.refl (lo hi : Nat) (w : World) : Within lo hi w w := ⟨Nat.le_refl _, fun _ _ _ => rfl⟩
set_option maxRecDepth 100000 in
set_option maxHeartbeats 400000 in
theorem read_any (A : Option Addr) (n c : Nat) (bs : List UInt8) (w : World) (HX : Hid (bs.length = n)) (hR : Rd w w.heap.size A n (vByte bs)) (hn : n ≤ 70368744177664) :
    Calls Tryz.prog 19 #[.slice A n c] w fun e w' => ∃ gd, e = .returned (.pointer (some ⟨gd, 0, none⟩)) ∧ w.heap.size ≤ gd ∧ Rdr w' w'.heap.size gd bs 0 ∧ Below w.heap.size w w' ∧ Hid (∀ w'', Within w.heap.size w'.heap.size w' w'' → Rdr w'' w'.heap.size gd bs 0) := by
  go_enter Tryz.func19, Tryz.ntmps19
  go_wp2_with (go_at_call 41; ((with_reducible refine (clone_any _ _ _ bs _ HX hR hn).mono ?_); rintro e w2 ⟨A', c', rfl, q1, q2, q3, q4, q5⟩))
  go_ret
  refine ⟨w2.heap.size, rfl, q5.size, ⟨by simp, Nat.le_refl _, A', n, c', Blk.new _ _ _, q1, q2, fun _ => ⟨HX.out, hn, (q4.alloc (Nat.le_refl _) _).more (by simp)⟩⟩, q5.alloc q5.size _, Lib.hid ?_⟩
  intro w'' hw
  refine ⟨by simp, hw.1, A', n, c', (hw.2 _ q5.size (by simp)).trans (Blk.new _ _ _), q1, q2, fun _ => ⟨HX.out, hn, fun h0 => ?_⟩⟩
  obtain ⟨g, rfl, hg1, hg2⟩ := own_some q3 h0
  obtain ⟨b, off, e, hb, hc⟩ := q4 h0
  cases e
  refine ⟨g, 0, rfl, by simp; omega, fun j hj => ?_⟩
  rw [World.cell?_of_block (w := w2.alloc _) (hw.2 g hg1 (by simp; omega)), ((Below.refl _ w2).alloc (Nat.le_refl _) _).cell hb]
  exact hc j hj

theorem only_more {a w w' : World} {gd : Nat} {row : Option Nat} (h : a.grownBy w (some gd)) (hg : w.grownBy w' row) (hr : ∀ r, row = some r → a.heap.size ≤ r) : a.grownBy w' (some gd) :=
  ⟨hg.os.trans h.os, hg.tape.trans h.tape, hg.output.trans h.output, Nat.le_trans h.size hg.size, fun i hi hne => (hg.block i (Nat.lt_of_lt_of_le hi h.size) (fun e => by have := hr i e.symm; omega)).trans (h.block i hi hne)⟩

def readRaw (rest : List UInt8) (err : Int) : Int × List UInt8 × List UInt8 := if err = 0 then decRaw rest else (err, [], [])
theorem readRaw_err {rest : List UInt8} {err : Int} (h : (readU rest err).1 ≠ 0) : readRaw rest err = ((readU rest err).1, [], []) := by
  unfold readRaw
  unfold readU at h ⊢
  split
  · rename_i he
    rw [if_pos he] at h
    unfold decRaw
    rw [if_pos h]
  · rfl
theorem readU_ok {rest : List UInt8} {err : Int} (h : (readU rest err).1 = 0) : err = 0 ∧ readU rest err = decU 0 0 rest := by
  unfold readU at h ⊢
  split at h
  · rename_i he
    exact ⟨he, if_pos he⟩
  · rename_i he
    exact absurd h he
theorem readRaw_more {rest : List UInt8} {err : Int} (h : (readU rest err).1 = 0) (h2 : (readU rest err).2.2.length < (readU rest err).2.1) : readRaw rest err = (3, [], []) := by
  obtain ⟨rfl, e⟩ := readU_ok h
  rw [e] at h h2
  unfold readRaw decRaw
  rw [if_pos rfl, if_neg (by simpa using h), if_pos h2]
theorem readRaw_ok {rest : List UInt8} {err : Int} (h : (readU rest err).1 = 0) (h2 : (readU rest err).2.1 ≤ (readU rest err).2.2.length) : readRaw rest err = (0, (readU rest err).2.2.take (readU rest err).2.1, (readU rest err).2.2.drop (readU rest err).2.1) := by
  obtain ⟨rfl, e⟩ := readU_ok h
  rw [e] at h h2 ⊢
  unfold readRaw decRaw
  rw [if_pos rfl, if_neg (by simpa using h), if_neg (by omega)]

set_option maxRecDepth 100000 in
set_option maxHeartbeats 1000000 in
theorem listb_any (B gd : Nat) (rest : List UInt8) (err : Int) (w : World) (HR : Hid (Rdr w B gd rest err)) :
    Calls Tryz.prog 180 #[.pointer (some ⟨gd, 0, none⟩), .func (.func 149) #[.pointer (some ⟨gd, 0, none⟩)] #[]] w fun e w' => ∃ A' n' c', e = .returned (.slice A' n' c') ∧ n' ≤ c' ∧ c' ≤ 9223372036854775807 ∧ n' ≤ 70368744177664 ∧ Hid ((readRaw rest err).2.1.length = n') ∧
      w'.ownsRow w.heap.size 5 1 (.slice A' n' c') n' ((readRaw rest err).2.1.map fun b => Value.int .u8 ((b.toNat : Nat) : Int)) ∧ Rdr w' B gd (readRaw rest err).2.2 (readRaw rest err).1 ∧ w.grownBy w' (some gd) := by
  obtain ⟨i0, hi, hz0, hz1, hz2⟩ := info_parts info_u8
  have hgB := HR.out.lt
  go_enter Tryz.func180, Tryz.ntmps180
  go_wp2_with fail
  refine (ruint_any B gd rest err _ HR).mono ?_
  rintro e w1 ⟨rfl, hR1, ho1⟩
  have hlt := readU_lt rest err
  by_cases he : (readU rest err).1 = 0
  · by_cases hm : (readU rest err).2.2.length < (readU rest err).2.1
    · have HE := Lib.hid (readRaw_more he hm)
      generalize readU rest err = q at *
      obtain ⟨e1, n, r1⟩ := q
      simp only at *
      subst he
      obtain ⟨k1, k2, A, m, c, h1, h2, h3, h4⟩ := hR1
      obtain ⟨hl, hmx, hRd⟩ := h4 rfl
      have hc0 : w1.cell? ⟨gd, 0, none⟩ = some (.slice A m c) := by simpa using h1.cell 0
      have hc1 : w1.cell? ⟨gd, 1, none⟩ = some (.int .i64 0) := by simpa using h1.cell 1
      have hf1 : w1.frozen? ⟨gd, 1, none⟩ = false := h1.frozen 1
      have HF := Lib.hid (Rdr.fail (rest := r1) ⟨k1, k2, A, m, c, h1, h2, h3, h4⟩ 3 (by decide))
      have hmn : m < n := by omega
      clear h1 h4 hl hm
      go_wp2
      go_ret
      rw [HE.out]
      exact ⟨none, 0, 0, rfl, by omega, by omega, by omega, Lib.hid rfl, World.ownsRow_nil _ _ _ _, HF.out, only_set ho1 (.inl rfl) _⟩
    · have HE := Lib.hid (readRaw_ok he (by omega))
      generalize readU rest err = q at *
      obtain ⟨e1, n, r1⟩ := q
      simp only at *
      subst he
      obtain ⟨k1, k2, A, m, c, h1, h2, h3, h4⟩ := hR1
      obtain ⟨hl, hmx, hRd⟩ := h4 rfl
      have hc0 : w1.cell? ⟨gd, 0, none⟩ = some (.slice A m c) := by simpa using h1.cell 0
      have hc1 : w1.cell? ⟨gd, 1, none⟩ = some (.int .i64 0) := by simpa using h1.cell 1
      have hR1 : Rdr w1 B gd r1 0 := ⟨k1, k2, A, m, c, h1, h2, h3, h4⟩
      have hmn : n ≤ m := by omega
      have hmd : decide (m < n) = false := by simpa using hmn
      have HL : Hid (r1.length = m) := Lib.hid hl
      obtain ⟨w2, hmk, hown2, hb2, hs2⟩ := make_rd (P := Tryz.prog) w1 55 5 i0 _ 1 Tryz.underlying55 hi hz0 hz1 hz2 .i64 .i64 n (by omega) (by unfold maxLen; omega)
      have hR2 := Lib.hid (hR1.all hb2)
      have ho2 := only_below ho1 hb2
      have hown2' := own_lower hown2 ho1.size
      clear h1 h4 hl hm hown2 hb2 hRd hR1
      go_wp2
      go_loopw [6, 30] (fun v iv wr => ∃ k : Nat, k ≤ n ∧ iv = .int .i64 (k : Int) ∧ wr.ownsRow w.heap.size 5 1 v k ((r1.take k).map fun b => Value.int .u8 ((b.toNat : Nat) : Int)) ∧ Hid (Rdr wr B gd (r1.drop k) 0) ∧ w.grownBy wr (some gd)) (fun _ iv _ => n - (intOf iv).toNat)
      case atStart => exact ⟨0, by omega, rfl, hown2', hR2, ho2⟩
      case round =>
        clear hown2' hR2 ho2 ho1 hmk hc0 hc1 hs2
        obtain ⟨k, hk, rfl, hown, HRr, ho⟩ := hrel
        obtain ⟨v6, rfl⟩ : ∃ x, x = u6 := ⟨_, rfl⟩
        by_cases hlt : k < n
        · have hkl : k < r1.length := by rw [HL.out]; omega
          have ed : r1.drop k = r1[k] :: r1.drop (k + 1) := List.drop_eq_getElem_cons hkl
          have et : r1.take (k + 1) = r1.take k ++ [r1[k]] := List.take_succ_eq_append_getElem hkl
          rw [ed] at HRr
          have HT := Lib.hid et
          generalize r1[k] = x at *
          clear ed et hkl
          go_wp2_with fail
          refine (octet_cons B gd x _ _ HRr).mono ?_
          rintro e w3 ⟨rfl, hR3, ho3⟩
          have hown3 := hown.kept ho3 (.inr (fun e => by have := (hown.lt gd e).1; omega))
          obtain ⟨g, cap, w4, hap, hown4, hg4, _, _⟩ := run_append_one (P := Tryz.prog) w3 w.heap.size 55 55 5 i0 _ 1 Tryz.underlying55 hi hz0 hz1 hz2 rfl _ _ _ hown3 (.int .u8 ((x.toNat : Nat) : Int)) rfl (by unfold maxLen; omega) (by omega) (Nat.le_trans ho.size ho3.size)
          have HA := Lib.hid hap; clear hap
          have hR4 := hR3.grown hg4 (fun r er => by have := (hown3.lt r er).1; omega)
          have ho4 := only_more (ho.trans ho3) hg4 (fun r er => (hown3.lt r er).1)
          obtain ⟨hc1, hf1⟩ := hR4.err_cell
          have HR4 := Lib.hid hR4
          clear hR3 hown3 hg4 ho3 hR4
          go_wp2_with (at_builtin; refine wpList_append_run HA.out rfl rfl rfl rfl ?_)
          refine ⟨⟨k + 1, by omega, by go_num, ?_, HR4, ho4⟩, by simp [intOf]; omega⟩
          rw [HT.out, List.map_append]
          exact hown4
        · obtain rfl : k = n := by omega
          obtain ⟨A', c', rfl⟩ := own_slice hown
          have hr := rd_bytes hown
          go_wp2
          go_ret
          rw [HE.out]
          exact ⟨A', k, c', rfl, hr.2.1, own_cap hown, by omega, Lib.hid (by simp [HL.out]; omega), hown, HRr.out, ho⟩
  · have HE := Lib.hid (readRaw_err he)
    obtain ⟨hc1, hf1⟩ := hR1.err_cell
    generalize readU rest err = q at *
    obtain ⟨e1, n, r1⟩ := q
    simp only at *
    have hq : (e1 != 0) = true := by simpa using he
    go_wp2
    go_ret
    rw [HE.out]
    exact ⟨none, 0, 0, rfl, by omega, by omega, by omega, Lib.hid rfl, World.ownsRow_nil _ _ _ _, hR1.any he _, ho1⟩

set_option maxRecDepth 100000 in
set_option maxHeartbeats 400000 in
theorem rraw_any (B gd : Nat) (rest : List UInt8) (err : Int) (w : World) (HR : Hid (Rdr w B gd rest err)) :
    Calls Tryz.prog 152 #[.pointer (some ⟨gd, 0, none⟩)] w fun e w' => ∃ A' n' c', e = .returned (.slice A' n' c') ∧ n' ≤ c' ∧ c' ≤ 9223372036854775807 ∧ n' ≤ 70368744177664 ∧ Hid ((readRaw rest err).2.1.length = n') ∧
      w'.ownsRow w.heap.size 5 1 (.slice A' n' c') n' ((readRaw rest err).2.1.map fun b => Value.int .u8 ((b.toNat : Nat) : Int)) ∧ Rdr w' B gd (readRaw rest err).2.2 (readRaw rest err).1 ∧ w.grownBy w' (some gd) := by
  go_enter Tryz.func152, Tryz.ntmps152
  go_wp2_with (go_at_call 180; ((with_reducible refine (listb_any B gd rest err _ HR).mono ?_); rintro e w2 ⟨A', n', c', rfl, q1, q2, q3, q4, q5, q6, q7⟩))
  go_ret
  exact ⟨A', n', c', rfl, q1, q2, q3, q4, q5, q6, q7⟩


def readInts (rest : List UInt8) (err : Int) : Int × List Int × List UInt8 := if err = 0 then decInts rest else (err, [], [])
theorem readInts_err {rest : List UInt8} {err : Int} (h : (readU rest err).1 ≠ 0) : readInts rest err = ((readU rest err).1, [], []) := by
  unfold readInts
  unfold readU at h ⊢
  split
  · rename_i he
    rw [if_pos he] at h
    unfold decInts
    rw [if_pos h]
  · rfl
theorem readInts_more {rest : List UInt8} {err : Int} (h : (readU rest err).1 = 0) (h2 : (readU rest err).2.2.length < (readU rest err).2.1) : readInts rest err = (3, [], []) := by
  obtain ⟨rfl, e⟩ := readU_ok h
  rw [e] at h h2
  unfold readInts decInts
  rw [if_pos rfl, if_neg (by simpa using h), if_pos h2]
theorem readInts_ok {rest : List UInt8} {err : Int} (h : (readU rest err).1 = 0) (h2 : (readU rest err).2.1 ≤ (readU rest err).2.2.length) : readInts rest err = decK (readU rest err).2.1 (readU rest err).2.2 := by
  obtain ⟨rfl, e⟩ := readU_ok h
  rw [e] at h h2 ⊢
  unfold readInts decInts
  rw [if_pos rfl, if_neg (by simpa using h), if_neg (by omega)]
/-- Numbers ahead of what is read. -/
def ahead (pre : List Int) (q : Int × List Int × List UInt8) : Int × List Int × List UInt8 := if q.1 = 0 then (0, pre ++ q.2.1, q.2.2) else (q.1, [], [])
theorem decK_out : ∀ (k : Nat) (r : List UInt8), (decK k r).1 = 0 ∨ (decK k r).2 = ([], [])
  | 0, r => .inl rfl
  | k + 1, r => by
    rw [decK]
    split
    · exact .inr rfl
    · split
      · exact .inr rfl
      · exact .inl rfl
theorem ahead_nil (k : Nat) (r : List UInt8) : ahead [] (decK k r) = decK k r := by
  unfold ahead
  split
  · rename_i h; rw [List.nil_append, ← h]
  · rename_i h
    rcases decK_out k r with h2 | h2
    · exact absurd h2 h
    · rw [← h2]
theorem ahead_bad {pre : List Int} {k : Nat} {r : List UInt8} (h : (decU 0 0 r).1 ≠ 0) : ahead pre (decK (k + 1) r) = ((decU 0 0 r).1, [], []) := by
  rw [decK, if_pos h]
  unfold ahead
  rw [if_neg h]
theorem ahead_go {pre : List Int} {k : Nat} {r : List UInt8} (h : (decU 0 0 r).1 = 0) : ahead pre (decK (k + 1) r) = ahead (pre ++ [unzigI (decU 0 0 r).2.1]) (decK k (decU 0 0 r).2.2) := by
  rw [decK, if_neg (by simpa using h)]
  unfold ahead
  by_cases h2 : (decK k (decU 0 0 r).2.2).1 = 0
  · simp [h2]
  · simp [h2]
theorem info_i64 : (Tryz.prog.info? 3).map (fun i => (i.zero, i.size, i.bytes)) = some (some (.int .i64 0), 1, 8) := by kernel_rfl

set_option maxRecDepth 100000 in
set_option maxHeartbeats 1000000 in
theorem listi_any (B gd : Nat) (rest : List UInt8) (err : Int) (w : World) (HR : Hid (Rdr w B gd rest err)) (hbig : rest.length ≤ 17592186044416) :
    Calls Tryz.prog 47 #[.pointer (some ⟨gd, 0, none⟩), .func (.func 48) #[.pointer (some ⟨gd, 0, none⟩)] #[]] w fun e w' => ∃ A' n' c', e = .returned (.slice A' n' c') ∧ n' ≤ c' ∧ c' ≤ 9223372036854775807 ∧ n' ≤ 17592186044416 ∧ Hid ((readInts rest err).2.1.length = n') ∧
      w'.ownsRow w.heap.size 3 1 (.slice A' n' c') n' ((readInts rest err).2.1.map (Value.int .i64)) ∧ Rdr w' B gd (readInts rest err).2.2 (readInts rest err).1 ∧ w.grownBy w' (some gd) := by
  obtain ⟨i0, hi, hz0, hz1, hz2⟩ := info_parts info_i64
  have hgB := HR.out.lt
  have hbig2 : (readU rest err).2.2.length ≤ 17592186044416 := by
    unfold readU
    split
    · have := (decU_lt rest 0 0 (by decide) (by decide)).2; omega
    · simp
  go_enter Tryz.func47, Tryz.ntmps47
  go_wp2_with fail
  refine (ruint_any B gd rest err _ HR).mono ?_
  rintro e w1 ⟨rfl, hR1, ho1⟩
  have hlt := readU_lt rest err
  by_cases he : (readU rest err).1 = 0
  · by_cases hm : (readU rest err).2.2.length < (readU rest err).2.1
    · have HE := Lib.hid (readInts_more he hm)
      generalize readU rest err = q at *
      obtain ⟨e1, n, r1⟩ := q
      simp only at *
      subst he
      obtain ⟨k1, k2, A, m, c, h1, h2, h3, h4⟩ := hR1
      obtain ⟨hl, hmx, hRd⟩ := h4 rfl
      have hc0 : w1.cell? ⟨gd, 0, none⟩ = some (.slice A m c) := by simpa using h1.cell 0
      have hc1 : w1.cell? ⟨gd, 1, none⟩ = some (.int .i64 0) := by simpa using h1.cell 1
      have hf1 : w1.frozen? ⟨gd, 1, none⟩ = false := h1.frozen 1
      have HF := Lib.hid (Rdr.fail (rest := r1) ⟨k1, k2, A, m, c, h1, h2, h3, h4⟩ 3 (by decide))
      have hmn : m < n := by omega
      clear h1 h4 hl hm
      go_wp2
      go_ret
      rw [HE.out]
      exact ⟨none, 0, 0, rfl, by omega, by omega, by omega, Lib.hid rfl, World.ownsRow_nil _ _ _ _, HF.out, only_set ho1 (.inl rfl) _⟩
    · have HE := Lib.hid (readInts_ok he (by omega))
      generalize readU rest err = q at *
      obtain ⟨e1, n, r1⟩ := q
      simp only at *
      subst he
      obtain ⟨k1, k2, A, m, c, h1, h2, h3, h4⟩ := hR1
      obtain ⟨hl, hmx, hRd⟩ := h4 rfl
      have hc0 : w1.cell? ⟨gd, 0, none⟩ = some (.slice A m c) := by simpa using h1.cell 0
      have hc1 : w1.cell? ⟨gd, 1, none⟩ = some (.int .i64 0) := by simpa using h1.cell 1
      have hR1 : Rdr w1 B gd r1 0 := ⟨k1, k2, A, m, c, h1, h2, h3, h4⟩
      have hmn : n ≤ m := by omega
      have hmd : decide (m < n) = false := by simpa using hmn
      have hn17 : n ≤ 17592186044416 := by omega
      obtain ⟨w2, hmk, hown2, hb2, hs2⟩ := make_rd (P := Tryz.prog) w1 22 3 i0 _ 8 Tryz.underlying22 hi hz0 hz1 hz2 .i64 .i64 n (by omega) (by unfold maxLen; omega)
      have hR2 := Lib.hid (hR1.all hb2)
      have ho2 := only_below ho1 hb2
      have hown2' := own_lower hown2 ho1.size
      clear h1 h4 hl hm hown2 hb2 hRd hR1
      go_wp2
      go_loopw [6, 30] (fun v iv wr => ∃ k : Nat, ∃ pre : List Int, ∃ cur : List UInt8, k ≤ n ∧ iv = .int .i64 (k : Int) ∧ wr.ownsRow w.heap.size 3 1 v k (pre.map (Value.int .i64)) ∧ Hid (ahead pre (decK (n - k) cur) = decK n r1) ∧ Hid (Rdr wr B gd cur 0) ∧ w.grownBy wr (some gd)) (fun _ iv _ => n - (intOf iv).toNat)
      case atStart => exact ⟨0, [], r1, by omega, rfl, hown2', Lib.hid (ahead_nil _ _), hR2, ho2⟩
      case round =>
        clear hown2' hR2 ho2 ho1 hmk hc0 hc1 hs2
        obtain ⟨k, pre, cur, hk, rfl, hown, HD, HRr, ho⟩ := hrel
        obtain ⟨v6, rfl⟩ : ∃ x, x = u6 := ⟨_, rfl⟩
        by_cases hlt : k < n
        · have hnk : n - k = (n - (k + 1)) + 1 := by omega
          rw [hnk] at HD
          clear hnk
          go_wp2_with fail
          refine (rint_any B gd cur 0 _ HRr).mono ?_
          rw [show readU cur 0 = decU 0 0 cur from rfl]
          rintro e w3 ⟨rfl, hR3, ho3⟩
          have hown3 := hown.kept ho3 (.inr (fun e => by have := (hown.lt gd e).1; omega))
          obtain ⟨g, cap, w4, hap, hown4, hg4, _, _⟩ := run_append_one (P := Tryz.prog) w3 w.heap.size 22 22 3 i0 _ 8 Tryz.underlying22 hi hz0 hz1 hz2 rfl _ _ _ hown3 (.int .i64 (unzigI (decU 0 0 cur).2.1)) rfl (by unfold maxLen; omega) (by omega) (Nat.le_trans ho.size ho3.size)
          have HA := Lib.hid hap; clear hap
          have hR4 := hR3.grown hg4 (fun r er => by have := (hown3.lt r er).1; omega)
          have ho4 := only_more (ho.trans ho3) hg4 (fun r er => (hown3.lt r er).1)
          obtain ⟨hc1, hf1⟩ := hR4.err_cell
          have HR4 := Lib.hid hR4
          clear hR3 hown3 hg4 ho3 hR4
          by_cases hq : (decU 0 0 cur).1 = 0
          · rw [ahead_go hq] at HD
            rw [hq] at HR4 hc1
            clear hq
            go_wp2_with (at_builtin; refine wpList_append_run HA.out rfl rfl rfl rfl ?_)
            refine ⟨⟨k + 1, _, _, by omega, by go_num, ?_, HD, HR4, ho4⟩, by simp [intOf]; omega⟩
            rw [List.map_append]
            exact hown4
          · rw [ahead_bad hq] at HD
            have hq' : ((decU 0 0 cur).1 != 0) = true := by simpa using hq
            go_wp2_with (at_builtin; refine wpList_append_run HA.out rfl rfl rfl rfl ?_)
            go_ret
            rw [HE.out, ← HD.out]
            exact ⟨none, 0, 0, rfl, by omega, by omega, by omega, Lib.hid rfl, World.ownsRow_nil _ _ _ _, HR4.out.any (by simpa using hq') _, ho4⟩
        · obtain rfl : k = n := by omega
          obtain ⟨A', c', rfl⟩ := own_slice hown
          have hr := rd_ints hown
          have HL := Lib.hid (show pre.length = k by simpa using hown.1)
          have HP : Hid (decK k r1 = (0, pre, cur)) := Lib.hid (by rw [← HD.out, Nat.sub_self]; simp [decK, ahead])
          go_wp2
          go_ret
          rw [HE.out, HP.out]
          exact ⟨A', k, c', rfl, hr.2.1, own_cap hown, by omega, HL, hown, HRr.out, ho⟩
  · have HE := Lib.hid (readInts_err he)
    obtain ⟨hc1, hf1⟩ := hR1.err_cell
    generalize readU rest err = q at *
    obtain ⟨e1, n, r1⟩ := q
    simp only at *
    have hq : (e1 != 0) = true := by simpa using he
    go_wp2
    go_ret
    rw [HE.out]
    exact ⟨none, 0, 0, rfl, by omega, by omega, by omega, Lib.hid rfl, World.ownsRow_nil _ _ _ _, hR1.any he _, ho1⟩

set_option maxRecDepth 100000 in
set_option maxHeartbeats 400000 in
theorem rints_any (B gd : Nat) (rest : List UInt8) (err : Int) (w : World) (HR : Hid (Rdr w B gd rest err)) (hbig : rest.length ≤ 17592186044416) :
    Calls Tryz.prog 20 #[.pointer (some ⟨gd, 0, none⟩)] w fun e w' => ∃ A' n' c', e = .returned (.slice A' n' c') ∧ n' ≤ c' ∧ c' ≤ 9223372036854775807 ∧ n' ≤ 17592186044416 ∧ Hid ((readInts rest err).2.1.length = n') ∧
      w'.ownsRow w.heap.size 3 1 (.slice A' n' c') n' ((readInts rest err).2.1.map (Value.int .i64)) ∧ Rdr w' B gd (readInts rest err).2.2 (readInts rest err).1 ∧ w.grownBy w' (some gd) := by
  go_enter Tryz.func20, Tryz.ntmps20
  go_wp2_with (go_at_call 47; ((with_reducible refine (listi_any B gd rest err _ HR hbig).mono ?_); rintro e w2 ⟨A', n', c', rfl, q1, q2, q3, q4, q5, q6, q7⟩))
  go_ret
  exact ⟨A', n', c', rfl, q1, q2, q3, q4, q5, q6, q7⟩

end Go.Proofs.YtgjbbobphfejoaaGreatDoor
