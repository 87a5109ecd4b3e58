/- Part 2 of the texts that JournalFull needs: WireReader WireReader2 WireRound JrnPlain Frame WireMod RefHelp WireLives WireMore RowIs WireVal. -/
import Derived.Lib.Hide
import Derived.Test.YtldmokjpfnakkaaProg
import Derived.WalkKit
import Derived.WalkSpells
import Derived.WalkLawsBesides
import Derived.Deep.QuietTactic
import Derived.BigQuiet
import Derived.Test.YtldmokjpfnakkaaGJournalFull1

/- The walks of wire's Reader. -/
namespace Go.Proofs.Ytldmokjpfnakkaa
open Go.RowKit

/-- A Reader at block gd: at no error the bytes that are left. -/
def Rdr (w : World) (B gd : Nat) (rest : List UInt8) (err : Int) : Prop :=
  gd < B ∧ B ≤ w.heap.size ∧ ∃ A n c, Blk w gd 74 #[.slice A n c, .int .i64 err] ∧ n ≤ c ∧ c ≤ 9223372036854775807 ∧ (err = 0 → rest.length = n ∧ n ≤ 70368744177664 ∧ Rd w B A n (vByte rest))
theorem Rdr.grown {w w' : World} {B gd : Nat} {rest : List UInt8} {err : Int} {row : Option Nat} (h : Rdr w B gd rest err) (hg : w.grownBy w' row) (hr : ∀ r, row = some r → B ≤ r) : Rdr w' B gd rest err := by
  obtain ⟨k1, k2, A, n, c, h1, h2, h3, h4⟩ := h
  have hne : ∀ b, b < B → some b ≠ row := fun b hb e => by have := hr b e.symm; omega
  refine ⟨k1, Nat.le_trans k2 hg.size, A, n, c, h1.grown hg (hne gd k1), h2, h3, fun e => ⟨(h4 e).1, (h4 e).2.1, ?_⟩⟩
  exact (h4 e).2.2.keep fun b hb => hg.block b (by omega) (hne b hb)
theorem Rdr.all {w w' : World} {B gd : Nat} {rest : List UInt8} {err : Int} (h : Rdr w B gd rest err) (hb : Below w.heap.size w w') : Rdr w' B gd rest err :=
  h.grown (only_of_below hb none) (fun _ e => by cases e)
theorem Rdr.more {w : World} {B B' gd : Nat} {rest : List UInt8} {err : Int} (h : Rdr w B gd rest err) (hB : B ≤ B') (hB' : B' ≤ w.heap.size) : Rdr w B' gd rest err := by
  obtain ⟨k1, k2, A, n, c, h1, h2, h3, h4⟩ := h
  exact ⟨by omega, hB', A, n, c, h1, h2, h3, fun e => ⟨(h4 e).1, (h4 e).2.1, (h4 e).2.2.more hB⟩⟩
theorem Rdr.lt {w : World} {B gd : Nat} {rest : List UInt8} {err : Int} (h : Rdr w B gd rest err) : gd < B ∧ B ≤ w.heap.size := ⟨h.1, h.2.1⟩
/-- The row of what is left does not lie in the Reader's own block. -/
theorem rd_set {w : World} {B gd n m c k : Nat} {A A' : Option Addr} {bs : List UInt8} {T : TypeId} {err : Int} {u : Value} (hR : Rd w B A n (vByte bs)) (hD : Blk w gd T #[.slice A' m c, .int .i64 err]) : Rd (w.setCell ⟨gd, k, none⟩ u) B A n (vByte bs) := by
  intro h
  obtain ⟨b, off, e, hb, hc⟩ := hR h
  have hne : b ≠ gd := by
    rintro rfl
    have h0 := hc 0 h
    rw [Nat.add_zero, Blk.cell hD off] at h0
    rcases off with _ | _ | off <;> simp [vByte] at h0
  exact ⟨b, off, e, hb, fun j hj => (World.cell?_of_block (w := w) (Below.heap_setCell w _ u b hne)).trans (hc j hj)⟩
/-- An error is recorded. -/
theorem Rdr.fail {w : World} {B gd : Nat} {rest : List UInt8} {err : Int} (h : Rdr w B gd rest err) (e : Int) (he : e ≠ 0) : Rdr (w.setCell ⟨gd, 1, none⟩ (.int .i64 e)) B gd [] e := by
  obtain ⟨k1, k2, A, n, c, h1, h2, h3, h4⟩ := h
  exact ⟨k1, by simpa [World.setCell] using k2, A, n, c, by simpa using h1.set_ 1 (.int .i64 e), h2, h3, fun h => absurd h he⟩

set_option maxRecDepth 100000 in
set_option maxHeartbeats 400000 in
theorem octet_err (B gd : Nat) (rest : List UInt8) (err : Int) (w : World) (HR : Hid (Rdr w B gd rest err)) (he : err ≠ 0) :
    Calls Try.prog 47 #[.pointer (some ⟨gd, 0, none⟩)] w fun e w' => e = .returned (.int .u8 0) ∧ w = w' := by
  obtain ⟨k1, k2, A, n, c, h1, h2, h3, h4⟩ := HR.out
  have hc1 : w.cell? ⟨gd, 1, none⟩ = some (.int .i64 err) := by simpa using h1.cell 1
  have hb : (err != 0) = true := by simpa using he
  clear h1 h4 he
  go_enter Try.func47, Try.ntmps47
  go_wp2
  go_ret
  exact ⟨rfl, rfl⟩

set_option maxRecDepth 100000 in
set_option maxHeartbeats 400000 in
theorem octet_nil (B gd : Nat) (w : World) (HR : Hid (Rdr w B gd [] 0)) :
    Calls Try.prog 47 #[.pointer (some ⟨gd, 0, none⟩)] w fun e w' => e = .returned (.int .u8 0) ∧ Rdr w' B gd [] 3 ∧ w.grownBy w' (some gd) := by
  obtain ⟨k1, k2, A, n, c, h1, h2, h3, h4⟩ := HR.out
  have hc0 : w.cell? ⟨gd, 0, none⟩ = some (.slice A n c) := by simpa using h1.cell 0
  have hc1 : w.cell? ⟨gd, 1, none⟩ = some (.int .i64 0) := by simpa using h1.cell 1
  have hf1 : w.frozen? ⟨gd, 1, none⟩ = false := h1.frozen 1
  have hn : ((n : Int) == 0) = true := by have := (h4 rfl).1; simp at this; simp; omega
  have HF := Lib.hid (HR.out.fail 3 (by decide))
  clear h1 h4
  go_enter Try.func47, Try.ntmps47
  go_wp2
  go_ret
  exact ⟨rfl, HF.out, only_set (only_refl _ _) (.inl rfl) _⟩

theorem Rdr.step {w : World} {B gd n c bk off : Nat} {b : UInt8} {r : List UInt8} (hB : Blk w gd 74 #[.slice (some ⟨bk, off, none⟩) n c, .int .i64 0]) (k1 : gd < B) (k2 : B ≤ w.heap.size) (hR : Rd w B (some ⟨bk, off, none⟩) n (vByte (b :: r))) (hl : (b :: r).length = n) (hn : 1 ≤ n) (hnc : n ≤ c) (hc : c ≤ 9223372036854775807) (hm : n ≤ 70368744177664)
    (o' : Nat) (ho : c ≠ 1 → o' = off + 1) : Rdr (w.setCell ⟨gd, 0, none⟩ (.slice (some ⟨bk, o', none⟩) (n - 1) (c - 1))) B gd r 0 := by
  refine ⟨k1, by simpa [World.setCell] using k2, some ⟨bk, o', none⟩, n - 1, c - 1, by simpa using hB.set_ 0 (.slice (some ⟨bk, o', none⟩) (n - 1) (c - 1)), by omega, by omega, fun _ => ⟨by simp at hl; omega, by omega, ?_⟩⟩
  refine rd_set (T := 74) (A' := some ⟨bk, off, none⟩) (m := n) (c := c) (err := 0) ?_ hB
  intro h0
  have := ho (by omega)
  subst this
  obtain ⟨b', off', e, hb, hcell⟩ := hR (by omega)
  cases e
  exact ⟨bk, off + 1, rfl, hb, fun j hj => by
    rw [Nat.add_right_comm, Nat.add_assoc, hcell (j + 1) (by omega)]
    simp [vByte]⟩
set_option maxRecDepth 100000 in
set_option maxHeartbeats 400000 in
theorem octet_cons (B gd : Nat) (b : UInt8) (r : List UInt8) (w : World) (HR : Hid (Rdr w B gd (b :: r) 0)) :
    Calls Try.prog 47 #[.pointer (some ⟨gd, 0, none⟩)] w fun e w' => e = .returned (.int .u8 ((b.toNat : Nat) : Int)) ∧ Rdr w' B gd r 0 ∧ w.grownBy w' (some gd) := by
  obtain ⟨k1, k2, A, n, c, h1, h2, h3, h4⟩ := HR.out
  have hc0 : w.cell? ⟨gd, 0, none⟩ = some (.slice A n c) := by simpa using h1.cell 0
  have hc1 : w.cell? ⟨gd, 1, none⟩ = some (.int .i64 0) := by simpa using h1.cell 1
  have hf0 : w.frozen? ⟨gd, 0, none⟩ = false := h1.frozen 0
  obtain ⟨hl, hmx, hR⟩ := h4 rfl
  have hn1 : 1 ≤ n := by simp at hl; omega
  have hn : ((n : Int) == 0) = false := by simp; omega
  obtain ⟨bk, off, rfl, hbk, hcell⟩ := hR (by omega)
  have hcb : w.cell? ⟨bk, off, none⟩ = some (.int .u8 ((b.toNat : Nat) : Int)) := by simpa [vByte] using hcell 0 (by omega)
  have hcp : 1 ≤ c := by omega
  have HL := Lib.hid hl
  have HH := Lib.hid h1
  have HHR := Lib.hid hR
  clear hR h1 h4 hcell hl
  go_enter Try.func47, Try.ntmps47
  go_wp2
  · go_ret
    have hc1' : c = 1 := by assumption
    subst hc1'
    exact ⟨rfl, Rdr.step (c := 1) HH.out k1 k2 HHR.out HL.out hn1 h2 (by omega) hmx off (fun h => absurd rfl h), only_set (only_refl _ _) (.inl rfl) _⟩
  · go_ret
    exact ⟨rfl, Rdr.step HH.out k1 k2 HHR.out HL.out hn1 h2 (by omega) hmx (off + 1) (fun _ => rfl), only_set (only_refl _ _) (.inl rfl) _⟩

/-- Reading in a state. -/
def readU (rest : List UInt8) (err : Int) : Int × Nat × List UInt8 := if err = 0 then decU 0 0 rest else (err, 0, [])
theorem Rdr.any {w : World} {B gd : Nat} {rest : List UInt8} {err : Int} (h : Rdr w B gd rest err) (he : err ≠ 0) (rest' : List UInt8) : Rdr w B gd rest' err := by
  obtain ⟨k1, k2, A, n, c, h1, h2, h3, h4⟩ := h
  exact ⟨k1, k2, A, n, c, h1, h2, h3, fun h => absurd h he⟩
theorem Rdr.err_cell {w : World} {B gd : Nat} {rest : List UInt8} {err : Int} (h : Rdr w B gd rest err) : w.cell? ⟨gd, 1, none⟩ = some (.int .i64 err) ∧ w.frozen? ⟨gd, 1, none⟩ = false := by
  obtain ⟨_, _, A, n, c, h1, h2, h3, h4⟩ := h
  exact ⟨by simpa using h1.cell 1, h1.frozen 1⟩
theorem bad_cases {i : Nat} {c : UInt8} (h : badAt i c = true) :
    (((i : Int) == 9) = true ∧ 1 < ((c.toNat : Nat) : Int)) ∨ (((i : Int) == 9) = false ∧ 0 < (i : Int) ∧ (((c.toNat : Nat) : Int) == 0) = true) ∨ (((i : Int) == 9) = true ∧ ((c.toNat : Nat) : Int) ≤ 1 ∧ 0 < (i : Int) ∧ (((c.toNat : Nat) : Int) == 0) = true) := by
  unfold badAt at h
  simp at h ⊢
  omega
theorem ok_cases {i : Nat} {c : UInt8} (h : badAt i c = false) :
    (((i : Int) == 9) = true ∧ ((c.toNat : Nat) : Int) ≤ 1 ∧ 0 < (i : Int) ∧ (((c.toNat : Nat) : Int) == 0) = false) ∨ (((i : Int) == 9) = false ∧ 0 < (i : Int) ∧ (((c.toNat : Nat) : Int) == 0) = false) ∨ (((i : Int) == 9) = false ∧ (i : Int) ≤ 0) := by
  unfold badAt at h
  simp at h ⊢
  omega

set_option maxRecDepth 100000 in
set_option maxHeartbeats 400000 in
theorem ruint_any (B gd : Nat) (rest : List UInt8) (err : Int) (w : World) (HR : Hid (Rdr w B gd rest err)) :
    Calls Try.prog 26 #[.pointer (some ⟨gd, 0, none⟩)] w fun e w' => e = .returned (.int .u64 (((readU rest err).2.1 : Nat) : Int)) ∧ Rdr w' B gd (readU rest err).2.2 (readU rest err).1 ∧ w.grownBy w' (some gd) := by
  by_cases he : err = 0
  · subst he
    have HU := Lib.hid (show readU rest 0 = decU 0 0 rest from rfl)
    go_enter Try.func26, Try.ntmps26
    go_wp2
    go_loopw [3, 4] (fun nv iv wr => ∃ i acc : Nat, ∃ cur : List UInt8, i ≤ 9 ∧ iv = .int .i64 (i : Int) ∧ nv = .int .u64 (acc : Int) ∧ Hid (acc < 128 ^ i) ∧ acc ≤ 18446744073709551615 ∧ Hid (decU i acc cur = decU 0 0 rest) ∧ Hid (Rdr wr B gd cur 0) ∧ w.grownBy wr (some gd)) (fun _ iv _ => 10 - (intOf iv).toNat)
    case atStart => exact ⟨0, 0, rest, by omega, rfl, rfl, Lib.hid (by decide), by omega, Lib.hid rfl, HR, only_refl _ _⟩
    case round =>
      obtain ⟨i, acc, cur, hi, rfl, rfl, HA, hacc, HD, HRr, ho⟩ := hrel
      cases cur with
      | nil =>
        go_wp2_with fail
        refine (octet_nil B gd _ HRr).mono ?_
        rintro e w1 ⟨rfl, hR1, ho1⟩
        obtain ⟨hc1, hf1⟩ := hR1.err_cell
        go_wp2
        go_ret
        rw [HU.out, ← HD.out, decU_nil]
        exact ⟨rfl, hR1, ho.trans ho1⟩
      | cons c r =>
        go_wp2_with fail
        refine (octet_cons B gd c r _ HRr).mono ?_
        rintro e w1 ⟨rfl, hR1, ho1⟩
        replace ho := ho.trans ho1
        obtain ⟨hc1, hf1⟩ := hR1.err_cell
        have hcl := c.toNat_lt
        cases hbad : badAt i c with
        | true =>
          have HF := Lib.hid (hR1.fail 2 (by decide))
          rw [decU_bad hbad] at HD
          rcases bad_cases hbad with ⟨q1, q2⟩ | ⟨q1, q2, q3⟩ | ⟨q1, q2, q3, q4⟩
          all_goals
            clear hbad ho1
            go_wp2
            go_ret
            rw [HU.out, ← HD.out]
            exact ⟨rfl, HF.out, only_set ho (.inl rfl) _⟩
        | false =>
          rcases ok_cases hbad with ⟨q1, q2, q3, q4⟩ | ⟨q1, q2, q3⟩ | ⟨q1, q2⟩
          all_goals
            clear ho1
            have HB := Lib.hid (or_step (c := c) hi HA.out (fun h => by subst h; unfold badAt at hbad; simp at hbad; omega))
            by_cases hc : c.toNat < 128
            · rw [decU_end hbad hc] at HD
              clear hbad
              go_wp2
              go_ret
              rw [HU.out, ← HD.out, HB.out, Nat.mod_eq_of_lt hc]
              exact ⟨rfl, hR1, ho⟩
            · first
                | (exfalso; omega)
                | (rw [decU_go hbad (by omega)] at HD
                   have hi9 : i ≠ 9 := by rintro rfl; unfold badAt at hbad; simp at hbad; omega
                   have HA2 : Hid (acc + c.toNat % 128 * 128 ^ i < 128 ^ (i + 1)) := by
                     refine Lib.hid ?_
                     have h1 := HA.out
                     have h2 : c.toNat % 128 * 128 ^ i ≤ 127 * 128 ^ i := Nat.mul_le_mul (by omega) (Nat.le_refl _)
                     rw [Nat.pow_succ]; omega
                   have hle : acc + c.toNat % 128 * 128 ^ i ≤ 18446744073709551615 := by
                     have h1 := HA2.out
                     have h2 : 128 ^ (i + 1) ≤ 128 ^ 9 := Nat.pow_le_pow_right (by decide) (by omega)
                     omega
                   have HLE := Lib.hid hle
                   clear hbad hle
                   go_wp2
                   exact ⟨⟨i + 1, _, r, by omega, by go_num, congrArg (Value.int .u64) HB.out, HA2, HLE.out, HD, Lib.hid hR1, ho⟩, by simp [intOf]; omega⟩)
  · have HU := Lib.hid (show readU rest err = (err, 0, []) from if_neg he)
    obtain ⟨hc1, hf1⟩ := HR.out.err_cell
    have hq : (err != 0) = true := by simpa using he
    go_enter Try.func26, Try.ntmps26
    go_wp2
    go_loopw [3, 4] (fun nv iv wr => nv = .int .u64 0 ∧ iv = .int .i64 0 ∧ wr = w) (fun _ _ _ => 0)
    case atStart => exact ⟨rfl, rfl, rfl⟩
    case round =>
      obtain ⟨rfl, rfl, rfl⟩ := hrel
      go_wp2_with fail
      refine (octet_err B gd rest err _ HR he).mono ?_
      rintro e w1 ⟨rfl, rfl⟩
      clear he
      go_wp2
      go_ret
      rw [HU.out]
      exact ⟨rfl, HR.out.any (by simpa using hq) _, only_refl _ _⟩

end Go.Proofs.Ytldmokjpfnakkaa

/- The walks of wire's Reader: Int, Bool, End, Read and the lists. -/
namespace Go.Proofs.Ytldmokjpfnakkaa
open Go.RowKit

theorem readU_lt (rest : List UInt8) (err : Int) : (readU rest err).2.1 ≤ 18446744073709551615 := by
  unfold readU
  split
  · exact (decU_lt rest 0 0 (by decide) (by decide)).1
  · simp
set_option maxRecDepth 100000 in
set_option maxHeartbeats 400000 in
theorem rint_any (B gd : Nat) (rest : List UInt8) (err : Int) (w : World) (HR : Hid (Rdr w B gd rest err)) :
    Calls Try.prog 73 #[.pointer (some ⟨gd, 0, none⟩)] w fun e w' => e = .returned (.int .i64 (unzigI (readU rest err).2.1)) ∧ Rdr w' B gd (readU rest err).2.2 (readU rest err).1 ∧ w.grownBy w' (some gd) := by
  go_enter Try.func73, Try.ntmps73
  go_wp2_with (first
    | (go_at_call 26; ((with_reducible refine (ruint_any B gd rest err _ HR).mono ?_); rintro e w1 ⟨rfl, hR1, ho1⟩))
    | (go_at_call 81; ((with_reducible refine (unzigzag_any _ _ rfl _ (readU_lt rest err)).mono ?_); rintro e w2 ⟨rfl, rfl⟩)))
  go_ret
  exact ⟨rfl, hR1, ho1⟩

def readB (rest : List UInt8) (err : Int) : Int × Bool × List UInt8 := if err = 0 then decBool rest else (err, false, [])

def endI (rest : List UInt8) (err : Int) : Int := if err = 0 then (if rest.length = 0 then 0 else 2) else err
set_option maxRecDepth 100000 in
set_option maxHeartbeats 400000 in
theorem rend_any (B gd : Nat) (rest : List UInt8) (err : Int) (w : World) (HR : Hid (Rdr w B gd rest err)) :
    Calls Try.prog 27 #[.pointer (some ⟨gd, 0, none⟩)] w fun e w' => e = .returned (.int .i64 (endI rest err)) ∧ w = w' := by
  obtain ⟨k1, k2, A, n, c, h1, h2, h3, h4⟩ := HR.out
  have hc0 : w.cell? ⟨gd, 0, none⟩ = some (.slice A n c) := by simpa using h1.cell 0
  have hc1 : w.cell? ⟨gd, 1, none⟩ = some (.int .i64 err) := by simpa using h1.cell 1
  by_cases he : err = 0
  · subst he
    have hl := (h4 rfl).1
    clear h1 h4
    by_cases hn : n = 0
    · have HE := Lib.hid (show endI rest 0 = 0 by unfold endI; rw [if_pos rfl, if_pos (by omega)])
      have hn' : (n : Int) ≤ 0 := by omega
      clear hl
      go_enter Try.func27, Try.ntmps27
      go_wp2
      go_ret
      rw [HE.out]
      exact ⟨rfl, rfl⟩
    · have HE := Lib.hid (show endI rest 0 = 2 by unfold endI; rw [if_pos rfl, if_neg (by omega)])
      have hn' : 0 < (n : Int) := by omega
      clear hl
      go_enter Try.func27, Try.ntmps27
      go_wp2
      go_ret
      rw [HE.out]
      exact ⟨rfl, rfl⟩
  · have HE := Lib.hid (show endI rest err = err by unfold endI; rw [if_neg he])
    have hq : (err != 0) = true := by simpa using he
    clear h1 h4 he
    go_enter Try.func27, Try.ntmps27
    go_wp2
    go_ret
    rw [HE.out]
    exact ⟨rfl, rfl⟩

/-- The blocks from lo to hi lie as they lay. -/
def Within (lo hi : Nat) (w w'' : World) : Prop := w.heap.size ≤ w''.heap.size ∧ ∀ b, lo ≤ b → b < hi → w''.heap[b]? = w.heap[b]?
theorem Within.grown {lo hi : Nat} {w w' w'' : World} {row : Option Nat} (h : Within lo hi w w') (hg : w'.grownBy w'' row) (hr : ∀ r, row = some r → r < lo ∨ hi ≤ r) (hhi : hi ≤ w.heap.size) : Within lo hi w w'' :=
  ⟨Nat.le_trans h.1 hg.size, fun b h1 h2 => (hg.block b (by have := h.1; omega) (fun e => by have := hr b e.symm; omega)).trans (h.2 b h1 h2)⟩
theorem Within.refl (lo hi : Nat) (w : World) : Within lo hi w w := ⟨Nat.le_refl _, fun _ _ _ => rfl⟩
set_option maxRecDepth 100000 in
set_option maxHeartbeats 400000 in
theorem read_any (A : Option Addr) (n c : Nat) (bs : List UInt8) (w : World) (HX : Hid (bs.length = n)) (hR : Rd w w.heap.size A n (vByte bs)) (hn : n ≤ 70368744177664) :
    Calls Try.prog 24 #[.slice A n c] w fun e w' => ∃ gd, e = .returned (.pointer (some ⟨gd, 0, none⟩)) ∧ w.heap.size ≤ gd ∧ Rdr w' w'.heap.size gd bs 0 ∧ Below w.heap.size w w' ∧ Hid (∀ w'', Within w.heap.size w'.heap.size w' w'' → Rdr w'' w'.heap.size gd bs 0) := by
  go_enter Try.func24, Try.ntmps24
  go_wp2_with (go_at_call 45; ((with_reducible refine (clone_any _ _ _ bs _ HX hR hn).mono ?_); rintro e w2 ⟨A', c', rfl, q1, q2, q3, q4, q5⟩))
  go_ret
  refine ⟨w2.heap.size, rfl, q5.size, ⟨by simp, Nat.le_refl _, A', n, c', Blk.new _ _ _, q1, q2, fun _ => ⟨HX.out, hn, (q4.alloc (Nat.le_refl _) _).more (by simp)⟩⟩, q5.alloc q5.size _, Lib.hid ?_⟩
  intro w'' hw
  refine ⟨by simp, hw.1, A', n, c', (hw.2 _ q5.size (by simp)).trans (Blk.new _ _ _), q1, q2, fun _ => ⟨HX.out, hn, fun h0 => ?_⟩⟩
  obtain ⟨g, rfl, hg1, hg2⟩ := own_some q3 h0
  obtain ⟨b, off, e, hb, hc⟩ := q4 h0
  cases e
  refine ⟨g, 0, rfl, by simp; omega, fun j hj => ?_⟩
  rw [World.cell?_of_block (w := w2.alloc _) (hw.2 g hg1 (by simp; omega)), ((Below.refl _ w2).alloc (Nat.le_refl _) _).cell hb]
  exact hc j hj

theorem only_more {a w w' : World} {gd : Nat} {row : Option Nat} (h : a.grownBy w (some gd)) (hg : w.grownBy w' row) (hr : ∀ r, row = some r → a.heap.size ≤ r) : a.grownBy w' (some gd) :=
  ⟨hg.os.trans h.os, hg.tape.trans h.tape, hg.output.trans h.output, Nat.le_trans h.size hg.size, fun i hi hne => (hg.block i (Nat.lt_of_lt_of_le hi h.size) (fun e => by have := hr i e.symm; omega)).trans (h.block i hi hne)⟩

def readRaw (rest : List UInt8) (err : Int) : Int × List UInt8 × List UInt8 := if err = 0 then decRaw rest else (err, [], [])
theorem readRaw_err {rest : List UInt8} {err : Int} (h : (readU rest err).1 ≠ 0) : readRaw rest err = ((readU rest err).1, [], []) := by
  unfold readRaw
  unfold readU at h ⊢
  split
  · rename_i he
    rw [if_pos he] at h
    unfold decRaw
    rw [if_pos h]
  · rfl
theorem readU_ok {rest : List UInt8} {err : Int} (h : (readU rest err).1 = 0) : err = 0 ∧ readU rest err = decU 0 0 rest := by
  unfold readU at h ⊢
  split at h
  · rename_i he
    exact ⟨he, if_pos he⟩
  · rename_i he
    exact absurd h he
theorem readRaw_more {rest : List UInt8} {err : Int} (h : (readU rest err).1 = 0) (h2 : (readU rest err).2.2.length < (readU rest err).2.1) : readRaw rest err = (3, [], []) := by
  obtain ⟨rfl, e⟩ := readU_ok h
  rw [e] at h h2
  unfold readRaw decRaw
  rw [if_pos rfl, if_neg (by simpa using h), if_pos h2]
theorem readRaw_ok {rest : List UInt8} {err : Int} (h : (readU rest err).1 = 0) (h2 : (readU rest err).2.1 ≤ (readU rest err).2.2.length) : readRaw rest err = (0, (readU rest err).2.2.take (readU rest err).2.1, (readU rest err).2.2.drop (readU rest err).2.1) := by
  obtain ⟨rfl, e⟩ := readU_ok h
  rw [e] at h h2 ⊢
  unfold readRaw decRaw
  rw [if_pos rfl, if_neg (by simpa using h), if_neg (by omega)]

set_option maxRecDepth 100000 in
set_option maxHeartbeats 1000000 in
theorem listb_any (B gd : Nat) (rest : List UInt8) (err : Int) (w : World) (HR : Hid (Rdr w B gd rest err)) :
    Calls Try.prog 46 #[.pointer (some ⟨gd, 0, none⟩), .func (.func 47) #[.pointer (some ⟨gd, 0, none⟩)] #[]] w fun e w' => ∃ A' n' c', e = .returned (.slice A' n' c') ∧ n' ≤ c' ∧ c' ≤ 9223372036854775807 ∧ n' ≤ 70368744177664 ∧ Hid ((readRaw rest err).2.1.length = n') ∧
      w'.ownsRow w.heap.size 5 1 (.slice A' n' c') n' ((readRaw rest err).2.1.map fun b => Value.int .u8 ((b.toNat : Nat) : Int)) ∧ Rdr w' B gd (readRaw rest err).2.2 (readRaw rest err).1 ∧ w.grownBy w' (some gd) := by
  obtain ⟨i0, hi, hz0, hz1, hz2⟩ := info_parts info_u8
  have hgB := HR.out.lt
  go_enter Try.func46, Try.ntmps46
  go_wp2_with fail
  refine (ruint_any B gd rest err _ HR).mono ?_
  rintro e w1 ⟨rfl, hR1, ho1⟩
  have hlt := readU_lt rest err
  by_cases he : (readU rest err).1 = 0
  · by_cases hm : (readU rest err).2.2.length < (readU rest err).2.1
    · have HE := Lib.hid (readRaw_more he hm)
      generalize readU rest err = q at *
      obtain ⟨e1, n, r1⟩ := q
      simp only at *
      subst he
      obtain ⟨k1, k2, A, m, c, h1, h2, h3, h4⟩ := hR1
      obtain ⟨hl, hmx, hRd⟩ := h4 rfl
      have hc0 : w1.cell? ⟨gd, 0, none⟩ = some (.slice A m c) := by simpa using h1.cell 0
      have hc1 : w1.cell? ⟨gd, 1, none⟩ = some (.int .i64 0) := by simpa using h1.cell 1
      have hf1 : w1.frozen? ⟨gd, 1, none⟩ = false := h1.frozen 1
      have HF := Lib.hid (Rdr.fail (rest := r1) ⟨k1, k2, A, m, c, h1, h2, h3, h4⟩ 3 (by decide))
      have hmn : m < n := by omega
      clear h1 h4 hl hm
      go_wp2
      go_ret
      rw [HE.out]
      exact ⟨none, 0, 0, rfl, by omega, by omega, by omega, Lib.hid rfl, World.ownsRow_nil _ _ _ _, HF.out, only_set ho1 (.inl rfl) _⟩
    · have HE := Lib.hid (readRaw_ok he (by omega))
      generalize readU rest err = q at *
      obtain ⟨e1, n, r1⟩ := q
      simp only at *
      subst he
      obtain ⟨k1, k2, A, m, c, h1, h2, h3, h4⟩ := hR1
      obtain ⟨hl, hmx, hRd⟩ := h4 rfl
      have hc0 : w1.cell? ⟨gd, 0, none⟩ = some (.slice A m c) := by simpa using h1.cell 0
      have hc1 : w1.cell? ⟨gd, 1, none⟩ = some (.int .i64 0) := by simpa using h1.cell 1
      have hR1 : Rdr w1 B gd r1 0 := ⟨k1, k2, A, m, c, h1, h2, h3, h4⟩
      have hmn : n ≤ m := by omega
      have hmd : decide (m < n) = false := by simpa using hmn
      have HL : Hid (r1.length = m) := Lib.hid hl
      obtain ⟨w2, hmk, hown2, hb2, hs2⟩ := make_rd (P := Try.prog) w1 23 5 i0 _ 1 Try.underlying23 hi hz0 hz1 hz2 .i64 .i64 n (by omega) (by unfold maxLen; omega)
      have hR2 := Lib.hid (hR1.all hb2)
      have ho2 := only_below ho1 hb2
      have hown2' := own_lower hown2 ho1.size
      clear h1 h4 hl hm hown2 hb2 hRd hR1
      go_wp2
      go_loopw [6, 30] (fun v iv wr => ∃ k : Nat, k ≤ n ∧ iv = .int .i64 (k : Int) ∧ wr.ownsRow w.heap.size 5 1 v k ((r1.take k).map fun b => Value.int .u8 ((b.toNat : Nat) : Int)) ∧ Hid (Rdr wr B gd (r1.drop k) 0) ∧ w.grownBy wr (some gd)) (fun _ iv _ => n - (intOf iv).toNat)
      case atStart => exact ⟨0, by omega, rfl, hown2', hR2, ho2⟩
      case round =>
        clear hown2' hR2 ho2 ho1 hmk hc0 hc1 hs2
        obtain ⟨k, hk, rfl, hown, HRr, ho⟩ := hrel
        obtain ⟨v6, rfl⟩ : ∃ x, x = u6 := ⟨_, rfl⟩
        by_cases hlt : k < n
        · have hkl : k < r1.length := by rw [HL.out]; omega
          have ed : r1.drop k = r1[k] :: r1.drop (k + 1) := List.drop_eq_getElem_cons hkl
          have et : r1.take (k + 1) = r1.take k ++ [r1[k]] := List.take_succ_eq_append_getElem hkl
          rw [ed] at HRr
          have HT := Lib.hid et
          generalize r1[k] = x at *
          clear ed et hkl
          go_wp2_with fail
          refine (octet_cons B gd x _ _ HRr).mono ?_
          rintro e w3 ⟨rfl, hR3, ho3⟩
          have hown3 := hown.kept ho3 (.inr (fun e => by have := (hown.lt gd e).1; omega))
          obtain ⟨g, cap, w4, hap, hown4, hg4, _, _⟩ := run_append_one (P := Try.prog) w3 w.heap.size 23 23 5 i0 _ 1 Try.underlying23 hi hz0 hz1 hz2 rfl _ _ _ hown3 (.int .u8 ((x.toNat : Nat) : Int)) rfl (by unfold maxLen; omega) (by omega) (Nat.le_trans ho.size ho3.size)
          have HA := Lib.hid hap; clear hap
          have hR4 := hR3.grown hg4 (fun r er => by have := (hown3.lt r er).1; omega)
          have ho4 := only_more (ho.trans ho3) hg4 (fun r er => (hown3.lt r er).1)
          obtain ⟨hc1, hf1⟩ := hR4.err_cell
          have HR4 := Lib.hid hR4
          clear hR3 hown3 hg4 ho3 hR4
          go_wp2_with (at_builtin; refine wpList_append_run HA.out rfl rfl rfl rfl ?_)
          refine ⟨⟨k + 1, by omega, by go_num, ?_, HR4, ho4⟩, by simp [intOf]; omega⟩
          rw [HT.out, List.map_append]
          exact hown4
        · obtain rfl : k = n := by omega
          obtain ⟨A', c', rfl⟩ := own_slice hown
          have hr := rd_bytes hown
          go_wp2
          go_ret
          rw [HE.out]
          exact ⟨A', k, c', rfl, hr.2.1, own_cap hown, by omega, Lib.hid (by simp [HL.out]; omega), hown, HRr.out, ho⟩
  · have HE := Lib.hid (readRaw_err he)
    obtain ⟨hc1, hf1⟩ := hR1.err_cell
    generalize readU rest err = q at *
    obtain ⟨e1, n, r1⟩ := q
    simp only at *
    have hq : (e1 != 0) = true := by simpa using he
    go_wp2
    go_ret
    rw [HE.out]
    exact ⟨none, 0, 0, rfl, by omega, by omega, by omega, Lib.hid rfl, World.ownsRow_nil _ _ _ _, hR1.any he _, ho1⟩

set_option maxRecDepth 100000 in
set_option maxHeartbeats 400000 in
theorem rraw_any (B gd : Nat) (rest : List UInt8) (err : Int) (w : World) (HR : Hid (Rdr w B gd rest err)) :
    Calls Try.prog 25 #[.pointer (some ⟨gd, 0, none⟩)] w fun e w' => ∃ A' n' c', e = .returned (.slice A' n' c') ∧ n' ≤ c' ∧ c' ≤ 9223372036854775807 ∧ n' ≤ 70368744177664 ∧ Hid ((readRaw rest err).2.1.length = n') ∧
      w'.ownsRow w.heap.size 5 1 (.slice A' n' c') n' ((readRaw rest err).2.1.map fun b => Value.int .u8 ((b.toNat : Nat) : Int)) ∧ Rdr w' B gd (readRaw rest err).2.2 (readRaw rest err).1 ∧ w.grownBy w' (some gd) := by
  go_enter Try.func25, Try.ntmps25
  go_wp2_with (go_at_call 46; ((with_reducible refine (listb_any B gd rest err _ HR).mono ?_); rintro e w2 ⟨A', n', c', rfl, q1, q2, q3, q4, q5, q6, q7⟩))
  go_ret
  exact ⟨A', n', c', rfl, q1, q2, q3, q4, q5, q6, q7⟩


def readInts (rest : List UInt8) (err : Int) : Int × List Int × List UInt8 := if err = 0 then decInts rest else (err, [], [])
theorem readInts_err {rest : List UInt8} {err : Int} (h : (readU rest err).1 ≠ 0) : readInts rest err = ((readU rest err).1, [], []) := by
  unfold readInts
  unfold readU at h ⊢
  split
  · rename_i he
    rw [if_pos he] at h
    unfold decInts
    rw [if_pos h]
  · rfl
theorem readInts_more {rest : List UInt8} {err : Int} (h : (readU rest err).1 = 0) (h2 : (readU rest err).2.2.length < (readU rest err).2.1) : readInts rest err = (3, [], []) := by
  obtain ⟨rfl, e⟩ := readU_ok h
  rw [e] at h h2
  unfold readInts decInts
  rw [if_pos rfl, if_neg (by simpa using h), if_pos h2]
theorem readInts_ok {rest : List UInt8} {err : Int} (h : (readU rest err).1 = 0) (h2 : (readU rest err).2.1 ≤ (readU rest err).2.2.length) : readInts rest err = decK (readU rest err).2.1 (readU rest err).2.2 := by
  obtain ⟨rfl, e⟩ := readU_ok h
  rw [e] at h h2 ⊢
  unfold readInts decInts
  rw [if_pos rfl, if_neg (by simpa using h), if_neg (by omega)]
/-- Numbers ahead of what is read. -/
def ahead (pre : List Int) (q : Int × List Int × List UInt8) : Int × List Int × List UInt8 := if q.1 = 0 then (0, pre ++ q.2.1, q.2.2) else (q.1, [], [])
theorem decK_out : ∀ (k : Nat) (r : List UInt8), (decK k r).1 = 0 ∨ (decK k r).2 = ([], [])
  | 0, r => .inl rfl
  | k + 1, r => by
    rw [decK]
    split
    · exact .inr rfl
    · split
      · exact .inr rfl
      · exact .inl rfl
theorem ahead_nil (k : Nat) (r : List UInt8) : ahead [] (decK k r) = decK k r := by
  unfold ahead
  split
  · rename_i h; rw [List.nil_append, ← h]
  · rename_i h
    rcases decK_out k r with h2 | h2
    · exact absurd h2 h
    · rw [← h2]
theorem ahead_bad {pre : List Int} {k : Nat} {r : List UInt8} (h : (decU 0 0 r).1 ≠ 0) : ahead pre (decK (k + 1) r) = ((decU 0 0 r).1, [], []) := by
  rw [decK, if_pos h]
  unfold ahead
  rw [if_neg h]
theorem ahead_go {pre : List Int} {k : Nat} {r : List UInt8} (h : (decU 0 0 r).1 = 0) : ahead pre (decK (k + 1) r) = ahead (pre ++ [unzigI (decU 0 0 r).2.1]) (decK k (decU 0 0 r).2.2) := by
  rw [decK, if_neg (by simpa using h)]
  unfold ahead
  by_cases h2 : (decK k (decU 0 0 r).2.2).1 = 0
  · simp [h2]
  · simp [h2]



end Go.Proofs.Ytldmokjpfnakkaa

/- Plain Lean: what is written is read; what is read was written; prefixes. -/
namespace Go.Proofs.Ytldmokjpfnakkaa
open Go.RowKit

def InI (n : Int) : Prop := -9223372036854775808 ≤ n ∧ n ≤ 9223372036854775807
theorem decU_int {n : Int} (h : InI n) (r : List UInt8) : decU 0 0 (encInt n ++ r) = (0, zigI n, r) := decU_enc (zigI_lt h.1 h.2) r
theorem encInt_pos (n : Int) : 0 < (encInt n).length := varint_pos _
theorem decRaw_enc {bs : List UInt8} (h : bs.length ≤ 18446744073709551615) (r : List UInt8) : decRaw (encRaw bs ++ r) = (0, bs, r) := by
  have e : decU 0 0 (encRaw bs ++ r) = (0, bs.length, bs ++ r) := by unfold encRaw; rw [List.append_assoc]; exact decU_enc h _
  unfold decRaw
  rw [e]
  simp
theorem decK_enc : ∀ (l : List Int) (_ : ∀ n ∈ l, InI n) (r : List UInt8), decK l.length (l.flatMap encInt ++ r) = (0, l, r)
  | [], _, r => rfl
  | n :: l, h, r => by
    have hn := h n (by simp)
    have ih := decK_enc l (fun m hm => h m (by simp [hm])) r
    rw [List.flatMap_cons, List.append_assoc, List.length_cons, decK, decU_int hn, if_neg (by simp), ih, if_neg (by simp), unzig_zig]
theorem flat_len (l : List Int) : l.length ≤ (l.flatMap encInt).length := by
  induction l with
  | nil => simp
  | cons n l ih => rw [List.flatMap_cons, List.length_append, List.length_cons]; have := encInt_pos n; omega
theorem decInts_enc {l : List Int} (hl : l.length ≤ 18446744073709551615) (h : ∀ n ∈ l, InI n) (r : List UInt8) : decInts (encInts l ++ r) = (0, l, r) := by
  have e : decU 0 0 (encInts l ++ r) = (0, l.length, l.flatMap encInt ++ r) := by unfold encInts; rw [List.append_assoc]; exact decU_enc hl _
  have := flat_len l
  unfold decInts
  rw [e, if_neg (by simp), if_neg (by simp only [List.length_append]; omega)]
  exact decK_enc l h r
theorem decBool_enc (b : Bool) (r : List UInt8) : decBool (encBool b ++ r) = (0, b, r) := by cases b <;> rfl
end Go.Proofs.Ytldmokjpfnakkaa

/- journal, plain Lean: frames, what stands at the beginning of bytes, what a scan finds; a bit that is turned. -/
namespace Go.Proofs.Ytldmokjpfnakkaa
open Go.RowKit

def recB : List UInt8 := [114, 101, 99, 111, 114, 100]
def coreB (k : Int) (bs : List UInt8) : List UInt8 := encInt k ++ encRaw bs
def recN (c : List UInt8) : Nat := (bytesI recB c).toNat
def frameB (k : Int) (bs : List UInt8) : List UInt8 := encRaw (coreB k bs) ++ varint (recN (coreB k bs))
theorem bytesI_in (l bs : List UInt8) : InU (bytesI l bs) := mixI_in _ _
theorem recN_eq (c : List UInt8) : bytesI recB c = ((recN c : Nat) : Int) := by unfold recN; have := (bytesI_in recB c).1; omega
theorem recN_lt (c : List UInt8) : recN c ≤ 18446744073709551615 := by unfold recN; have := bytesI_in recB c; unfold InU at this; omega
theorem encRaw_len {bs : List UInt8} (h : bs.length ≤ 18446744073709551615) : bs.length < (encRaw bs).length ∧ (encRaw bs).length ≤ bs.length + 10 := by
  unfold encRaw
  rw [List.length_append]
  have := varint_pos bs.length
  have := varint_len10 h
  omega
theorem encRaw_lt (bs : List UInt8) : bs.length < (encRaw bs).length := by
  unfold encRaw
  rw [List.length_append]
  have := varint_pos bs.length
  omega
theorem coreB_len {k : Int} {bs : List UInt8} (hk : InI k) (h : bs.length ≤ 18446744073709551615) : (coreB k bs).length ≤ bs.length + 20 := by
  unfold coreB
  rw [List.length_append]
  have h1 := varint_len10 (zigI_lt hk.1 hk.2)
  have h2 := (encRaw_len h).2
  unfold encInt
  omega
theorem coreB_gt (k : Int) (bs : List UInt8) : bs.length < (coreB k bs).length := by
  unfold coreB
  rw [List.length_append]
  have := encRaw_lt bs
  omega
theorem frameB_gt (k : Int) (bs : List UInt8) : (coreB k bs).length + 1 < (frameB k bs).length := by
  unfold frameB
  rw [List.length_append]
  have := encRaw_lt (coreB k bs)
  have := varint_pos (recN (coreB k bs))
  omega
theorem frameB_len {k : Int} {bs : List UInt8} (hk : InI k) (h : bs.length ≤ 1152921504606846976) : (frameB k bs).length ≤ bs.length + 40 := by
  unfold frameB
  rw [List.length_append]
  have h1 := coreB_len hk (bs := bs) (by omega)
  have h2 := (encRaw_len (bs := coreB k bs) (by omega)).2
  have h3 := varint_len10 (recN_lt (coreB k bs))
  omega
theorem frameB_pos (k : Int) (bs : List UInt8) : 0 < (frameB k bs).length := by have := frameB_gt k bs; omega

theorem varint_split {a b : Nat} (ha : a ≤ 18446744073709551615) (hb : b ≤ 18446744073709551615) {r s : List UInt8} (h : varint a ++ r = varint b ++ s) : a = b ∧ r = s := by
  have h1 := decU_enc ha r
  rw [h, decU_enc hb s] at h1
  simp only [Prod.mk.injEq, true_and] at h1
  exact ⟨h1.1.symm, h1.2.symm⟩
theorem encRaw_split {a b : List UInt8} (ha : a.length ≤ 18446744073709551615) (hb : b.length ≤ 18446744073709551615) {r s : List UInt8} (h : encRaw a ++ r = encRaw b ++ s) : a = b ∧ r = s := by
  have h1 := decRaw_enc ha r
  rw [h, decRaw_enc hb s] at h1
  simp only [Prod.mk.injEq, true_and] at h1
  exact ⟨h1.1.symm, h1.2.symm⟩
theorem core_inj {k : Int} {a b : List UInt8} (ha : a.length ≤ 18446744073709551615) (hb : b.length ≤ 18446744073709551615) (h : coreB k a = coreB k b) : a = b := by
  have h1 := List.append_cancel_left h
  exact (encRaw_split (r := []) (s := []) ha hb (by simpa using h1)).1
theorem frame_split {k : Int} {a b : List UInt8} {r s : List UInt8} (ha : (frameB k a).length ≤ 18446744073709551615) (hb : (frameB k b).length ≤ 18446744073709551615) (h : frameB k a ++ r = frameB k b ++ s) : a = b ∧ r = s := by
  have l1 := frameB_gt k a
  have l2 := frameB_gt k b
  have l3 := coreB_gt k a
  have l4 := coreB_gt k b
  have h0 := h
  unfold frameB at h
  rw [List.append_assoc, List.append_assoc] at h
  obtain ⟨h1, -⟩ := encRaw_split (by omega) (by omega) h
  have e := core_inj (by omega) (by omega) h1
  subst e
  exact ⟨rfl, List.append_cancel_left h0⟩

/-- The record (if any) whose frame with the number k stands at the beginning. -/
def FirstIs (k : Int) (bs : List UInt8) : Option (List UInt8) → Prop
  | some x => ∃ r, bs = frameB k x ++ r
  | none => ∀ x r, bs ≠ frameB k x ++ r
/-- What first of the package looks at. -/
def szB (bs : List UInt8) : Nat := (readU (bs.take 10) 0).2.1
def innerB (bs : List UInt8) : List UInt8 := (bs.drop (varint (szB bs)).length).take (szB bs)
def inRec (c : List UInt8) : Int × List UInt8 × List UInt8 := readRaw (readU c 0).2.2 (readU c 0).1
theorem inRec_core {k : Int} (hk : InI k) {x r : List UInt8} (hx : x.length ≤ 18446744073709551615) : inRec (coreB k x ++ r) = (0, x, r) := by
  have e : readU (coreB k x ++ r) 0 = (0, zigI k, encRaw x ++ r) := by
    unfold readU coreB
    rw [if_pos rfl, List.append_assoc]
    exact decU_int hk _
  unfold inRec
  rw [e]
  unfold readRaw
  rw [if_pos rfl]
  exact decRaw_enc hx r
theorem first_parts {k : Int} (hk : InI k) {x r bs : List UInt8} (h : bs = frameB k x ++ r) (hb : bs.length ≤ 9223372036854775807) :
    szB bs = (coreB k x).length ∧ (varint (szB bs)).length + szB bs ≤ bs.length ∧ innerB bs = coreB k x ∧ (inRec (innerB bs)) = (0, x, []) ∧ readRaw bs 0 = (0, coreB k x, varint (recN (coreB k x)) ++ r) := by
  have l1 := frameB_gt k x
  have l2 := coreB_gt k x
  have l3 : bs.length = (frameB k x).length + r.length := by rw [h, List.length_append]
  have hc : (coreB k x).length ≤ 18446744073709551615 := by omega
  have e0 : bs = varint (coreB k x).length ++ (coreB k x ++ (varint (recN (coreB k x)) ++ r)) := by rw [h]; unfold frameB encRaw; simp only [List.append_assoc]
  have h10 := varint_len10 hc
  have e1 : szB bs = (coreB k x).length := by
    unfold szB readU
    rw [if_pos rfl]
    have : bs.take 10 = varint (coreB k x).length ++ (coreB k x ++ (varint (recN (coreB k x)) ++ r)).take (10 - (varint (coreB k x).length).length) := by
      conv => lhs; rw [e0]
      rw [List.take_append, List.take_of_length_le h10]
    rw [this, decU_enc hc]
  have l4 : bs.length = (varint (coreB k x).length).length + ((coreB k x).length + ((varint (recN (coreB k x))).length + r.length)) := by
    conv => lhs; rw [e0]
    simp only [List.length_append]
  have e2 : innerB bs = coreB k x := by
    unfold innerB
    rw [e1]
    conv => lhs; rw [e0]
    rw [List.drop_left, List.take_left]
  refine ⟨e1, by rw [e1]; omega, e2, ?_, ?_⟩
  · rw [e2]
    have := inRec_core hk (x := x) (r := []) (by omega)
    simpa using this
  · unfold readRaw
    rw [if_pos rfl, h]
    unfold frameB
    rw [List.append_assoc]
    exact decRaw_enc hc _
theorem FirstIs.unique {k : Int} {bs : List UInt8} {a b : Option (List UInt8)} (hl : bs.length ≤ 9223372036854775807) (ha : FirstIs k bs a) (hb : FirstIs k bs b) : a = b := by
  cases a with
  | none =>
    cases b with
    | none => rfl
    | some y => obtain ⟨r, hr⟩ := hb; exact absurd hr (ha y r)
  | some x =>
    obtain ⟨r, hr⟩ := ha
    cases b with
    | none => exact absurd hr (hb x r)
    | some y =>
      obtain ⟨s, hs⟩ := hb
      have l1 : bs.length = (frameB k x).length + r.length := by rw [hr, List.length_append]
      have l2 : bs.length = (frameB k y).length + s.length := by rw [hs, List.length_append]
      rw [(frame_split (by omega) (by omega) (hr.symm.trans hs)).1]

/-- Frames one after another, numbered from k on. -/
def framesB : Nat → List (List UInt8) → List UInt8
  | _, [] => []
  | k, x :: l => frameB (k : Int) x ++ framesB (k + 1) l
theorem framesB_nil (k : Nat) : framesB k [] = [] := rfl
theorem framesB_cons (k : Nat) (x : List UInt8) (l : List (List UInt8)) : framesB k (x :: l) = frameB (k : Int) x ++ framesB (k + 1) l := rfl
theorem framesB_append (x t : List (List UInt8)) : ∀ k : Nat, framesB k (x ++ t) = framesB k x ++ framesB (k + x.length) t := by
  induction x with
  | nil => intro k; rw [List.nil_append, framesB_nil, List.nil_append, List.length_nil, Nat.add_zero]
  | cons a x ih =>
    intro k
    have e : k + 1 + x.length = k + (a :: x).length := by rw [List.length_cons]; omega
    rw [List.cons_append, framesB_cons, framesB_cons, ih (k + 1), List.append_assoc, e]
theorem framesB_snoc (l : List (List UInt8)) (k : Nat) (x : List UInt8) : framesB k (l ++ [x]) = framesB k l ++ frameB ((k + l.length : Nat) : Int) x := by
  rw [framesB_append, framesB_cons, framesB_nil, List.append_nil]
theorem framesB_len (l : List (List UInt8)) : ∀ k : Nat, 2 * l.length ≤ (framesB k l).length := by
  induction l with
  | nil => intro k; exact Nat.zero_le _
  | cons x l ih =>
    intro k
    rw [framesB_cons, List.length_append, List.length_cons]
    have := ih (k + 1)
    have := frameB_gt (k : Int) x
    omega
def ScanIs (bs : List UInt8) (l : List (List UInt8)) (n : Nat) : Prop :=
  n = (framesB 0 l).length ∧ ∃ r, bs = framesB 0 l ++ r ∧ FirstIs (l.length : Nat) r none
theorem scan_ahead (x : List (List UInt8)) : ∀ (l : List (List UInt8)) (k : Nat) (rest r : List UInt8), (framesB k x ++ rest).length ≤ 9223372036854775807 → framesB k x ++ rest = framesB k l ++ r → FirstIs ((k + l.length : Nat) : Int) r none → x <+: l := by
  induction x with
  | nil => intros; exact List.nil_prefix
  | cons a x ih =>
    intro l k rest r hl h hn
    cases l with
    | nil =>
      exfalso
      rw [framesB_cons, framesB_nil, List.nil_append, List.append_assoc] at h
      rw [List.length_nil, Nat.add_zero] at hn
      exact hn a (framesB (k + 1) x ++ rest) h.symm
    | cons b l =>
      rw [framesB_cons, framesB_cons, List.append_assoc, List.append_assoc] at h
      rw [framesB_cons, List.append_assoc] at hl
      have l2 := hl
      rw [h] at l2
      rw [List.length_append] at hl l2
      obtain ⟨e, h2⟩ := frame_split (by omega) (by omega) h
      subst e
      obtain ⟨t, ht⟩ := ih l (k + 1) rest r (by omega) h2 (by
        have e : k + 1 + l.length = k + (a :: l).length := by rw [List.length_cons]; omega
        rw [e]
        exact hn)
      exact ⟨t, by rw [List.cons_append, ht]⟩
/-- A scan finds the frames that stand ahead. -/
theorem ScanIs.ahead {bs : List UInt8} {x l : List (List UInt8)} {rest : List UInt8} {n : Nat} (hl : bs.length ≤ 9223372036854775807) (h : ScanIs bs l n) (hx : bs = framesB 0 x ++ rest) : x <+: l ∧ (framesB 0 x).length ≤ n := by
  obtain ⟨rfl, r, hr, hn⟩ := h
  have hp := scan_ahead x l 0 rest r (by rw [← hx]; exact hl) (by rw [← hx]; exact hr) (by simpa using hn)
  refine ⟨hp, ?_⟩
  obtain ⟨t, rfl⟩ := hp
  rw [framesB_append, List.length_append]
  omega
theorem ScanIs.unique {bs : List UInt8} {l l' : List (List UInt8)} {n n' : Nat} (hl : bs.length ≤ 9223372036854775807) (h : ScanIs bs l n) (h' : ScanIs bs l' n') : l = l' ∧ n = n' := by
  obtain ⟨r, hr, -⟩ := h.2
  obtain ⟨r', hr', -⟩ := h'.2
  have p1 := (h.ahead hl hr').1
  have p2 := (h'.ahead hl hr).1
  have e : l = l' := (p2.eq_of_length (Nat.le_antisymm p2.length_le p1.length_le))
  subst e
  exact ⟨rfl, h.1.trans h'.1.symm⟩
theorem ScanIs.nil : ScanIs [] [] 0 := ⟨rfl, [], rfl, fun x r h => by
  have := congrArg List.length h
  rw [List.length_append] at this
  have := frameB_pos ((([] : List (List UInt8)).length : Nat) : Int) x
  simp at *
  omega⟩

/-- A bit turned behind the length: no frame of this number stands there. -/
theorem turned_none {k : Int} (hk : InI k) {x : List UInt8} (hx : x.length ≤ 1000000) {j : Nat} {v : UInt8} (hj : j < (frameB k x).length - (varint (coreB k x).length).length) (hv : ((frameB k x)[(varint (coreB k x).length).length + j]?).getD 0 ≠ v) :
    FirstIs k ((frameB k x).set ((varint (coreB k x).length).length + j) v) none := by
  intro y r hy
  have lx := frameB_len hk (bs := x) (by omega)
  have lc := coreB_len hk (bs := x) (by omega)
  have hlen := congrArg List.length hy
  rw [List.length_set, List.length_append] at hlen
  have ly := frameB_gt k y
  have ly2 := coreB_gt k y
  have e0 : frameB k x = varint (coreB k x).length ++ (coreB k x ++ varint (recN (coreB k x))) := by unfold frameB encRaw; rw [List.append_assoc]
  have e1 : frameB k y ++ r = varint (coreB k y).length ++ (coreB k y ++ (varint (recN (coreB k y)) ++ r)) := by unfold frameB encRaw; simp only [List.append_assoc]
  have hl0 : (frameB k x).length = (varint (coreB k x).length).length + (coreB k x ++ varint (recN (coreB k x))).length := by
    conv => lhs; rw [e0]
    rw [List.length_append]
  have e2 : (frameB k x).set ((varint (coreB k x).length).length + j) v = varint (coreB k x).length ++ (coreB k x ++ varint (recN (coreB k x))).set j v := by
    conv => lhs; rw [e0]
    rw [List.set_append_right _ _ (by omega), Nat.add_sub_cancel_left]
  rw [e2, e1] at hy
  obtain ⟨h1, h2⟩ := varint_split (by omega) (by omega) hy
  have hv' : ((coreB k x ++ varint (recN (coreB k x)))[j]?).getD 0 ≠ v := by
    rw [e0, List.getElem?_append_right (by omega), Nat.add_sub_cancel_left] at hv
    exact hv
  by_cases hin : j < (coreB k x).length
  · rw [List.set_append_left _ _ hin] at h2
    obtain ⟨h3, h4⟩ := List.append_inj h2 (by rw [List.length_set]; exact h1)
    have h5 := varint_split (r := []) (s := r) (recN_lt _) (recN_lt _) (by simpa using h4)
    have h6 : bytesI recB (coreB k x) = bytesI recB (coreB k y) := by rw [recN_eq, recN_eq, h5.1]
    rw [← h3] at h6
    have h7 := (bytes_one recB (g := j / 8) (a := coreB k x) (b := (coreB k x).set j v) (by simp) (by unfold nwords; omega) (fun i hi => by rw [group_set i hi])).1 h6
    apply hv'
    rw [List.getElem?_append_left hin, h7]
    simp [hin]
  · rw [List.set_append_right _ _ (by omega)] at h2
    obtain ⟨h3, h4⟩ := List.append_inj h2 h1
    have h5 := congrArg List.length h4
    rw [List.length_set, List.length_append, ← h3] at h5
    obtain rfl : r = [] := List.eq_nil_of_length_eq_zero (by omega)
    rw [List.append_nil, ← h3] at h4
    have hj2 : j - (coreB k x).length < (varint (recN (coreB k x))).length := by
      rw [hl0] at hj
      rw [List.length_append] at hj
      omega
    apply hv'
    rw [List.getElem?_append_right (by omega)]
    have h6 : (varint (recN (coreB k x)))[j - (coreB k x).length]? = ((varint (recN (coreB k x))).set (j - (coreB k x).length) v)[j - (coreB k x).length]? := by rw [h4]
    rw [h6]
    simp [hj2]
end Go.Proofs.Ytldmokjpfnakkaa

/- A frame by a set of blocks; the type of a block; a slice of bytes known by its block's type; rows of structs: append of one. -/
namespace Go.Proofs.Ytldmokjpfnakkaa
open Go.RowKit

/-- Only blocks of F, and what is new, have turned. -/
structure Mod (F : Nat → Prop) (w w' : World) : Prop where
  os : w'.os = w.os
  tape : w'.tape = w.tape
  output : w'.output = w.output
  size : w.heap.size ≤ w'.heap.size
  block : ∀ k, k < w.heap.size → ¬ F k → w'.heap[k]? = w.heap[k]?
section
variable {F G : Nat → Prop} {a w w' w'' : World}
theorem Mod.refl (F : Nat → Prop) (w : World) : Mod F w w := ⟨rfl, rfl, rfl, Nat.le_refl _, fun _ _ _ => rfl⟩
theorem Mod.trans (h : Mod F w w') (k : Mod G w' w'') (hG : ∀ b, G b → F b ∨ w.heap.size ≤ b) : Mod F w w'' :=
  ⟨k.os.trans h.os, k.tape.trans h.tape, k.output.trans h.output, Nat.le_trans h.size k.size, fun b hb hF => (k.block b (Nat.lt_of_lt_of_le hb h.size) (fun hg => (hG b hg).elim hF (by omega))).trans (h.block b hb hF)⟩
theorem Mod.mono (h : Mod F w w') (hF : ∀ b, F b → G b ∨ w.heap.size ≤ b) : Mod G w w' := ⟨h.os, h.tape, h.output, h.size, fun b hb hG => h.block b hb (fun hf => (hF b hf).elim hG (by omega))⟩
theorem Mod.of_below (F : Nat → Prop) (h : Below w.heap.size w w') : Mod F w w' := ⟨h.os, h.tape, h.output, h.size, fun b hb _ => h.block b hb⟩
theorem Mod.of_grown {r : Option Nat} (h : w.grownBy w' r) (hF : ∀ g, r = some g → F g ∨ w.heap.size ≤ g) : Mod F w w' := ⟨h.os, h.tape, h.output, h.size, fun b hb hf => h.block b hb (fun e => (hF b e.symm).elim hf (by omega))⟩
theorem Mod.then_below (h : Mod F w w') (k : Below w'.heap.size w' w'') : Mod F w w'' := h.trans (Mod.of_below F k) (fun _ hb => .inl hb)
theorem Mod.then_grown {r : Option Nat} (h : Mod F w w') (k : w'.grownBy w'' r) (hF : ∀ g, r = some g → F g ∨ w.heap.size ≤ g) : Mod F w w'' :=
  ⟨k.os.trans h.os, k.tape.trans h.tape, k.output.trans h.output, Nat.le_trans h.size k.size, fun b hb hf => (k.block b (Nat.lt_of_lt_of_le hb h.size) (fun e => (hF b e.symm).elim hf (by omega))).trans (h.block b hb hf)⟩
theorem Mod.below {B : Nat} (h : Below B a w) (m : Mod F w w') (hB : B ≤ w.heap.size) (hF : ∀ b, F b → B ≤ b) : Below B a w' :=
  ⟨m.os.trans h.os, m.tape.trans h.tape, m.output.trans h.output, Nat.le_trans h.size m.size, fun b hb => (m.block b (by omega) (fun hf => by have := hF b hf; omega)).trans (h.block b hb)⟩
theorem Mod.below_self {B : Nat} (m : Mod F w w') (hB : B ≤ w.heap.size) (hF : ∀ b, F b → B ≤ b) : Below B w w' := m.below (Below.refl B w) hB hF
theorem Mod.drewN (h : Mod F w w') (n : Nat) : Mod F w (w'.drewN n) := ⟨h.os, h.tape, h.output, h.size, h.block⟩
theorem Mod.drew (h : Mod F w w') : Mod F w w'.drew := ⟨h.os, h.tape, h.output, h.size, h.block⟩
theorem Mod.set (h : Mod F w w') {p : Addr} (hp : F p.block ∨ w.heap.size ≤ p.block) (u : Value) : Mod F w (w'.setCell p u) :=
  ⟨h.os, h.tape, h.output, by simpa [World.setCell] using h.size, fun i hi hf => (Below.heap_setCell w' p u i (by
    rintro rfl
    exact hp.elim hf (by omega))).trans (h.block i hi hf)⟩
theorem Mod.alloc (h : Mod F w w') (o : Obj) : Mod F w (w'.alloc o) :=
  ⟨h.os, h.tape, h.output, Nat.le_trans h.size (by simp), fun i hi hf => (Below.heap_alloc w' o i (Nat.lt_of_lt_of_le hi h.size)).trans (h.block i hi hf)⟩
theorem Mod.blk {g : Nat} {t : TypeId} {cs : Array Value} (h : Mod F w w') (hB : Blk w g t cs) (hg : ¬ F g) : Blk w' g t cs := (h.block g hB.lt hg).trans hB
theorem Mod.rd {B n : Nat} {A : Option Addr} {f : Nat → Value} (h : Mod F w w') (hR : Rd w B A n f) (hB : B ≤ w.heap.size) (hne : ∀ b off, A = some ⟨b, off, none⟩ → 0 < n → ¬ F b) : Rd w' B A n f := by
  intro hn
  obtain ⟨b, off, e, hb, hc⟩ := hR hn
  exact ⟨b, off, e, hb, fun j hj => (World.cell?_of_block (w := w) (h.block b (by omega) (hne b off e hn))).trans (hc j hj)⟩
theorem Mod.own {base e size n : Nat} {v : Value} {xs : List Value} (h : Mod F w w') (ho : w.ownsRow base e size v n xs) (hne : ∀ g, v.ownBlock = some g → ¬ F g) : w'.ownsRow base e size v n xs := by
  refine ⟨ho.1, ?_⟩
  rcases ho.2 with hn | ⟨g, cap, cur, rfl, hb, hgg, rest⟩
  · exact .inl hn
  · exact .inr ⟨g, cap, cur, rfl, hb, (h.block g (Array.getElem?_eq_some_iff.1 hgg).1 (hne g rfl)).trans hgg, rest⟩

/-- The element's type of a block. -/
def Ty (w : World) (b : Nat) (t : TypeId) : Prop := ∃ cs fr, w.heap[b]? = some (.cells cs t fr)
theorem Ty.unique {b : Nat} {t t' : TypeId} (h : Ty w b t) (h' : Ty w b t') : t = t' := by
  obtain ⟨_, _, h⟩ := h
  obtain ⟨_, _, h'⟩ := h'
  rw [h] at h'
  cases h'
  rfl
theorem Ty.not_map {b : Nat} {t : TypeId} {es : Array MapEntry} {c : Nat} (h : Ty w b t) (h' : w.heap[b]? = some (.map es c)) : False := by
  obtain ⟨_, _, h⟩ := h
  rw [h] at h'
  cases h'
theorem Blk.ty {g : Nat} {t : TypeId} {cs : Array Value} (h : Blk w g t cs) : Ty w g t := ⟨_, _, h⟩
theorem Ty.of_own {base e size n g : Nat} {v : Value} {xs : List Value} (h : w.ownsRow base e size v n xs) (hg : v.ownBlock = some g) : Ty w g e := by
  rcases h.2 with ⟨rfl, _⟩ | ⟨g', cap, cur, rfl, _, hh, _⟩
  · simp [Value.ownBlock] at hg
  · simp [Value.ownBlock] at hg
    subst hg
    exact ⟨_, _, hh⟩

/-- A slice of bytes (nil let in), by its block's type. -/
def Bts (w : World) (A : Option Addr) (n c : Nat) (bs : List UInt8) : Prop :=
  bs.length = n ∧ n ≤ c ∧ c ≤ 9223372036854775807 ∧ (0 < n → ∃ b off cs fr, A = some ⟨b, off, none⟩ ∧ w.heap[b]? = some (.cells cs 5 fr) ∧ ∀ j, j < n → cs[off + j]? = some (vByte bs j))
theorem Bts.nil (w : World) : Bts w none 0 0 [] := ⟨rfl, Nat.le_refl _, by omega, fun h => absurd h (by omega)⟩
theorem Bts.rd {A : Option Addr} {n c : Nat} {bs : List UInt8} (h : Bts w A n c bs) : Rd w w.heap.size A n (vByte bs) := by
  intro hn
  obtain ⟨b, off, cs, fr, e, hh, hc⟩ := h.2.2.2 hn
  exact ⟨b, off, e, (Array.getElem?_eq_some_iff.1 hh).1, fun j hj => by simp [World.cell?, hh, hc j hj]⟩
theorem Bts.mod {A : Option Addr} {n c : Nat} {bs : List UInt8} (h : Bts w A n c bs) (m : Mod F w w') (hF : ∀ b, F b → ¬ Ty w b 5) : Bts w' A n c bs := by
  refine ⟨h.1, h.2.1, h.2.2.1, fun hn => ?_⟩
  obtain ⟨b, off, cs, fr, e, hh, hc⟩ := h.2.2.2 hn
  exact ⟨b, off, cs, fr, e, (m.block b (Array.getElem?_eq_some_iff.1 hh).1 (fun hf => hF b hf ⟨_, _, hh⟩)).trans hh, hc⟩
theorem Bts.all {A : Option Addr} {n c : Nat} {bs : List UInt8} (h : Bts w A n c bs) (hb : Below w.heap.size w w') : Bts w' A n c bs := h.mod (F := fun _ => False) (Mod.of_below _ hb) (fun _ hf => hf.elim)
theorem Bts.of_own {A : Option Addr} {base n m c : Nat} {bs : List UInt8} (h : w.ownsRow base 5 1 (.slice A m c) n (bs.map fun b => Value.int .u8 ((b.toNat : Nat) : Int))) : Bts w A n c bs ∧ m = n := by
  have hl : bs.length = n := by simpa using h.1
  have hc := own_cap h
  rcases h.2 with ⟨h2, h0⟩ | ⟨g, cap, cur, h2, _, hh, hnc, hm, hcs, htk⟩
  · injection h2 with _ h3 h4
    subst h0 h3 h4
    exact ⟨⟨hl, by omega, by omega, fun h => absurd h (by omega)⟩, rfl⟩
  · injection h2 with h2 h3 h4
    subst h2 h3 h4
    refine ⟨⟨hl, hnc, hc, fun hn => ⟨g, 0, cur, _, rfl, hh, fun j hj => ?_⟩⟩, rfl⟩
    have : (cur.toList.take (m * 1))[j]? = (bs.map fun b => Value.int .u8 ((b.toNat : Nat) : Int))[j]? := by rw [htk]
    rw [List.getElem?_take, if_pos (by omega)] at this
    simpa [vByte, show j < bs.length by omega] using this
end

/-- append of one struct onto a row of the call's own. -/
theorem run_append_row {P : Program} (w : World) (base : Nat) (t ty e : TypeId) (i : TypeInfo) (z : Value) (size bytes : Nat) (ht : P.underlying t = some (.slice e)) (hi : P.info? e = some i) (hz : i.zero = some z)
    (hsize : i.size = size) (hby : i.bytes = bytes) (hzs : z.cells.size = size) (hsz : 0 < size)
    (v : Value) (n : Nat) (xs : List Value) (hown : w.ownsRow base e size v n xs) (cs : Array Value) (hcs : cs.size = size) (h1 : ∀ u ∈ cs.toList, u.oneCell' = true)
    (h63 : n + 1 ≤ maxLen) (hbytes : (n + 1) * bytes ≤ 140737488355328) (hbase : base ≤ w.heap.size) :
    ∃ g cap w', (Builtin.append_ #[t, t] ty #[v, .slice (some ⟨w.heap.size, 0, none⟩) 1 1]).run P (w.alloc (.cells cs e)) = .ok (.slice (some ⟨g, 0, none⟩) (n + 1) cap) w' ∧ w'.ownsRow base e size (.slice (some ⟨g, 0, none⟩) (n + 1) cap) (n + 1) (xs ++ cs.toList) ∧
      w.grownBy w' v.ownBlock ∧ (some g = v.ownBlock ∨ g = w.heap.size + 1) ∧ w.heap.size < w'.heap.size := by
  obtain ⟨v', w', hrun, h2, h3, _, h5⟩ := run_append_own_at (P := P) (w.alloc (.cells cs e)) base t ty e i z size bytes ht hi hz hsize hby hzs hsz v n xs (hown.alloc _) ⟨w.heap.size, 0, none⟩ 1 1 cs.toList (by simpa using hcs)
      (fun j u hu => by
        have ea : (⟨w.heap.size, 0, none⟩ : Addr).add j = ⟨w.heap.size, j, none⟩ := by unfold Addr.add; split <;> simp_all
        rw [ea]
        have hB := Blk.cell (Blk.new w e cs) j
        rw [hB]
        simpa using hu)
      h1 h63 hbytes (by simp; omega)
  obtain ⟨g, cap, rfl⟩ := ownsRow_succ h2
  refine ⟨g, cap, w', hrun, h2, (World.grownBy_alloc w _ _).trans h3, ?_, ?_⟩
  · rcases h5 with h5 | h5
    · exact .inl (by simpa [Value.ownBlock] using h5)
    · exact .inr (by simpa [Value.ownBlock] using h5)
  · have := h3.size
    simp at this
    omega
end Go.Proofs.Ytldmokjpfnakkaa

/- wire's Writer known by its own blocks: contracts that say which blocks turn. -/
namespace Go.Proofs.Ytldmokjpfnakkaa
open Go.RowKit

/-- A Writer at block gd whose slice is v, with the bytes bs. -/
def WrV (w : World) (gd : Nat) (v : Value) (bs : List UInt8) : Prop :=
  Blk w gd 37 #[v] ∧ w.ownsRow 0 5 1 v bs.length (bs.map fun b => Value.int .u8 ((b.toNat : Nat) : Int))
def WF (gd : Nat) (v : Value) (b : Nat) : Prop := b = gd ∨ v.ownBlock = some b
def WrNext (gd : Nat) (v : Value) (bs : List UInt8) (w w' : World) : Prop :=
  ∃ v', WrV w' gd v' bs ∧ Mod (WF gd v) w w' ∧ (v'.ownBlock = v.ownBlock ∨ ∀ b, v'.ownBlock = some b → w.heap.size ≤ b)
section
variable {w w' w'' : World} {gd : Nat} {v : Value} {bs bs' : List UInt8} {F : Nat → Prop}
theorem WrV.new (w : World) : WrV (w.alloc (.cells #[.slice none 0 0] 37)) w.heap.size (.slice none 0 0) [] := ⟨Blk.new _ _ _, World.ownsRow_nil _ _ _ _⟩
theorem WrV.mod (h : WrV w gd v bs) (m : Mod F w w') (hF : ∀ b, WF gd v b → ¬ F b) : WrV w' gd v bs := ⟨m.blk h.1 (hF _ (.inl rfl)), m.own h.2 (fun g e => hF g (.inr e))⟩
theorem WrV.all (h : WrV w gd v bs) (hb : Below w.heap.size w w') : WrV w' gd v bs := h.mod (F := fun _ => False) (Mod.of_below _ hb) (fun _ _ hf => hf)
theorem WrV.lt (h : WrV w gd v bs) : ∀ b, WF gd v b → b < w.heap.size := by
  rintro b (rfl | e)
  · exact h.1.lt
  · exact (h.2.lt b e).2
theorem WrV.slice (h : WrV w gd v bs) : ∃ A c, v = .slice A bs.length c := own_slice h.2
theorem WrNext.refl (h : WrV w gd v bs) : WrNext gd v bs w w := ⟨v, h, Mod.refl _ _, .inl rfl⟩
theorem WrNext.trans (h : WrNext gd v bs w w') (k : ∀ v', WrV w' gd v' bs → WrNext gd v' bs' w' w'') : WrNext gd v bs' w w'' := by
  obtain ⟨v1, h1, m1, o1⟩ := h
  obtain ⟨v2, h2, m2, o2⟩ := k v1 h1
  refine ⟨v2, h2, m1.trans m2 ?_, ?_⟩
  · rintro b (rfl | e)
    · exact .inl (.inl rfl)
    · rcases o1 with o | o
      · exact .inl (.inr (by rw [← o]; exact e))
      · exact .inr (o b e)
  · rcases o2 with o | o
    · rw [o]; exact o1
    · exact .inr (fun b e => Nat.le_trans m1.size (o b e))
theorem WrNext.step {v1 : Value} (h : WrV w' gd v1 bs) (m1 : Mod (WF gd v) w w') (o1 : v1.ownBlock = v.ownBlock ∨ ∀ b, v1.ownBlock = some b → w.heap.size ≤ b) (k : WrNext gd v1 bs' w' w'') : WrNext gd v bs' w w'' := by
  obtain ⟨v2, h2, m2, o2⟩ := k
  refine ⟨v2, h2, m1.trans m2 ?_, ?_⟩
  · rintro b (rfl | e)
    · exact .inl (.inl rfl)
    · rcases o1 with o | o
      · exact .inl (.inr (by rw [← o]; exact e))
      · exact .inr (o b e)
  · rcases o2 with o | o
    · rw [o]; exact o1
    · exact .inr (fun b e => Nat.le_trans m1.size (o b e))
theorem WrV.wr (h : WrV w gd v bs) : Wr w 0 gd bs := by
  obtain ⟨A, c, rfl⟩ := h.slice
  exact ⟨Nat.zero_le _, A, _, c, rfl, h.1, h.2⟩
theorem wrv_put {w3 : World} {v' : Value} (h : WrV w gd v bs) (hg : w.grownBy w3 v.ownBlock) (hown : w3.ownsRow 0 5 1 v' bs'.length (bs'.map fun b => Value.int .u8 ((b.toNat : Nat) : Int))) (ho : v'.ownBlock = v.ownBlock ∨ ∀ b, v'.ownBlock = some b → w.heap.size ≤ b) :
    w3.cell? ⟨gd, 0, none⟩ = some v ∧ w3.frozen? ⟨gd, 0, none⟩ = false ∧ WrNext gd v bs' w (w3.setCell ⟨gd, 0, none⟩ v') := by
  obtain ⟨k1, k2, k3, k4, -⟩ := own_put (by decide) (Nat.zero_le _) h.1 h.2 hg hown
  exact ⟨k1, k2, v', ⟨k3, k4⟩, (Mod.of_grown hg (fun g e => .inl (.inr e))).set (.inl (.inl rfl)) _, ho⟩
end
theorem WrV.one {w : World} {gd : Nat} {v : Value} {bs : List UInt8} (h : WrV w gd v bs) (hl : bs.length ≤ 35184372088832) (x : UInt8) (xi : Int) (hx : xi = ((x.toNat : Nat) : Int)) :
    ∃ A n c g cap w3, w.cell? ⟨gd, 0, none⟩ = some (.slice A n c) ∧
      Hid ((Builtin.append_ #[23, 23] 23 #[.slice A n c, .slice (some ⟨w.heap.size, 0, none⟩) 1 1]).run Try.prog (w.alloc (.cells #[.int .u8 xi] 5)) = .ok (.slice (some ⟨g, 0, none⟩) (n + 1) cap) w3) ∧
      w3.cell? ⟨gd, 0, none⟩ = some (.slice A n c) ∧ w3.frozen? ⟨gd, 0, none⟩ = false ∧ Hid (WrNext gd v (bs ++ [x]) w (w3.setCell ⟨gd, 0, none⟩ (.slice (some ⟨g, 0, none⟩) (n + 1) cap))) := by
  subst hx
  obtain ⟨A, c, rfl⟩ := h.slice
  obtain ⟨i0, hi, hz0, hz1, hz2⟩ := info_parts info_u8
  obtain ⟨g, cap, w3, hap, hown, hg, ho, _⟩ := run_append_one (P := Try.prog) w 0 23 23 5 i0 _ 1 Try.underlying23 hi hz0 hz1 hz2 rfl _ _ _ h.2 (.int .u8 ((x.toNat : Nat) : Int)) rfl (by unfold maxLen; omega) (by omega) (Nat.zero_le _)
  obtain ⟨k1, k2, k3⟩ := wrv_put (bs' := bs ++ [x]) h hg (by rw [List.map_append, List.length_append]; exact hown) (v' := .slice (some ⟨g, 0, none⟩) (bs.length + 1) cap) (ho.imp (fun e => by simpa [Value.ownBlock] using e) (fun e b eb => by simp [Value.ownBlock] at eb; omega))
  exact ⟨A, _, c, g, cap, w3, by simpa using h.1.cell 0, Lib.hid hap, k1, k2, Lib.hid k3⟩
theorem WrV.more {w : World} {gd : Nat} {v : Value} {bs : List UInt8} (h : WrV w gd v bs) (A' : Option Addr) (m c' : Nat) (xs : List UInt8) (hx : xs.length = m) (hR : Rd w w.heap.size A' m (vByte xs)) (hl : bs.length + m ≤ 70368744177664) :
    ∃ A n c A3 n3 c3 w3, w.cell? ⟨gd, 0, none⟩ = some (.slice A n c) ∧
      Hid ((Builtin.append_ #[23, 23] 23 #[.slice A n c, .slice A' m c']).run Try.prog w = .ok (.slice A3 n3 c3) w3) ∧
      w3.cell? ⟨gd, 0, none⟩ = some (.slice A n c) ∧ w3.frozen? ⟨gd, 0, none⟩ = false ∧ Hid (WrNext gd v (bs ++ xs) w (w3.setCell ⟨gd, 0, none⟩ (.slice A3 n3 c3))) := by
  obtain ⟨A, c, rfl⟩ := h.slice
  obtain ⟨i0, hi, hz0, hz1, hz2⟩ := info_parts info_u8
  obtain ⟨v', w3, hap, hown, hg, ho⟩ := run_append_rd (P := Try.prog) w 0 23 23 5 i0 _ 1 Try.underlying23 hi hz0 hz1 hz2 rfl _ _ _ h.2 w.heap.size A' m c' (vByte xs) hR hR.none_ (fun _ _ => rfl) (by unfold maxLen; omega) (by omega) (Nat.zero_le _)
  have e : (List.range m).map (vByte xs) = xs.map fun b => Value.int .u8 ((b.toNat : Nat) : Int) := by
    subst hx
    refine List.ext_getElem (by simp) fun i h1 h2 => ?_
    have hi : i < xs.length := by simpa using h2
    simp [vByte, hi]
  rw [e, ← hx] at hown
  obtain ⟨A3, c3, rfl⟩ := own_slice hown
  obtain ⟨k1, k2, k3⟩ := wrv_put (bs' := bs ++ xs) h hg (by rw [List.map_append, List.length_append]; exact hown) (ho.imp (fun e => e) (fun e b eb => by rw [e] at eb; injection eb with eb; omega))
  exact ⟨A, _, c, _, _, _, w3, by simpa using h.1.cell 0, Lib.hid hap, k1, k2, Lib.hid k3⟩

set_option maxRecDepth 100000 in
theorem wuintV_any (gd : Nat) (v : Value) (bs : List UInt8) (n : Nat) (ni : Int) (hni : ni = (n : Int)) (w : World) (HW : Hid (WrV w gd v bs)) (hn : n ≤ 18446744073709551615) (hl : bs.length ≤ 17592186044416) :
    Calls Try.prog 23 #[.pointer (some ⟨gd, 0, none⟩), .int .u64 ni] w fun e w' => e = .returned (.tuple #[]) ∧ WrNext gd v (bs ++ varint n) w w' := by
  subst hni
  have HV := Lib.hid (varint_len10 hn)
  go_enter Try.func23, Try.ntmps23
  go_wp2
  go_loopw [1] (fun u wr => ∃ m : Nat, ∃ pre : List UInt8, u = .int .u64 (m : Int) ∧ m ≤ 18446744073709551615 ∧ Hid (pre ++ varint m = bs ++ varint n) ∧ Hid (WrNext gd v pre w wr)) (fun u _ => (intOf u).toNat)
  case atStart => exact ⟨n, bs, rfl, hn, Lib.hid rfl, Lib.hid (WrNext.refl HW.out)⟩
  case round =>
    obtain ⟨m, pre, rfl, hm, HE, HWr⟩ := hrel
    have hpl : pre.length ≤ 35184372088832 := by
      have h1 := congrArg List.length HE.out
      simp only [List.length_append] at h1
      have := HV.out
      omega
    obtain ⟨v1, h1, m1, o1⟩ := HWr.out
    by_cases hge : 128 ≤ m
    · obtain ⟨A, k, c, g, cap, w3, hc, HA, hc3, hf3, HW3⟩ := h1.one hpl (UInt8.ofNat (m % 128 + 128)) (bits BinOp.or IntKind.u8 ((m : Int) % 256) 128) (or128 m)
      have HZ := Lib.hid (WrNext.step h1 m1 o1 HW3.out)
      clear h1 m1 o1 HWr HW3
      go_wp2_with (at_builtin; refine wpList_append_run HA.out rfl rfl rfl rfl ?_)
      exact ⟨⟨m / 128, _, by go_num, by omega, Lib.hid (by rw [← HE.out, varint_ge hge, List.append_assoc]; rfl), HZ⟩, by simp [intOf]; omega⟩
    · obtain ⟨A, k, c, g, cap, w3, hc, HA, hc3, hf3, HW3⟩ := h1.one hpl (UInt8.ofNat m) (m : Int) (by rw [ofNat_toNat (by omega)])
      have HZ := Lib.hid (WrNext.step h1 m1 o1 HW3.out)
      clear h1 m1 o1 HWr HW3
      go_wp2_with (at_builtin; refine wpList_append_run HA.out rfl rfl rfl rfl ?_)
      go_end0
      exact ⟨rfl, by rw [← HE.out, varint_lt (by omega)]; exact HZ.out⟩

set_option maxRecDepth 100000 in
theorem wrawV_any (gd : Nat) (v : Value) (bs xs : List UInt8) (A : Option Addr) (m c : Nat) (w : World) (HW : Hid (WrV w gd v bs)) (HX : Hid (xs.length = m)) (hm : m ≤ 17592186044416) (hR : Rd w w.heap.size A m (vByte xs)) (hF : ∀ b off, A = some ⟨b, off, none⟩ → 0 < m → ¬ WF gd v b) (hl : bs.length ≤ 17592186044416) :
    Calls Try.prog 21 #[.pointer (some ⟨gd, 0, none⟩), .slice A m c] w fun e w' => e = .returned (.tuple #[]) ∧ WrNext gd v (bs ++ encRaw xs) w w' := by
  have HV := Lib.hid (varint_len10 (n := m) (by omega))
  have HR := Lib.hid hR
  have HF := Lib.hid hF
  clear hR hF
  go_enter Try.func21, Try.ntmps21
  go_wp2_with fail
  refine (wuintV_any gd v bs m _ rfl _ HW (by omega) hl).mono ?_
  rintro e w1 ⟨rfl, v1, h1, m1, o1⟩
  obtain ⟨A1, k, c1, A3, n3, c3, w3, hc, HA, hc3, hf3, HW3⟩ := h1.more A m c xs HX.out ((m1.rd HR.out (Nat.le_refl _) HF.out).more m1.size) (by have := HV.out; simp only [List.length_append]; omega)
  have HZ := Lib.hid (WrNext.step h1 m1 o1 HW3.out)
  clear h1 m1 o1 HW3
  go_wp2_with (at_builtin; refine wpList_append_run HA.out rfl rfl rfl rfl ?_)
  go_end0
  exact ⟨rfl, by unfold encRaw; rw [HX.out, ← List.append_assoc]; exact HZ.out⟩
end Go.Proofs.Ytldmokjpfnakkaa

/- The walks of the helpers of worldmintref01: Around, Ints, Few, Short, SameInts, SameBytes. -/
namespace Go.Proofs.Ytldmokjpfnakkaa
open Go.RowKit

/-- What Around returns. -/
def aroundI (n most : Int) : Int := (if n < 0 then -(n + 1) else n) % most

theorem aroundI_range (n most : Int) (h : 0 < most) : 0 ≤ aroundI n most ∧ aroundI n most < most := ⟨Int.emod_nonneg _ (by omega), Int.emod_lt_of_pos _ h⟩

set_option maxHeartbeats 400000 in
theorem around_any (n most : Int) (w : World) (h1 : -9223372036854775808 ≤ n) (h2 : n ≤ 9223372036854775807) (h3 : 0 < most) (h4 : most ≤ 9223372036854775807) :
    Calls Try.prog 19 #[.int .i64 n, .int .i64 most] w fun e w' => e = .returned (.int .i64 (aroundI n most)) ∧ w = w' := by
  by_cases h : n < 0
  · have HE := Lib.hid (show aroundI n most = (-(n + 1)).tmod most from by unfold aroundI; rw [if_pos h, Int.tmod_eq_emod_of_nonneg (by omega)])
    go_enter Try.func19, Try.ntmps19
    go_wp2
    go_ret
    rw [HE.out, Int.neg_tmod]
    exact ⟨rfl, rfl⟩
  · have HE := Lib.hid (show aroundI n most = n % most from by unfold aroundI; rw [if_neg h])
    go_enter Try.func19, Try.ntmps19
    go_wp2
    go_ret
    rw [HE.out]
    exact ⟨rfl, rfl⟩


theorem info_few : (Try.prog.info? 5).map (fun i => (i.zero, i.size, i.bytes)) = some (some (.int .u8 0), 1, 1) := by kernel_rfl
set_option maxHeartbeats 400000 in
theorem few_any (A : Option Addr) (n c m B : Nat) (mi : Int) (hmi : mi = (m : Int)) (f : Nat → Value) (w : World) (hA : A = none → n = 0) (hR : Rd w B A n f) (hnc : n ≤ c) (hc : c ≤ 9223372036854775807) (hm : m ≤ 1099511627776) (h1 : ∀ j, j < n → (f j).oneCell' = true) :
    Calls Try.prog 10 #[.slice A n c, .int .i64 mi] w fun e w' => ∃ A' c', e = .returned (.slice A' (min n m) c') ∧ w'.ownsRow w.heap.size 5 1 (.slice A' (min n m) c') (min n m) ((List.range (min n m)).map f) ∧ Below w.heap.size w w' := by
  subst hmi
  obtain ⟨i0, hi, hz0, hz1, hz2⟩ := info_parts info_few
  by_cases hlt : m < n
  · have HM := Lib.hid (show min n m = m by omega)
    obtain ⟨v', w', hap, hown, hg, hat⟩ := run_append_rd (P := Try.prog) w w.heap.size 23 23 5 i0 _ 1 Try.underlying23 hi hz0 hz1 hz2 rfl (.slice none 0 0) 0 [] (World.ownsRow_nil _ _ _ _) B A m c f (hR.less (by omega)) (fun h => by have := hA h; omega) (fun j hj => h1 j (by omega)) (by unfold maxLen; omega) (by omega) (Nat.le_refl _)
    have HA := Lib.hid hap; clear hap hat
    go_enter Try.func10, Try.ntmps10
    go_wp2_with (at_builtin; refine wpList_append_run HA.out rfl rfl rfl rfl ?_)
    go_ret
    obtain ⟨A', c', rfl⟩ := own_slice hown
    simp only [Nat.zero_add, List.nil_append] at hown
    rw [HM.out]
    exact ⟨A', c', by simp, hown, (Below.refl _ _).grown hg (Nat.le_refl _) (by simp [Value.ownBlock])⟩
  · have HM := Lib.hid (show min n m = n by omega)
    obtain ⟨v', w', hap, hown, hg, hat⟩ := run_append_rd (P := Try.prog) w w.heap.size 23 23 5 i0 _ 1 Try.underlying23 hi hz0 hz1 hz2 rfl (.slice none 0 0) 0 [] (World.ownsRow_nil _ _ _ _) B A n c f (hR.less (by omega)) (fun h => by have := hA h; omega) (fun j hj => h1 j (by omega)) (by unfold maxLen; omega) (by omega) (Nat.le_refl _)
    have HA := Lib.hid hap; clear hap hat
    go_enter Try.func10, Try.ntmps10
    go_wp2_with (at_builtin; refine wpList_append_run HA.out rfl rfl rfl rfl ?_)
    go_ret
    obtain ⟨A', c', rfl⟩ := own_slice hown
    simp only [Nat.zero_add, List.nil_append] at hown
    rw [HM.out]
    exact ⟨A', c', by simp, hown, (Below.refl _ _).grown hg (Nat.le_refl _) (by simp [Value.ownBlock])⟩


/-- Two rows are alike. -/
def sameF (n m : Nat) (f g : Nat → Int) : Bool := decide (n = m ∧ ∀ j, j < n → f j = g j)

set_option maxHeartbeats 400000 in
theorem sameBytes_any (A A' : Option Addr) (n m c c' B : Nat) (f g : Nat → Int) (w : World) (hB : B ≤ w.heap.size) (hR : Rd w B A n (fun j => .int .u8 (f j))) (hR' : Rd w B A' m (fun j => .int .u8 (g j))) (hn : n ≤ 9223372036854775807) (hm : m ≤ 9223372036854775807) :
    Calls Try.prog 11 #[.slice A n c, .slice A' m c'] w fun e w' => e = .returned (.bool (sameF n m f g)) ∧ Below w.heap.size w w' := by
  by_cases hnm : n = m
  · obtain rfl := hnm
    go_enter Try.func11, Try.ntmps11
    go_wp2
    go_loopw [5] (fun i wr => ∃ k : Nat, k ≤ n ∧ i = .int .i64 (k : Int) ∧ Hid (∀ j, j < k → f j = g j) ∧ Below w.heap.size w wr) (fun i _ => n - (intOf i).toNat)
    case atStart => exact ⟨0, by omega, rfl, fun j hj => absurd hj (by omega), Below.refl _ _⟩
    case round =>
      obtain ⟨k, hk, rfl, hj, hb⟩ := hrel
      by_cases hlt : k < n
      · obtain ⟨b, off, rfl, hbB, hc⟩ := (hR.below hb hB).at_ hlt
        obtain ⟨b', off', rfl, hbB', hc'⟩ := (hR'.below hb hB).at_ hlt
        have hi0 : (0 : Int) ≤ (k : Int) := by omega
        have hi1 : (k : Int) < (n : Int) := by omega
        by_cases he : f k = g k
        · have hd : (f k != g k) = false := by simp [he]
          go_wp2
          go_quiet (fail)
          go_wp2
          exact ⟨⟨k + 1, by omega, by go_num, fun j hjk => by rcases (show j < k ∨ j = k by omega) with h | rfl; exact hj.out j h; exact he, below_drewN hb _⟩, by simp [intOf]; omega⟩
        · have hd : (f k != g k) = true := by simp [he]
          have HF := Lib.hid (show sameF n n f g = false from decide_eq_false (fun h => he (h.2 k hlt)))
          go_wp2
          go_quiet (fail)
          go_wp2
          go_ret
          rw [HF.out]
          exact ⟨rfl, below_drewN hb _⟩
      · have HF := Lib.hid (show sameF n n f g = true from decide_eq_true ⟨rfl, fun j hjn => hj.out j (by omega)⟩)
        go_wp2
        go_ret
        rw [HF.out]
        exact ⟨rfl, hb⟩
  · have HF := Lib.hid (show sameF n m f g = false from decide_eq_false (fun h => hnm h.1))
    have hd : ((n : Int) != (m : Int)) = true := by simp; omega
    go_enter Try.func11, Try.ntmps11
    go_wp2
    go_ret
    rw [HF.out]
    exact ⟨rfl, Below.refl _ _⟩




/-- Few, as a list. -/
theorem few_list (A : Option Addr) (n c m : Nat) (mi : Int) (hmi : mi = (m : Int)) (f : Nat → Int) (w : World) (hA : A = none → n = 0) (hR : Rd w w.heap.size A n (fun j => .int .u8 (f j))) (hnc : n ≤ c) (hc : c ≤ 9223372036854775807) (hm : m ≤ 1099511627776)
    (hw : ∀ j, j < n → 0 ≤ f j ∧ f j ≤ 255) :
    Calls Try.prog 10 #[.slice A n c, .int .i64 mi] w fun e w' => ∃ A' c' k bs, e = .returned (.slice A' k c') ∧ k ≤ c' ∧ c' ≤ 9223372036854775807 ∧ k ≤ m ∧ Hid (k = min n m) ∧ Hid (bs.length = k) ∧ Hid (bs = (List.range k).map fun j => UInt8.ofNat (f j).toNat) ∧
      w'.ownsRow w.heap.size 5 1 (.slice A' k c') k (bs.map fun b => Value.int .u8 (b.toNat : Nat)) ∧ Rd w' w'.heap.size A' k (vByte bs) ∧ Below w.heap.size w w' := by
  refine (few_any A n c m _ mi hmi _ w hA hR hnc hc hm (fun _ _ => rfl)).mono ?_
  rintro e w' ⟨A', c', rfl, hown, hb⟩
  have he : (List.range (min n m)).map (fun j => Value.int .u8 (f j)) = ((List.range (min n m)).map fun j => UInt8.ofNat (f j).toNat).map fun b => Value.int .u8 ((b.toNat : Nat) : Int) := by
    rw [List.map_map]
    refine List.map_congr_left fun j hj => ?_
    have h := hw j (by have := List.mem_range.1 hj; omega)
    simp only [Function.comp_apply]
    congr 1
    have : (UInt8.ofNat (f j).toNat).toNat = (f j).toNat := by rw [UInt8.toNat_ofNat']; have h2 := h.2; have h1 := h.1; omega
    rw [this]; omega
  rw [he] at hown
  have hr := Rd.of_own hown (f := vByte ((List.range (min n m)).map fun j => UInt8.ofNat (f j).toNat)) (by intro j hj; simp [vByte, hj])
  exact ⟨A', c', min n m, _, rfl, hr.2.1, own_cap hown, by omega, rfl, by show _ = _; simp, rfl, hown, hr.2.2, hb⟩



theorem sameBytes_list (A A' : Option Addr) (n m c c' : Nat) (xs ys : List UInt8) (w : World) (hx : Hid (xs.length = n)) (hy : Hid (ys.length = m)) (hR : Rd w w.heap.size A n (vByte xs)) (hR' : Rd w w.heap.size A' m (vByte ys)) (hn : n ≤ 9223372036854775807) (hm : m ≤ 9223372036854775807) :
    Calls Try.prog 11 #[.slice A n c, .slice A' m c'] w fun e w' => e = .returned (.bool (decide (xs = ys))) ∧ Below w.heap.size w w' := by
  refine (sameBytes_any A A' n m c c' w.heap.size (fun j => ((xs[j]?.getD 0).toNat : Nat)) (fun j => ((ys[j]?.getD 0).toNat : Nat)) w (Nat.le_refl _) hR hR' hn hm).mono ?_
  rintro e w' ⟨rfl, hb⟩
  refine ⟨?_, hb⟩
  congr 2
  unfold sameF
  rw [decide_eq_decide]
  have h1 := hx.out
  have h2 := hy.out
  constructor
  · rintro ⟨h, hj⟩
    refine List.ext_getElem (by omega) fun i hi hi' => ?_
    have := hj i (by omega)
    simp [hi, hi'] at this
    exact UInt8.toNat_inj.1 (by omega)
  · rintro rfl
    exact ⟨by omega, fun _ _ => rfl⟩
theorem sameBytes_true (A A' : Option Addr) (n m c c' : Nat) (xs ys : List UInt8) (w : World) (he : xs = ys) (hx : Hid (xs.length = n)) (hy : Hid (ys.length = m)) (hR : Rd w w.heap.size A n (vByte xs)) (hR' : Rd w w.heap.size A' m (vByte ys)) (hn : n ≤ 9223372036854775807) (hm : m ≤ 9223372036854775807) :
    Calls Try.prog 11 #[.slice A n c, .slice A' m c'] w fun e w' => e = .returned (.bool true) ∧ Below w.heap.size w w' :=
  (sameBytes_list A A' n m c c' xs ys w hx hy hR hR' hn hm).mono fun e w' ⟨h, hb⟩ => ⟨by rw [h, decide_eq_true he], hb⟩


/-- Few of bytes that are known as a list. -/
theorem few_bytes (A : Option Addr) (n c m : Nat) (mi : Int) (hmi : mi = (m : Int)) (bs : List UInt8) (w : World) (hl : Hid (bs.length = n)) (hR : Rd w w.heap.size A n (vByte bs)) (hnc : n ≤ c) (hc : c ≤ 9223372036854775807) (hm : m ≤ 1099511627776) :
    Calls Try.prog 10 #[.slice A n c, .int .i64 mi] w fun e w' => ∃ A' c' k bs', e = .returned (.slice A' k c') ∧ k ≤ c' ∧ c' ≤ 9223372036854775807 ∧ k ≤ m ∧ Hid (k = min n m) ∧ Hid (bs'.length = k) ∧ Hid (bs' = bs.take m) ∧
      w'.ownsRow w.heap.size 5 1 (.slice A' k c') k (bs'.map fun b => Value.int .u8 (b.toNat : Nat)) ∧ Rd w' w'.heap.size A' k (vByte bs') ∧ Below w.heap.size w w' := by
  refine (few_list A n c m mi hmi (fun j => ((bs[j]?.getD 0).toNat : Nat)) w hR.none_ hR hnc hc hm (fun j _ => ⟨by omega, by have := (bs[j]?.getD 0).toNat_lt; omega⟩)).mono ?_
  rintro e w' ⟨A', c', k, bs', rfl, h1, h2, h3, h4, h5, h6, h7, h8, h9⟩
  refine ⟨A', c', k, bs', rfl, h1, h2, h3, h4, h5, ?_, h7, h8, h9⟩
  show bs' = bs.take m
  rw [h6.out]
  have e1 := hl.out
  have e2 := h4.out
  refine List.ext_getElem (by simp; omega) fun i hi hi' => ?_
  have hib : i < bs.length := by simp at hi'; omega
  simp [hib]



theorem around_nat (n : Int) (m : Nat) (mi : Int) (w : World) (hmi : mi = (m : Int)) (h1 : -9223372036854775808 ≤ n) (h2 : n ≤ 9223372036854775807) (h3 : 0 < m) (h4 : m ≤ 9223372036854775807) :
    Calls Try.prog 19 #[.int .i64 n, .int .i64 mi] w fun e w' => ∃ k : Nat, e = .returned (.int .i64 (k : Int)) ∧ k < m ∧ Hid ((k : Int) = aroundI n m) ∧ w = w' := by
  subst hmi
  have hr := aroundI_range n m (by omega)
  refine (around_any n m w h1 h2 (by omega) (by omega)).mono ?_
  rintro e w' ⟨rfl, rfl⟩
  exact ⟨(aroundI n m).toNat, by rw [Int.toNat_of_nonneg hr.1], by omega, by show _ = _; omega, rfl⟩


end Go.Proofs.Ytldmokjpfnakkaa

/- The documented examples (worldmintlaw02.lives). -/
namespace Go.Proofs.Ytldmokjpfnakkaa
open Go.RowKit

theorem varint_300 : varint 300 = [172, 2] := by rw [varint_ge (by decide), varint_lt (by decide)]; rfl
theorem encInt_m1 : encInt (-1) = [1] := by unfold encInt; rw [varint_lt (by decide)]; rfl
theorem encRaw_ab : encRaw [97, 98] = [2, 97, 98] := by unfold encRaw; rw [varint_lt (by decide)]; rfl
theorem Rdr.other {w w' : World} {B gd B1 g1 : Nat} {rest rest1 : List UInt8} {err err1 : Int} (h : Rdr w B gd rest err) (h1 : Rdr w B1 g1 rest1 err1) (hne : gd ≠ g1) (hg : w.grownBy w' (some g1)) : Rdr w' B gd rest err := by
  obtain ⟨k1, k2, A, n, c, p1, p2, p3, p4⟩ := h
  obtain ⟨_, _, A1, n1, c1, q1, _⟩ := h1
  refine ⟨k1, Nat.le_trans k2 hg.size, A, n, c, p1.grown hg (by simpa using hne), p2, p3, fun e => ⟨(p4 e).1, (p4 e).2.1, ?_⟩⟩
  intro hn
  obtain ⟨b, off, e', hb, hc⟩ := (p4 e).2.2 hn
  have hne' : b ≠ g1 := by
    rintro rfl
    have h0 := hc 0 hn
    rw [Nat.add_zero, Blk.cell q1 off] at h0
    rcases off with _ | _ | off <;> simp [vByte] at h0
  exact ⟨b, off, e', hb, fun j hj => (World.cell?_of_block (w := w) (hg.block b (by omega) (by simpa using hne'))).trans (hc j hj)⟩
theorem rd_litb (W : World) (t : TypeId) (cs : List UInt8) (m : Nat) (hm : cs.length = m) (vs : Array Value) (hv : vs = (cs.map fun b => Value.int .u8 ((b.toNat : Nat) : Int)).toArray) : Rd (W.alloc (.cells vs t)) (W.heap.size + 1) (some ⟨W.heap.size, 0, none⟩) m (vByte cs) := by
  subst hv hm
  exact fun _ => ⟨_, _, rfl, by omega, fun j hj => by
    rw [Nat.zero_add, Blk.cell (Blk.new W t _) j]
    simp [vByte, hj]⟩

end Go.Proofs.Ytldmokjpfnakkaa

/- Writers and rows beside other memory that turns. -/
namespace Go.Proofs.Ytldmokjpfnakkaa
open Go.RowKit

/-- A Writer whose blocks all lie below M. -/
def WrIn (w : World) (B M gd : Nat) (bs : List UInt8) : Prop :=
  B ≤ gd ∧ gd < M ∧ ∃ A n c, bs.length = n ∧ Blk w gd 37 #[.slice A n c] ∧ w.ownsRow B 5 1 (.slice A n c) n (bs.map fun b => Value.int .u8 ((b.toNat : Nat) : Int)) ∧ ∀ k, (Value.slice A n c).ownBlock = some k → k < M
theorem Wr.within {w : World} {B gd : Nat} {bs : List UInt8} (h : Wr w B gd bs) : WrIn w B w.heap.size gd bs := by
  obtain ⟨h0, A, n, c, h1, h2, h3⟩ := h
  exact ⟨h0, h2.lt, A, n, c, h1, h2, h3, fun k e => (h3.lt k e).2⟩
theorem WrIn.wr {w : World} {B M gd : Nat} {bs : List UInt8} (h : WrIn w B M gd bs) : Wr w B gd bs := by
  obtain ⟨h0, _, A, n, c, h1, h2, h3, _⟩ := h
  exact ⟨h0, A, n, c, h1, h2, h3⟩
theorem WrIn.grown {w w' : World} {B M gd : Nat} {bs : List UInt8} {row : Option Nat} (h : WrIn w B M gd bs) (hg : w.grownBy w' row) (hr : ∀ r, row = some r → r < B ∨ M ≤ r) : WrIn w' B M gd bs := by
  obtain ⟨h0, h0', A, n, c, h1, h2, h3, h4⟩ := h
  refine ⟨h0, h0', A, n, c, h1, h2.grown hg (fun e => by have := hr gd e.symm; omega), h3.kept hg ?_, h4⟩
  cases hv : (Value.slice A n c).ownBlock with
  | none => exact .inl rfl
  | some k => exact .inr (fun e => by
      have := hr k e.symm
      have := h4 k hv
      have := (h3.lt k hv).1
      omega)
theorem WrIn.below {w w' : World} {B M gd : Nat} {bs : List UInt8} (h : WrIn w B M gd bs) (hb : Below w.heap.size w w') : WrIn w' B M gd bs := h.grown (only_of_below hb none) (fun _ e => by cases e)
theorem own_grown {w w' : World} {base e size n : Nat} {v : Value} {xs : List Value} {row : Option Nat} (h : w.ownsRow base e size v n xs) (hg : w.grownBy w' row) (hr : ∀ r, row = some r → r < base) : w'.ownsRow base e size v n xs := by
  refine h.kept hg ?_
  cases hv : v.ownBlock with
  | none => exact .inl rfl
  | some k => exact .inr (fun e => by
      have := hr k e.symm
      have := (h.lt k hv).1
      omega)
theorem below_grown {B : Nat} {a w w' : World} {row : Option Nat} (h : Below B a w) (hg : w.grownBy w' row) (hB : B ≤ w.heap.size) (hr : ∀ r, row = some r → B ≤ r) : Below B a w' := h.grown hg hB hr

/-- 'append([]byte{}, b...)'. -/
theorem copy_run (w : World) (A : Option Addr) (n c : Nat) (bs : List UInt8) (hx : bs.length = n) (hR : Rd w w.heap.size A n (vByte bs)) (hn : n ≤ 70368744177664) :
    ∃ A' c' w3, Hid ((Builtin.append_ #[23, 23] 23 #[.slice (some ⟨w.heap.size, 0, none⟩) 0 0, .slice A n c]).run Try.prog (w.alloc (.cells #[] 5)) = .ok (.slice A' n c') w3) ∧ n ≤ c' ∧ c' ≤ 9223372036854775807 ∧
      w3.ownsRow w.heap.size 5 1 (.slice A' n c') n (bs.map fun b => Value.int .u8 ((b.toNat : Nat) : Int)) ∧ Rd w3 w3.heap.size A' n (vByte bs) ∧ Below w.heap.size w w3 := by
  obtain ⟨i0, hi, hz0, hz1, hz2⟩ := info_parts info_u8
  have ho : (w.alloc (.cells #[] 5)).ownsRow w.heap.size 5 1 (.slice (some ⟨w.heap.size, 0, none⟩) 0 0) 0 [] := World.ownsRow_made w #[] 0 (Nat.le_refl _) (by decide) rfl
  obtain ⟨v, w3, hap, hown, hg, _⟩ := run_append_rd (P := Try.prog) (w.alloc (.cells #[] 5)) w.heap.size 23 23 5 i0 _ 1 Try.underlying23 hi hz0 hz1 hz2 rfl _ 0 [] ho w.heap.size A n c (vByte bs) (hR.alloc (Nat.le_refl _) _) hR.none_ (fun _ _ => rfl) (by unfold maxLen; omega) (by omega) (by simp)
  simp only [Nat.zero_add, List.nil_append] at hown
  obtain ⟨A', c', rfl⟩ := own_slice hown
  have e : (List.range n).map (vByte bs) = bs.map fun b => Value.int .u8 ((b.toNat : Nat) : Int) := by
    refine List.ext_getElem (by simp [hx]) fun i h1 h2 => ?_
    have hi : i < bs.length := by simpa using h2
    simp [vByte, hi]
  rw [e] at hown
  obtain ⟨_, r2, r3⟩ := rd_bytes hown
  exact ⟨A', c', w3, Lib.hid hap, r2, own_cap hown, hown, r3, ((Below.refl _ _).alloc (Nat.le_refl _) _).grown hg (by simp) (fun k e => (ho.lt k e).1)⟩
end Go.Proofs.Ytldmokjpfnakkaa

/- Words for a slice value in a cell: the bytes, the integers that it reads as. -/
namespace Go.Proofs.Ytldmokjpfnakkaa
open Go.RowKit

/-- A slice value as a triple: where it lies, its length, its capacity. -/
abbrev Sl := Option Addr × Nat × Nat
def slV (s : Sl) : Value := .slice s.1 s.2.1 s.2.2
/-- The slice s reads as the bytes bs. -/
structure RowIs (w : World) (s : Sl) (bs : List UInt8) : Prop where
  len : bs.length = s.2.1
  cap : s.2.1 ≤ s.2.2
  max : s.2.2 ≤ 9223372036854775807
  rd : Rd w w.heap.size s.1 s.2.1 (vByte bs)
theorem RowIs.all {w w' : World} {s : Sl} {bs : List UInt8} (h : RowIs w s bs) (hb : Below w.heap.size w w') : RowIs w' s bs := ⟨h.len, h.cap, h.max, h.rd.all hb⟩
theorem RowIs.grown {w w' : World} {s : Sl} {bs : List UInt8} {row : Option Nat} (h : RowIs w s bs) (hg : w.grownBy w' row) (hne : ∀ b off, 0 < s.2.1 → s.1 = some ⟨b, off, none⟩ → some b ≠ row) : RowIs w' s bs := by
  refine ⟨h.len, h.cap, h.max, fun hn => ?_⟩
  obtain ⟨b, off, e, hb, hc⟩ := h.rd hn
  exact ⟨b, off, e, Nat.lt_of_lt_of_le hb hg.size, fun j hj => (World.cell?_of_block (w := w) (hg.block b hb (hne b off hn e))).trans (hc j hj)⟩

/-- The slice s reads as the bytes bs, in blocks below B. -/
structure BIn (w : World) (B : Nat) (s : Sl) (bs : List UInt8) : Prop where
  len : bs.length = s.2.1
  cap : s.2.1 ≤ s.2.2
  max : s.2.2 ≤ 9223372036854775807
  rd : Rd w B s.1 s.2.1 (vByte bs)
/-- The slice s reads as the integers xs, in blocks below B. -/
structure NIn (w : World) (B : Nat) (s : Sl) (xs : List Int) : Prop where
  len : xs.length = s.2.1
  cap : s.2.1 ≤ s.2.2
  max : s.2.2 ≤ 9223372036854775807
  rd : Rd w B s.1 s.2.1 (vInt xs)
theorem BIn.keep {w w' : World} {B : Nat} {s : Sl} {bs : List UInt8} (h : BIn w B s bs) (hk : ∀ b, b < B → w'.heap[b]? = w.heap[b]?) : BIn w' B s bs := ⟨h.len, h.cap, h.max, h.rd.keep hk⟩
theorem NIn.keep {w w' : World} {B : Nat} {s : Sl} {bs : List Int} (h : NIn w B s bs) (hk : ∀ b, b < B → w'.heap[b]? = w.heap[b]?) : NIn w' B s bs := ⟨h.len, h.cap, h.max, h.rd.keep hk⟩
theorem BIn.more {w : World} {B B' : Nat} {s : Sl} {bs : List UInt8} (h : BIn w B s bs) (hB : B ≤ B') : BIn w B' s bs := ⟨h.len, h.cap, h.max, h.rd.more hB⟩
theorem NIn.more {w : World} {B B' : Nat} {s : Sl} {bs : List Int} (h : NIn w B s bs) (hB : B ≤ B') : NIn w B' s bs := ⟨h.len, h.cap, h.max, h.rd.more hB⟩
theorem BIn.nil (w : World) (B : Nat) : BIn w B (none, 0, 0) [] := ⟨rfl, Nat.le_refl _, by simp, Rd.nil⟩
theorem NIn.nil (w : World) (B : Nat) : NIn w B (none, 0, 0) [] := ⟨rfl, Nat.le_refl _, by simp, Rd.nil⟩
theorem BIn.own {w : World} {base e n c : Nat} {A : Option Addr} {bs : List UInt8} (h : w.ownsRow base e 1 (.slice A n c) n (bs.map fun b => Value.int .u8 ((b.toNat : Nat) : Int))) : BIn w w.heap.size (A, n, c) bs := by
  obtain ⟨_, h2, h3⟩ := rd_bytes h
  exact ⟨by simpa using h.1, h2, own_cap h, h3⟩
theorem NIn.own {w : World} {base e n c : Nat} {A : Option Addr} {xs : List Int} (h : w.ownsRow base e 1 (.slice A n c) n (xs.map (Value.int .i64))) : NIn w w.heap.size (A, n, c) xs := by
  obtain ⟨_, h2, h3⟩ := rd_ints h
  exact ⟨by simpa using h.1, h2, own_cap h, h3⟩
end Go.Proofs.Ytldmokjpfnakkaa

/- Values of worldmintref02 in memory; write, encode. -/
namespace Go.Proofs.Ytldmokjpfnakkaa
open Go.RowKit

/-- A value (worldmintref02.Val). -/
structure V where
  kind : Int
  u : Nat
  n : Int
  b : List UInt8
  l : List Int
def V0 : V := ⟨0, 0, 0, [], []⟩
def vCells (v : V) (s t : Sl) : Array Value := #[.int .i64 v.kind, .int .u64 (v.u : Int), .int .i64 v.n, .slice s.1 s.2.1 s.2.2, .slice t.1 t.2.1 t.2.2]
/-- What is encoded. -/
def encV (v : V) : List UInt8 :=
  if v.kind = 0 then varint v.u else if v.kind = 1 then encInt v.n else if v.kind = 2 then encBool (v.n == 1) else if v.kind = 3 ∨ v.kind = 4 then encRaw v.b else encInts v.l
/-- Its parts fit. -/
structure FitV (v : V) : Prop where
  u : v.u ≤ 18446744073709551615
  n : InI v.n
  b : v.b.length ≤ 1000
  l : v.l.length ≤ 1000
  li : ∀ j : Nat, -9223372036854775808 ≤ v.l[j]?.getD 0 ∧ v.l[j]?.getD 0 ≤ 9223372036854775807
theorem encV_len {v : V} (h : FitV v) : (encV v).length ≤ 20000 := by
  unfold encV
  have h1 := varint_len10 h.u
  have h2 := encInt_len h.n.1 h.n.2
  have h3 : (encBool (v.n == 1)).length = 1 := by unfold encBool; split <;> rfl
  have h4 : (encRaw v.b).length ≤ 1010 := by
    unfold encRaw; rw [List.length_append]
    have := varint_len10 (n := v.b.length) (by have := h.b; omega)
    have := h.b
    omega
  have h5 : (encInts v.l).length ≤ 10010 := by
    rw [← encIntsTo_all v.l v.l.length (Nat.le_refl _)]
    have := encIntsTo_len v.l (by have := h.l; omega) h.li v.l.length (Nat.le_refl _)
    have := h.l
    omega
  split
  · omega
  · split
    · omega
    · split
      · omega
      · split
        · omega
        · omega

/-- The slice '.slice A n c' holds the values vs, all in blocks below B. -/
def VRow (w : World) (B : Nat) (A : Option Addr) (n : Nat) (vs : List V) : Prop :=
  vs.length = n ∧ ∃ S T : Nat → Sl, (0 < n → ∃ b off, A = some ⟨b, off, none⟩ ∧ b < B ∧ ∀ j, j < n → ∀ i, i < 5 → w.cell? ⟨b, off + j * 5 + i, none⟩ = (vCells (vs[j]?.getD V0) (S j) (T j))[i]?) ∧
    ∀ j, j < n → BIn w B (S j) (vs[j]?.getD V0).b ∧ NIn w B (T j) (vs[j]?.getD V0).l
theorem VRow.keep {w w' : World} {B n : Nat} {A : Option Addr} {vs : List V} (h : VRow w B A n vs) (hk : ∀ b, b < B → w'.heap[b]? = w.heap[b]?) : VRow w' B A n vs := by
  obtain ⟨hl, S, T, h1, h2⟩ := h
  refine ⟨hl, S, T, fun hn => ?_, fun j hj => ⟨(h2 j hj).1.keep hk, (h2 j hj).2.keep hk⟩⟩
  obtain ⟨b, off, e, hb, hc⟩ := h1 hn
  exact ⟨b, off, e, hb, fun j hj i hi => (World.cell?_of_block (w := w) (hk b hb)).trans (hc j hj i hi)⟩
theorem VRow.below {w w' : World} {B B' n : Nat} {A : Option Addr} {vs : List V} (h : VRow w B A n vs) (hb : Below B' w w') (hB : B ≤ B') : VRow w' B A n vs := h.keep fun b hlt => hb.block b (by omega)
theorem VRow.more {w : World} {B B' n : Nat} {A : Option Addr} {vs : List V} (h : VRow w B A n vs) (hB : B ≤ B') : VRow w B' A n vs := by
  obtain ⟨hl, S, T, h1, h2⟩ := h
  refine ⟨hl, S, T, fun hn => ?_, fun j hj => ⟨(h2 j hj).1.more hB, (h2 j hj).2.more hB⟩⟩
  obtain ⟨b, off, e, hb, hc⟩ := h1 hn
  exact ⟨b, off, e, by omega, hc⟩
theorem VRow.at_ {w : World} {B n k : Nat} {A : Option Addr} {vs : List V} (h : VRow w B A n vs) (hk : k < n) :
    ∃ (b off : Nat) (v : V) (s t : Sl), A = some ⟨b, off, none⟩ ∧ b < B ∧ Hid (v = vs[k]?.getD V0) ∧ w.cell? ⟨b, off + k * 5, none⟩ = some (.int .i64 v.kind) ∧ w.cell? ⟨b, off + k * 5 + 1, none⟩ = some (.int .u64 (v.u : Int)) ∧ w.cell? ⟨b, off + k * 5 + 2, none⟩ = some (.int .i64 v.n) ∧
      w.cell? ⟨b, off + k * 5 + 3, none⟩ = some (.slice s.1 s.2.1 s.2.2) ∧ w.cell? ⟨b, off + k * 5 + 4, none⟩ = some (.slice t.1 t.2.1 t.2.2) ∧ Hid (BIn w B s v.b) ∧ Hid (NIn w B t v.l) := by
  obtain ⟨_, S, T, h1, h2⟩ := h
  obtain ⟨b, off, e, hb, hc⟩ := h1 (by omega)
  have c := hc k hk
  refine ⟨b, off, _, S k, T k, e, hb, Lib.hid rfl, ?_, ?_, ?_, ?_, ?_, Lib.hid (h2 k hk).1, Lib.hid (h2 k hk).2⟩
  · simpa [vCells] using c 0 (by decide)
  · simpa [vCells] using c 1 (by decide)
  · simpa [vCells] using c 2 (by decide)
  · simpa [vCells] using c 3 (by decide)
  · simpa [vCells] using c 4 (by decide)
/-- The encoding of the first k values. -/
def encTo (vs : List V) (k : Nat) : List UInt8 := (vs.take k).flatMap encV
theorem encTo_succ (vs : List V) (k : Nat) (hk : k < vs.length) : encTo vs (k + 1) = encTo vs k ++ encV (vs[k]?.getD V0) := by
  unfold encTo
  rw [List.take_succ_eq_append_getElem hk, List.flatMap_append]
  simp [hk]
theorem encTo_len (vs : List V) (hf : ∀ j : Nat, FitV (vs[j]?.getD V0)) : ∀ k, k ≤ vs.length → (encTo vs k).length ≤ 20000 * k
  | 0, _ => by simp [encTo]
  | k + 1, h => by
    rw [encTo_succ vs k (by omega), List.length_append]
    have := encTo_len vs hf k (by omega)
    have := encV_len (hf k)
    omega

end Go.Proofs.Ytldmokjpfnakkaa
