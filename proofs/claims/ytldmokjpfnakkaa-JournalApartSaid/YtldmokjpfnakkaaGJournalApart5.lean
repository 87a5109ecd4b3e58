/- Part 5 of the texts that JournalApart needs: WireRefR JrnRefS JrnLists AppendKeep JrnLives Dsk DskOps. -/
import Derived.Deep.RegionHeld3
import Derived.Maps.AppendAt
import Derived.Deep.QuietTactic
import Derived.BigQuiet
import Derived.Test.YtldmokjpfnakkaaGJournalApart4

/- The walks of worldmintref02's Reader. -/
namespace Go.Proofs.Ytldmokjpfnakkaa
open Go.RowKit

/-- Nil has no capacity; the block of another slice is in Q. -/
def NilQ (Q : Nat → Prop) (A : Option Addr) (c : Nat) : Prop := (A = none → c = 0) ∧ ∀ a, A = some a → Q a.block
/-- The reference's reader at block gd: at no error the bytes that are left; Q: the blocks in which they may lie. -/
def RRdrQ (Q : Nat → Prop) (w : World) (B gd : Nat) (rest : List UInt8) (err : Int) : Prop :=
  gd < B ∧ B ≤ w.heap.size ∧ ∃ A n c, Blk w gd 105 #[.slice A n c, .int .i64 err] ∧ n ≤ c ∧ c ≤ 9223372036854775807 ∧ (err = 0 → rest.length = n ∧ n ≤ 70368744177664 ∧ Rd w B A n (vByte rest) ∧ NilQ Q A c)
abbrev RRdr (w : World) (B gd : Nat) (rest : List UInt8) (err : Int) : Prop := RRdrQ (fun _ => True) w B gd rest err
theorem NilQ.nil_ (Q : Nat → Prop) : NilQ Q none 0 := ⟨fun _ => rfl, fun _ h => by cases h⟩
theorem NilQ.any {A : Option Addr} {c : Nat} (h : A = none → c = 0) : NilQ (fun _ => True) A c := ⟨h, fun _ _ => trivial⟩
theorem NilQ.of_ {Q : Nat → Prop} {a : Addr} (c : Nat) (h : Q a.block) : NilQ Q (some a) c := ⟨(fun h => by cases h), (fun b e => by cases e; exact h)⟩
variable {Q : Nat → Prop}
theorem RRdrQ.grown {w w' : World} {B gd : Nat} {rest : List UInt8} {err : Int} {row : Option Nat} (h : RRdrQ Q w B gd rest err) (hg : w.grownBy w' row) (hr : ∀ r, row = some r → B ≤ r) : RRdrQ Q w' B gd rest err := by
  obtain ⟨k1, k2, A, n, c, h1, h2, h3, h4⟩ := h
  have hne : ∀ b, b < B → some b ≠ row := fun b hb e => by have := hr b e.symm; omega
  refine ⟨k1, Nat.le_trans k2 hg.size, A, n, c, h1.grown hg (hne gd k1), h2, h3, fun e => ⟨(h4 e).1, (h4 e).2.1, ?_, (h4 e).2.2.2⟩⟩
  exact (h4 e).2.2.1.keep fun b hb => hg.block b (by omega) (hne b hb)
theorem RRdrQ.all {w w' : World} {B gd : Nat} {rest : List UInt8} {err : Int} (h : RRdrQ Q w B gd rest err) (hb : Below w.heap.size w w') : RRdrQ Q w' B gd rest err :=
  h.grown (only_of_below hb none) (fun _ e => by cases e)
theorem RRdrQ.lt {w : World} {B gd : Nat} {rest : List UInt8} {err : Int} (h : RRdrQ Q w B gd rest err) : gd < B ∧ B ≤ w.heap.size := ⟨h.1, h.2.1⟩
theorem RRdrQ.fail {w : World} {B gd : Nat} {rest : List UInt8} {err : Int} (h : RRdrQ Q w B gd rest err) (e : Int) (he : e ≠ 0) : RRdrQ Q (w.setCell ⟨gd, 1, none⟩ (.int .i64 e)) B gd [] e := by
  obtain ⟨k1, k2, A, n, c, h1, h2, h3, h4⟩ := h
  exact ⟨k1, by simpa [World.setCell] using k2, A, n, c, by simpa using h1.set_ 1 (.int .i64 e), h2, h3, fun h => absurd h he⟩
theorem RRdrQ.any {w : World} {B gd : Nat} {rest : List UInt8} {err : Int} (h : RRdrQ Q w B gd rest err) (he : err ≠ 0) (rest' : List UInt8) : RRdrQ Q w B gd rest' err := by
  obtain ⟨k1, k2, A, n, c, h1, h2, h3, h4⟩ := h
  exact ⟨k1, k2, A, n, c, h1, h2, h3, fun h => absurd h he⟩
theorem RRdrQ.err_cell {w : World} {B gd : Nat} {rest : List UInt8} {err : Int} (h : RRdrQ Q w B gd rest err) : w.cell? ⟨gd, 1, none⟩ = some (.int .i64 err) ∧ w.frozen? ⟨gd, 1, none⟩ = false := by
  obtain ⟨_, _, A, n, c, h1, h2, h3, h4⟩ := h
  exact ⟨by simpa using h1.cell 1, h1.frozen 1⟩
/-- m bytes are taken. -/
theorem RRdrQ.skip {w : World} {B gd n c m bk off : Nat} {rest : List UInt8} (hB : Blk w gd 105 #[.slice (some ⟨bk, off, none⟩) n c, .int .i64 0]) (k1 : gd < B) (k2 : B ≤ w.heap.size) (hR : Rd w B (some ⟨bk, off, none⟩) n (vByte rest)) (hl : rest.length = n) (hm : m ≤ n) (hnc : n ≤ c) (hc : c ≤ 9223372036854775807) (hn : n ≤ 70368744177664) (hq : Q bk)
    (o' : Nat) (ho : c ≠ m → o' = off + m) : RRdrQ Q (w.setCell ⟨gd, 0, none⟩ (.slice (some ⟨bk, o', none⟩) (n - m) (c - m))) B gd (rest.drop m) 0 := by
  refine ⟨k1, by simpa [World.setCell] using k2, some ⟨bk, o', none⟩, n - m, c - m, by simpa using hB.set_ 0 (.slice (some ⟨bk, o', none⟩) (n - m) (c - m)), by omega, by omega, fun _ => ⟨by simp; omega, by omega, ?_, NilQ.of_ _ hq⟩⟩
  refine rd_set (T := 105) (A' := some ⟨bk, off, none⟩) (m := n) (c := c) (err := 0) ?_ hB
  intro h0
  have := ho (by omega)
  subst this
  obtain ⟨b', off', e, hb, hcell⟩ := hR (by omega)
  cases e
  exact ⟨bk, off + m, rfl, hb, fun j hj => by
    rw [Nat.add_assoc, hcell (m + j) (by omega)]
    simp [vByte]⟩

theorem add_step {i acc unit : Nat} {c : UInt8} (hi : i ≤ 9) (hu : unit = 128 ^ i) (ha : acc < 128 ^ i) (h9 : i = 9 → c.toNat % 128 ≤ 1) :
    IntKind.u64.wrap ((acc : Int) + IntKind.u64.wrap (((c.toNat : Nat) : Int) % 128 * (unit : Int))) = ((acc + c.toNat % 128 * 128 ^ i : Nat) : Int) := by
  rw [wrap_u64, wrap_u64, ← hu]
  have hm : c.toNat % 128 < 128 := Nat.mod_lt _ (by decide)
  have e0 : ((c.toNat : Nat) : Int) % 128 * (unit : Int) = ((c.toNat % 128 * unit : Nat) : Int) := by push_cast; rfl
  rw [e0]
  generalize c.toNat % 128 = x at *
  have hb : acc + x * unit < 18446744073709551616 := by
    by_cases e : i = 9
    · subst e
      have h1 := h9 rfl
      have h2 : x * unit ≤ 1 * unit := Nat.mul_le_mul h1 (Nat.le_refl _)
      omega
    · have h8 : 128 ^ i ≤ 128 ^ 8 := Nat.pow_le_pow_right (by decide) (by omega)
      have h2 : x * unit ≤ 127 * 128 ^ 8 := Nat.mul_le_mul (by omega) (by omega)
      omega
  omega

set_option maxRecDepth 100000 in
set_option maxHeartbeats 1000000 in
theorem quint_any (B gd : Nat) (rest : List UInt8) (err : Int) (w : World) (HR : Hid (RRdrQ Q w B gd rest err)) :
    Calls Try.prog 77 #[.pointer (some ⟨gd, 0, none⟩)] w fun e w' => e = .returned (.int .u64 (((readU rest err).2.1 : Nat) : Int)) ∧ RRdrQ Q w' B gd (readU rest err).2.2 (readU rest err).1 ∧ w.grownBy w' (some gd) := by
  by_cases he : err = 0
  · subst he
    have HU := Lib.hid (show readU rest 0 = decU 0 0 rest from rfl)
    obtain ⟨k1, k2, A, n, c, h1, h2, h3, h4⟩ := HR.out
    have hc0 : w.cell? ⟨gd, 0, none⟩ = some (.slice A n c) := by simpa using h1.cell 0
    have hc1 : w.cell? ⟨gd, 1, none⟩ = some (.int .i64 0) := by simpa using h1.cell 1
    have hf0 : w.frozen? ⟨gd, 0, none⟩ = false := h1.frozen 0
    have hf1 : w.frozen? ⟨gd, 1, none⟩ = false := h1.frozen 1
    obtain ⟨hl, hmx, hRd, hAc⟩ := h4 rfl
    have HL := Lib.hid hl
    have HB := Lib.hid h1
    clear h1 h4 hl
    go_enter Try.func77, Try.ntmps77
    go_wp2
    go_loopw [3, 4, 5] (fun nv uv iv wr => ∃ i acc unit : Nat, i ≤ 9 ∧ i ≤ n ∧ iv = .int .i64 (i : Int) ∧ nv = .int .u64 (acc : Int) ∧ uv = .int .u64 (unit : Int) ∧ unit ≤ 9223372036854775808 ∧ acc ≤ 18446744073709551615 ∧ Hid (unit = 128 ^ i) ∧ Hid (acc < 128 ^ i) ∧ Hid (decU i acc (rest.drop i) = decU 0 0 rest) ∧ wr = w) (fun _ _ iv _ => 10 - (intOf iv).toNat)
    case atStart => exact ⟨0, 0, 1, by omega, by omega, rfl, rfl, rfl, by omega, by omega, Lib.hid rfl, Lib.hid (by decide), Lib.hid rfl, rfl⟩
    case round =>
      obtain ⟨i, acc, unit, hi, hin, rfl, rfl, rfl, hu, hacc, HUN, HA, HD, rfl⟩ := hrel
      by_cases hlt : i < n
      · have hil : i < rest.length := by rw [HL.out]; exact hlt
        have ed : rest.drop i = rest[i] :: rest.drop (i + 1) := List.drop_eq_getElem_cons hil
        rw [ed] at HD
        obtain ⟨bk, off, rfl, hbk, hcell⟩ := hRd.at_ hlt
        have hcc : wr.cell? ⟨bk, off + i, none⟩ = some (.int .u8 ((rest[i].toNat : Nat) : Int)) := by rw [hcell]; simp [vByte, hil]
        generalize rest[i] = ch at *
        have hcl := ch.toNat_lt
        clear ed hcell
        cases hbad : badAt i ch with
        | true =>
          have HF := Lib.hid (HR.out.fail 2 (by decide))
          rw [decU_bad hbad] at HD
          rcases bad_cases hbad with ⟨q1, q2⟩ | ⟨q1, q2, q3⟩ | ⟨q1, q2, q3, q4⟩
          all_goals
            clear hbad
            go_wp2
            go_ret
            rw [HU.out, ← HD.out]
            exact ⟨rfl, HF.out, only_set (only_refl _ _) (.inl rfl) _⟩
        | false =>
          rcases ok_cases hbad with ⟨q1, q2, q3, q4⟩ | ⟨q1, q2, q3⟩ | ⟨q1, q2⟩
          all_goals
            have HST := Lib.hid (add_step (c := ch) hi HUN.out HA.out (fun h => by subst h; unfold badAt at hbad; simp at hbad; omega))
            by_cases hc : ch.toNat < 128
            · rw [decU_end hbad hc] at HD
              clear hbad
              go_wp2
              · go_ret
                have hc' : c = i + 1 := by assumption
                subst hc'
                have hsk := RRdrQ.skip (m := i + 1) HB.out k1 k2 hRd HL.out (by omega) h2 (by omega) hmx (hAc.2 _ rfl) off (fun h => absurd rfl h)
                rw [Nat.sub_self] at hsk
                rw [HU.out, ← HD.out, HST.out, Nat.mod_eq_of_lt hc]
                exact ⟨rfl, hsk, only_set (only_refl _ _) (.inl rfl) _⟩
              · go_ret
                rw [HU.out, ← HD.out, HST.out, Nat.mod_eq_of_lt hc]
                exact ⟨rfl, RRdrQ.skip (m := i + 1) HB.out k1 k2 hRd HL.out (by omega) h2 (by omega) hmx (hAc.2 _ rfl) (off + (i + 1)) (fun _ => rfl), only_set (only_refl _ _) (.inl rfl) _⟩
            · first
                | (exfalso; omega)
                | (rw [decU_go hbad (by omega)] at HD
                   have hi9 : i ≠ 9 := by rintro rfl; unfold badAt at hbad; simp at hbad; omega
                   have HA2 : Hid (acc + ch.toNat % 128 * 128 ^ i < 128 ^ (i + 1)) := by
                     refine Lib.hid ?_
                     have h1 := HA.out
                     have h2 : ch.toNat % 128 * 128 ^ i ≤ 127 * 128 ^ i := Nat.mul_le_mul (by omega) (Nat.le_refl _)
                     rw [Nat.pow_succ]; omega
                   have hle : acc + ch.toNat % 128 * 128 ^ i ≤ 18446744073709551615 := by
                     have h1 := HA2.out
                     have h2 : 128 ^ (i + 1) ≤ 128 ^ 9 := Nat.pow_le_pow_right (by decide) (by omega)
                     omega
                   have hun : unit * 128 ≤ 9223372036854775808 := by
                     have h1 := HUN.out
                     have h2 : 128 ^ (i + 1) ≤ 128 ^ 9 := Nat.pow_le_pow_right (by decide) (by omega)
                     rw [Nat.pow_succ, ← h1] at h2
                     omega
                   have HLE := Lib.hid hle
                   clear hbad hle
                   go_wp2
                   exact ⟨⟨i + 1, _, unit * 128, by omega, by omega, by go_num, congrArg (Value.int .u64) HST.out, by go_num, hun, HLE.out, Lib.hid (by rw [Nat.pow_succ, ← HUN.out]), HA2, HD, by first | rfl | trivial⟩, by simp [intOf]; omega⟩)
      · have HF := Lib.hid (HR.out.fail 3 (by decide))
        rw [List.drop_eq_nil_of_le (by rw [HL.out]; omega), decU_nil] at HD
        go_wp2
        go_ret
        rw [HU.out, ← HD.out]
        exact ⟨rfl, HF.out, only_set (only_refl _ _) (.inl rfl) _⟩
  · have HU := Lib.hid (show readU rest err = (err, 0, []) from if_neg he)
    obtain ⟨hc1, hf1⟩ := HR.out.err_cell
    have hq : (err == 0) = false := by simpa using he
    go_enter Try.func77, Try.ntmps77
    go_wp2
    go_loopw [3, 4, 5] (fun _ _ _ wr => wr = w) (fun _ _ _ _ => 0)
    case atStart => rfl
    case round =>
      obtain rfl := hrel
      clear he
      go_wp2
      go_ret
      rw [HU.out]
      exact ⟨rfl, HR.out.any (by simpa using hq) _, only_refl _ _⟩

set_option maxRecDepth 100000 in
set_option maxHeartbeats 1000000 in
theorem qback_any (n : Nat) (ni : Int) (hni : ni = (n : Int)) (w : World) (h2 : n ≤ 18446744073709551615) :
    Calls Try.prog 76 #[.int .u64 ni] w fun e w' => e = .returned (.int .i64 (unzigI n)) ∧ w = w' := by
  subst hni
  by_cases h : n % 2 = 1
  · have HZ := Lib.hid (show unzigI n = -((n : Int) / 2) - 1 by unfold unzigI; rw [if_pos h]; omega)
    have q : ((n : Int) % 2 == 1) = true := by simp; omega
    go_enter Try.func76, Try.ntmps76
    go_wp2
    go_ret
    rw [HZ.out]
    exact ⟨rfl, rfl⟩
  · have HZ := Lib.hid (show unzigI n = (n : Int) / 2 by unfold unzigI; rw [if_neg h]; omega)
    have q : ((n : Int) % 2 == 1) = false := by simp; omega
    go_enter Try.func76, Try.ntmps76
    go_wp2
    go_ret
    rw [HZ.out]
    exact ⟨rfl, rfl⟩

set_option maxRecDepth 100000 in
set_option maxHeartbeats 1000000 in
theorem qint_any (B gd : Nat) (rest : List UInt8) (err : Int) (w : World) (HR : Hid (RRdrQ Q w B gd rest err)) :
    Calls Try.prog 66 #[.pointer (some ⟨gd, 0, none⟩)] w fun e w' => e = .returned (.int .i64 (unzigI (readU rest err).2.1)) ∧ RRdrQ Q w' B gd (readU rest err).2.2 (readU rest err).1 ∧ w.grownBy w' (some gd) := by
  go_enter Try.func66, Try.ntmps66
  go_wp2_with (first
    | (go_at_call 77; ((with_reducible refine (quint_any B gd rest err _ HR).mono ?_); rintro e w1 ⟨rfl, hR1, ho1⟩))
    | (go_at_call 76; ((with_reducible refine (qback_any _ _ rfl _ (readU_lt rest err)).mono ?_); rintro e w2 ⟨rfl, rfl⟩)))
  go_ret
  exact ⟨rfl, hR1, ho1⟩

/-- The length ahead of a list. -/
def lenR (rest : List UInt8) (err : Int) : Int × Nat × List UInt8 :=
  if (readU rest err).1 ≠ 0 then ((readU rest err).1, 0, []) else if (readU rest err).2.2.length < (readU rest err).2.1 then (3, 0, []) else (0, (readU rest err).2.1, (readU rest err).2.2)
theorem lenR_cases (rest : List UInt8) (err : Int) : ((readU rest err).1 ≠ 0 ∧ lenR rest err = ((readU rest err).1, 0, [])) ∨ ((readU rest err).1 = 0 ∧ (readU rest err).2.2.length < (readU rest err).2.1 ∧ lenR rest err = (3, 0, [])) ∨
    ((readU rest err).1 = 0 ∧ (readU rest err).2.1 ≤ (readU rest err).2.2.length ∧ lenR rest err = (0, (readU rest err).2.1, (readU rest err).2.2)) := by
  unfold lenR
  by_cases h : (readU rest err).1 = 0
  · by_cases h2 : (readU rest err).2.2.length < (readU rest err).2.1
    · exact .inr (.inl ⟨h, h2, by rw [if_neg (by simpa using h), if_pos h2]⟩)
    · exact .inr (.inr ⟨h, by omega, by rw [if_neg (by simpa using h), if_neg h2]⟩)
  · exact .inl ⟨h, by rw [if_pos h]⟩
theorem lenR_raw (rest : List UInt8) (err : Int) : readRaw rest err = if (lenR rest err).1 ≠ 0 then ((lenR rest err).1, [], []) else (0, (lenR rest err).2.2.take (lenR rest err).2.1, (lenR rest err).2.2.drop (lenR rest err).2.1) := by
  rcases lenR_cases rest err with ⟨h, e⟩ | ⟨h, h2, e⟩ | ⟨h, h2, e⟩
  · rw [e, if_pos h, readRaw_err h]
  · rw [e, readRaw_more h h2]; rfl
  · rw [e, readRaw_ok h h2]; rfl
theorem lenR_ints (rest : List UInt8) (err : Int) : readInts rest err = if (lenR rest err).1 ≠ 0 then ((lenR rest err).1, [], []) else decK (lenR rest err).2.1 (lenR rest err).2.2 := by
  rcases lenR_cases rest err with ⟨h, e⟩ | ⟨h, h2, e⟩ | ⟨h, h2, e⟩
  · rw [e, if_pos h, readInts_err h]
  · rw [e, readInts_more h h2]; rfl
  · rw [e, readInts_ok h h2]; rfl
theorem addr_add (b off j : Nat) : (⟨b, off, none⟩ : Addr).add j = ⟨b, off + j, none⟩ := by unfold Addr.add; split <;> simp_all
theorem RRdrQ.skipA {w : World} {B gd n c m : Nat} {a a' : Addr} {rest : List UInt8} (hB : Blk w gd 105 #[.slice (some a) n c, .int .i64 0]) (k1 : gd < B) (k2 : B ≤ w.heap.size) (hR : Rd w B (some a) n (vByte rest)) (hl : rest.length = n) (hm : m ≤ n) (hnc : n ≤ c) (hc : c ≤ 9223372036854775807) (hn : n ≤ 70368744177664) (hq : Q a.block) (hqa : c = m → Q a'.block)
    (ho : c ≠ m → a' = a.add m) : RRdrQ Q (w.setCell ⟨gd, 0, none⟩ (.slice (some a') (n - m) (c - m))) B gd (rest.drop m) 0 ∧ BIn (w.setCell ⟨gd, 0, none⟩ (.slice (some a') (n - m) (c - m))) B (some a, m, c) (rest.take m) := by
  have hfar : ∀ (x : Option Addr) (k : Nat) (bs : List UInt8), Rd w B x k (vByte bs) → Rd (w.setCell ⟨gd, 0, none⟩ (.slice (some a') (n - m) (c - m))) B x k (vByte bs) := fun x k bs h => rd_set (T := 105) (A' := some a) (m := n) (c := c) (err := 0) h hB
  refine ⟨⟨k1, by simpa [World.setCell] using k2, some a', n - m, c - m, by simpa using hB.set_ 0 (.slice (some a') (n - m) (c - m)), by omega, by omega, fun _ => ⟨by simp; omega, by omega, ?_, NilQ.of_ _ (by
    by_cases h : c = m
    · exact hqa h
    · rw [ho h]; unfold Addr.add; split <;> exact hq)⟩⟩, ⟨by simp; omega, by simp only; omega, hc, ?_⟩⟩
  · refine hfar _ _ _ fun h0 => ?_
    obtain ⟨bk, off, e, hb, hcell⟩ := hR (by omega)
    cases e
    have := ho (by omega)
    subst this
    exact ⟨bk, off + m, by rw [addr_add], hb, fun j hj => by
      rw [Nat.add_assoc, hcell (m + j) (by omega)]
      simp [vByte]⟩
  · exact hfar _ _ _ ((hR.less hm).congr (fun j hj => by simp [vByte, hj]))
theorem lenR_le (rest : List UInt8) (err : Int) (h : (lenR rest err).1 = 0) : (lenR rest err).2.1 ≤ (lenR rest err).2.2.length ∧ (lenR rest err).2.2.length ≤ rest.length := by
  unfold lenR at h ⊢
  split at h
  · rename_i h1; exact absurd h h1
  · rename_i h1
    rw [if_neg h1]
    split at h
    · simp at h
    · rename_i h2
      rw [if_neg h2]
      refine ⟨by simp only; omega, ?_⟩
      obtain ⟨_, e⟩ := readU_ok (rest := rest) (err := err) (by simpa using h1)
      simp only
      rw [e]
      exact (decU_lt rest 0 0 (by decide) (by decide)).2

set_option maxRecDepth 100000 in
set_option maxHeartbeats 2000000 in
theorem qlen_any (B gd : Nat) (rest : List UInt8) (err : Int) (w : World) (HR : Hid (RRdrQ Q w B gd rest err)) :
    Calls Try.prog 75 #[.pointer (some ⟨gd, 0, none⟩)] w fun e w' => e = .returned (.int .i64 (((lenR rest err).2.1 : Nat) : Int)) ∧ RRdrQ Q w' B gd (lenR rest err).2.2 (lenR rest err).1 ∧ w.grownBy w' (some gd) := by
  have hlt := readU_lt rest err
  go_enter Try.func75, Try.ntmps75
  go_wp2_with fail
  refine (quint_any B gd rest err _ HR).mono ?_
  rintro e w1 ⟨rfl, hR1, ho1⟩
  by_cases he : (readU rest err).1 = 0
  · by_cases hm : (readU rest err).2.2.length < (readU rest err).2.1
    · have HE := Lib.hid (show lenR rest err = (3, 0, []) by unfold lenR; rw [if_neg (by simpa using he), if_pos hm])
      generalize readU rest err = q at *
      obtain ⟨e1, n, r1⟩ := q
      simp only at *
      subst he
      have HF := Lib.hid (hR1.fail 3 (by decide))
      obtain ⟨k1, k2, A, m, c, h1, h2, h3, h4⟩ := hR1
      obtain ⟨hl, hmx, hRd, hAc⟩ := h4 rfl
      have hc0 : w1.cell? ⟨gd, 0, none⟩ = some (.slice A m c) := by simpa using h1.cell 0
      have hc1 : w1.cell? ⟨gd, 1, none⟩ = some (.int .i64 0) := by simpa using h1.cell 1
      have hf1 : w1.frozen? ⟨gd, 1, none⟩ = false := h1.frozen 1
      have hmn : m < n := by omega
      clear h1 h4 hl hm
      go_wp2
      go_ret
      rw [HE.out]
      exact ⟨rfl, HF.out, only_set ho1 (.inl rfl) _⟩
    · have HE := Lib.hid (show lenR rest err = (0, (readU rest err).2.1, (readU rest err).2.2) by unfold lenR; rw [if_neg (by simpa using he), if_neg hm])
      generalize readU rest err = q at *
      obtain ⟨e1, n, r1⟩ := q
      simp only at *
      subst he
      have HF := Lib.hid hR1
      obtain ⟨k1, k2, A, m, c, h1, h2, h3, h4⟩ := hR1
      obtain ⟨hl, hmx, hRd, hAc⟩ := h4 rfl
      have hc0 : w1.cell? ⟨gd, 0, none⟩ = some (.slice A m c) := by simpa using h1.cell 0
      have hc1 : w1.cell? ⟨gd, 1, none⟩ = some (.int .i64 0) := by simpa using h1.cell 1
      have hmn : n ≤ m := by omega
      clear h1 h4 hl hm
      go_wp2
      go_ret
      rw [HE.out]
      exact ⟨rfl, HF.out, ho1⟩
  · have HE := Lib.hid (show lenR rest err = ((readU rest err).1, 0, []) by unfold lenR; rw [if_pos he])
    obtain ⟨hc1, hf1⟩ := hR1.err_cell
    generalize readU rest err = q at *
    obtain ⟨e1, n, r1⟩ := q
    simp only at *
    have hq : (e1 == 0) = false := by simpa using he
    have hq' : (e1 != 0) = true := by simpa using he
    go_wp2
    go_ret
    rw [HE.out]
    exact ⟨rfl, hR1.any he _, ho1⟩

set_option maxRecDepth 100000 in
set_option maxHeartbeats 2000000 in
theorem qraw2_any (B gd : Nat) (rest : List UInt8) (err : Int) (w : World) (HR : Hid (RRdrQ Q w B gd rest err)) :
    Calls Try.prog 65 #[.pointer (some ⟨gd, 0, none⟩)] w fun e w' => ∃ A' n' c', e = .returned (.slice A' n' c') ∧ BIn w' B (A', n', c') (readRaw rest err).2.1 ∧ NilQ Q A' c' ∧ RRdrQ Q w' B gd (readRaw rest err).2.2 (readRaw rest err).1 ∧ w.grownBy w' (some gd) := by
  go_enter Try.func65, Try.ntmps65
  go_wp2_with fail
  refine (qlen_any B gd rest err _ HR).mono ?_
  rintro e w1 ⟨rfl, hR1, ho1⟩
  by_cases he : (lenR rest err).1 = 0
  · have HE := Lib.hid (show readRaw rest err = (0, (lenR rest err).2.2.take (lenR rest err).2.1, (lenR rest err).2.2.drop (lenR rest err).2.1) by rw [lenR_raw, if_neg (by simpa using he)])
    have hle := (lenR_le rest err he).1
    generalize lenR rest err = q at *
    obtain ⟨e1, n, r1⟩ := q
    simp only at *
    subst he
    obtain ⟨k1, k2, A, m, c, h1, h2, h3, h4⟩ := hR1
    obtain ⟨hl, hmx, hRd, hAc⟩ := h4 rfl
    have hc0 : w1.cell? ⟨gd, 0, none⟩ = some (.slice A m c) := by simpa using h1.cell 0
    have hc1 : w1.cell? ⟨gd, 1, none⟩ = some (.int .i64 0) := by simpa using h1.cell 1
    have hf0 : w1.frozen? ⟨gd, 0, none⟩ = false := h1.frozen 0
    have HB := Lib.hid h1
    have HL := Lib.hid hl
    have hnm : n ≤ m := by omega
    have hnc : n ≤ c := by omega
    have HRd := Lib.hid hRd
    clear h1 h4 hl hRd hle
    rcases A with _ | a
    · obtain rfl : c = 0 := hAc.1 rfl
      obtain rfl : m = 0 := by omega
      obtain rfl : n = 0 := by omega
      obtain rfl : r1 = [] := List.eq_nil_of_length_eq_zero HL.out
      have hst := Blk.set_ HB.out 0 (.slice none 0 0)
      go_wp2
      go_ret
      rw [HE.out]
      exact ⟨none, 0, 0, rfl, BIn.nil _ _, NilQ.nil_ _, ⟨k1, by simpa [World.setCell] using k2, none, 0, 0, hst, by omega, by omega, fun _ => ⟨rfl, by omega, Rd.nil, NilQ.nil_ _⟩⟩, only_set ho1 (.inl rfl) _⟩
    · go_wp2
      · go_ret
        have hcn : c = n := by assumption
        subst hcn
        obtain ⟨s1, s2⟩ := RRdrQ.skipA (m := c) (a' := a) HB.out k1 k2 HRd.out HL.out hnm h2 h3 hmx (hAc.2 _ rfl) (fun _ => hAc.2 _ rfl) (fun h => absurd rfl h)
        rw [Nat.sub_self] at s1 s2
        rw [HE.out]
        exact ⟨_, _, _, rfl, s2, NilQ.of_ _ (hAc.2 _ rfl), s1, only_set ho1 (.inl rfl) _⟩
      · go_ret
        obtain ⟨s1, s2⟩ := RRdrQ.skipA (m := n) (a' := a.add n) HB.out k1 k2 HRd.out HL.out hnm h2 h3 hmx (hAc.2 _ rfl) (fun h => absurd h (by assumption)) (fun _ => rfl)
        rw [HE.out]
        exact ⟨_, _, _, rfl, s2, NilQ.of_ _ (hAc.2 _ rfl), s1, only_set ho1 (.inl rfl) _⟩
  · have HE := Lib.hid (show readRaw rest err = ((lenR rest err).1, [], []) by rw [lenR_raw, if_pos he])
    obtain ⟨hc1, hf1⟩ := hR1.err_cell
    generalize lenR rest err = q at *
    obtain ⟨e1, n, r1⟩ := q
    simp only at *
    have hq' : (e1 != 0) = true := by simpa using he
    go_wp2
    go_ret
    rw [HE.out]
    exact ⟨none, 0, 0, rfl, BIn.nil _ _, NilQ.nil_ _, hR1.any he _, ho1⟩

theorem qraw_any (B gd : Nat) (rest : List UInt8) (err : Int) (w : World) (HR : Hid (RRdrQ Q w B gd rest err)) :
    Calls Try.prog 65 #[.pointer (some ⟨gd, 0, none⟩)] w fun e w' => ∃ A' n' c', e = .returned (.slice A' n' c') ∧ BIn w' B (A', n', c') (readRaw rest err).2.1 ∧ RRdrQ Q w' B gd (readRaw rest err).2.2 (readRaw rest err).1 ∧ w.grownBy w' (some gd) :=
  (qraw2_any B gd rest err w HR).mono fun _ _ ⟨A', n', c', h1, h2, _, h3⟩ => ⟨A', n', c', h1, h2, h3⟩

end Go.Proofs.Ytldmokjpfnakkaa

/- journal: the reference's first and Scan. -/
namespace Go.Proofs.Ytldmokjpfnakkaa
open Go.RowKit

theorem rfirst_no1 {k : Int} {bs : List UInt8} {n : Nat} (hk1 : -9223372036854775808 ≤ k) (hk2 : k ≤ 9223372036854775807) (hl : bs.length = n) (hn : n ≤ 9223372036854775807) (h : (readRaw bs 0).1 ≠ 0 ∨ (inRec (readRaw bs 0).2.1).1 ≠ 0) : FirstIs k bs none := by
  intro x r hx
  obtain ⟨-, -, h2, h3, h1⟩ := first_parts ⟨hk1, hk2⟩ hx (by omega)
  rw [h2] at h3
  rw [h1] at h
  dsimp only at h
  rw [h3] at h
  simp at h
theorem rfirst_no3 {k : Int} {bs rec : List UInt8} {n : Nat} (hk1 : -9223372036854775808 ≤ k) (hk2 : k ≤ 9223372036854775807) (hl : bs.length = n) (hn : n ≤ 9223372036854775807) (hr : (inRec (readRaw bs 0).2.1).2.1 = rec) (h : ¬ frameB k rec <+: bs) : FirstIs k bs none := by
  intro x r hx
  obtain ⟨-, -, h2, h3, h1⟩ := first_parts ⟨hk1, hk2⟩ hx (by omega)
  rw [h2] at h3
  rw [h1] at hr
  dsimp only at hr
  rw [h3] at hr
  subst hr
  exact h ⟨r, hx.symm⟩
def RFirstPost (Q : Nat → Prop) (k : Int) (bs : List UInt8) (w : World) (e : Ending) (w' : World) : Prop :=
  (e = .returned (.tuple #[.slice none 0 0, .bool false]) ∧ FirstIs k bs none ∧ Below w.heap.size w w') ∨
  ∃ z : Bz, e = .returned (.tuple #[.slice z.A z.n z.c, .bool true]) ∧ z.rd w' ∧ NilQ Q z.A z.c ∧ FirstIs k bs (some z.bs) ∧ Below w.heap.size w w'
set_option maxRecDepth 100000 in
set_option maxHeartbeats 1000000 in
theorem rfirst_any (Q : Nat → Prop) (k : Int) (A : Option Addr) (n c : Nat) (bs : List UInt8) (w : World) (HS : Hid (Sb w A n c bs)) (hk1 : -9223372036854775808 ≤ k) (hk2 : k ≤ 9223372036854775807) (hn : n ≤ 1099511627776) (HQ : Hid (NilQ Q A c)) :
    Calls Try.prog 43 #[.int .i64 k, .slice A n c] w (RFirstPost Q k bs w) := by
  have HL := Lib.hid HS.out.1
  have hnc := HS.out.2.1
  have hc := HS.out.2.2.1
  have HR := Lib.hid HS.out.rd
  have hb1 := (Below.refl w.heap.size w).alloc (Nat.le_refl _) (.cells #[.slice A n c, .int .i64 0] 105)
  have hR1 : RRdrQ Q (w.alloc (.cells #[.slice A n c, .int .i64 0] 105)) (w.heap.size + 1) w.heap.size bs 0 := ⟨by omega, by simp, A, n, c, Blk.new _ _ _, hnc, hc, fun _ => ⟨HL.out, by omega, (HR.out.all hb1).keep (fun _ _ => rfl) |>.more (by simp), HQ.out⟩⟩
  go_enter Try.func43, Try.ntmps43
  go_wp2_with fail
  refine (qraw2_any _ _ _ _ _ (Lib.hid hR1)).mono ?_
  rintro e w2 ⟨A2, n2, c2, rfl, hB2, hQ2, hR2, hg2⟩
  have hb2 := below_of_only hb1 hg2 hb1.size (Nat.le_refl _)
  obtain ⟨s1, hs1⟩ : ∃ s1, readRaw bs 0 = s1 := ⟨_, rfl⟩
  rw [hs1] at hB2 hR2
  have HS1 := Lib.hid hs1
  clear hs1 hb1 hR1 hg2
  have hz2 := hR2.lt.2
  have hn2 : n2 ≤ n := by
    have h1 := readRaw_len bs 0
    rw [HS1.out, HL.out] at h1
    have h2 := hB2.len
    simp only at h2
    omega
  have hb3 := (Below.refl w2.heap.size w2).alloc (Nat.le_refl _) (.cells #[.slice A2 n2 c2, .int .i64 0] 105)
  have hR3 : RRdrQ Q (w2.alloc (.cells #[.slice A2 n2 c2, .int .i64 0] 105)) (w2.heap.size + 1) w2.heap.size s1.2.1 0 := ⟨by omega, by simp, A2, n2, c2, Blk.new _ _ _, hB2.cap, hB2.max, fun _ => ⟨hB2.len, by omega, ((hB2.rd.more (by omega)).all hb3).keep (fun _ _ => rfl) |>.more (by simp), hQ2⟩⟩
  have hR2' := hR2.all hb3
  have hB3 := hb2.trans (hb3.mono hb2.size)
  clear hb3 hR2 hb2 hB2 hQ2
  go_wp2_with fail
  refine (qint_any _ _ _ _ _ (Lib.hid hR3)).mono ?_
  rintro e w4 ⟨rfl, hR4, hg4⟩
  have hR2 := hR2'.grown hg4 (fun r e => by injection e with e; omega)
  have hB4 := below_of_only hB3 hg4 hB3.size (by omega)
  clear hR2' hR3 hg4 hB3
  go_wp2_with fail
  refine (qraw2_any _ _ _ _ _ (Lib.hid hR4)).mono ?_
  rintro e w5 ⟨A5, n5, c5, rfl, hB5, hQ5, hR5, hg5⟩
  have hR2' := hR2.grown hg5 (fun r e => by injection e with e; omega)
  have hBB5 := below_of_only hB4 hg5 hB4.size (by omega)
  obtain ⟨s2, hs2⟩ : ∃ s2, inRec s1.2.1 = s2 := ⟨_, rfl⟩
  replace hB5 : BIn w5 (w2.heap.size + 1) (A5, n5, c5) s2.2.1 := by rw [← hs2]; exact hB5
  replace hR5 : RRdrQ Q w5 (w2.heap.size + 1) w2.heap.size s2.2.2 s2.1 := by rw [← hs2]; exact hR5
  have HS2 := Lib.hid hs2
  have hn5 : n5 ≤ n := by
    have h1 := inRec_len s1.2.1
    rw [hs2] at h1
    have h2 := readRaw_len bs 0
    rw [HS1.out, HL.out] at h2
    have h3 := hB5.len
    simp only at h3
    omega
  obtain ⟨q1, -⟩ := hR2'.err_cell
  obtain ⟨q2, -⟩ := hR5.err_cell
  have hz5 := hR5.lt.2
  clear hs2 hR2 hR4 hg5 hB4 hR2' hR5
  by_cases e1 : s1.1 = 0
  · by_cases e2 : s2.1 = 0
    · have t1 : (s1.1 != 0) = false := by simpa using e1
      have t2 : (s2.1 != 0) = false := by simpa using e2
      have HB5 := Lib.hid hB5
      have HN5 := Lib.hid (show s2.2.1.length = n5 from hB5.len)
      have hr5 : Rd w5 w5.heap.size A5 n5 (vByte s2.2.1) := hB5.rd.more hz5
      clear e1 e2 hB5
      go_wp2_with fail
      refine (rframe_any k _ n5 _ s2.2.1 _ HN5 hk1 hk2 (by omega) hr5).mono ?_
      rintro e w6 ⟨A6, n6, c6, rfl, HN6, hown6, hb6⟩
      have hB6 := hBB5.trans (hb6.mono hBB5.size)
      have hz : Bz.rd w6 ⟨A5, n5, c5, s2.2.1⟩ := Bz.rd.all (w := w5) (HB5.out.more hz5) hb6
      obtain ⟨-, hnc6, hr6⟩ := rd_bytes hown6
      have hp6 : 0 < n6 := by have := frameB_pos k s2.2.1; have := HN6.out; omega
      have hc6 := own_cap hown6
      have HZ := Lib.hid hz
      have hrb := HR.out.all hB6
      clear hb6 hown6 hr5 hz hBB5 q1 q2 t1 t2
      by_cases hlen : n6 ≤ n
      · obtain ⟨b, off, rfl, hb, -⟩ := HR.out (by omega)
        have HTK := Lib.hid (show (bs.take n6).length = n6 by rw [List.length_take, HL.out]; omega)
        have hrt : Rd w6 w6.heap.size (some ⟨b, off, none⟩) n6 (vByte (bs.take n6)) := (hrb.less hlen).congr (fun j hj => by simp [vByte, hj])
        clear hrb
        by_cases hpre : frameB k s2.2.1 = bs.take n6
        · have HP := Lib.hid hpre
          clear hpre
          go_wp2_with fail
          refine (sameBytes_true _ _ _ _ _ _ (frameB k s2.2.1) (bs.take n6) _ HP.out HN6 HTK hr6 hrt (by omega) (by omega)).mono ?_
          rintro e w7 ⟨rfl, hb7⟩
          go_wp2
          go_ret2
          refine .inr ⟨⟨A5, n5, c5, s2.2.1⟩, rfl, HZ.out.all hb7, hQ5, ⟨bs.drop n6, ?_⟩, hB6.trans (hb7.mono hB6.size)⟩
          dsimp only
          rw [HP.out, List.take_append_drop]
        · have HP := Lib.hid (show decide (frameB k s2.2.1 = bs.take n6) = false by simpa using hpre)
          have HNP := Lib.hid (show ¬ frameB k s2.2.1 <+: bs by
            intro h
            apply hpre
            rw [List.prefix_iff_eq_take, HN6.out] at h
            exact h)
          clear hpre
          go_wp2_with fail
          refine (sameBytes_list _ _ _ _ _ _ (frameB k s2.2.1) (bs.take n6) _ HN6 HTK hr6 hrt (by omega) (by omega)).mono ?_
          rintro e w7 ⟨rfl, hb7⟩
          rw [HP.out]
          go_wp2
          go_ret2
          exact .inl ⟨rfl, rfirst_no3 hk1 hk2 HL.out (by omega) (by rw [HS1.out, HS2.out]) HNP.out, hB6.trans (hb7.mono hB6.size)⟩
      · have HNP := Lib.hid (show ¬ frameB k s2.2.1 <+: bs by
          intro h
          have := h.length_le
          rw [HN6.out, HL.out] at this
          omega)
        go_wp2
        go_ret2
        exact .inl ⟨rfl, rfirst_no3 hk1 hk2 HL.out (by omega) (by rw [HS1.out, HS2.out]) HNP.out, hB6⟩
    · have t1 : (s1.1 != 0) = false := by simpa using e1
      have t2 : (s2.1 != 0) = true := by simpa using e2
      go_wp2
      go_ret2
      exact .inl ⟨rfl, rfirst_no1 hk1 hk2 HL.out (by omega) (.inr (by rw [HS1.out, HS2.out]; exact e2)), hBB5⟩
  · have t1 : (s1.1 != 0) = true := by simpa using e1
    go_wp2
    go_ret2
    exact .inl ⟨rfl, rfirst_no1 hk1 hk2 HL.out (by omega) (.inl (by rw [HS1.out]; exact e1)), hBB5⟩

def RScanPost (bs : List UInt8) (w : World) (e : Ending) (w' : World) : Prop :=
  ∃ (v : Value) (L : List Bz) (m : Nat), e = .returned (.tuple #[v, .int .i64 (m : Int)]) ∧ LsOwnR w' w.heap.size v L ∧ ScanIs bs (bsOf L) m ∧ Below w.heap.size w w'
/-- The state of the reference's Scan. -/
structure RScanI (w : World) (bs : List UInt8) (v : Value) (m : Nat) (L : List Bz) (W : World) : Prop where
  own : LsOwnR W w.heap.size v L
  low : ∀ y ∈ L, NilQ (fun b => b < w.heap.size) y.A y.c
  len : m = (framesB 0 (bsOf L)).length
  cut : bs = framesB 0 (bsOf L) ++ bs.drop m
  below : Below w.heap.size w W
theorem RScanI.all {w : World} {bs : List UInt8} {v : Value} {m : Nat} {L : List Bz} {W W' : World} (h : RScanI w bs v m L W) (hb : Below W.heap.size W W') : RScanI w bs v m L W' := ⟨h.own.all hb, h.low, h.len, h.cut, h.below.trans (hb.mono h.below.size)⟩
theorem RScanI.count {w : World} {bs : List UInt8} {v : Value} {m : Nat} {L : List Bz} {W : World} (h : RScanI w bs v m L W) : 2 * L.length ≤ m ∧ m ≤ bs.length := by
  have h1 := framesB_len (bsOf L) 0
  rw [bsOf_length, ← h.len] at h1
  have h2 := congrArg List.length h.cut
  rw [List.length_append, ← h.len] at h2
  exact ⟨h1, by omega⟩
set_option maxRecDepth 100000 in
set_option maxHeartbeats 1000000 in
theorem rscan_any (A : Option Addr) (n c : Nat) (bs : List UInt8) (w : World) (HS : Hid (Sb w A n c bs)) (hn : n ≤ 1099511627776) :
    Calls Try.prog 16 #[.slice A n c] w (RScanPost bs w) := by
  have HL := Lib.hid HS.out.1
  have hnc := HS.out.2.1
  have hc := HS.out.2.2.1
  go_enter Try.func16, Try.ntmps16
  go_wp2
  go_loopw [4, 5] (fun v i wr => ∃ (m k : Nat) (L : List Bz), m ≤ n ∧ k ≤ n ∧ i = .int .i64 (m : Int) ∧ (∃ A' c', v = .slice A' k c') ∧ Hid (L.length = k) ∧ Hid (RScanI w bs v m L wr)) (fun _ i _ => n - (intOf i).toNat)
  case atStart => exact ⟨0, 0, [], by omega, by omega, rfl, ⟨none, 0, rfl⟩, Lib.hid rfl, Lib.hid ⟨LsOwnR.nil _ _, fun _ h => absurd h (by simp), rfl, rfl, Below.refl _ _⟩⟩
  case round =>
    obtain ⟨m, k, L, hm, hk, rfl, ⟨A', c', rfl⟩, HK, HI⟩ := hrel
    by_cases hlt : m < n
    · obtain ⟨b, off, rfl, hbw, -⟩ := HS.out.rd (by omega)
      have HQ : Hid (NilQ (fun b => b < w.heap.size) (some ⟨b, off + m, none⟩) (c - m)) := Lib.hid (NilQ.of_ _ hbw)
      have HSB : Hid (Sb wr (some ⟨b, off + m, none⟩) (n - m) (c - m) (bs.drop m)) := Lib.hid ((HS.out.all HI.out.below).skip hm (fun _ => rfl))
      go_wp2_with fail
      refine (rfirst_any _ _ _ _ _ (bs.drop m) _ HSB (by omega) (by omega) (by omega) HQ).mono ?_
      rintro e w1 (⟨rfl, hno, hb1⟩ | ⟨z, rfl, hz, hq, hyes, hb1⟩)
      · have HN := Lib.hid hno
        have hI1 := HI.out.all hb1
        clear hno hb1
        go_wp2
        go_ret2
        exact ⟨_, L, m, rfl, hI1.own, ⟨hI1.len, bs.drop m, hI1.cut, by rw [bsOf_length, HK.out]; exact HN.out⟩, hI1.below⟩
      · have HI1 := Lib.hid (HI.out.all hb1)
        have hzn : z.n ≤ n := by
          obtain ⟨r, hr⟩ := hyes
          have h1 := congrArg List.length hr
          rw [List.length_append, List.length_drop, HL.out] at h1
          have h2 := frameB_gt (k : Int) z.bs
          have h3 := coreB_gt (k : Int) z.bs
          have h4 : z.bs.length = z.n := hz.len
          omega
        have HZL : Hid (z.bs.length = z.n) := Lib.hid hz.len
        have hrz : Rd w1 w1.heap.size z.A z.n (vByte z.bs) := hz.rd
        have HZ := Lib.hid hz
        have HY := Lib.hid hyes
        have HQZ := Lib.hid hq
        clear hz hyes hb1 hq
        go_wp2_with fail
        refine (rframe_any _ _ _ _ z.bs _ HZL (by omega) (by omega) (by omega) hrz).mono ?_
        rintro e w2 ⟨A2, n2, c2, rfl, HN2, -, hb2⟩
        have HI2 := Lib.hid (HI1.out.all hb2)
        have HZ2 := Lib.hid (HZ.out.all hb2)
        have hcnt := HI2.out.count
        rw [HL.out, HK.out] at hcnt
        obtain ⟨hd1, hd2, hd3⟩ := first_drop HY.out HN2.out.symm
        rw [List.length_drop, HL.out] at hd2
        have HD := Lib.hid hd1
        obtain ⟨g, cap, w3, hrun, hown3, hg3, -⟩ := HI2.out.own.snoc (ty := 27) z HZ2.out (by
          intro y hy b' off' e _ e2
          have h1 := (HI2.out.own.1.lt _ e2).1
          have h2 : NilQ (fun b => b < w.heap.size) y.A y.c := by
            rcases List.mem_append.1 hy with hy | hy
            · exact HI2.out.low y hy
            · simp at hy
              subst hy
              exact HQZ.out
          have := h2.2 _ e
          simp only at this
          omega) (by rw [HK.out]; omega) HI2.out.below.size
        rw [HK.out] at hrun hown3
        have HRUN := Lib.hid hrun
        have HI3 : Hid (RScanI w bs (.slice (some ⟨g, 0, none⟩) (k + 1) cap) (m + n2) (L ++ [z]) w3) := Lib.hid (by
          have hf : framesB 0 (bsOf (L ++ [z])) = framesB 0 (bsOf L) ++ frameB (k : Int) z.bs := by rw [bsOf_snoc, framesB_snoc, Nat.zero_add, bsOf_length, HK.out]
          refine ⟨hown3, ?_, ?_, ?_, ?_⟩
          · intro y hy
            rcases List.mem_append.1 hy with hy | hy
            · exact HI2.out.low y hy
            · simp at hy
              subst hy
              exact HQZ.out
          · rw [hf, List.length_append, ← HI2.out.len, HN2.out]
          · have h1 := HI2.out.cut
            rw [HD.out] at h1
            rw [hf, List.append_assoc]
            rw [List.drop_drop] at h1
            exact h1
          · exact HI2.out.below.grown hg3 HI2.out.below.size (fun r e => (HI2.out.own.1.lt r e).1))
        clear hrun hown3 hg3 hb2 hd1 hrz
        go_wp2_with (at_builtin; refine wpList_append_run HRUN.out rfl rfl rfl rfl ?_)
        exact ⟨⟨m + n2, k + 1, L ++ [z], by omega, by omega, by go_num, ⟨_, _, rfl⟩, Lib.hid (by rw [List.length_append, HK.out]; rfl), HI3⟩, by simp [intOf]; omega⟩
    · have HN : Hid (FirstIs (k : Int) (bs.drop m) none) := Lib.hid (by
        have h0 : bs.drop m = [] := List.drop_eq_nil_of_le (by rw [HL.out]; omega)
        rw [h0]
        intro x r h
        have h1 := congrArg List.length h
        rw [List.length_append] at h1
        have h2 := frameB_pos (k : Int) x
        simp at h1
        omega)
      go_wp2
      go_ret2
      exact ⟨_, L, m, rfl, HI.out.own, ⟨HI.out.len, bs.drop m, HI.out.cut, by rw [bsOf_length, HK.out]; exact HN.out⟩, HI.out.below⟩
end Go.Proofs.Ytldmokjpfnakkaa

/- journal: SameLists and Records of the reference. -/
namespace Go.Proofs.Ytldmokjpfnakkaa
open Go.RowKit

theorem bsOf_get {L : List Bz} {k : Nat} {z : Bz} (h : L[k]? = some z) : (bsOf L)[k]? = some z.bs := by simp [bsOf, h]
set_option maxRecDepth 100000 in
set_option maxHeartbeats 1000000 in
theorem sameLists_any (A A' : Option Addr) (n n' c c' : Nat) (L L' : List Bz) (w : World) (H1 : Hid (LsRd w A n c L)) (H2 : Hid (LsRd w A' n' c' L')) (hn : n ≤ 1099511627776) (hn' : n' ≤ 1099511627776) :
    Calls Try.prog 17 #[.slice A n c, .slice A' n' c'] w fun e w' => e = .returned (.bool (decide (bsOf L = bsOf L'))) ∧ Below w.heap.size w w' := by
  have HL1 := Lib.hid H1.out.1
  have HL2 := Lib.hid H2.out.1
  by_cases hne : n = n'
  · subst hne
    go_enter Try.func17, Try.ntmps17
    go_wp2
    go_loopw [5] (fun i wr => ∃ k : Nat, k ≤ n ∧ i = .int .i64 (k : Int) ∧ Hid (∀ j, j < k → (bsOf L)[j]? = (bsOf L')[j]?) ∧ Below w.heap.size w wr) (fun i _ => n - (intOf i).toNat)
    case atStart => exact ⟨0, by omega, rfl, Lib.hid (fun j hj => absurd hj (by omega)), Below.refl _ _⟩
    case round =>
      obtain ⟨k, hk, rfl, HE, hb⟩ := hrel
      by_cases hlt : k < n
      · obtain ⟨b, off, z, rfl, hl1, hc1, hz1, hr1⟩ := (H1.out.all hb).cell hlt
        obtain ⟨b', off', z', rfl, hl2, hc2, hz2, hr2⟩ := (H2.out.all hb).cell hlt
        have HZ1 := Lib.hid hz1
        have HZ2 := Lib.hid hz2
        have HR1 := Lib.hid hr1
        have HR2 := Lib.hid hr2
        have hm1 : z.n ≤ 9223372036854775807 := Nat.le_trans hr1.cap hr1.max
        have hm2 : z'.n ≤ 9223372036854775807 := Nat.le_trans hr2.cap hr2.max
        clear hz1 hz2 hr1 hr2
        go_wp2_with fail
        go_region_held3 (fun w' => Below wr.heap.size wr w' ∧ w'.cell? ⟨b, off + k, none⟩ = some (.slice z.A z.n z.c) ∧ w'.cell? ⟨b', off' + k, none⟩ = some (.slice z'.A z'.n z'.c)) (first | exact ⟨(Below.refl _ wr).drew, hc1, hc2⟩ | exact ⟨hS2, (hS2.cell (p := ⟨b, off + k, none⟩) hl1).trans hc1, (hS2.cell (p := ⟨b', off' + k, none⟩) hl2).trans hc2⟩)
          ((go_at_call 11; have hS1 := (‹Below wr.heap.size wr _ ∧ _›).1; ((with_reducible refine (sameBytes_list _ _ _ _ _ _ z.bs z'.bs _ (Lib.hid HR1.out.len) (Lib.hid HR2.out.len) (HR1.out.all hS1).rd (HR2.out.all hS1).rd hm1 hm2).mono ?_); rintro e wy ⟨rfl, hb3⟩; have hS2 := bt hS1 hb3; clear hS1 hb3)))
        by_cases heq : z.bs = z'.bs
        · have hd : decide (z.bs = z'.bs) = true := by simpa using heq
          have HE2 : Hid (∀ j, j < k + 1 → (bsOf L)[j]? = (bsOf L')[j]?) := Lib.hid (fun j hj => by
            rcases (show j < k ∨ j = k by omega) with h | rfl
            · exact HE.out j h
            · rw [bsOf_get HZ1.out, bsOf_get HZ2.out, heq])
          rw [hd]
          clear heq hd
          go_wp2
          exact ⟨⟨k + 1, by omega, by go_num, HE2, hb.trans (hS2.mono hb.size)⟩, by simp [intOf]; omega⟩
        · have hd : decide (z.bs = z'.bs) = false := by simpa using heq
          have HD : Hid (decide (bsOf L = bsOf L') = false) := Lib.hid (by
            rw [decide_eq_false_iff_not]
            intro h
            apply heq
            have h1 := bsOf_get HZ1.out
            rw [h, bsOf_get HZ2.out] at h1
            injection h1 with h1
            exact h1.symm)
          rw [hd]
          clear heq hd
          go_wp2
          go_ret
          rw [HD.out]
          exact ⟨rfl, hb.trans (hS2.mono hb.size)⟩
      · obtain rfl : k = n := by omega
        go_wp2
        go_ret
        refine ⟨?_, hb⟩
        show Ending.returned (.bool true) = _
        congr 2
        symm
        rw [decide_eq_true_iff]
        refine List.ext_getElem? fun j => ?_
        by_cases hj : j < k
        · exact HE.out j hj
        · rw [List.getElem?_eq_none (by rw [bsOf_length, HL1.out]; omega), List.getElem?_eq_none (by rw [bsOf_length, HL2.out]; omega)]
  · have hd : ((n : Int) != (n' : Int)) = true := by simp; omega
    have hd2 : decide (bsOf L = bsOf L') = false := by
      rw [decide_eq_false_iff_not]
      intro h
      have := congrArg List.length h
      rw [bsOf_length, bsOf_length, HL1.out, HL2.out] at this
      exact hne this
    have HD := Lib.hid hd2
    clear hd2
    go_enter Try.func17, Try.ntmps17
    go_wp2
    go_ret
    rw [HD.out]
    exact ⟨rfl, Below.refl _ _⟩

/-- The record made from a number. -/
def recAt (n k : Nat) : UInt8 := UInt8.ofNat ((n / 11 + k * n) % 256)
def recTo (n k : Nat) : List UInt8 := (List.range k).map (recAt n)
def recOf (n : Nat) : List UInt8 := recTo n (n % 11)
def recsTo (f : Nat → Int) (k : Nat) : List (List UInt8) := (List.range k).map fun j => recOf (aroundI (f j) 1000).toNat
def recsOf (n : Nat) (f : Nat → Int) : List (List UInt8) := recsTo f (min n 6)
theorem recTo_succ (n k : Nat) : recTo n (k + 1) = recTo n k ++ [recAt n k] := by simp [recTo, List.range_succ]
theorem recTo_len (n k : Nat) : (recTo n k).length = k := by simp [recTo]
theorem recsTo_succ (f : Nat → Int) (k : Nat) : recsTo f (k + 1) = recsTo f k ++ [recOf (aroundI (f k) 1000).toNat] := by simp [recsTo, List.range_succ]
theorem recOf_len (n : Nat) : (recOf n).length ≤ 10 := by unfold recOf; rw [recTo_len]; omega
theorem recsOf_len (n : Nat) (f : Nat → Int) : (recsOf n f).length = min n 6 := by simp [recsOf, recsTo]
theorem recsOf_small (n : Nat) (f : Nat → Int) : ∀ x ∈ recsOf n f, x.length ≤ 10 := by
  intro x hx
  unfold recsOf recsTo at hx
  obtain ⟨j, -, rfl⟩ := List.mem_map.1 hx
  exact recOf_len _
def RecPost (rs : List (List UInt8)) (w : World) (e : Ending) (w' : World) : Prop :=
  ∃ (v : Value) (L : List Bz), e = .returned v ∧ LsOwn w' w.heap.size v L ∧ bsOf L = rs ∧ Below w.heap.size w w'
def RecPost2 (rs : List (List UInt8)) (w : World) (e : Ending) (w' : World) : Prop :=
  ∃ (v : Value) (L : List Bz), e = .returned v ∧ LsOwn w' w.heap.size v L ∧ bsOf L = rs ∧ Below w.heap.size w w' ∧ ∀ z ∈ L, z.low w.heap.size
set_option maxRecDepth 100000 in
set_option maxHeartbeats 1000000 in
theorem records2_any (A : Option Addr) (n c : Nat) (f : Nat → Int) (w : World) (hR : Rd w w.heap.size A n (fun j => .int .i64 (f j))) (hn : n ≤ 9223372036854775807) (hf : Hid (∀ j, j < n → -9223372036854775808 ≤ f j ∧ f j ≤ 9223372036854775807)) :
    Calls Try.prog 14 #[.slice A n c] w (RecPost2 (recsOf n f) w) := by
  have HR := Lib.hid hR
  clear hR
  go_enter Try.func14, Try.ntmps14
  go_wp2
  go_loopw [3, 4] (fun v i wr => ∃ (k : Nat) (L : List Bz), k ≤ min n 6 ∧ i = .int .i64 (k : Int) ∧ Hid (bsOf L = recsTo f k) ∧ Hid (LsOwn wr w.heap.size v L) ∧ Below w.heap.size w wr ∧ Hid (∀ z ∈ L, z.low w.heap.size)) (fun _ i _ => 6 - (intOf i).toNat)
  case atStart => exact ⟨0, [], by omega, rfl, Lib.hid rfl, Lib.hid (LsOwn.nil _ _), Below.refl _ _, Lib.hid (fun _ h => absurd h (by simp))⟩
  case round =>
    obtain ⟨k, L, hk, rfl, HE, HO, hb, HLO⟩ := hrel
    obtain ⟨v3, rfl⟩ : ∃ x, x = u3 := ⟨_, rfl⟩
    by_cases hlt : k < min n 6
    · obtain ⟨b, off, rfl, hb0, hc⟩ := (HR.out.all hb).at_ (show k < n by omega)
      obtain ⟨hf1, hf2⟩ := hf.out k (by omega)
      have hkn : k < n := by omega
      have hk6 : k < 6 := by omega
      obtain ⟨wo, hwo⟩ : ∃ wo : World, wo = wr := ⟨_, rfl⟩
      subst hwo
      go_wp2_with fail
      refine (around_nat (f k) 1000 _ _ rfl hf1 hf2 (by decide) (by decide)).mono ?_
      rintro e w1 ⟨q, rfl, hq, HQ, rfl⟩
      replace HQ : Hid ((q : Int) = aroundI (f k) 1000) := HQ
      go_wp2
      go_loopw [6, 7] (fun v i wr => ∃ j : Nat, j ≤ q % 11 ∧ i = .int .i64 (j : Int) ∧ wr.ownsRow wo.heap.size 5 1 v j ((recTo q j).map fun b => Value.int .u8 ((b.toNat : Nat) : Int)) ∧ Below wo.heap.size wo wr) (fun _ i _ => q % 11 - (intOf i).toNat)
      case atStart => exact ⟨0, by omega, rfl, World.ownsRow_nil _ _ _ _, Below.refl _ _⟩
      case round =>
        obtain ⟨j, hj, rfl, hown, hb2⟩ := hrel
        obtain ⟨v6, rfl⟩ : ∃ x, x = u6 := ⟨_, rfl⟩
        by_cases hlt2 : j < q % 11
        · have hjq : j * q ≤ 10000 := Nat.le_trans (Nat.mul_le_mul (show j ≤ 10 by omega) (show q ≤ 1000 by omega)) (by decide)
          obtain ⟨m, hm⟩ : ∃ m, j * q = m := ⟨_, rfl⟩
          obtain ⟨g, cap, w3, HA, hown3, hb3⟩ := own_one hown (recAt q j) (((q : Int) / 11 + (m : Int)) % 256) (by unfold recAt; rw [hm, ofNat_toNat (by omega)]; omega) (by omega) hb2.size
          have hmul : (j : Int) * (q : Int) = (m : Int) := by rw [← hm]; simp
          have HO3 := Lib.hid hown3
          have HB3 := Lib.hid (hb2.trans hb3)
          clear hown hown3 hb3 hb2
          go_wp2_with (at_builtin; refine wpList_append_run HA.out rfl rfl rfl rfl ?_)
          exact ⟨⟨j + 1, by omega, by go_num, by rw [recTo_succ]; exact HO3.out, HB3.out⟩, by simp [intOf]; omega⟩
        · obtain rfl : j = q % 11 := by omega
          obtain ⟨A6, c6, rfl⟩ := own_slice hown
          have hz := (Bts.of_own hown).1
          have hO2 := HO.out.all hb2
          have HK := Lib.hid (show L.length = k by rw [← bsOf_length, HE.out]; simp [recsTo])
          have hB2 := hb.trans (hb2.mono hb.size)
          have HLO3 : Hid (∀ z ∈ L ++ [⟨A6, q % 11, c6, recTo q (q % 11)⟩], z.low w.heap.size) := Lib.hid (fun y hy => (List.mem_append.1 hy).elim (HLO.out y) (fun hy => by simp at hy; subst hy; exact (Bz.low_own hown).mono hb.size))
          obtain ⟨g, cap, w3, hrun, hown3, hg3, -⟩ := hO2.snoc (ty := 27) ⟨A6, q % 11, c6, recTo q (q % 11)⟩ hz (by rw [HK.out]; omega) hB2.size
          have HRUN := Lib.hid hrun
          have HO3 := Lib.hid hown3
          have HB3 := Lib.hid (hB2.grown hg3 hB2.size (fun r e => (hO2.1.lt r e).1))
          have HE3 : Hid (bsOf (L ++ [⟨A6, q % 11, c6, recTo q (q % 11)⟩]) = recsTo f (k + 1)) := Lib.hid (by
            have hq' : (aroundI (f k) 1000).toNat = q := by have := HQ.out; omega
            rw [bsOf_snoc, recsTo_succ, HE.out, hq']
            rfl)
          clear hown hz hO2 hB2 hrun hown3 hg3 hb2
          go_wp2_with (at_builtin; refine wpList_append_run HRUN.out rfl rfl rfl rfl ?_)
          exact ⟨⟨k + 1, _, by omega, by go_num, HE3, HO3, HB3.out, HLO3⟩, by simp [intOf]; omega⟩
    · obtain ⟨A3, c3, rfl⟩ := HO.out.slice
      have HK : Hid (k = min n 6) := Lib.hid (by omega)
      have HREC : Hid (bsOf L = recsOf n f) := Lib.hid (by unfold recsOf; rw [← HK.out]; exact HE.out)
      by_cases hkn : k < n
      · have h6 : (6 : Int) ≤ (k : Int) := by omega
        go_wp2
        go_ret
        exact ⟨_, L, rfl, HO.out, HREC.out, hb, HLO.out⟩
      · go_wp2
        go_ret
        exact ⟨_, L, rfl, HO.out, HREC.out, hb, HLO.out⟩
theorem records_any (A : Option Addr) (n c : Nat) (f : Nat → Int) (w : World) (hR : Rd w w.heap.size A n (fun j => .int .i64 (f j))) (hn : n ≤ 9223372036854775807) (hf : Hid (∀ j, j < n → -9223372036854775808 ≤ f j ∧ f j ≤ 9223372036854775807)) :
    Calls Try.prog 14 #[.slice A n c] w (RecPost (recsOf n f) w) :=
  (records2_any A n c f w hR hn hf).mono fun _ _ ⟨v, L, h1, h2, h3, h4, _⟩ => ⟨v, L, h1, h2, h3, h4⟩
end Go.Proofs.Ytldmokjpfnakkaa

/- append of bytes onto a row of the call's own: what was read before is read after. -/
namespace Go.Proofs.Ytldmokjpfnakkaa
open Go.RowKit

theorem own_keeps {w : World} {base k m c cv : Nat} {A A' : Option Addr} {bs xs : List UInt8} (h : w.ownsRow base 5 1 (.slice A k cv) k (bs.map fun b => Value.int .u8 ((b.toNat : Nat) : Int))) (hx : xs.length = m) (hR : Rd w w.heap.size A' m (vByte xs)) (hk0 : 0 < k) (hm0 : 0 < m) (hk : k + m ≤ 35184372088832) (hbase : base ≤ w.heap.size) :
    ∃ A3 n3 c3 w3, Hid ((Builtin.append_ #[23, 23] 23 #[.slice A k cv, .slice A' m c]).run Try.prog w = .ok (.slice A3 n3 c3) w3) ∧ Hid (n3 = k + m) ∧
      w3.ownsRow base 5 1 (.slice A3 n3 c3) n3 ((bs ++ xs).map fun b => Value.int .u8 ((b.toNat : Nat) : Int)) ∧ w.grownBy w3 (Value.slice A k cv).ownBlock ∧ Rd w3 w3.heap.size A k (vByte bs) := by
  obtain ⟨i0, hi, hz0, hz1, hz2⟩ := info_parts info_u8
  obtain ⟨v', w3, hap, hown, hb, _⟩ := run_append_rd (P := Try.prog) w base 23 23 5 i0 _ 1 Try.underlying23 hi hz0 hz1 hz2 rfl _ k _ h w.heap.size A' m c (vByte xs) hR hR.none_ (fun _ _ => rfl) (by unfold maxLen; omega) (by omega) hbase
  obtain ⟨A3, c3, rfl⟩ := own_slice hown
  have e : (List.range m).map (vByte xs) = xs.map fun b => Value.int .u8 ((b.toNat : Nat) : Int) := by
    subst hx
    refine List.ext_getElem (by simp) fun i h1 h2 => ?_
    have hi : i < xs.length := by simpa using h2
    simp [vByte, hi]
  rw [e, ← List.map_append] at hown
  obtain ⟨n3, hn3⟩ : ∃ n3, n3 = k + m := ⟨_, rfl⟩
  rw [← hn3] at hown hap
  replace hn3 := Lib.hid hn3
  have hrun := Lib.hid hap
  refine ⟨A3, n3, c3, w3, hrun, hn3, hown, hb, ?_⟩
  have hrd := (rd_bytes h).2.2
  obtain ⟨ab, ao, rfl, hab, hac⟩ := hR hm0
  have hl : (xs.map fun b => Value.int .u8 ((b.toNat : Nat) : Int)).length = m * i0.size := by rw [hz1]; simp [hx]
  have hnews : ∀ (j : Nat) u, (xs.map fun b => Value.int .u8 ((b.toNat : Nat) : Int))[j]? = some u → w.cell? ((⟨ab, ao, none⟩ : Addr).add j) = some u := by
    intro j u hu
    have hj : j < m := by
      rcases Nat.lt_or_ge j m with h | h
      · exact h
      · rw [List.getElem?_eq_none (by simp; omega)] at hu
        cases hu
    have ea : (⟨ab, ao, none⟩ : Addr).add j = ⟨ab, ao + j, none⟩ := by unfold Addr.add; split <;> simp_all
    rw [ea, hac j hj]
    have hj' : j < xs.length := by omega
    rw [List.getElem?_map, List.getElem?_eq_getElem hj'] at hu
    simp only [Option.map_some, Option.some.injEq] at hu
    rw [← hu]
    simp [vByte, hj']
  have h1 : ∀ u ∈ (xs.map fun b => Value.int .u8 ((b.toNat : Nat) : Int)), u.oneCell' = true := by
    intro u hu
    obtain ⟨_, _, rfl⟩ := List.mem_map.1 hu
    rfl
  rcases h.2 with ⟨h2, h0⟩ | ⟨g, cap, cur, h2, hbg, hg, hnc, hcm, hcs, htake⟩
  · omega
  · injection h2 with h2 h3 h4
    subst h2 h4
    by_cases hroom : k + m ≤ cv
    · have hfit : k * i0.size + (xs.map fun b => Value.int .u8 ((b.toNat : Nat) : Int)).length ≤ cur.size := by rw [hl, hcs, hz1]; omega
      have hr := run_append_room (P := Try.prog) w 23 23 5 i0 Try.underlying23 hi g k cv cur hg ⟨ab, ao, none⟩ m c _ hl hnews h1 hroom hfit
      rw [hrun.out] at hr
      injection hr with hr1 hr2
      injection hr1 with hr3 hr4 hr5
      subst hr3
      have := (rd_bytes hown).2.2
      rw [hn3.out] at this
      exact (this.less (show k ≤ k + m by omega)).congr (fun j hj => by
        have hbl : bs.length = k := by simpa using h.1
        unfold vByte
        rw [List.getElem?_append_left (by omega)])
    · have holds : ∀ j u, (bs.map fun b => Value.int .u8 ((b.toNat : Nat) : Int))[j]? = some u → w.cell? ((⟨g, 0, none⟩ : Addr).add j) = some u := h.cells (g := g) rfl
      have hr := run_append_grow (P := Try.prog) w 23 23 5 i0 _ Try.underlying23 hi hz0 ⟨g, 0, none⟩ k cv _ (by rw [hz1]; exact h.1) holds ⟨ab, ao, none⟩ m c _ hl hnews (by omega) (by omega) (growslice_fits (by omega) (by rw [hz2]; omega))
      rw [hrun.out] at hr
      injection hr with hr1 hr2
      subst hr2
      exact (hrd.keep (fun b hb => Below.heap_alloc w.drew _ b hb)).more (by simp)
end Go.Proofs.Ytldmokjpfnakkaa

/- journal: the example of the section. -/
namespace Go.Proofs.Ytldmokjpfnakkaa
open Go.RowKit

theorem Sb.own {w : World} {base n c : Nat} {A : Option Addr} {bs : List UInt8} (h : w.ownsRow base 5 1 (.slice A n c) n (bs.map fun b => Value.int .u8 ((b.toNat : Nat) : Int))) : Sb w A n c bs := by
  have hc := own_cap h
  obtain ⟨-, hnc, hr⟩ := rd_bytes h
  refine ⟨by simpa using h.1, hnc, hc, ?_⟩
  rcases h.2 with ⟨h2, h0⟩ | ⟨g, cap, cur, h2, hbg, hg, -⟩
  · injection h2 with h2 h3 h4
    exact .inl ⟨h2, h4⟩
  · injection h2 with h2 h3 h4
    subst h2
    refine .inr ⟨g, 0, rfl, (Array.getElem?_eq_some_iff.1 hg).1, fun j hj => ?_⟩
    obtain ⟨b, off, e, -, hcl⟩ := hr (by omega)
    injection e with e
    injection e with e1 e2 _
    subst e1 e2
    exact hcl j hj
theorem rd_lit (w : World) (t : TypeId) (l : List UInt8) : Rd (w.alloc (.cells (l.map fun b => Value.int .u8 ((b.toNat : Nat) : Int)).toArray t)) (w.heap.size + 1) (some ⟨w.heap.size, 0, none⟩) l.length (vByte l) := fun _ =>
  ⟨_, _, rfl, by omega, fun j hj => by
    have := Blk.cell (Blk.new w t (l.map fun b => Value.int .u8 ((b.toNat : Nat) : Int)).toArray) j
    rw [Nat.zero_add, this]
    simp [vByte, hj]⟩
theorem core7 : coreB 0 [7] = [0, 1, 7] := by
  unfold coreB encInt encRaw
  rw [varint_lt (by decide), varint_lt (by decide)]
  rfl
theorem scan7 : ScanIs (frameB 0 [7] ++ [3, 0, 1]) [[7]] (frameB 0 [7]).length := by
  refine ⟨by rw [framesB_cons, framesB_nil, List.append_nil]; rfl, [3, 0, 1], by rw [framesB_cons, framesB_nil, List.append_nil]; rfl, ?_⟩
  intro x r h
  obtain ⟨h1, h2, -⟩ := first_parts (k := 1) ⟨by decide, by decide⟩ (bs := [3, 0, 1]) (x := x) (r := r) h (by decide)
  have h3 : szB [3, 0, 1] = 3 := by decide +kernel
  rw [h3] at h2
  have := varint_pos 3
  simp only [List.length_cons, List.length_nil] at h2
  omega
set_option maxRecDepth 100000 in
set_option maxHeartbeats 1000000 in
theorem jlives_any (w : World) : Calls Try.prog 18 #[] w fun e w' => e = .returned (.bool true) ∧ Below w.heap.size w w' := by
  have hb1 := (Below.refl w.heap.size w).alloc (Nat.le_refl _) (.cells #[.int .u8 7] 5)
  have hr1 : Rd (w.alloc (.cells #[.int .u8 7] 5)) (w.heap.size + 1) (some ⟨w.heap.size, 0, none⟩) 1 (vByte [7]) := rd_lit w 5 [7]
  have hlen := frameB_len (k := 0) (bs := [7]) ⟨by decide, by decide⟩ (by decide)
  have hlen2 := frameB_gt 0 [7]
  rw [core7] at hlen2
  go_enter Try.func18, Try.ntmps18
  go_wp2_with fail
  refine (frame_any 0 _ 1 _ [7] _ (Lib.hid rfl) (by decide) (by decide) (by decide) (hr1.more (by simp))).mono ?_
  rintro e w2 ⟨A2, n2, c2, rfl, HN2, hown2, hb2⟩
  have hB2 := bt hb1 hb2
  have hn2 : n2 ≤ 100 := by have := HN2.out; simp at hlen; omega
  have hn2' : 4 < n2 := by have := HN2.out; simp at hlen2; omega
  clear hb1 hr1 hb2 hlen hlen2
  have hV3 := WrV.new w2
  have hb3 := (Below.refl w2.heap.size w2).alloc (Nat.le_refl _) (.cells #[.slice none 0 0] 37)
  have hsz3 : (w2.alloc (.cells #[.slice none 0 0] 37)).heap.size = w2.heap.size + 1 := World.size_alloc _ _
  have HSZ3 := Lib.hid hsz3
  have hown3 := own_keep (own_lower hown2 (base' := w.heap.size) (by simp)) hb3
  have hB3 := bt hB2 hb3
  have hw2 := hB2.size
  have HFB : Hid (∀ g, (Value.slice A2 n2 c2).ownBlock = some g → g < w2.heap.size) := Lib.hid (fun g e => (hown2.lt g e).2)
  clear hown2 hb3 hB2 hsz3
  have hr4 : Rd ((w2.alloc (.cells #[.slice none 0 0] 37)).alloc (.cells #[.int .u8 0, .int .u8 1, .int .u8 7] 5)) _ (some ⟨(w2.alloc (.cells #[.slice none 0 0] 37)).heap.size, 0, none⟩) 3 (vByte [0, 1, 7]) := rd_lit (w2.alloc (.cells #[.slice none 0 0] 37)) 5 [0, 1, 7]
  have hb4 := (Below.refl _ (w2.alloc (.cells #[.slice none 0 0] 37))).alloc (Nat.le_refl _) (.cells #[.int .u8 0, .int .u8 1, .int .u8 7] 5)
  have hV4 := hV3.all hb4
  have hown4 := own_keep hown3 hb4
  have hB4 := bt hB3 hb4
  rw [HSZ3.out] at hr4
  have hr4' : Rd ((w2.alloc (.cells #[.slice none 0 0] 37)).alloc (.cells #[.int .u8 0, .int .u8 1, .int .u8 7] 5)) ((w2.alloc (.cells #[.slice none 0 0] 37)).alloc (.cells #[.int .u8 0, .int .u8 1, .int .u8 7] 5)).heap.size (some ⟨w2.heap.size + 1, 0, none⟩) 3 (vByte [0, 1, 7]) := hr4.more (by simp)
  clear hb4 hV3 hown3 hB3 hr4
  go_wp2_with fail
  generalize (w2.alloc (.cells #[.slice none 0 0] 37)).alloc (.cells #[.int .u8 0, .int .u8 1, .int .u8 7] 5) = w4 at *
  refine (wrawV_any w2.heap.size _ [] [0, 1, 7] _ 3 _ _ (Lib.hid hV4) (Lib.hid rfl) (by decide) hr4' (by
    rintro b off e - (rfl | h)
    · injection e with e
      injection e with e _ _
      omega
    · cases h) (by simp)).mono ?_
  rintro e w5 ⟨rfl, v5, hV5, m5, o5⟩
  have hown5 := m5.own hown4 (by
    rintro g e (rfl | h)
    · exact absurd (Ty.unique hV4.1.ty (Ty.of_own hown4 e)) (by decide)
    · cases h)
  have hB5 := m5.below hB4 hB4.size (by
    rintro b (rfl | h)
    · exact hw2
    · cases h)
  have HV5 : Hid (∀ b, WF w2.heap.size v5 b → w2.heap.size ≤ b) := Lib.hid (by
    rintro b (rfl | h)
    · exact Nat.le_refl _
    · rcases o5 with o | o
      · rw [o] at h
        cases h
      · have := o b h
        have := (hV4.lt _ (.inl rfl))
        omega)
  have hr6 : Rd (w5.alloc (.cells #[.int .u8 0, .int .u8 1, .int .u8 7] 5)) (w5.alloc (.cells #[.int .u8 0, .int .u8 1, .int .u8 7] 5)).heap.size (some ⟨w5.heap.size, 0, none⟩) 3 (vByte [0, 1, 7]) := (rd_lit w5 5 [0, 1, 7]).more (by simp)
  have hb6 := (Below.refl _ w5).alloc (Nat.le_refl _) (.cells #[.int .u8 0, .int .u8 1, .int .u8 7] 5)
  have hV6 := hV5.all hb6
  have hown6 := own_keep hown5 hb6
  have hB6 := bt hB5 hb6
  clear hb6 hV5 hown5 hB5 m5 o5 hV4 hown4 hB4 hr4'
  go_wp2_with fail
  generalize w5.alloc (.cells #[.int .u8 0, .int .u8 1, .int .u8 7] 5) = w6 at *
  refine (hbytes_any _ _ 3 _ _ [0, 1, 7] _ (Lib.hid rfl) (by decide) (by decide) (by decide) (Nat.le_refl _) hr6).mono ?_
  rintro e w7 ⟨rfl, hb7⟩
  have hV7 := hV6.all hb7
  have hown7 := own_keep hown6 hb7
  have hB7 := bt hB6 hb7
  clear hb7 hV6 hown6 hB6 hr6
  go_wp2_with fail
  refine (wuintV_any w2.heap.size v5 _ (recN [0, 1, 7]) _ (recN_eq _) _ (Lib.hid hV7) (recN_lt _) (by have := (encRaw_len (bs := [0, 1, 7]) (by decide)).2; simp at this ⊢; omega)).mono ?_
  rintro e w8 ⟨rfl, v8, hV8, m8, o8⟩
  have hown8 := m8.own hown7 (by
    intro g e h
    have := HFB.out g e
    have := HV5.out g h
    omega)
  have hB8 := m8.below hB7 hB7.size (by
    intro b h
    have := HV5.out b h
    omega)
  have HV8 : Hid (∀ b, WF w2.heap.size v8 b → w2.heap.size ≤ b) := Lib.hid (by
    rintro b (rfl | h)
    · exact Nat.le_refl _
    · rcases o8 with o | o
      · rw [o] at h
        exact HV5.out b (.inr h)
      · have := o b h
        have := (hV7.lt _ (.inl rfl))
        omega)
  replace hV8 : WrV w8 w2.heap.size v8 (frameB 0 [7]) := by
    unfold frameB
    rw [core7]
    simpa using hV8
  have hb9 := (Below.refl _ w8).alloc (Nat.le_refl _) (.cells #[.int .u8 3, .int .u8 0, .int .u8 1] 5)
  have hr9 : Rd (w8.alloc (.cells #[.int .u8 3, .int .u8 0, .int .u8 1] 5)) (w8.alloc (.cells #[.int .u8 3, .int .u8 0, .int .u8 1] 5)).heap.size (some ⟨w8.heap.size, 0, none⟩) 3 (vByte [3, 0, 1]) := (rd_lit w8 5 [3, 0, 1]).more (by simp)
  have hV9 := hV8.all hb9
  have hown9 := own_keep hown8 hb9
  have hB9 := bt hB8 hb9
  obtain ⟨A10, n10, c10, w10, HRUN, HN10, hown10, hg10, hr10⟩ := own_keeps (c := 3) (m := 3) (xs := [3, 0, 1]) hown9 rfl hr9 (by omega) (by decide) (by omega) hB9.size
  have hV10 := hV9.mod (Mod.of_grown (F := fun b => (Value.slice A2 n2 c2).ownBlock = some b) hg10 (fun g e => .inl e)) (by
    intro b h e
    have := HFB.out b e
    have := HV8.out b h
    omega)
  have hB10 := hB9.grown hg10 hB9.size (fun r e => (hown9.lt r e).1)
  have HSB := Lib.hid (Sb.own hown10)
  have hn10 : n10 ≤ 200 := by rw [HN10.out]; omega
  clear hb9 hr9 hV9 hown9 hB9 hown10 hg10 hV8 hown8 hB8 hV7 hown7 hB7 m8 o8 HV5 HFB
  go_wp2_with (at_builtin; refine wpList_append_run HRUN.out rfl rfl rfl rfl ?_)
  refine (scan_any _ _ _ _ _ HSB (by omega)).mono ?_
  rintro e w11 ⟨v11, L11, m11, rfl, hL11, hs11, hb11⟩
  obtain ⟨e1, e2⟩ := ScanIs.unique (by
    have h1 := HN2.out
    rw [List.length_append, h1]
    simp only [List.length_cons, List.length_nil]
    omega) hs11 scan7
  rw [HN2.out] at e2
  subst e2
  have HE1 := Lib.hid e1
  have hV11 := hV10.all hb11
  have hr11 := hr10.all hb11
  have hB11 := bt hB10 hb11
  obtain ⟨A11, c11, rfl⟩ := hL11.slice
  have hlen11 : L11.length = 1 := by rw [← bsOf_length, HE1.out]; rfl
  rw [hlen11] at hL11 ⊢
  have HL11 := Lib.hid hL11
  clear hb11 hV10 hr10 hB10 hs11 e1 hL11 hlen11
  go_wp2_with fail
  refine (wdone_any 0 w2.heap.size (frameB 0 [7]) _ (Lib.hid hV11.wr) (by rw [HN2.out]; omega)).mono ?_
  rintro e w12 ⟨A12, n12, c12, rfl, hnc12, hc12, HN12, hown12, hr12, hb12⟩
  have hr12' := hr11.all hb12
  have hB12 := bt hB11 hb12
  have HL12 := Lib.hid (HL11.out.all hb12)
  clear hown12 hb12 hV11 hr11 hB11 HL11
  go_wp2_with fail
  refine (sameBytes_true _ _ _ _ _ _ (frameB 0 [7]) (frameB 0 [7]) _ rfl HN2 HN12 hr12' hr12 (by omega) (by omega)).mono ?_
  rintro e w13 ⟨rfl, hb13⟩
  have hB13 := bt hB12 hb13
  have HL13 := Lib.hid (HL12.out.all hb13)
  clear hr12' hr12 hb13 hB12 HL12
  have hb14 := ((Below.refl w13.heap.size w13).alloc (Nat.le_refl _) (.cells #[.int .u8 7] 5)).alloc (by simp) (.cells #[.slice (some ⟨w13.heap.size, 0, none⟩) 1 1] 23)
  have HL14 := Lib.hid ((HL13.out.all hb14).r.rd)
  have HX14 : Hid (LsRd ((w13.alloc (.cells #[.int .u8 7] 5)).alloc (.cells #[.slice (some ⟨w13.heap.size, 0, none⟩) 1 1] 23)) (some ⟨w13.heap.size + 1, 0, none⟩) 1 1 [⟨some ⟨w13.heap.size, 0, none⟩, 1, 1, [7]⟩]) := Lib.hid (by
    refine ⟨rfl, by decide, by decide, fun _ => ⟨_, _, rfl, by simp, fun j hj => ?_⟩, fun z hz => ?_⟩
    · obtain rfl : j = 0 := by omega
      have := Blk.cell (Blk.new (w13.alloc (.cells #[.int .u8 7] 5)) 23 #[.slice (some ⟨w13.heap.size, 0, none⟩) 1 1]) 0
      rw [World.size_alloc] at this
      exact this
    · simp at hz
      subst hz
      exact ⟨rfl, Nat.le_refl _, (show 1 ≤ 9223372036854775807 by decide), ((rd_lit w13 5 [7]).alloc (by simp) _).more (by simp)⟩)
  have hB14 := bt hB13 hb14
  have hgt : (4 : Int) < (m11 : Int) := by omega
  clear hb14 hB13 HL13
  go_wp2_with fail
  generalize (w13.alloc (.cells #[.int .u8 7] 5)).alloc (.cells #[.slice (some ⟨w13.heap.size, 0, none⟩) 1 1] 23) = w14 at *
  refine (sameLists_any _ _ _ _ _ _ L11 [⟨some ⟨w13.heap.size, 0, none⟩, 1, 1, [7]⟩] _ HL14 HX14 (by decide) (by decide)).mono ?_
  rintro e w15 ⟨rfl, hb15⟩
  have hd : decide (bsOf L11 = bsOf [⟨some ⟨w13.heap.size, 0, none⟩, 1, 1, [7]⟩]) = true := by rw [HE1.out]; rfl
  rw [hd]
  go_wp2
  go_ret
  exact ⟨rfl, bt hB14 hb15⟩
end Go.Proofs.Ytldmokjpfnakkaa

/- disk: a disk in memory. -/
namespace Go.Proofs.Ytldmokjpfnakkaa
open Go.RowKit

/-- A file: its number, its block, its slice, its bytes, how many are durable. -/
structure Fl where
  num : Int
  fb : Nat
  rv : Value
  bs : List UInt8
  dur : Nat
def Fl.ok (w : World) (f : Fl) : Prop :=
  Blk w f.fb 94 #[f.rv, .int .i64 (f.dur : Int)] ∧ w.ownsRow 0 5 1 f.rv f.bs.length (f.bs.map fun b => Value.int .u8 ((b.toNat : Nat) : Int)) ∧ f.dur ≤ f.bs.length
def Fl.F (f : Fl) (b : Nat) : Prop := b = f.fb ∨ f.rv.ownBlock = some b
def Fl.ptr (f : Fl) : Value := .pointer (some ⟨f.fb, 0, none⟩)
def Fl.log (f : Fl) : Int × List UInt8 × Nat := (f.num, f.bs, f.dur)
def FApart (c d : Fl) : Prop := ∀ b, c.F b → ¬ d.F b
def sumL (fs : List Fl) : Nat := (fs.map fun f => f.bs.length).sum
def diskCells (room used mb : Nat) (off : Bool) (plan : Int) : Array Value := #[.int .i64 (room : Int), .int .i64 (used : Int), .map (some mb), .bool off, .int .i64 plan]
structure DskAt (w : World) (g mb room : Nat) (off : Bool) (plan : Int) (fs : List Fl) : Prop where
  blk : Blk w g 90 (diskCells room (sumL fs) mb off plan)
  map : IMap w mb (fs.map fun f => (f.num, f.ptr))
  ok : ∀ f ∈ fs, f.ok w
  apart : fs.Pairwise FApart
  room_le : room ≤ 16777216
  used_le : sumL fs ≤ room
  plan_le : -1 ≤ plan ∧ plan ≤ 4611686018427387904
def DskF (g mb : Nat) (fs : List Fl) (b : Nat) : Prop := b = g ∨ b = mb ∨ ∃ f ∈ fs, f.F b
section
variable {w w' : World} {g mb room : Nat} {off : Bool} {plan : Int} {fs : List Fl} {F : Nat → Prop} {f : Fl}
theorem sumL_append (a b : List Fl) : sumL (a ++ b) = sumL a + sumL b := by simp [sumL]
theorem sumL_cons (a : Fl) (b : List Fl) : sumL (a :: b) = a.bs.length + sumL b := by simp [sumL]
theorem Fl.ok.mod (h : f.ok w) (m : Mod F w w') (hF : ∀ b, f.F b → ¬ F b) : f.ok w' := ⟨m.blk h.1 (hF _ (.inl rfl)), m.own h.2.1 (fun b hb => hF b (.inr hb)), h.2.2⟩
theorem Fl.ok.ltF (h : f.ok w) : ∀ b, f.F b → b < w.heap.size := by
  rintro b (rfl | hb)
  · exact h.1.lt
  · exact (h.2.1.lt b hb).2
theorem DskAt.mod (h : DskAt w g mb room off plan fs) (m : Mod F w w') (hF : ∀ b, DskF g mb fs b → ¬ F b) : DskAt w' g mb room off plan fs :=
  ⟨m.blk h.blk (hF _ (.inl rfl)), h.map.mod m (hF _ (.inr (.inl rfl))), fun c hc => (h.ok c hc).mod m (fun b hb => hF b (.inr (.inr ⟨c, hc, hb⟩))), h.apart, h.room_le, h.used_le, h.plan_le⟩
theorem DskAt.all (h : DskAt w g mb room off plan fs) (m : Below w.heap.size w w') : DskAt w' g mb room off plan fs := h.mod (F := fun _ => False) (Mod.of_below _ m) (fun _ _ hf => hf)
theorem DskAt.ltF (h : DskAt w g mb room off plan fs) : ∀ b, DskF g mb fs b → b < w.heap.size := by
  rintro b (rfl | rfl | ⟨c, hc, hb⟩)
  · exact h.blk.lt
  · exact h.map.lt
  · exact (h.ok c hc).ltF b hb
theorem DskAt.F_ne (h : DskAt w g mb room off plan fs) (hc : f ∈ fs) : ∀ b, f.F b → b ≠ g ∧ b ≠ mb := by
  rintro b hb
  refine ⟨?_, ?_⟩
  · rintro rfl
    rcases hb with e | e
    · have := (h.ok f hc).1.ty
      rw [← e] at this
      exact absurd (Ty.unique h.blk.ty this) (by decide)
    · exact absurd (Ty.unique h.blk.ty (Ty.of_own (h.ok f hc).2.1 e)) (by decide)
  · rintro rfl
    rcases hb with e | e
    · have := (h.ok f hc).1.ty
      rw [← e] at this
      exact h.map.not_ty this
    · exact h.map.not_ty (Ty.of_own (h.ok f hc).2.1 e)
theorem DskAt.gm (h : DskAt w g mb room off plan fs) : g ≠ mb := by
  rintro rfl
  exact h.map.not_ty h.blk.ty
/-- The disk's own cells turn. -/
theorem DskAt.cells {off' : Bool} {plan' : Int} (h : DskAt w g mb room off plan fs) (m : Mod (fun b => b = g) w w') (hblk : Blk w' g 90 (diskCells room (sumL fs) mb off' plan')) (hp : -1 ≤ plan' ∧ plan' ≤ 4611686018427387904) : DskAt w' g mb room off' plan' fs :=
  ⟨hblk, h.map.mod m (fun e => h.gm e.symm), fun c hc => (h.ok c hc).mod m (fun b hb e => (h.F_ne hc b hb).1 e), h.apart, h.room_le, h.used_le, hp⟩
/-- One file turns, and the disk's own cells. -/
theorem DskAt.upd {l1 l2 : List Fl} {f' : Fl} {off' : Bool} {plan' : Int} (h : DskAt w g mb room off plan (l1 ++ f :: l2)) (m : Mod (fun b => f.F b ∨ b = g) w w') (hblk : Blk w' g 90 (diskCells room (sumL (l1 ++ f' :: l2)) mb off' plan'))
    (hid : f'.num = f.num) (hfb : f'.fb = f.fb) (hok : f'.ok w') (hrv : f'.rv.ownBlock = f.rv.ownBlock ∨ ∀ b, f'.rv.ownBlock = some b → w.heap.size ≤ b) (hu : sumL (l1 ++ f' :: l2) ≤ room) (hp : -1 ≤ plan' ∧ plan' ≤ 4611686018427387904) :
    DskAt w' g mb room off' plan' (l1 ++ f' :: l2) ∧ Mod (DskF g mb (l1 ++ f :: l2)) w w' ∧ ∀ b, DskF g mb (l1 ++ f' :: l2) b → DskF g mb (l1 ++ f :: l2) b ∨ w.heap.size ≤ b := by
  have hcm : f ∈ l1 ++ f :: l2 := by simp
  have hF' : ∀ b, f'.F b → f.F b ∨ w.heap.size ≤ b := by
    rintro b (e | e)
    · exact .inl (.inl (e.trans hfb))
    · rcases hrv with hr | hr
      · exact .inl (.inr (hr ▸ e))
      · exact .inr (hr b e)
  have hap := h.apart
  rw [List.pairwise_append, List.pairwise_cons] at hap
  obtain ⟨p1, ⟨p2, p3⟩, p4⟩ := hap
  have hmem : ∀ d ∈ l1 ++ l2, d ∈ l1 ++ f :: l2 := by
    intro d hd
    rcases List.mem_append.1 hd with hd | hd <;> simp [hd]
  have far : ∀ d ∈ l1 ++ l2, ∀ b, d.F b → ¬ f.F b := by
    intro d hd b hb hc
    rcases List.mem_append.1 hd with hd | hd
    · exact p4 d hd f (by simp) b hb hc
    · exact p2 d hd b hc hb
  have far2 : ∀ d ∈ l1 ++ l2, ∀ b, d.F b → ¬ (f.F b ∨ b = g) := by
    intro d hd b hb hc
    rcases hc with hc | hc
    · exact far d hd b hb hc
    · exact (h.F_ne (hmem d hd) b hb).1 hc
  have far' : ∀ d ∈ l1 ++ l2, ∀ b, d.F b → ¬ f'.F b := by
    intro d hd b hb hc
    rcases hF' b hc with e | e
    · exact far d hd b hb e
    · have := (h.ok d (hmem d hd)).ltF b hb
      omega
  refine ⟨⟨hblk, ?_, ?_, ?_, h.room_le, hu, hp⟩, m.mono (fun b hb => hb.elim (fun hb => .inl (.inr (.inr ⟨f, hcm, hb⟩))) (fun hb => .inl (.inl hb))), ?_⟩
  · have hm := h.map.mod m (fun hf => hf.elim (fun hf => (h.F_ne hcm _ hf).2 rfl) (fun hf => h.gm hf.symm))
    have e : (l1 ++ f' :: l2).map (fun c => (c.num, c.ptr)) = (l1 ++ f :: l2).map (fun c => (c.num, c.ptr)) := by simp [Fl.ptr, hid, hfb]
    rw [e]
    exact hm
  · intro d hd
    rw [List.mem_append, List.mem_cons] at hd
    rcases hd with hd | rfl | hd
    · exact (h.ok d (hmem d (by simp [hd]))).mod m (far2 d (by simp [hd]))
    · exact hok
    · exact (h.ok d (hmem d (by simp [hd]))).mod m (far2 d (by simp [hd]))
  · rw [List.pairwise_append, List.pairwise_cons]
    refine ⟨p1, ⟨fun d hd b hb hc => far' d (by simp [hd]) b hc hb, p3⟩, fun d hd e he => ?_⟩
    rw [List.mem_cons] at he
    rcases he with rfl | he
    · exact fun b hb hc => far' d (by simp [hd]) b hb hc
    · exact p4 d hd e (by simp [he])
  · rintro b (e | e | ⟨d, hd, hb⟩)
    · exact .inl (.inl e)
    · exact .inl (.inr (.inl e))
    · rw [List.mem_append, List.mem_cons] at hd
      rcases hd with hd | rfl | hd
      · exact .inl (.inr (.inr ⟨d, by simp [hd], hb⟩))
      · rcases hF' b hb with e | e
        · exact .inl (.inr (.inr ⟨f, hcm, e⟩))
        · exact .inr e
      · exact .inl (.inr (.inr ⟨d, by simp [hd], hb⟩))
/-- A file is added. -/
theorem DskAt.add {w1 : World} (h : DskAt w g mb room off plan fs) (m : Mod (fun b => b = mb) w w1) (hmap : IMap w1 mb ((fs ++ [f]).map fun c => (c.num, c.ptr))) (hok : f.ok w1) (hnew : ∀ b, f.F b → w.heap.size ≤ b) (h0 : f.bs = []) :
    DskAt w1 g mb room off plan (fs ++ [f]) := by
  have hs : sumL (fs ++ [f]) = sumL fs := by simp [sumL, h0]
  refine ⟨by rw [hs]; exact m.blk h.blk h.gm, hmap, ?_, ?_, h.room_le, by rw [hs]; exact h.used_le, h.plan_le⟩
  · intro d hd
    rcases List.mem_append.1 hd with hd | hd
    · exact (h.ok d hd).mod m (fun b hb e => (h.F_ne hd b hb).2 e)
    · simp at hd
      subst hd
      exact hok
  · rw [List.pairwise_append]
    refine ⟨h.apart, by simp, fun d hd e he b hb hc => ?_⟩
    simp at he
    subst he
    have := hnew b hc
    have := (h.ok d hd).ltF b hb
    omega
end
def findF (fs : List Fl) (num : Int) : Option Fl := fs.find? fun f => f.num == num
theorem lookup_findF (fs : List Fl) (num : Int) : (fs.map fun f => (f.num, f.ptr)).lookup num = (findF fs num).map Fl.ptr := by
  induction fs with
  | nil => rfl
  | cons c fs ih =>
    unfold findF at ih ⊢
    by_cases h : num = c.num
    · simp [h]
    · have h' : ¬ c.num = num := fun e => h e.symm
      simp [List.lookup, beq_false_of_ne h, beq_false_of_ne h', ih]
theorem findF_split {fs : List Fl} {num : Int} {f : Fl} (h : findF fs num = some f) : ∃ l1 l2, fs = l1 ++ f :: l2 ∧ f.num = num := by
  unfold findF at h
  have h1 := List.find?_some h
  obtain ⟨l1, l2, h2⟩ := List.append_of_mem (List.mem_of_find?_eq_some h)
  exact ⟨l1, l2, h2, by simpa using h1⟩
theorem infoFile : ∃ i, Try.prog.info? 92 = some i ∧ i.zero = some (.pointer none) := by
  have h : (Try.prog.info? 92).map (fun i => i.zero) = some (some (.pointer none)) := by kernel_rfl
  obtain ⟨i, hi, hz⟩ := Option.map_eq_some_iff.1 h
  exact ⟨i, hi, hz⟩
theorem DskAt.look {w : World} {g mb room : Nat} {off : Bool} {plan : Int} {fs : List Fl} (h : DskAt w g mb room off plan fs) (num : Int) : (Instr.lookup 88 (.map (some mb)) (.int .i64 num) false).run Try.prog w = .ok (((findF fs num).map Fl.ptr).getD (.pointer none)) w := by
  obtain ⟨i, hi, hz⟩ := infoFile
  rw [IMap.look h.map Try.underlying88 Try.underlying3 hi hz num, lookup_findF]
theorem DskAt.look2 {w : World} {g mb room : Nat} {off : Bool} {plan : Int} {fs : List Fl} (h : DskAt w g mb room off plan fs) (num : Int) : (Instr.lookup 88 (.map (some mb)) (.int .i64 num) true).run Try.prog w = .ok (.tuple #[((findF fs num).map Fl.ptr).getD (.pointer none), .bool (findF fs num).isSome]) w := by
  obtain ⟨i, hi, hz⟩ := infoFile
  rw [IMap.look2 h.map Try.underlying88 Try.underlying3 hi hz num, lookup_findF, Option.isSome_map]
theorem dblk5 {w : World} {g : Nat} {t : TypeId} {a b c d e : Value} (h : Blk w g t #[a, b, c, d, e]) : w.cell? ⟨g, 0, none⟩ = some a ∧ w.cell? ⟨g, 1, none⟩ = some b ∧ w.cell? ⟨g, 2, none⟩ = some c ∧ w.cell? ⟨g, 3, none⟩ = some d ∧ w.cell? ⟨g, 4, none⟩ = some e ∧ ∀ i, w.frozen? ⟨g, i, none⟩ = false :=
  ⟨h.cell 0, h.cell 1, h.cell 2, h.cell 3, h.cell 4, h.frozen⟩
end Go.Proofs.Ytldmokjpfnakkaa

/- disk: New, isFile, Used, fails, Append, Read. -/
namespace Go.Proofs.Ytldmokjpfnakkaa
open Go.RowKit

theorem DskAt.dcells {w : World} {g mb room : Nat} {off : Bool} {plan : Int} {fs : List Fl} (h : DskAt w g mb room off plan fs) : w.cell? ⟨g, 0, none⟩ = some (.int .i64 (room : Int)) ∧ w.cell? ⟨g, 1, none⟩ = some (.int .i64 ((sumL fs : Nat) : Int)) ∧ w.cell? ⟨g, 2, none⟩ = some (.map (some mb)) ∧ w.cell? ⟨g, 3, none⟩ = some (.bool off) ∧ w.cell? ⟨g, 4, none⟩ = some (.int .i64 plan) ∧ ∀ i, w.frozen? ⟨g, i, none⟩ = false :=
  dblk5 h.blk
theorem isFile_yes (n : Int) (w : World) (h1 : 0 ≤ n) (h2 : n < 64) : Calls Try.prog 55 #[.int .i64 n] w fun e w' => e = .returned (.bool true) ∧ w = w' := by
  go_enter Try.func55, Try.ntmps55
  go_wp2
  go_ret
  exact ⟨rfl, rfl⟩
theorem isFile_no (n : Int) (w : World) (h : n < 0 ∨ 64 ≤ n) : Calls Try.prog 55 #[.int .i64 n] w fun e w' => e = .returned (.bool false) ∧ w = w' := by
  by_cases h1 : 0 ≤ n
  · have h2 : 64 ≤ n := by omega
    have h3 : decide (n < 64) = false := by simpa using h2
    go_enter Try.func55, Try.ntmps55
    go_wp2
    go_ret
    exact ⟨rfl, rfl⟩
  · have h2 : n < 0 := by omega
    have h3 : decide (0 ≤ n) = false := by simpa using h2
    go_enter Try.func55, Try.ntmps55
    go_wp2
    go_ret
    exact ⟨rfl, rfl⟩
theorem used_any (g mb room : Nat) (off : Bool) (plan : Int) (fs : List Fl) (w : World) (HD : Hid (DskAt w g mb room off plan fs)) :
    Calls Try.prog 31 #[.pointer (some ⟨g, 0, none⟩)] w fun e w' => e = .returned (.int .i64 ((sumL fs : Nat) : Int)) ∧ w = w' := by
  obtain ⟨-, h1, -⟩ := HD.out.dcells
  go_enter Try.func31, Try.ntmps31
  go_wp2
  go_ret
  exact ⟨rfl, rfl⟩
def NewPost (room : Nat) (w : World) (e : Ending) (w' : World) : Prop := ∃ g mb, e = .returned (.tuple #[.pointer (some ⟨g, 0, none⟩), .int .i64 0]) ∧ w.heap.size ≤ g ∧ w.heap.size ≤ mb ∧ DskAt w' g mb room false (-1) [] ∧ Below w.heap.size w w'
/-- A new disk. -/
theorem newDisk_any (room : Nat) (ri : Int) (hri : ri = (room : Int)) (w : World) (hr : room ≤ 16777216) :
    Calls Try.prog 50 #[.int .i64 ri] w (NewPost room w) := by
  subst hri
  have hmm := @run_makeMap Try.prog
  go_enter Try.func50, Try.ntmps50
  have h1 : ¬ ((room : Int) < 0) := by omega
  have h2 : ¬ ((16777216 : Int) < (room : Int)) := by omega
  go_wp2
  go_ret2
  have hB := Blk.new (w.alloc (.map #[] 0)) 90 (diskCells room 0 w.heap.size false (-1))
  rw [World.size_alloc] at hB
  have hM := (IMap.new w).all ((Below.refl _ (w.alloc (.map #[] 0))).alloc (Nat.le_refl _) (.cells (diskCells room 0 w.heap.size false (-1)) 90))
  exact ⟨w.heap.size + 1, w.heap.size, rfl, by omega, Nat.le_refl _, ⟨hB, hM, fun _ h => absurd h (by simp), by simp, hr, Nat.zero_le _, by omega⟩, ((Below.refl _ w).alloc (Nat.le_refl _) _).alloc (by simp) _⟩
/-- What a step leaves: whether the power is off, and the plan. -/
def failOff (off : Bool) (plan : Int) : Bool := off || plan == 0
def failPlan (plan : Int) : Int := if 0 ≤ plan then plan - 1 else plan
theorem fails_any (g mb room : Nat) (off : Bool) (plan : Int) (fs : List Fl) (w : World) (HD : Hid (DskAt w g mb room off plan fs)) :
    Calls Try.prog 56 #[.pointer (some ⟨g, 0, none⟩)] w fun e w' => e = .returned (.bool (failOff off plan)) ∧ DskAt w' g mb room (failOff off plan) (failPlan plan) fs ∧ Mod (fun b => b = g) w w' := by
  obtain ⟨c0, c1, c2, c3, c4, hf⟩ := HD.out.dcells
  have hf3 := hf 3
  have hf4 := hf 4
  have hp := HD.out.plan_le
  clear hf
  by_cases h0 : plan = 0
  · subst h0
    have HO := Lib.hid (show failOff off 0 = true by simp [failOff])
    have HP := Lib.hid (show failPlan 0 = -1 by simp [failPlan])
    have hm := ((Mod.refl (fun b => b = g) w).set (p := ⟨g, 3, none⟩) (.inl rfl) (.bool true)).set (p := ⟨g, 4, none⟩) (.inl rfl) (.int .i64 (-1))
    have hB := Blk.set_ (Blk.set_ HD.out.blk 3 (.bool true)) 4 (.int .i64 (-1))
    have HF := Lib.hid (HD.out.cells (off' := true) (plan' := -1) hm hB (by omega))
    have HM := Lib.hid hm
    clear hm hB
    go_enter Try.func56, Try.ntmps56
    go_wp2
    go_ret
    rw [HO.out, HP.out]
    exact ⟨rfl, HF.out, HM.out⟩
  · have h0' : (plan == 0) = false := by simpa using h0
    have HO := Lib.hid (show failOff off plan = off by simp [failOff, h0'])
    by_cases h1 : 0 ≤ plan
    · have HP := Lib.hid (show failPlan plan = plan - 1 by simp [failPlan, h1])
      have hm := (Mod.refl (fun b => b = g) w).set (p := ⟨g, 4, none⟩) (.inl rfl) (.int .i64 (plan - 1))
      have hB := Blk.set_ HD.out.blk 4 (.int .i64 (plan - 1))
      have HF := Lib.hid (HD.out.cells (off' := off) (plan' := plan - 1) hm hB (by omega))
      have HM := Lib.hid hm
      obtain ⟨hp1, hp2⟩ := hp
      clear hm hB h0
      go_enter Try.func56, Try.ntmps56
      go_wp2
      go_ret
      rw [HO.out, HP.out]
      exact ⟨rfl, HF.out, HM.out⟩
    · have HP := Lib.hid (show failPlan plan = plan by simp [failPlan, h1])
      have h2 : plan < 0 := by omega
      clear h0 h1
      go_enter Try.func56, Try.ntmps56
      go_wp2
      go_ret
      rw [HO.out, HP.out]
      exact ⟨rfl, HD.out, Mod.refl _ _⟩
end Go.Proofs.Ytldmokjpfnakkaa
