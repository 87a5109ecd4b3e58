/- The walks of worldmintref02's Reader. -/
import Derived.Test.YtldmokjpfnakkaaGreatHG12

namespace Go.Proofs.YtldmokjpfnakkaaGreat
open Go.RowKit

/-- Nil has no capacity; the block of another slice is in Q. -/
def NilQ (Q : Nat → Prop) (A : Option Addr) (c : Nat) : Prop := (A = none → c = 0) ∧ ∀ a, A = some a → Q a.block
/-- The reference's reader at block gd: at no error the bytes that are left; Q: the blocks in which they may lie. -/
def RRdrQ (Q : Nat → Prop) (w : World) (B gd : Nat) (rest : List UInt8) (err : Int) : Prop :=
  gd < B ∧ B ≤ w.heap.size ∧ ∃ A n c, Blk w gd 101 #[.slice A n c, .int .i64 err] ∧ n ≤ c ∧ c ≤ 9223372036854775807 ∧ (err = 0 → rest.length = n ∧ n ≤ 70368744177664 ∧ Rd w B A n (vByte rest) ∧ NilQ Q A c)
abbrev RRdr (w : World) (B gd : Nat) (rest : List UInt8) (err : Int) : Prop := RRdrQ (fun _ => True) w B gd rest err
theorem NilQ.nil_ (Q : Nat → Prop) : NilQ Q none 0 := ⟨fun _ => rfl, fun _ h => by cases h⟩
theorem NilQ.any {A : Option Addr} {c : Nat} (h : A = none → c = 0) : NilQ (fun _ => True) A c := ⟨h, fun _ _ => trivial⟩
theorem NilQ.of_ {Q : Nat → Prop} {a : Addr} (c : Nat) (h : Q a.block) : NilQ Q (some a) c := ⟨(fun h => by cases h), (fun b e => by cases e; exact h)⟩
variable {Q : Nat → Prop}
theorem RRdrQ.grown {w w' : World} {B gd : Nat} {rest : List UInt8} {err : Int} {row : Option Nat} (h : RRdrQ Q w B gd rest err) (hg : w.grownBy w' row) (hr : ∀ r, row = some r → B ≤ r) : RRdrQ Q w' B gd rest err := by
  obtain ⟨k1, k2, A, n, c, h1, h2, h3, h4⟩ := h
  have hne : ∀ b, b < B → some b ≠ row := fun b hb e => by have := hr b e.symm; omega
  refine ⟨k1, Nat.le_trans k2 hg.size, A, n, c, h1.grown hg (hne gd k1), h2, h3, fun e => ⟨(h4 e).1, (h4 e).2.1, ?_, (h4 e).2.2.2⟩⟩
  exact (h4 e).2.2.1.keep fun b hb => hg.block b (by omega) (hne b hb)
theorem RRdrQ.all {w w' : World} {B gd : Nat} {rest : List UInt8} {err : Int} (h : RRdrQ Q w B gd rest err) (hb : Below w.heap.size w w') : RRdrQ Q w' B gd rest err :=
  h.grown (only_of_below hb none) (fun _ e => by cases e)
theorem RRdrQ.lt {w : World} {B gd : Nat} {rest : List UInt8} {err : Int} (h : RRdrQ Q w B gd rest err) : gd < B ∧ B ≤ w.heap.size := ⟨h.1, h.2.1⟩
theorem RRdrQ.fail {w : World} {B gd : Nat} {rest : List UInt8} {err : Int} (h : RRdrQ Q w B gd rest err) (e : Int) (he : e ≠ 0) : RRdrQ Q (w.setCell ⟨gd, 1, none⟩ (.int .i64 e)) B gd [] e := by
  obtain ⟨k1, k2, A, n, c, h1, h2, h3, h4⟩ := h
  exact ⟨k1, by simpa [World.setCell] using k2, A, n, c, by simpa using h1.set_ 1 (.int .i64 e), h2, h3, fun h => absurd h he⟩
theorem RRdrQ.any {w : World} {B gd : Nat} {rest : List UInt8} {err : Int} (h : RRdrQ Q w B gd rest err) (he : err ≠ 0) (rest' : List UInt8) : RRdrQ Q w B gd rest' err := by
  obtain ⟨k1, k2, A, n, c, h1, h2, h3, h4⟩ := h
  exact ⟨k1, k2, A, n, c, h1, h2, h3, fun h => absurd h he⟩
theorem RRdrQ.err_cell {w : World} {B gd : Nat} {rest : List UInt8} {err : Int} (h : RRdrQ Q w B gd rest err) : w.cell? ⟨gd, 1, none⟩ = some (.int .i64 err) ∧ w.frozen? ⟨gd, 1, none⟩ = false := by
  obtain ⟨_, _, A, n, c, h1, h2, h3, h4⟩ := h
  exact ⟨by simpa using h1.cell 1, h1.frozen 1⟩
/-- m bytes are taken. -/
theorem RRdrQ.skip {w : World} {B gd n c m bk off : Nat} {rest : List UInt8} (hB : Blk w gd 101 #[.slice (some ⟨bk, off, none⟩) n c, .int .i64 0]) (k1 : gd < B) (k2 : B ≤ w.heap.size) (hR : Rd w B (some ⟨bk, off, none⟩) n (vByte rest)) (hl : rest.length = n) (hm : m ≤ n) (hnc : n ≤ c) (hc : c ≤ 9223372036854775807) (hn : n ≤ 70368744177664) (hq : Q bk)
    (o' : Nat) (ho : c ≠ m → o' = off + m) : RRdrQ Q (w.setCell ⟨gd, 0, none⟩ (.slice (some ⟨bk, o', none⟩) (n - m) (c - m))) B gd (rest.drop m) 0 := by
  refine ⟨k1, by simpa [World.setCell] using k2, some ⟨bk, o', none⟩, n - m, c - m, by simpa using hB.set_ 0 (.slice (some ⟨bk, o', none⟩) (n - m) (c - m)), by omega, by omega, fun _ => ⟨by simp; omega, by omega, ?_, NilQ.of_ _ hq⟩⟩
  refine rd_set (T := 101) (A' := some ⟨bk, off, none⟩) (m := n) (c := c) (err := 0) ?_ hB
  intro h0
  have := ho (by omega)
  subst this
  obtain ⟨b', off', e, hb, hcell⟩ := hR (by omega)
  cases e
  exact ⟨bk, off + m, rfl, hb, fun j hj => by
    rw [Nat.add_assoc, hcell (m + j) (by omega)]
    simp [vByte]⟩

theorem add_step {i acc unit : Nat} {c : UInt8} (hi : i ≤ 9) (hu : unit = 128 ^ i) (ha : acc < 128 ^ i) (h9 : i = 9 → c.toNat % 128 ≤ 1) :
    IntKind.u64.wrap ((acc : Int) + IntKind.u64.wrap (((c.toNat : Nat) : Int) % 128 * (unit : Int))) = ((acc + c.toNat % 128 * 128 ^ i : Nat) : Int) := by
  rw [wrap_u64, wrap_u64, ← hu]
  have hm : c.toNat % 128 < 128 := Nat.mod_lt _ (by decide)
  have e0 : ((c.toNat : Nat) : Int) % 128 * (unit : Int) = ((c.toNat % 128 * unit : Nat) : Int) := by push_cast; rfl
  rw [e0]
  generalize c.toNat % 128 = x at *
  have hb : acc + x * unit < 18446744073709551616 := by
    by_cases e : i = 9
    · subst e
      have h1 := h9 rfl
      have h2 : x * unit ≤ 1 * unit := Nat.mul_le_mul h1 (Nat.le_refl _)
      omega
    · have h8 : 128 ^ i ≤ 128 ^ 8 := Nat.pow_le_pow_right (by decide) (by omega)
      have h2 : x * unit ≤ 127 * 128 ^ 8 := Nat.mul_le_mul (by omega) (by omega)
      omega
  omega

set_option maxRecDepth 100000 in
set_option maxHeartbeats 1000000 in
theorem quint_any (B gd : Nat) (rest : List UInt8) (err : Int) (w : World) (HR : Hid (RRdrQ Q w B gd rest err)) :
    Calls Tryz.prog 80 #[.pointer (some ⟨gd, 0, none⟩)] w fun e w' => e = .returned (.int .u64 (((readU rest err).2.1 : Nat) : Int)) ∧ RRdrQ Q w' B gd (readU rest err).2.2 (readU rest err).1 ∧ w.grownBy w' (some gd) := by
  by_cases he : err = 0
  · subst he
    have HU := Lib.hid (show readU rest 0 = decU 0 0 rest from rfl)
    obtain ⟨k1, k2, A, n, c, h1, h2, h3, h4⟩ := HR.out
    have hc0 : w.cell? ⟨gd, 0, none⟩ = some (.slice A n c) := by simpa using h1.cell 0
    have hc1 : w.cell? ⟨gd, 1, none⟩ = some (.int .i64 0) := by simpa using h1.cell 1
    have hf0 : w.frozen? ⟨gd, 0, none⟩ = false := h1.frozen 0
    have hf1 : w.frozen? ⟨gd, 1, none⟩ = false := h1.frozen 1
    obtain ⟨hl, hmx, hRd, hAc⟩ := h4 rfl
    have HL := Lib.hid hl
    have HB := Lib.hid h1
    clear h1 h4 hl
    go_enter Tryz.func80, Tryz.ntmps80
    go_wp2
    go_loopw [3, 4, 5] (fun nv uv iv wr => ∃ i acc unit : Nat, i ≤ 9 ∧ i ≤ n ∧ iv = .int .i64 (i : Int) ∧ nv = .int .u64 (acc : Int) ∧ uv = .int .u64 (unit : Int) ∧ unit ≤ 9223372036854775808 ∧ acc ≤ 18446744073709551615 ∧ Hid (unit = 128 ^ i) ∧ Hid (acc < 128 ^ i) ∧ Hid (decU i acc (rest.drop i) = decU 0 0 rest) ∧ wr = w) (fun _ _ iv _ => 10 - (intOf iv).toNat)
    case atStart => exact ⟨0, 0, 1, by omega, by omega, rfl, rfl, rfl, by omega, by omega, Lib.hid rfl, Lib.hid (by decide), Lib.hid rfl, rfl⟩
    case round =>
      obtain ⟨i, acc, unit, hi, hin, rfl, rfl, rfl, hu, hacc, HUN, HA, HD, rfl⟩ := hrel
      by_cases hlt : i < n
      · have hil : i < rest.length := by rw [HL.out]; exact hlt
        have ed : rest.drop i = rest[i] :: rest.drop (i + 1) := List.drop_eq_getElem_cons hil
        rw [ed] at HD
        obtain ⟨bk, off, rfl, hbk, hcell⟩ := hRd.at_ hlt
        have hcc : wr.cell? ⟨bk, off + i, none⟩ = some (.int .u8 ((rest[i].toNat : Nat) : Int)) := by rw [hcell]; simp [vByte, hil]
        generalize rest[i] = ch at *
        have hcl := ch.toNat_lt
        clear ed hcell
        cases hbad : badAt i ch with
        | true =>
          have HF := Lib.hid (HR.out.fail 2 (by decide))
          rw [decU_bad hbad] at HD
          rcases bad_cases hbad with ⟨q1, q2⟩ | ⟨q1, q2, q3⟩ | ⟨q1, q2, q3, q4⟩
          all_goals
            clear hbad
            go_wp2
            go_ret
            rw [HU.out, ← HD.out]
            exact ⟨rfl, HF.out, only_set (only_refl _ _) (.inl rfl) _⟩
        | false =>
          rcases ok_cases hbad with ⟨q1, q2, q3, q4⟩ | ⟨q1, q2, q3⟩ | ⟨q1, q2⟩
          all_goals
            have HST := Lib.hid (add_step (c := ch) hi HUN.out HA.out (fun h => by subst h; unfold badAt at hbad; simp at hbad; omega))
            by_cases hc : ch.toNat < 128
            · rw [decU_end hbad hc] at HD
              clear hbad
              go_wp2
              · go_ret
                have hc' : c = i + 1 := by assumption
                subst hc'
                have hsk := RRdrQ.skip (m := i + 1) HB.out k1 k2 hRd HL.out (by omega) h2 (by omega) hmx (hAc.2 _ rfl) off (fun h => absurd rfl h)
                rw [Nat.sub_self] at hsk
                rw [HU.out, ← HD.out, HST.out, Nat.mod_eq_of_lt hc]
                exact ⟨rfl, hsk, only_set (only_refl _ _) (.inl rfl) _⟩
              · go_ret
                rw [HU.out, ← HD.out, HST.out, Nat.mod_eq_of_lt hc]
                exact ⟨rfl, RRdrQ.skip (m := i + 1) HB.out k1 k2 hRd HL.out (by omega) h2 (by omega) hmx (hAc.2 _ rfl) (off + (i + 1)) (fun _ => rfl), only_set (only_refl _ _) (.inl rfl) _⟩
            · first
                | (exfalso; omega)
                | (rw [decU_go hbad (by omega)] at HD
                   have hi9 : i ≠ 9 := by rintro rfl; unfold badAt at hbad; simp at hbad; omega
                   have HA2 : Hid (acc + ch.toNat % 128 * 128 ^ i < 128 ^ (i + 1)) := by
                     refine Lib.hid ?_
                     have h1 := HA.out
                     have h2 : ch.toNat % 128 * 128 ^ i ≤ 127 * 128 ^ i := Nat.mul_le_mul (by omega) (Nat.le_refl _)
                     rw [Nat.pow_succ]; omega
                   have hle : acc + ch.toNat % 128 * 128 ^ i ≤ 18446744073709551615 := by
                     have h1 := HA2.out
                     have h2 : 128 ^ (i + 1) ≤ 128 ^ 9 := Nat.pow_le_pow_right (by decide) (by omega)
                     omega
                   have hun : unit * 128 ≤ 9223372036854775808 := by
                     have h1 := HUN.out
                     have h2 : 128 ^ (i + 1) ≤ 128 ^ 9 := Nat.pow_le_pow_right (by decide) (by omega)
                     rw [Nat.pow_succ, ← h1] at h2
                     omega
                   have HLE := Lib.hid hle
                   clear hbad hle
                   go_wp2
                   exact ⟨⟨i + 1, _, unit * 128, by omega, by omega, by go_num, congrArg (Value.int .u64) HST.out, by go_num, hun, HLE.out, Lib.hid (by rw [Nat.pow_succ, ← HUN.out]), HA2, HD, by first | rfl | trivial⟩, by simp [intOf]; omega⟩)
      · have HF := Lib.hid (HR.out.fail 3 (by decide))
        rw [List.drop_eq_nil_of_le (by rw [HL.out]; omega), decU_nil] at HD
        go_wp2
        go_ret
        rw [HU.out, ← HD.out]
        exact ⟨rfl, HF.out, only_set (only_refl _ _) (.inl rfl) _⟩
  · have HU := Lib.hid (show readU rest err = (err, 0, []) from if_neg he)
    obtain ⟨hc1, hf1⟩ := HR.out.err_cell
    have hq : (err == 0) = false := by simpa using he
    go_enter Tryz.func80, Tryz.ntmps80
    go_wp2
    go_loopw [3, 4, 5] (fun _ _ _ wr => wr = w) (fun _ _ _ _ => 0)
    case atStart => rfl
    case round =>
      obtain rfl := hrel
      clear he
      go_wp2
      go_ret
      rw [HU.out]
      exact ⟨rfl, HR.out.any (by simpa using hq) _, only_refl _ _⟩

set_option maxRecDepth 100000 in
set_option maxHeartbeats 1000000 in
theorem qback_any (n : Nat) (ni : Int) (hni : ni = (n : Int)) (w : World) (h2 : n ≤ 18446744073709551615) :
    Calls Tryz.prog 79 #[.int .u64 ni] w fun e w' => e = .returned (.int .i64 (unzigI n)) ∧ w = w' := by
  subst hni
  by_cases h : n % 2 = 1
  · have HZ := Lib.hid (show unzigI n = -((n : Int) / 2) - 1 by unfold unzigI; rw [if_pos h]; omega)
    have q : ((n : Int) % 2 == 1) = true := by simp; omega
    go_enter Tryz.func79, Tryz.ntmps79
    go_wp2
    go_ret
    rw [HZ.out]
    exact ⟨rfl, rfl⟩
  · have HZ := Lib.hid (show unzigI n = (n : Int) / 2 by unfold unzigI; rw [if_neg h]; omega)
    have q : ((n : Int) % 2 == 1) = false := by simp; omega
    go_enter Tryz.func79, Tryz.ntmps79
    go_wp2
    go_ret
    rw [HZ.out]
    exact ⟨rfl, rfl⟩

set_option maxRecDepth 100000 in
set_option maxHeartbeats 1000000 in
theorem qint_any (B gd : Nat) (rest : List UInt8) (err : Int) (w : World) (HR : Hid (RRdrQ Q w B gd rest err)) :
    Calls Tryz.prog 61 #[.pointer (some ⟨gd, 0, none⟩)] w fun e w' => e = .returned (.int .i64 (unzigI (readU rest err).2.1)) ∧ RRdrQ Q w' B gd (readU rest err).2.2 (readU rest err).1 ∧ w.grownBy w' (some gd) := by
  go_enter Tryz.func61, Tryz.ntmps61
  go_wp2_with (first
    | (go_at_call 80; ((with_reducible refine (quint_any B gd rest err _ HR).mono ?_); rintro e w1 ⟨rfl, hR1, ho1⟩))
    | (go_at_call 79; ((with_reducible refine (qback_any _ _ rfl _ (readU_lt rest err)).mono ?_); rintro e w2 ⟨rfl, rfl⟩)))
  go_ret
  exact ⟨rfl, hR1, ho1⟩

/-- The length ahead of a list. -/
def lenR (rest : List UInt8) (err : Int) : Int × Nat × List UInt8 :=
  if (readU rest err).1 ≠ 0 then ((readU rest err).1, 0, []) else if (readU rest err).2.2.length < (readU rest err).2.1 then (3, 0, []) else (0, (readU rest err).2.1, (readU rest err).2.2)
theorem lenR_cases (rest : List UInt8) (err : Int) : ((readU rest err).1 ≠ 0 ∧ lenR rest err = ((readU rest err).1, 0, [])) ∨ ((readU rest err).1 = 0 ∧ (readU rest err).2.2.length < (readU rest err).2.1 ∧ lenR rest err = (3, 0, [])) ∨
    ((readU rest err).1 = 0 ∧ (readU rest err).2.1 ≤ (readU rest err).2.2.length ∧ lenR rest err = (0, (readU rest err).2.1, (readU rest err).2.2)) := by
  unfold lenR
  by_cases h : (readU rest err).1 = 0
  · by_cases h2 : (readU rest err).2.2.length < (readU rest err).2.1
    · exact .inr (.inl ⟨h, h2, by rw [if_neg (by simpa using h), if_pos h2]⟩)
    · exact .inr (.inr ⟨h, by omega, by rw [if_neg (by simpa using h), if_neg h2]⟩)
  · exact .inl ⟨h, by rw [if_pos h]⟩
theorem lenR_raw (rest : List UInt8) (err : Int) : readRaw rest err = if (lenR rest err).1 ≠ 0 then ((lenR rest err).1, [], []) else (0, (lenR rest err).2.2.take (lenR rest err).2.1, (lenR rest err).2.2.drop (lenR rest err).2.1) := by
  rcases lenR_cases rest err with ⟨h, e⟩ | ⟨h, h2, e⟩ | ⟨h, h2, e⟩
  · rw [e, if_pos h, readRaw_err h]
  · rw [e, readRaw_more h h2]; rfl
  · rw [e, readRaw_ok h h2]; rfl
theorem lenR_ints (rest : List UInt8) (err : Int) : readInts rest err = if (lenR rest err).1 ≠ 0 then ((lenR rest err).1, [], []) else decK (lenR rest err).2.1 (lenR rest err).2.2 := by
  rcases lenR_cases rest err with ⟨h, e⟩ | ⟨h, h2, e⟩ | ⟨h, h2, e⟩
  · rw [e, if_pos h, readInts_err h]
  · rw [e, readInts_more h h2]; rfl
  · rw [e, readInts_ok h h2]; rfl
theorem addr_add (b off j : Nat) : (⟨b, off, none⟩ : Addr).add j = ⟨b, off + j, none⟩ := by unfold Addr.add; split <;> simp_all
theorem RRdrQ.skipA {w : World} {B gd n c m : Nat} {a a' : Addr} {rest : List UInt8} (hB : Blk w gd 101 #[.slice (some a) n c, .int .i64 0]) (k1 : gd < B) (k2 : B ≤ w.heap.size) (hR : Rd w B (some a) n (vByte rest)) (hl : rest.length = n) (hm : m ≤ n) (hnc : n ≤ c) (hc : c ≤ 9223372036854775807) (hn : n ≤ 70368744177664) (hq : Q a.block) (hqa : c = m → Q a'.block)
    (ho : c ≠ m → a' = a.add m) : RRdrQ Q (w.setCell ⟨gd, 0, none⟩ (.slice (some a') (n - m) (c - m))) B gd (rest.drop m) 0 ∧ BIn (w.setCell ⟨gd, 0, none⟩ (.slice (some a') (n - m) (c - m))) B (some a, m, c) (rest.take m) := by
  have hfar : ∀ (x : Option Addr) (k : Nat) (bs : List UInt8), Rd w B x k (vByte bs) → Rd (w.setCell ⟨gd, 0, none⟩ (.slice (some a') (n - m) (c - m))) B x k (vByte bs) := fun x k bs h => rd_set (T := 101) (A' := some a) (m := n) (c := c) (err := 0) h hB
  refine ⟨⟨k1, by simpa [World.setCell] using k2, some a', n - m, c - m, by simpa using hB.set_ 0 (.slice (some a') (n - m) (c - m)), by omega, by omega, fun _ => ⟨by simp; omega, by omega, ?_, NilQ.of_ _ (by
    by_cases h : c = m
    · exact hqa h
    · rw [ho h]; unfold Addr.add; split <;> exact hq)⟩⟩, ⟨by simp; omega, by simp only; omega, hc, ?_⟩⟩
  · refine hfar _ _ _ fun h0 => ?_
    obtain ⟨bk, off, e, hb, hcell⟩ := hR (by omega)
    cases e
    have := ho (by omega)
    subst this
    exact ⟨bk, off + m, by rw [addr_add], hb, fun j hj => by
      rw [Nat.add_assoc, hcell (m + j) (by omega)]
      simp [vByte]⟩
  · exact hfar _ _ _ ((hR.less hm).congr (fun j hj => by simp [vByte, hj]))
theorem lenR_le (rest : List UInt8) (err : Int) (h : (lenR rest err).1 = 0) : (lenR rest err).2.1 ≤ (lenR rest err).2.2.length ∧ (lenR rest err).2.2.length ≤ rest.length := by
  unfold lenR at h ⊢
  split at h
  · rename_i h1; exact absurd h h1
  · rename_i h1
    rw [if_neg h1]
    split at h
    · simp at h
    · rename_i h2
      rw [if_neg h2]
      refine ⟨by simp only; omega, ?_⟩
      obtain ⟨_, e⟩ := readU_ok (rest := rest) (err := err) (by simpa using h1)
      simp only
      rw [e]
      exact (decU_lt rest 0 0 (by decide) (by decide)).2

set_option maxRecDepth 100000 in
set_option maxHeartbeats 2000000 in
theorem qlen_any (B gd : Nat) (rest : List UInt8) (err : Int) (w : World) (HR : Hid (RRdrQ Q w B gd rest err)) :
    Calls Tryz.prog 78 #[.pointer (some ⟨gd, 0, none⟩)] w fun e w' => e = .returned (.int .i64 (((lenR rest err).2.1 : Nat) : Int)) ∧ RRdrQ Q w' B gd (lenR rest err).2.2 (lenR rest err).1 ∧ w.grownBy w' (some gd) := by
  have hlt := readU_lt rest err
  go_enter Tryz.func78, Tryz.ntmps78
  go_wp2_with fail
  refine (quint_any B gd rest err _ HR).mono ?_
  rintro e w1 ⟨rfl, hR1, ho1⟩
  by_cases he : (readU rest err).1 = 0
  · by_cases hm : (readU rest err).2.2.length < (readU rest err).2.1
    · have HE := Lib.hid (show lenR rest err = (3, 0, []) by unfold lenR; rw [if_neg (by simpa using he), if_pos hm])
      generalize readU rest err = q at *
      obtain ⟨e1, n, r1⟩ := q
      simp only at *
      subst he
      have HF := Lib.hid (hR1.fail 3 (by decide))
      obtain ⟨k1, k2, A, m, c, h1, h2, h3, h4⟩ := hR1
      obtain ⟨hl, hmx, hRd, hAc⟩ := h4 rfl
      have hc0 : w1.cell? ⟨gd, 0, none⟩ = some (.slice A m c) := by simpa using h1.cell 0
      have hc1 : w1.cell? ⟨gd, 1, none⟩ = some (.int .i64 0) := by simpa using h1.cell 1
      have hf1 : w1.frozen? ⟨gd, 1, none⟩ = false := h1.frozen 1
      have hmn : m < n := by omega
      clear h1 h4 hl hm
      go_wp2
      go_ret
      rw [HE.out]
      exact ⟨rfl, HF.out, only_set ho1 (.inl rfl) _⟩
    · have HE := Lib.hid (show lenR rest err = (0, (readU rest err).2.1, (readU rest err).2.2) by unfold lenR; rw [if_neg (by simpa using he), if_neg hm])
      generalize readU rest err = q at *
      obtain ⟨e1, n, r1⟩ := q
      simp only at *
      subst he
      have HF := Lib.hid hR1
      obtain ⟨k1, k2, A, m, c, h1, h2, h3, h4⟩ := hR1
      obtain ⟨hl, hmx, hRd, hAc⟩ := h4 rfl
      have hc0 : w1.cell? ⟨gd, 0, none⟩ = some (.slice A m c) := by simpa using h1.cell 0
      have hc1 : w1.cell? ⟨gd, 1, none⟩ = some (.int .i64 0) := by simpa using h1.cell 1
      have hmn : n ≤ m := by omega
      clear h1 h4 hl hm
      go_wp2
      go_ret
      rw [HE.out]
      exact ⟨rfl, HF.out, ho1⟩
  · have HE := Lib.hid (show lenR rest err = ((readU rest err).1, 0, []) by unfold lenR; rw [if_pos he])
    obtain ⟨hc1, hf1⟩ := hR1.err_cell
    generalize readU rest err = q at *
    obtain ⟨e1, n, r1⟩ := q
    simp only at *
    have hq : (e1 == 0) = false := by simpa using he
    have hq' : (e1 != 0) = true := by simpa using he
    go_wp2
    go_ret
    rw [HE.out]
    exact ⟨rfl, hR1.any he _, ho1⟩

set_option maxRecDepth 100000 in
set_option maxHeartbeats 2000000 in
theorem qraw2_any (B gd : Nat) (rest : List UInt8) (err : Int) (w : World) (HR : Hid (RRdrQ Q w B gd rest err)) :
    Calls Tryz.prog 60 #[.pointer (some ⟨gd, 0, none⟩)] w fun e w' => ∃ A' n' c', e = .returned (.slice A' n' c') ∧ BIn w' B (A', n', c') (readRaw rest err).2.1 ∧ NilQ Q A' c' ∧ RRdrQ Q w' B gd (readRaw rest err).2.2 (readRaw rest err).1 ∧ w.grownBy w' (some gd) := by
  go_enter Tryz.func60, Tryz.ntmps60
  go_wp2_with fail
  refine (qlen_any B gd rest err _ HR).mono ?_
  rintro e w1 ⟨rfl, hR1, ho1⟩
  by_cases he : (lenR rest err).1 = 0
  · have HE := Lib.hid (show readRaw rest err = (0, (lenR rest err).2.2.take (lenR rest err).2.1, (lenR rest err).2.2.drop (lenR rest err).2.1) by rw [lenR_raw, if_neg (by simpa using he)])
    have hle := (lenR_le rest err he).1
    generalize lenR rest err = q at *
    obtain ⟨e1, n, r1⟩ := q
    simp only at *
    subst he
    obtain ⟨k1, k2, A, m, c, h1, h2, h3, h4⟩ := hR1
    obtain ⟨hl, hmx, hRd, hAc⟩ := h4 rfl
    have hc0 : w1.cell? ⟨gd, 0, none⟩ = some (.slice A m c) := by simpa using h1.cell 0
    have hc1 : w1.cell? ⟨gd, 1, none⟩ = some (.int .i64 0) := by simpa using h1.cell 1
    have hf0 : w1.frozen? ⟨gd, 0, none⟩ = false := h1.frozen 0
    have HB := Lib.hid h1
    have HL := Lib.hid hl
    have hnm : n ≤ m := by omega
    have hnc : n ≤ c := by omega
    have HRd := Lib.hid hRd
    clear h1 h4 hl hRd hle
    rcases A with _ | a
    · obtain rfl : c = 0 := hAc.1 rfl
      obtain rfl : m = 0 := by omega
      obtain rfl : n = 0 := by omega
      obtain rfl : r1 = [] := List.eq_nil_of_length_eq_zero HL.out
      have hst := Blk.set_ HB.out 0 (.slice none 0 0)
      go_wp2
      go_ret
      rw [HE.out]
      exact ⟨none, 0, 0, rfl, BIn.nil _ _, NilQ.nil_ _, ⟨k1, by simpa [World.setCell] using k2, none, 0, 0, hst, by omega, by omega, fun _ => ⟨rfl, by omega, Rd.nil, NilQ.nil_ _⟩⟩, only_set ho1 (.inl rfl) _⟩
    · go_wp2
      · go_ret
        have hcn : c = n := by assumption
        subst hcn
        obtain ⟨s1, s2⟩ := RRdrQ.skipA (m := c) (a' := a) HB.out k1 k2 HRd.out HL.out hnm h2 h3 hmx (hAc.2 _ rfl) (fun _ => hAc.2 _ rfl) (fun h => absurd rfl h)
        rw [Nat.sub_self] at s1 s2
        rw [HE.out]
        exact ⟨_, _, _, rfl, s2, NilQ.of_ _ (hAc.2 _ rfl), s1, only_set ho1 (.inl rfl) _⟩
      · go_ret
        obtain ⟨s1, s2⟩ := RRdrQ.skipA (m := n) (a' := a.add n) HB.out k1 k2 HRd.out HL.out hnm h2 h3 hmx (hAc.2 _ rfl) (fun h => absurd h (by assumption)) (fun _ => rfl)
        rw [HE.out]
        exact ⟨_, _, _, rfl, s2, NilQ.of_ _ (hAc.2 _ rfl), s1, only_set ho1 (.inl rfl) _⟩
  · have HE := Lib.hid (show readRaw rest err = ((lenR rest err).1, [], []) by rw [lenR_raw, if_pos he])
    obtain ⟨hc1, hf1⟩ := hR1.err_cell
    generalize lenR rest err = q at *
    obtain ⟨e1, n, r1⟩ := q
    simp only at *
    have hq' : (e1 != 0) = true := by simpa using he
    go_wp2
    go_ret
    rw [HE.out]
    exact ⟨none, 0, 0, rfl, BIn.nil _ _, NilQ.nil_ _, hR1.any he _, ho1⟩

theorem qraw_any (B gd : Nat) (rest : List UInt8) (err : Int) (w : World) (HR : Hid (RRdrQ Q w B gd rest err)) :
    Calls Tryz.prog 60 #[.pointer (some ⟨gd, 0, none⟩)] w fun e w' => ∃ A' n' c', e = .returned (.slice A' n' c') ∧ BIn w' B (A', n', c') (readRaw rest err).2.1 ∧ RRdrQ Q w' B gd (readRaw rest err).2.2 (readRaw rest err).1 ∧ w.grownBy w' (some gd) :=
  (qraw2_any B gd rest err w HR).mono fun _ _ ⟨A', n', c', h1, h2, _, h3⟩ => ⟨A', n', c', h1, h2, h3⟩

end Go.Proofs.YtldmokjpfnakkaaGreat
