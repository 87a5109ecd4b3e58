/- The walks of wire's Writer. -/
import Derived.Test.YtgepbklpobobbaaGreatDoorProg
import Derived.Test.YtgepbklpobobbaaGreatDoorHG0
import Derived.Test.YtgepbklpobobbaaGreatDoorHG45
import Derived.Lib.AppendStr
import Derived.Lib.Hide
import Derived.WalkKit
import Derived.WalkSpells
import Derived.WalkLawsBesides

namespace Go.Proofs.YtgepbklpobobbaaGreatDoor
open Go.RowKit

theorem own_ne {w : World} {B gd n size e T : Nat} {v : Value} {xs : List Value} {cs : Array Value} (hT : T ≠ e) (hB : Blk w gd T cs) (hown : w.ownsRow B e size v n xs) : v.ownBlock ≠ some gd := by
  intro h
  rcases hown.2 with ⟨rfl, _⟩ | ⟨g, cap, cur, rfl, _, hg, _⟩
  · simp [Value.ownBlock] at h
  · obtain rfl : g = gd := by simpa [Value.ownBlock] using h
    unfold Blk at hB
    rw [hB] at hg
    injection hg with hg
    injection hg with _ hg
    exact hT hg
theorem own_put {w w3 : World} {B gd n n' T e : Nat} {v v' : Value} {xs xs' : List Value} (hT : T ≠ e) (hBg : B ≤ gd) (hB : Blk w gd T #[v]) (hown : w.ownsRow B e 1 v n xs) (hg : w.grownBy w3 v.ownBlock) (hown3 : w3.ownsRow B e 1 v' n' xs') :
    w3.cell? ⟨gd, 0, none⟩ = some v ∧ w3.frozen? ⟨gd, 0, none⟩ = false ∧ Blk (w3.setCell ⟨gd, 0, none⟩ v') gd T #[v'] ∧ (w3.setCell ⟨gd, 0, none⟩ v').ownsRow B e 1 v' n' xs' ∧ Below B w (w3.setCell ⟨gd, 0, none⟩ v') := by
  have h3 : Blk w3 gd T #[v] := hB.grown hg (Ne.symm (own_ne hT hB hown))
  refine ⟨by simpa using h3.cell 0, h3.frozen 0, by simpa using h3.set_ 0 v', ?_, ?_⟩
  · exact hown3.kept (only_set (only_refl w3 (some gd)) (.inl rfl) v') (.inr (own_ne hT h3 hown3))
  · exact ((Below.refl B w).grown hg (by have := hB.lt; omega) (fun k e => (hown.lt k e).1)).setCell hBg _

/-- A Writer at block gd, all of it in blocks from B on, with the bytes bs. -/
def Wr (w : World) (B gd : Nat) (bs : List UInt8) : Prop :=
  B ≤ gd ∧ ∃ A n c, bs.length = n ∧ Blk w gd 46 #[.slice A n c] ∧ w.ownsRow B 5 1 (.slice A n c) n (bs.map fun b => Value.int .u8 ((b.toNat : Nat) : Int))
theorem Wr.all {w w' : World} {B gd : Nat} {bs : List UInt8} (h : Wr w B gd bs) (hb : Below w.heap.size w w') : Wr w' B gd bs := by
  obtain ⟨h0, A, n, c, h1, h2, h3⟩ := h
  exact ⟨h0, A, n, c, h1, h2.all hb, own_keep h3 hb⟩
theorem Wr.new (w : World) : Wr (w.alloc (.cells #[.slice none 0 0] 46)) w.heap.size w.heap.size [] := ⟨Nat.le_refl _, none, 0, 0, rfl, Blk.new _ _ _, World.ownsRow_nil _ _ _ _⟩
theorem Wr.lt {w : World} {B gd : Nat} {bs : List UInt8} (h : Wr w B gd bs) : B ≤ gd ∧ gd < w.heap.size := by
  obtain ⟨h0, A, n, c, h1, h2, h3⟩ := h
  exact ⟨h0, h2.lt⟩
theorem info_u8 : (Tryz.prog.info? 5).map (fun i => (i.zero, i.size, i.bytes)) = some (some (.int .u8 0), 1, 1) := by kernel_rfl

/-- One byte more. -/
theorem Wr.one {w : World} {B gd : Nat} {bs : List UInt8} (h : Wr w B gd bs) (hl : bs.length ≤ 35184372088832) (x : UInt8) (xi : Int) (hx : xi = ((x.toNat : Nat) : Int)) :
    ∃ A n c g cap w3, w.cell? ⟨gd, 0, none⟩ = some (.slice A n c) ∧
      Hid ((Builtin.append_ #[44, 44] 44 #[.slice A n c, .slice (some ⟨w.heap.size, 0, none⟩) 1 1]).run Tryz.prog (w.alloc (.cells #[.int .u8 xi] 5)) = .ok (.slice (some ⟨g, 0, none⟩) (n + 1) cap) w3) ∧
      w3.cell? ⟨gd, 0, none⟩ = some (.slice A n c) ∧ w3.frozen? ⟨gd, 0, none⟩ = false ∧ Hid (Wr (w3.setCell ⟨gd, 0, none⟩ (.slice (some ⟨g, 0, none⟩) (n + 1) cap)) B gd (bs ++ [x])) ∧ Hid (Below B w (w3.setCell ⟨gd, 0, none⟩ (.slice (some ⟨g, 0, none⟩) (n + 1) cap))) := by
  subst hx
  obtain ⟨h0, A, n, c, rfl, h2, h3⟩ := h
  obtain ⟨i0, hi, hz0, hz1, hz2⟩ := info_parts info_u8
  obtain ⟨g, cap, w3, hap, hown, hg, _, _⟩ := run_append_one (P := Tryz.prog) w B 44 44 5 i0 _ 1 Tryz.underlying44 hi hz0 hz1 hz2 rfl _ _ _ h3 (.int .u8 ((x.toNat : Nat) : Int)) rfl (by unfold maxLen; omega) (by omega) (by have := h2.lt; omega)
  obtain ⟨k1, k2, k3, k4, k5⟩ := own_put (by decide) h0 h2 h3 hg hown
  refine ⟨A, _, c, g, cap, w3, by simpa using h2.cell 0, Lib.hid hap, k1, k2, Lib.hid ⟨h0, _, _, _, ?_, k3, ?_⟩, Lib.hid k5⟩
  · simp
  · rw [List.map_append]; exact k4

theorem or128_fin : ∀ n : Fin 256, n.val ||| 128 = n.val % 128 + 128 := by decide +kernel
theorem or128 (m : Nat) : bits BinOp.or IntKind.u8 ((m : Int) % 256) 128 = (((UInt8.ofNat (m % 128 + 128)).toNat : Nat) : Int) := by
  rw [ofNat_toNat (by omega)]
  show IntKind.u8.wrap ((BitVec.ofInt 8 ((m : Int) % 256) ||| BitVec.ofInt 8 128).toNat : Int) = _
  have e1 : BitVec.ofInt 8 ((m : Int) % 256) = BitVec.ofNat 8 (m % 256) := by
    rw [show (m : Int) % 256 = ((m % 256 : Nat) : Int) by omega, BitVec.ofInt_natCast]
  have e2 : (BitVec.ofInt 8 128).toNat = 128 := by decide +kernel
  rw [BitVec.toNat_or, e1, e2, BitVec.toNat_ofNat]
  have h := or128_fin ⟨m % 256, by omega⟩
  simp only at h
  rw [show m % 256 % 2 ^ 8 = m % 256 by omega, h]
  simp [IntKind.wrap, IntKind.bits, IntKind.signed]
  omega

set_option maxRecDepth 100000 in
set_option maxHeartbeats 400000 in
theorem zigzag_any (n : Int) (w : World) (h1 : -9223372036854775808 ≤ n) (h2 : n ≤ 9223372036854775807) :
    Calls Tryz.prog 36 #[.int .i64 n] w fun e w' => e = .returned (.int .u64 ((zigI n : Nat) : Int)) ∧ w = w' := by
  go_enter Tryz.func36, Tryz.ntmps36
  have HZ := Lib.hid (zig_bits h1 h2)
  go_wp2
  go_ret
  rw [HZ.out]
  exact ⟨rfl, rfl⟩

set_option maxRecDepth 100000 in
set_option maxHeartbeats 400000 in
theorem unzigzag_any (n : Nat) (ni : Int) (hni : ni = (n : Int)) (w : World) (h2 : n ≤ 18446744073709551615) :
    Calls Tryz.prog 47 #[.int .u64 ni] w fun e w' => e = .returned (.int .i64 (unzigI n)) ∧ w = w' := by
  subst hni
  go_enter Tryz.func47, Tryz.ntmps47
  have HZ := Lib.hid (unzig_bits h2)
  go_wp2
  go_ret
  rw [HZ.out]
  exact ⟨rfl, rfl⟩

/-- Many bytes more. -/
theorem Wr.more {w : World} {B gd : Nat} {bs : List UInt8} (h : Wr w B gd bs) (A' : Option Addr) (m c' : Nat) (xs : List UInt8) (hx : xs.length = m) (hR : Rd w w.heap.size A' m (vByte xs)) (hl : bs.length + m ≤ 70368744177664) :
    ∃ A n c A3 n3 c3 w3, w.cell? ⟨gd, 0, none⟩ = some (.slice A n c) ∧
      Hid ((Builtin.append_ #[44, 44] 44 #[.slice A n c, .slice A' m c']).run Tryz.prog w = .ok (.slice A3 n3 c3) w3) ∧
      w3.cell? ⟨gd, 0, none⟩ = some (.slice A n c) ∧ w3.frozen? ⟨gd, 0, none⟩ = false ∧ Hid (Wr (w3.setCell ⟨gd, 0, none⟩ (.slice A3 n3 c3)) B gd (bs ++ xs)) ∧ Hid (Below B w (w3.setCell ⟨gd, 0, none⟩ (.slice A3 n3 c3))) := by
  obtain ⟨h0, A, n, c, rfl, h2, h3⟩ := h
  obtain ⟨i0, hi, hz0, hz1, hz2⟩ := info_parts info_u8
  obtain ⟨v', w3, hap, hown, hg, _⟩ := run_append_rd (P := Tryz.prog) w B 44 44 5 i0 _ 1 Tryz.underlying44 hi hz0 hz1 hz2 rfl _ _ _ h3 w.heap.size A' m c' (vByte xs) hR hR.none_ (fun _ _ => rfl) (by unfold maxLen; omega) (by omega) (by have := h2.lt; omega)
  obtain ⟨k1, k2, k3, k4, k5⟩ := own_put (by decide) h0 h2 h3 hg hown
  obtain ⟨A3, c3, rfl⟩ := own_slice hown
  refine ⟨A, _, c, _, _, _, w3, by simpa using h2.cell 0, Lib.hid hap, k1, k2, Lib.hid ⟨h0, _, _, _, ?_, k3, ?_⟩, Lib.hid k5⟩
  · simp [hx]
  · have e : (List.range m).map (vByte xs) = xs.map fun b => Value.int .u8 ((b.toNat : Nat) : Int) := by
      subst hx
      refine List.ext_getElem (by simp) fun i h1 h2 => ?_
      have hi : i < xs.length := by simpa using h2
      simp [vByte, hi]
    rw [List.map_append, ← e]; exact k4
theorem encInt_len {n : Int} (h1 : -9223372036854775808 ≤ n) (h2 : n ≤ 9223372036854775807) : (encInt n).length ≤ 10 := varint_len10 (zigI_lt h1 h2)
set_option maxRecDepth 100000 in
set_option maxHeartbeats 400000 in
theorem clone_any (A : Option Addr) (n c : Nat) (bs : List UInt8) (w : World) (HX : Hid (bs.length = n)) (hR : Rd w w.heap.size A n (vByte bs)) (hn : n ≤ 70368744177664) :
    Calls Tryz.prog 37 #[.slice A n c] w fun e w' => ∃ A' c', e = .returned (.slice A' n c') ∧ n ≤ c' ∧ c' ≤ 9223372036854775807 ∧
      w'.ownsRow w.heap.size 5 1 (.slice A' n c') n (bs.map fun b => Value.int .u8 ((b.toNat : Nat) : Int)) ∧ Rd w' w'.heap.size A' n (vByte bs) ∧ Below w.heap.size w w' := by
  obtain ⟨i0, hi, hz0, hz1, hz2⟩ := info_parts info_u8
  have hq := Lib.run_eql_slice_nil (P := Tryz.prog) w 44 5 A n c 0 0 Tryz.underlying44
  rcases A with _ | a
  · have h0 := hR.none_ rfl
    subst h0
    obtain rfl : bs = [] := List.eq_nil_of_length_eq_zero HX.out
    go_enter Tryz.func37, Tryz.ntmps37
    go_wp2
    go_ret
    exact ⟨none, 0, rfl, by omega, by omega, World.ownsRow_nil _ _ _ _, Rd.nil, Below.refl _ _⟩
  · have ho : (w.alloc (.cells #[] 5)).ownsRow w.heap.size 5 1 (.slice (some ⟨w.heap.size, 0, none⟩) 0 0) 0 [] := World.ownsRow_made w #[] 0 (Nat.le_refl _) (by decide) rfl
    obtain ⟨v, w3, hap, hown, hg, _⟩ := run_append_rd (P := Tryz.prog) (w.alloc (.cells #[] 5)) w.heap.size 44 44 5 i0 _ 1 Tryz.underlying44 hi hz0 hz1 hz2 rfl _ 0 [] ho w.heap.size (some a) n c (vByte bs) (hR.alloc (Nat.le_refl _) _) (fun h => by cases h) (fun _ _ => rfl) (by unfold maxLen; omega) (by omega) (by simp)
    have HA := Lib.hid hap; clear hap
    simp only [Nat.zero_add, List.nil_append] at hown
    obtain ⟨A', c', rfl⟩ := own_slice hown
    have e : (List.range n).map (vByte bs) = bs.map fun b => Value.int .u8 ((b.toNat : Nat) : Int) := by
      refine List.ext_getElem (by simp [HX.out]) fun i h1 h2 => ?_
      have hi : i < bs.length := by simpa using h2
      simp [vByte, hi]
    rw [e] at hown
    clear e
    go_enter Tryz.func37, Tryz.ntmps37
    go_wp2_with (at_builtin; refine wpList_append_run HA.out rfl rfl rfl rfl ?_)
    go_ret
    obtain ⟨_, r2, r3⟩ := rd_bytes hown
    exact ⟨A', c', rfl, r2, own_cap hown, hown, r3, ((Below.refl _ _).alloc (Nat.le_refl _) _).grown hg (by simp) (fun k e => (ho.lt k e).1)⟩

set_option maxRecDepth 100000 in
set_option maxHeartbeats 400000 in
theorem wdone_any (B gd : Nat) (bs : List UInt8) (w : World) (HW : Hid (Wr w B gd bs)) (hl : bs.length ≤ 70368744177664) :
    Calls Tryz.prog 12 #[.pointer (some ⟨gd, 0, none⟩)] w fun e w' => ∃ A' n c', e = .returned (.slice A' n c') ∧ n ≤ c' ∧ c' ≤ 9223372036854775807 ∧ Hid (bs.length = n) ∧
      w'.ownsRow w.heap.size 5 1 (.slice A' n c') n (bs.map fun b => Value.int .u8 ((b.toNat : Nat) : Int)) ∧ Rd w' w'.heap.size A' n (vByte bs) ∧ Below w.heap.size w w' := by
  obtain ⟨h0, A, n, c, hx, h2, h3⟩ := HW.out
  have hc : w.cell? ⟨gd, 0, none⟩ = some (.slice A n c) := by simpa using h2.cell 0
  have HX := Lib.hid hx
  obtain ⟨_, _, r3⟩ := rd_bytes h3
  have hn : n ≤ 70368744177664 := by omega
  clear hx h2 h3
  go_enter Tryz.func12, Tryz.ntmps12
  go_wp2_with (go_at_call 37; ((with_reducible refine (clone_any _ _ _ bs _ HX r3 hn).mono ?_); rintro e w2 ⟨A', c', rfl, q1, q2, q3, q4, q5⟩))
  go_ret
  exact ⟨A', n, c', rfl, q1, q2, HX, q3, q4, q5⟩

end Go.Proofs.YtgepbklpobobbaaGreatDoor

/- Plain Lean: reading varints and lists. -/
namespace Go.Proofs.YtgepbklpobobbaaGreatDoor
open Go.RowKit

/-- The byte c at place i is refused. -/
def badAt (i : Nat) (c : UInt8) : Bool := (decide (i = 9) && decide (1 < c.toNat)) || (decide (0 < i) && decide (c.toNat = 0))
/-- Reading a varint from place i on: the error, the number, the rest. -/
def decU : Nat → Nat → List UInt8 → Int × Nat × List UInt8
  | _, _, [] => (3, 0, [])
  | i, acc, c :: r => if badAt i c then (2, 0, []) else if c.toNat < 128 then (0, acc + c.toNat * 128 ^ i, r) else decU (i + 1) (acc + c.toNat % 128 * 128 ^ i) r
theorem decU_nil (i acc : Nat) : decU i acc [] = (3, 0, []) := rfl
theorem decU_bad {i acc : Nat} {c : UInt8} {r : List UInt8} (h : badAt i c = true) : decU i acc (c :: r) = (2, 0, []) := by rw [decU, if_pos h]
theorem decU_end {i acc : Nat} {c : UInt8} {r : List UInt8} (h : badAt i c = false) (hc : c.toNat < 128) : decU i acc (c :: r) = (0, acc + c.toNat * 128 ^ i, r) := by rw [decU, if_neg (by simp [h]), if_pos hc]
theorem decU_go {i acc : Nat} {c : UInt8} {r : List UInt8} (h : badAt i c = false) (hc : 128 ≤ c.toNat) : decU i acc (c :: r) = decU (i + 1) (acc + c.toNat % 128 * 128 ^ i) r := by rw [decU, if_neg (by simp [h]), if_neg (by omega)]
theorem pow128_le {i : Nat} (h : i ≤ 9) : 128 ^ i ≤ 9223372036854775808 := Nat.le_trans (Nat.pow_le_pow_right (by decide) h) (by decide)
/-- What is read fits. -/
theorem decU_lt : ∀ (bs : List UInt8) (i acc : Nat), i ≤ 9 → acc < 128 ^ i → (decU i acc bs).2.1 ≤ 18446744073709551615 ∧ (decU i acc bs).2.2.length ≤ bs.length
  | [], _, _, _, _ => ⟨by simp [decU], by simp [decU]⟩
  | c :: r, i, acc, hi, ha => by
    have hp := pow128_le hi
    by_cases h : badAt i c = true
    · rw [decU_bad h]; exact ⟨by simp, by simp⟩
    · have h' : badAt i c = false := by simpa using h
      by_cases hc : c.toNat < 128
      · rw [decU_end h' hc]
        refine ⟨?_, by simp⟩
        simp only
        by_cases h9 : i = 9
        · subst h9
          have : c.toNat ≤ 1 := by
            unfold badAt at h'
            simp at h'
            omega
          omega
        · have h8 : 128 ^ i ≤ 128 ^ 8 := Nat.pow_le_pow_right (by decide) (by omega)
          have : c.toNat * 128 ^ i ≤ 127 * 128 ^ 8 := Nat.mul_le_mul (by omega) h8
          omega
      · rw [decU_go h' (by omega)]
        by_cases h9 : i = 9
        · subst h9
          unfold badAt at h'
          simp at h'
          omega
        · have hm : c.toNat % 128 * 128 ^ i ≤ 127 * 128 ^ i := Nat.mul_le_mul (by omega) (Nat.le_refl _)
          have := decU_lt r (i + 1) (acc + c.toNat % 128 * 128 ^ i) (by omega) (by rw [Nat.pow_succ]; omega)
          exact ⟨this.1, by simp only [List.length_cons]; omega⟩
/-- Round trip. -/
theorem decU_varint (n : Nat) : ∀ (i acc : Nat) (r : List UInt8), i ≤ 9 → n * 128 ^ i < 18446744073709551616 → (i = 0 ∨ 0 < n) → decU i acc (varint n ++ r) = (0, acc + n * 128 ^ i, r) := by
  induction n using Nat.strongRecOn with
  | ind n ih =>
    intro i acc r hi hn h0
    by_cases h : n < 128
    · rw [varint_lt h]
      have hc : (UInt8.ofNat n).toNat = n := by rw [UInt8.toNat_ofNat']; omega
      rw [List.singleton_append, decU_end ?_ (by omega), hc]
      unfold badAt
      rw [hc]
      by_cases h9 : i = 9
      · subst h9
        have : n ≤ 1 := by omega
        simp; omega
      · simp [h9]; omega
    · have hc : (UInt8.ofNat (n % 128 + 128)).toNat = n % 128 + 128 := by rw [UInt8.toNat_ofNat']; omega
      have h9 : i ≠ 9 := by
        rintro rfl
        have : 128 * 128 ^ 9 ≤ n * 128 ^ 9 := Nat.mul_le_mul (by omega) (Nat.le_refl _)
        omega
      rw [varint_ge (by omega), List.cons_append, decU_go ?_ (by omega), hc]
      · have e : n = n / 128 * 128 + n % 128 := by omega
        have e2 : n / 128 * 128 ^ (i + 1) + n % 128 * 128 ^ i = n * 128 ^ i := by
          rw [Nat.pow_succ, ← Nat.mul_assoc, Nat.mul_right_comm, ← Nat.add_mul, ← e]
        rw [ih (n / 128) (by omega) (i + 1) _ r (by omega) (by omega) (.inr (by omega)), show (n % 128 + 128) % 128 = n % 128 by omega]
        congr 2
        omega
      · unfold badAt
        rw [hc]
        simp [h9]
theorem decU_enc {n : Nat} (h : n ≤ 18446744073709551615) (r : List UInt8) : decU 0 0 (varint n ++ r) = (0, n, r) := by
  have := decU_varint n 0 0 r (by decide) (by omega) (.inl rfl)
  simpa using this
end Go.Proofs.YtgepbklpobobbaaGreatDoor

/- The walks of wire's Reader. -/
namespace Go.Proofs.YtgepbklpobobbaaGreatDoor
open Go.RowKit

/-- A Reader at block gd: at no error the bytes that are left. -/
def Rdr (w : World) (B gd : Nat) (rest : List UInt8) (err : Int) : Prop :=
  gd < B ∧ B ≤ w.heap.size ∧ ∃ A n c, Blk w gd 124 #[.slice A n c, .int .i64 err] ∧ n ≤ c ∧ c ≤ 9223372036854775807 ∧ (err = 0 → rest.length = n ∧ n ≤ 70368744177664 ∧ Rd w B A n (vByte rest))
theorem Rdr.grown {w w' : World} {B gd : Nat} {rest : List UInt8} {err : Int} {row : Option Nat} (h : Rdr w B gd rest err) (hg : w.grownBy w' row) (hr : ∀ r, row = some r → B ≤ r) : Rdr w' B gd rest err := by
  obtain ⟨k1, k2, A, n, c, h1, h2, h3, h4⟩ := h
  have hne : ∀ b, b < B → some b ≠ row := fun b hb e => by have := hr b e.symm; omega
  refine ⟨k1, Nat.le_trans k2 hg.size, A, n, c, h1.grown hg (hne gd k1), h2, h3, fun e => ⟨(h4 e).1, (h4 e).2.1, ?_⟩⟩
  exact (h4 e).2.2.keep fun b hb => hg.block b (by omega) (hne b hb)
theorem Rdr.all {w w' : World} {B gd : Nat} {rest : List UInt8} {err : Int} (h : Rdr w B gd rest err) (hb : Below w.heap.size w w') : Rdr w' B gd rest err :=
  h.grown (only_of_below hb none) (fun _ e => by cases e)
theorem Rdr.more {w : World} {B B' gd : Nat} {rest : List UInt8} {err : Int} (h : Rdr w B gd rest err) (hB : B ≤ B') (hB' : B' ≤ w.heap.size) : Rdr w B' gd rest err := by
  obtain ⟨k1, k2, A, n, c, h1, h2, h3, h4⟩ := h
  exact ⟨by omega, hB', A, n, c, h1, h2, h3, fun e => ⟨(h4 e).1, (h4 e).2.1, (h4 e).2.2.more hB⟩⟩
theorem Rdr.lt {w : World} {B gd : Nat} {rest : List UInt8} {err : Int} (h : Rdr w B gd rest err) : gd < B ∧ B ≤ w.heap.size := ⟨h.1, h.2.1⟩
/-- The row of what is left does not lie in the Reader's own block. -/
theorem rd_set {w : World} {B gd n m c k : Nat} {A A' : Option Addr} {bs : List UInt8} {T : TypeId} {err : Int} {u : Value} (hR : Rd w B A n (vByte bs)) (hD : Blk w gd T #[.slice A' m c, .int .i64 err]) : Rd (w.setCell ⟨gd, k, none⟩ u) B A n (vByte bs) := by
  intro h
  obtain ⟨b, off, e, hb, hc⟩ := hR h
  have hne : b ≠ gd := by
    rintro rfl
    have h0 := hc 0 h
    rw [Nat.add_zero, Blk.cell hD off] at h0
    rcases off with _ | _ | off <;> simp [vByte] at h0
  exact ⟨b, off, e, hb, fun j hj => (World.cell?_of_block (w := w) (Below.heap_setCell w _ u b hne)).trans (hc j hj)⟩
/-- An error is recorded. -/
theorem Rdr.fail {w : World} {B gd : Nat} {rest : List UInt8} {err : Int} (h : Rdr w B gd rest err) (e : Int) (he : e ≠ 0) : Rdr (w.setCell ⟨gd, 1, none⟩ (.int .i64 e)) B gd [] e := by
  obtain ⟨k1, k2, A, n, c, h1, h2, h3, h4⟩ := h
  exact ⟨k1, by simpa [World.setCell] using k2, A, n, c, by simpa using h1.set_ 1 (.int .i64 e), h2, h3, fun h => absurd h he⟩

set_option maxRecDepth 100000 in
set_option maxHeartbeats 400000 in
theorem octet_err (B gd : Nat) (rest : List UInt8) (err : Int) (w : World) (HR : Hid (Rdr w B gd rest err)) (he : err ≠ 0) :
    Calls Tryz.prog 93 #[.pointer (some ⟨gd, 0, none⟩)] w fun e w' => e = .returned (.int .u8 0) ∧ w = w' := by
  obtain ⟨k1, k2, A, n, c, h1, h2, h3, h4⟩ := HR.out
  have hc1 : w.cell? ⟨gd, 1, none⟩ = some (.int .i64 err) := by simpa using h1.cell 1
  have hb : (err != 0) = true := by simpa using he
  clear h1 h4 he
  go_enter Tryz.func93, Tryz.ntmps93
  go_wp2
  go_ret
  exact ⟨rfl, rfl⟩

set_option maxRecDepth 100000 in
set_option maxHeartbeats 400000 in
theorem octet_nil (B gd : Nat) (w : World) (HR : Hid (Rdr w B gd [] 0)) :
    Calls Tryz.prog 93 #[.pointer (some ⟨gd, 0, none⟩)] w fun e w' => e = .returned (.int .u8 0) ∧ Rdr w' B gd [] 3 ∧ w.grownBy w' (some gd) := by
  obtain ⟨k1, k2, A, n, c, h1, h2, h3, h4⟩ := HR.out
  have hc0 : w.cell? ⟨gd, 0, none⟩ = some (.slice A n c) := by simpa using h1.cell 0
  have hc1 : w.cell? ⟨gd, 1, none⟩ = some (.int .i64 0) := by simpa using h1.cell 1
  have hf1 : w.frozen? ⟨gd, 1, none⟩ = false := h1.frozen 1
  have hn : ((n : Int) == 0) = true := by have := (h4 rfl).1; simp at this; simp; omega
  have HF := Lib.hid (HR.out.fail 3 (by decide))
  clear h1 h4
  go_enter Tryz.func93, Tryz.ntmps93
  go_wp2
  go_ret
  exact ⟨rfl, HF.out, only_set (only_refl _ _) (.inl rfl) _⟩

theorem Rdr.step {w : World} {B gd n c bk off : Nat} {b : UInt8} {r : List UInt8} (hB : Blk w gd 124 #[.slice (some ⟨bk, off, none⟩) n c, .int .i64 0]) (k1 : gd < B) (k2 : B ≤ w.heap.size) (hR : Rd w B (some ⟨bk, off, none⟩) n (vByte (b :: r))) (hl : (b :: r).length = n) (hn : 1 ≤ n) (hnc : n ≤ c) (hc : c ≤ 9223372036854775807) (hm : n ≤ 70368744177664)
    (o' : Nat) (ho : c ≠ 1 → o' = off + 1) : Rdr (w.setCell ⟨gd, 0, none⟩ (.slice (some ⟨bk, o', none⟩) (n - 1) (c - 1))) B gd r 0 := by
  refine ⟨k1, by simpa [World.setCell] using k2, some ⟨bk, o', none⟩, n - 1, c - 1, by simpa using hB.set_ 0 (.slice (some ⟨bk, o', none⟩) (n - 1) (c - 1)), by omega, by omega, fun _ => ⟨by simp at hl; omega, by omega, ?_⟩⟩
  refine rd_set (T := 124) (A' := some ⟨bk, off, none⟩) (m := n) (c := c) (err := 0) ?_ hB
  intro h0
  have := ho (by omega)
  subst this
  obtain ⟨b', off', e, hb, hcell⟩ := hR (by omega)
  cases e
  exact ⟨bk, off + 1, rfl, hb, fun j hj => by
    rw [Nat.add_right_comm, Nat.add_assoc, hcell (j + 1) (by omega)]
    simp [vByte]⟩
set_option maxRecDepth 100000 in
set_option maxHeartbeats 400000 in
theorem octet_cons (B gd : Nat) (b : UInt8) (r : List UInt8) (w : World) (HR : Hid (Rdr w B gd (b :: r) 0)) :
    Calls Tryz.prog 93 #[.pointer (some ⟨gd, 0, none⟩)] w fun e w' => e = .returned (.int .u8 ((b.toNat : Nat) : Int)) ∧ Rdr w' B gd r 0 ∧ w.grownBy w' (some gd) := by
  obtain ⟨k1, k2, A, n, c, h1, h2, h3, h4⟩ := HR.out
  have hc0 : w.cell? ⟨gd, 0, none⟩ = some (.slice A n c) := by simpa using h1.cell 0
  have hc1 : w.cell? ⟨gd, 1, none⟩ = some (.int .i64 0) := by simpa using h1.cell 1
  have hf0 : w.frozen? ⟨gd, 0, none⟩ = false := h1.frozen 0
  obtain ⟨hl, hmx, hR⟩ := h4 rfl
  have hn1 : 1 ≤ n := by simp at hl; omega
  have hn : ((n : Int) == 0) = false := by simp; omega
  obtain ⟨bk, off, rfl, hbk, hcell⟩ := hR (by omega)
  have hcb : w.cell? ⟨bk, off, none⟩ = some (.int .u8 ((b.toNat : Nat) : Int)) := hcell 0 (by omega)
  have hcp : 1 ≤ c := by omega
  have HL := Lib.hid hl
  have HH := Lib.hid h1
  have HHR := Lib.hid hR
  clear hR h1 h4 hcell hl
  go_enter Tryz.func93, Tryz.ntmps93
  go_wp2
  · go_ret
    have hc1' : c = 1 := by assumption
    subst hc1'
    exact ⟨rfl, Rdr.step (c := 1) HH.out k1 k2 HHR.out HL.out hn1 h2 (by omega) hmx off (fun h => absurd rfl h), only_set (only_refl _ _) (.inl rfl) _⟩
  · go_ret
    exact ⟨rfl, Rdr.step HH.out k1 k2 HHR.out HL.out hn1 h2 (by omega) hmx (off + 1) (fun _ => rfl), only_set (only_refl _ _) (.inl rfl) _⟩

/-- Reading in a state. -/
def readU (rest : List UInt8) (err : Int) : Int × Nat × List UInt8 := if err = 0 then decU 0 0 rest else (err, 0, [])
theorem Rdr.any {w : World} {B gd : Nat} {rest : List UInt8} {err : Int} (h : Rdr w B gd rest err) (he : err ≠ 0) (rest' : List UInt8) : Rdr w B gd rest' err := by
  obtain ⟨k1, k2, A, n, c, h1, h2, h3, h4⟩ := h
  exact ⟨k1, k2, A, n, c, h1, h2, h3, fun h => absurd h he⟩
theorem Rdr.err_cell {w : World} {B gd : Nat} {rest : List UInt8} {err : Int} (h : Rdr w B gd rest err) : w.cell? ⟨gd, 1, none⟩ = some (.int .i64 err) ∧ w.frozen? ⟨gd, 1, none⟩ = false := by
  obtain ⟨_, _, A, n, c, h1, h2, h3, h4⟩ := h
  exact ⟨by simpa using h1.cell 1, h1.frozen 1⟩
theorem bad_cases {i : Nat} {c : UInt8} (h : badAt i c = true) :
    (((i : Int) == 9) = true ∧ 1 < ((c.toNat : Nat) : Int)) ∨ (((i : Int) == 9) = false ∧ 0 < (i : Int) ∧ (((c.toNat : Nat) : Int) == 0) = true) ∨ (((i : Int) == 9) = true ∧ ((c.toNat : Nat) : Int) ≤ 1 ∧ 0 < (i : Int) ∧ (((c.toNat : Nat) : Int) == 0) = true) := by
  unfold badAt at h
  simp at h ⊢
  omega
theorem ok_cases {i : Nat} {c : UInt8} (h : badAt i c = false) :
    (((i : Int) == 9) = true ∧ ((c.toNat : Nat) : Int) ≤ 1 ∧ 0 < (i : Int) ∧ (((c.toNat : Nat) : Int) == 0) = false) ∨ (((i : Int) == 9) = false ∧ 0 < (i : Int) ∧ (((c.toNat : Nat) : Int) == 0) = false) ∨ (((i : Int) == 9) = false ∧ (i : Int) ≤ 0) := by
  unfold badAt at h
  simp at h ⊢
  omega

set_option maxRecDepth 100000 in
set_option maxHeartbeats 400000 in
theorem ruint_any (B gd : Nat) (rest : List UInt8) (err : Int) (w : World) (HR : Hid (Rdr w B gd rest err)) :
    Calls Tryz.prog 48 #[.pointer (some ⟨gd, 0, none⟩)] w fun e w' => e = .returned (.int .u64 (((readU rest err).2.1 : Nat) : Int)) ∧ Rdr w' B gd (readU rest err).2.2 (readU rest err).1 ∧ w.grownBy w' (some gd) := by
  by_cases he : err = 0
  · subst he
    have HU := Lib.hid (show readU rest 0 = decU 0 0 rest from rfl)
    go_enter Tryz.func48, Tryz.ntmps48
    go_wp2
    go_loopw [3, 4] (fun nv iv wr => ∃ i acc : Nat, ∃ cur : List UInt8, i ≤ 9 ∧ iv = .int .i64 (i : Int) ∧ nv = .int .u64 (acc : Int) ∧ Hid (acc < 128 ^ i) ∧ acc ≤ 18446744073709551615 ∧ Hid (decU i acc cur = decU 0 0 rest) ∧ Hid (Rdr wr B gd cur 0) ∧ w.grownBy wr (some gd)) (fun _ iv _ => 10 - (intOf iv).toNat)
    case atStart => exact ⟨0, 0, rest, by omega, rfl, rfl, Lib.hid (by decide), by omega, Lib.hid rfl, HR, only_refl _ _⟩
    case round =>
      obtain ⟨i, acc, cur, hi, rfl, rfl, HA, hacc, HD, HRr, ho⟩ := hrel
      cases cur with
      | nil =>
        go_wp2_with fail
        refine (octet_nil B gd _ HRr).mono ?_
        rintro e w1 ⟨rfl, hR1, ho1⟩
        obtain ⟨hc1, hf1⟩ := hR1.err_cell
        go_wp2
        go_ret
        rw [HU.out, ← HD.out, decU_nil]
        exact ⟨rfl, hR1, ho.trans ho1⟩
      | cons c r =>
        go_wp2_with fail
        refine (octet_cons B gd c r _ HRr).mono ?_
        rintro e w1 ⟨rfl, hR1, ho1⟩
        replace ho := ho.trans ho1
        obtain ⟨hc1, hf1⟩ := hR1.err_cell
        have hcl := c.toNat_lt
        cases hbad : badAt i c with
        | true =>
          have HF := Lib.hid (hR1.fail 2 (by decide))
          rw [decU_bad hbad] at HD
          rcases bad_cases hbad with ⟨q1, q2⟩ | ⟨q1, q2, q3⟩ | ⟨q1, q2, q3, q4⟩
          all_goals
            clear hbad ho1
            go_wp2
            go_ret
            rw [HU.out, ← HD.out]
            exact ⟨rfl, HF.out, only_set ho (.inl rfl) _⟩
        | false =>
          rcases ok_cases hbad with ⟨q1, q2, q3, q4⟩ | ⟨q1, q2, q3⟩ | ⟨q1, q2⟩
          all_goals
            clear ho1
            have HB := Lib.hid (or_step (c := c) hi HA.out (fun h => by subst h; unfold badAt at hbad; simp at hbad; omega))
            by_cases hc : c.toNat < 128
            · rw [decU_end hbad hc] at HD
              clear hbad
              go_wp2
              go_ret
              rw [HU.out, ← HD.out, HB.out, Nat.mod_eq_of_lt hc]
              exact ⟨rfl, hR1, ho⟩
            · first
                | (exfalso; omega)
                | (rw [decU_go hbad (by omega)] at HD
                   have hi9 : i ≠ 9 := by rintro rfl; unfold badAt at hbad; simp at hbad; omega
                   have HA2 : Hid (acc + c.toNat % 128 * 128 ^ i < 128 ^ (i + 1)) := by
                     refine Lib.hid ?_
                     have h1 := HA.out
                     have h2 : c.toNat % 128 * 128 ^ i ≤ 127 * 128 ^ i := Nat.mul_le_mul (by omega) (Nat.le_refl _)
                     rw [Nat.pow_succ]; omega
                   have hle : acc + c.toNat % 128 * 128 ^ i ≤ 18446744073709551615 := by
                     have h1 := HA2.out
                     have h2 : 128 ^ (i + 1) ≤ 128 ^ 9 := Nat.pow_le_pow_right (by decide) (by omega)
                     omega
                   have HLE := Lib.hid hle
                   clear hbad hle
                   go_wp2
                   exact ⟨⟨i + 1, _, r, by omega, by go_num, congrArg (Value.int .u64) HB.out, HA2, HLE.out, HD, Lib.hid hR1, ho⟩, by simp [intOf]; omega⟩)
  · have HU := Lib.hid (show readU rest err = (err, 0, []) from if_neg he)
    obtain ⟨hc1, hf1⟩ := HR.out.err_cell
    have hq : (err != 0) = true := by simpa using he
    go_enter Tryz.func48, Tryz.ntmps48
    go_wp2
    go_loopw [3, 4] (fun nv iv wr => nv = .int .u64 0 ∧ iv = .int .i64 0 ∧ wr = w) (fun _ _ _ => 0)
    case atStart => exact ⟨rfl, rfl, rfl⟩
    case round =>
      obtain ⟨rfl, rfl, rfl⟩ := hrel
      go_wp2_with fail
      refine (octet_err B gd rest err _ HR he).mono ?_
      rintro e w1 ⟨rfl, rfl⟩
      clear he
      go_wp2
      go_ret
      rw [HU.out]
      exact ⟨rfl, HR.out.any (by simpa using hq) _, only_refl _ _⟩

end Go.Proofs.YtgepbklpobobbaaGreatDoor

/- The walks of wire's Reader: Int, Bool, End, Read and the lists. -/
namespace Go.Proofs.YtgepbklpobobbaaGreatDoor
open Go.RowKit

theorem readU_lt (rest : List UInt8) (err : Int) : (readU rest err).2.1 ≤ 18446744073709551615 := by
  unfold readU
  split
  · exact (decU_lt rest 0 0 (by decide) (by decide)).1
  · simp
set_option maxRecDepth 100000 in
set_option maxHeartbeats 400000 in
theorem rint_any (B gd : Nat) (rest : List UInt8) (err : Int) (w : World) (HR : Hid (Rdr w B gd rest err)) :
    Calls Tryz.prog 17 #[.pointer (some ⟨gd, 0, none⟩)] w fun e w' => e = .returned (.int .i64 (unzigI (readU rest err).2.1)) ∧ Rdr w' B gd (readU rest err).2.2 (readU rest err).1 ∧ w.grownBy w' (some gd) := by
  go_enter Tryz.func17, Tryz.ntmps17
  go_wp2_with (first
    | (go_at_call 48; ((with_reducible refine (ruint_any B gd rest err _ HR).mono ?_); rintro e w1 ⟨rfl, hR1, ho1⟩))
    | (go_at_call 47; ((with_reducible refine (unzigzag_any _ _ rfl _ (readU_lt rest err)).mono ?_); rintro e w2 ⟨rfl, rfl⟩)))
  go_ret
  exact ⟨rfl, hR1, ho1⟩

/-- The blocks from lo to hi lie as they lay. -/
def Within (lo hi : Nat) (w w'' : World) : Prop := w.heap.size ≤ w''.heap.size ∧ ∀ b, lo ≤ b → b < hi → w''.heap[b]? = w.heap[b]?
theorem Within.grown {lo hi : Nat} {w w' w'' : World} {row : Option Nat} (h : Within lo hi w w') (hg : w'.grownBy w'' row) (hr : ∀ r, row = some r → r < lo ∨ hi ≤ r) (hhi : hi ≤ w.heap.size) : Within lo hi w w'' :=
  ⟨Nat.le_trans h.1 hg.size, fun b h1 h2 => (hg.block b (by have := h.1; omega) (fun e => by have := hr b e.symm; omega)).trans (h.2 b h1 h2)⟩
theorem Within.refl (lo hi : Nat) (w : World) : Within lo hi w w := ⟨Nat.le_refl _, fun _ _ _ => rfl⟩
set_option maxRecDepth 100000 in
set_option maxHeartbeats 400000 in
theorem read_any (A : Option Addr) (n c : Nat) (bs : List UInt8) (w : World) (HX : Hid (bs.length = n)) (hR : Rd w w.heap.size A n (vByte bs)) (hn : n ≤ 70368744177664) :
    Calls Tryz.prog 15 #[.slice A n c] w fun e w' => ∃ gd, e = .returned (.pointer (some ⟨gd, 0, none⟩)) ∧ w.heap.size ≤ gd ∧ Rdr w' w'.heap.size gd bs 0 ∧ Below w.heap.size w w' ∧ Hid (∀ w'', Within w.heap.size w'.heap.size w' w'' → Rdr w'' w'.heap.size gd bs 0) := by
  go_enter Tryz.func15, Tryz.ntmps15
  go_wp2_with (go_at_call 37; ((with_reducible refine (clone_any _ _ _ bs _ HX hR hn).mono ?_); rintro e w2 ⟨A', c', rfl, q1, q2, q3, q4, q5⟩))
  go_ret
  refine ⟨w2.heap.size, rfl, q5.size, ⟨by simp, Nat.le_refl _, A', n, c', Blk.new _ _ _, q1, q2, fun _ => ⟨HX.out, hn, (q4.alloc (Nat.le_refl _) _).more (by simp)⟩⟩, q5.alloc q5.size _, Lib.hid ?_⟩
  intro w'' hw
  refine ⟨by simp, hw.1, A', n, c', (hw.2 _ q5.size (by simp)).trans (Blk.new _ _ _), q1, q2, fun _ => ⟨HX.out, hn, fun h0 => ?_⟩⟩
  obtain ⟨g, rfl, hg1, hg2⟩ := own_some q3 h0
  obtain ⟨b, off, e, hb, hc⟩ := q4 h0
  cases e
  refine ⟨g, 0, rfl, by simp; omega, fun j hj => ?_⟩
  rw [World.cell?_of_block (w := w2.alloc _) (hw.2 g hg1 (by simp; omega)), ((Below.refl _ w2).alloc (Nat.le_refl _) _).cell hb]
  exact hc j hj

/-- Numbers ahead of what is read. -/
def ahead (pre : List Int) (q : Int × List Int × List UInt8) : Int × List Int × List UInt8 := if q.1 = 0 then (0, pre ++ q.2.1, q.2.2) else (q.1, [], [])
end Go.Proofs.YtgepbklpobobbaaGreatDoor

/- Plain Lean: what is written is read; what is read was written; prefixes. -/
namespace Go.Proofs.YtgepbklpobobbaaGreatDoor
open Go.RowKit

end Go.Proofs.YtgepbklpobobbaaGreatDoor
