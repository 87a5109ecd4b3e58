/- The walks of wire's Writer. -/
import Derived.Test.YtldmokjpfnakkaaGreatProg
import Derived.Test.YtldmokjpfnakkaaGreatHG1
import Derived.Test.YtldmokjpfnakkaaGreatHG4
import Derived.Lib.AppendStr
import Derived.Lib.Hide
import Derived.WalkKit
import Derived.WalkSpells
import Derived.WalkLawsBesides

namespace Go.Proofs.YtldmokjpfnakkaaGreat
open Go.RowKit

theorem own_ne {w : World} {B gd n size e T : Nat} {v : Value} {xs : List Value} {cs : Array Value} (hT : T ≠ e) (hB : Blk w gd T cs) (hown : w.ownsRow B e size v n xs) : v.ownBlock ≠ some gd := by
  intro h
  rcases hown.2 with ⟨rfl, _⟩ | ⟨g, cap, cur, rfl, _, hg, _⟩
  · simp [Value.ownBlock] at h
  · obtain rfl : g = gd := by simpa [Value.ownBlock] using h
    unfold Blk at hB
    rw [hB] at hg
    injection hg with hg
    injection hg with _ hg
    exact hT hg
theorem own_put {w w3 : World} {B gd n n' T e : Nat} {v v' : Value} {xs xs' : List Value} (hT : T ≠ e) (hBg : B ≤ gd) (hB : Blk w gd T #[v]) (hown : w.ownsRow B e 1 v n xs) (hg : w.grownBy w3 v.ownBlock) (hown3 : w3.ownsRow B e 1 v' n' xs') :
    w3.cell? ⟨gd, 0, none⟩ = some v ∧ w3.frozen? ⟨gd, 0, none⟩ = false ∧ Blk (w3.setCell ⟨gd, 0, none⟩ v') gd T #[v'] ∧ (w3.setCell ⟨gd, 0, none⟩ v').ownsRow B e 1 v' n' xs' ∧ Below B w (w3.setCell ⟨gd, 0, none⟩ v') := by
  have h3 : Blk w3 gd T #[v] := hB.grown hg (Ne.symm (own_ne hT hB hown))
  refine ⟨by simpa using h3.cell 0, h3.frozen 0, by simpa using h3.set_ 0 v', ?_, ?_⟩
  · exact hown3.kept (only_set (only_refl w3 (some gd)) (.inl rfl) v') (.inr (own_ne hT h3 hown3))
  · exact ((Below.refl B w).grown hg (by have := hB.lt; omega) (fun k e => (hown.lt k e).1)).setCell hBg _

/-- A Writer at block gd, all of it in blocks from B on, with the bytes bs. -/
def Wr (w : World) (B gd : Nat) (bs : List UInt8) : Prop :=
  B ≤ gd ∧ ∃ A n c, bs.length = n ∧ Blk w gd 75 #[.slice A n c] ∧ w.ownsRow B 5 1 (.slice A n c) n (bs.map fun b => Value.int .u8 ((b.toNat : Nat) : Int))
theorem Wr.all {w w' : World} {B gd : Nat} {bs : List UInt8} (h : Wr w B gd bs) (hb : Below w.heap.size w w') : Wr w' B gd bs := by
  obtain ⟨h0, A, n, c, h1, h2, h3⟩ := h
  exact ⟨h0, A, n, c, h1, h2.all hb, own_keep h3 hb⟩
theorem Wr.new (w : World) : Wr (w.alloc (.cells #[.slice none 0 0] 75)) w.heap.size w.heap.size [] := ⟨Nat.le_refl _, none, 0, 0, rfl, Blk.new _ _ _, World.ownsRow_nil _ _ _ _⟩
theorem Wr.lt {w : World} {B gd : Nat} {bs : List UInt8} (h : Wr w B gd bs) : B ≤ gd ∧ gd < w.heap.size := by
  obtain ⟨h0, A, n, c, h1, h2, h3⟩ := h
  exact ⟨h0, h2.lt⟩
theorem info_u8 : (Tryz.prog.info? 5).map (fun i => (i.zero, i.size, i.bytes)) = some (some (.int .u8 0), 1, 1) := by kernel_rfl

/-- One byte more. -/
theorem Wr.one {w : World} {B gd : Nat} {bs : List UInt8} (h : Wr w B gd bs) (hl : bs.length ≤ 35184372088832) (x : UInt8) (xi : Int) (hx : xi = ((x.toNat : Nat) : Int)) :
    ∃ A n c g cap w3, w.cell? ⟨gd, 0, none⟩ = some (.slice A n c) ∧
      Hid ((Builtin.append_ #[39, 39] 39 #[.slice A n c, .slice (some ⟨w.heap.size, 0, none⟩) 1 1]).run Tryz.prog (w.alloc (.cells #[.int .u8 xi] 5)) = .ok (.slice (some ⟨g, 0, none⟩) (n + 1) cap) w3) ∧
      w3.cell? ⟨gd, 0, none⟩ = some (.slice A n c) ∧ w3.frozen? ⟨gd, 0, none⟩ = false ∧ Hid (Wr (w3.setCell ⟨gd, 0, none⟩ (.slice (some ⟨g, 0, none⟩) (n + 1) cap)) B gd (bs ++ [x])) ∧ Hid (Below B w (w3.setCell ⟨gd, 0, none⟩ (.slice (some ⟨g, 0, none⟩) (n + 1) cap))) := by
  subst hx
  obtain ⟨h0, A, n, c, rfl, h2, h3⟩ := h
  obtain ⟨i0, hi, hz0, hz1, hz2⟩ := info_parts info_u8
  obtain ⟨g, cap, w3, hap, hown, hg, _, _⟩ := run_append_one (P := Tryz.prog) w B 39 39 5 i0 _ 1 Tryz.underlying39 hi hz0 hz1 hz2 rfl _ _ _ h3 (.int .u8 ((x.toNat : Nat) : Int)) rfl (by unfold maxLen; omega) (by omega) (by have := h2.lt; omega)
  obtain ⟨k1, k2, k3, k4, k5⟩ := own_put (by decide) h0 h2 h3 hg hown
  refine ⟨A, _, c, g, cap, w3, by simpa using h2.cell 0, Lib.hid hap, k1, k2, Lib.hid ⟨h0, _, _, _, ?_, k3, ?_⟩, Lib.hid k5⟩
  · simp
  · rw [List.map_append]; exact k4

theorem or128_fin : ∀ n : Fin 256, n.val ||| 128 = n.val % 128 + 128 := by decide +kernel
theorem or128 (m : Nat) : bits BinOp.or IntKind.u8 ((m : Int) % 256) 128 = (((UInt8.ofNat (m % 128 + 128)).toNat : Nat) : Int) := by
  rw [ofNat_toNat (by omega)]
  show IntKind.u8.wrap ((BitVec.ofInt 8 ((m : Int) % 256) ||| BitVec.ofInt 8 128).toNat : Int) = _
  have e1 : BitVec.ofInt 8 ((m : Int) % 256) = BitVec.ofNat 8 (m % 256) := by
    rw [show (m : Int) % 256 = ((m % 256 : Nat) : Int) by omega, BitVec.ofInt_natCast]
  have e2 : (BitVec.ofInt 8 128).toNat = 128 := by decide +kernel
  rw [BitVec.toNat_or, e1, e2, BitVec.toNat_ofNat]
  have h := or128_fin ⟨m % 256, by omega⟩
  simp only at h
  rw [show m % 256 % 2 ^ 8 = m % 256 by omega, h]
  simp [IntKind.wrap, IntKind.bits, IntKind.signed]
  omega

set_option maxRecDepth 100000 in
set_option maxHeartbeats 1000000 in
theorem wuint_any (B gd : Nat) (bs : List UInt8) (n : Nat) (ni : Int) (hni : ni = (n : Int)) (w : World) (HW : Hid (Wr w B gd bs)) (hn : n ≤ 18446744073709551615) (hl : bs.length ≤ 17592186044416) :
    Calls Tryz.prog 41 #[.pointer (some ⟨gd, 0, none⟩), .int .u64 ni] w fun e w' => e = .returned (.tuple #[]) ∧ Wr w' B gd (bs ++ varint n) ∧ Below B w w' := by
  subst hni
  have HV := Lib.hid (varint_len10 hn)
  go_enter Tryz.func41, Tryz.ntmps41
  go_wp2
  go_loopw [1] (fun v wr => ∃ m : Nat, ∃ pre : List UInt8, v = .int .u64 (m : Int) ∧ m ≤ 18446744073709551615 ∧ Hid (pre ++ varint m = bs ++ varint n) ∧ Hid (Wr wr B gd pre) ∧ Below B w wr) (fun v _ => (intOf v).toNat)
  case atStart => exact ⟨n, bs, rfl, hn, Lib.hid rfl, HW, Below.refl _ _⟩
  case round =>
    obtain ⟨m, pre, rfl, hm, HE, HWr, hb⟩ := hrel
    have hpl : pre.length ≤ 35184372088832 := by
      have h1 := congrArg List.length HE.out
      simp only [List.length_append] at h1
      have := HV.out
      omega
    by_cases hge : 128 ≤ m
    · obtain ⟨A, k, c, g, cap, w3, hc, HA, hc3, hf3, HW3, HB3⟩ := HWr.out.one hpl (UInt8.ofNat (m % 128 + 128)) (bits BinOp.or IntKind.u8 ((m : Int) % 256) 128) (or128 m)
      go_wp2_with (at_builtin; refine wpList_append_run HA.out rfl rfl rfl rfl ?_)
      exact ⟨⟨m / 128, _, by go_num, by omega, Lib.hid (by rw [← HE.out, varint_ge hge, List.append_assoc]; rfl), HW3, hb.trans HB3.out⟩, by simp [intOf]; omega⟩
    · obtain ⟨A, k, c, g, cap, w3, hc, HA, hc3, hf3, HW3, HB3⟩ := HWr.out.one hpl (UInt8.ofNat m) (m : Int) (by rw [ofNat_toNat (by omega)])
      go_wp2_with (at_builtin; refine wpList_append_run HA.out rfl rfl rfl rfl ?_)
      go_end0
      exact ⟨rfl, by rw [← HE.out, varint_lt (by omega)]; exact HW3.out, hb.trans HB3.out⟩

set_option maxRecDepth 100000 in
set_option maxHeartbeats 400000 in
theorem zigzag_any (n : Int) (w : World) (h1 : -9223372036854775808 ≤ n) (h2 : n ≤ 9223372036854775807) :
    Calls Tryz.prog 66 #[.int .i64 n] w fun e w' => e = .returned (.int .u64 ((zigI n : Nat) : Int)) ∧ w = w' := by
  go_enter Tryz.func66, Tryz.ntmps66
  have HZ := Lib.hid (zig_bits h1 h2)
  go_wp2
  go_ret
  rw [HZ.out]
  exact ⟨rfl, rfl⟩

set_option maxRecDepth 100000 in
set_option maxHeartbeats 400000 in
theorem unzigzag_any (n : Nat) (ni : Int) (hni : ni = (n : Int)) (w : World) (h2 : n ≤ 18446744073709551615) :
    Calls Tryz.prog 87 #[.int .u64 ni] w fun e w' => e = .returned (.int .i64 (unzigI n)) ∧ w = w' := by
  subst hni
  go_enter Tryz.func87, Tryz.ntmps87
  have HZ := Lib.hid (unzig_bits h2)
  go_wp2
  go_ret
  rw [HZ.out]
  exact ⟨rfl, rfl⟩

set_option maxRecDepth 100000 in
set_option maxHeartbeats 400000 in
theorem wint_any (B gd : Nat) (bs : List UInt8) (n : Int) (w : World) (HW : Hid (Wr w B gd bs)) (h1 : -9223372036854775808 ≤ n) (h2 : n ≤ 9223372036854775807) (hl : bs.length ≤ 17592186044416) :
    Calls Tryz.prog 50 #[.pointer (some ⟨gd, 0, none⟩), .int .i64 n] w fun e w' => e = .returned (.tuple #[]) ∧ Wr w' B gd (bs ++ encInt n) ∧ Below B w w' := by
  go_enter Tryz.func50, Tryz.ntmps50
  go_wp2_with (first
    | (go_at_call 66; ((with_reducible refine (zigzag_any _ _ h1 h2).mono ?_); rintro e w1 ⟨rfl, rfl⟩))
    | (go_at_call 41; ((with_reducible refine (wuint_any B gd bs _ _ rfl _ HW (zigI_lt h1 h2) hl).mono ?_); rintro e w1 ⟨rfl, hW1, hb1⟩)))
  go_end0
  exact ⟨rfl, hW1, hb1⟩


/-- Many bytes more. -/
theorem Wr.more {w : World} {B gd : Nat} {bs : List UInt8} (h : Wr w B gd bs) (A' : Option Addr) (m c' : Nat) (xs : List UInt8) (hx : xs.length = m) (hR : Rd w w.heap.size A' m (vByte xs)) (hl : bs.length + m ≤ 70368744177664) :
    ∃ A n c A3 n3 c3 w3, w.cell? ⟨gd, 0, none⟩ = some (.slice A n c) ∧
      Hid ((Builtin.append_ #[39, 39] 39 #[.slice A n c, .slice A' m c']).run Tryz.prog w = .ok (.slice A3 n3 c3) w3) ∧
      w3.cell? ⟨gd, 0, none⟩ = some (.slice A n c) ∧ w3.frozen? ⟨gd, 0, none⟩ = false ∧ Hid (Wr (w3.setCell ⟨gd, 0, none⟩ (.slice A3 n3 c3)) B gd (bs ++ xs)) ∧ Hid (Below B w (w3.setCell ⟨gd, 0, none⟩ (.slice A3 n3 c3))) := by
  obtain ⟨h0, A, n, c, rfl, h2, h3⟩ := h
  obtain ⟨i0, hi, hz0, hz1, hz2⟩ := info_parts info_u8
  obtain ⟨v', w3, hap, hown, hg, _⟩ := run_append_rd (P := Tryz.prog) w B 39 39 5 i0 _ 1 Tryz.underlying39 hi hz0 hz1 hz2 rfl _ _ _ h3 w.heap.size A' m c' (vByte xs) hR hR.none_ (fun _ _ => rfl) (by unfold maxLen; omega) (by omega) (by have := h2.lt; omega)
  obtain ⟨k1, k2, k3, k4, k5⟩ := own_put (by decide) h0 h2 h3 hg hown
  obtain ⟨A3, c3, rfl⟩ := own_slice hown
  refine ⟨A, _, c, _, _, _, w3, by simpa using h2.cell 0, Lib.hid hap, k1, k2, Lib.hid ⟨h0, _, _, _, ?_, k3, ?_⟩, Lib.hid k5⟩
  · simp [hx]
  · have e : (List.range m).map (vByte xs) = xs.map fun b => Value.int .u8 ((b.toNat : Nat) : Int) := by
      subst hx
      refine List.ext_getElem (by simp) fun i h1 h2 => ?_
      have hi : i < xs.length := by simpa using h2
      simp [vByte, hi]
    rw [List.map_append, ← e]; exact k4
theorem strCells_eq (s : ByteArray) : Lib.strCells s = s.data.toList.map fun b => Value.int .u8 ((b.toNat : Nat) : Int) := rfl

set_option maxRecDepth 100000 in
set_option maxHeartbeats 400000 in
theorem wraw_any (B gd : Nat) (bs xs : List UInt8) (A : Option Addr) (m c B' : Nat) (w : World) (HW : Hid (Wr w B gd bs)) (HX : Hid (xs.length = m)) (hm : m ≤ 17592186044416) (hR : Rd w B' A m (vByte xs)) (hB : B' ≤ B) (hl : bs.length ≤ 17592186044416) :
    Calls Tryz.prog 40 #[.pointer (some ⟨gd, 0, none⟩), .slice A m c] w fun e w' => e = .returned (.tuple #[]) ∧ Wr w' B gd (bs ++ encRaw xs) ∧ Below B w w' := by
  have HV := Lib.hid (varint_len10 (n := m) (by omega))
  go_enter Tryz.func40, Tryz.ntmps40
  go_wp2_with fail
  refine (wuint_any B gd bs m _ rfl _ HW (by omega) hl).mono ?_
  rintro e w1 ⟨rfl, hW1, hb1⟩
  obtain ⟨A1, k, c1, A3, n3, c3, w3, hc, HA, hc3, hf3, HW3, HB3⟩ := hW1.more A m c xs HX.out ((hR.below hb1 hB).more (by have := hW1.lt; omega)) (by have := HV.out; simp only [List.length_append]; omega)
  go_wp2_with (at_builtin; refine wpList_append_run HA.out rfl rfl rfl rfl ?_)
  go_end0
  exact ⟨rfl, by unfold encRaw; rw [HX.out, ← List.append_assoc]; exact HW3.out, hb1.trans HB3.out⟩

theorem wpList_append_run2 {P : Program} {w : World} {ops : Array Oper} {rest : List Oper} {o : Oper} {a : Act} {Q : Exit → Act → World → Prop} {s x : Operand} {t u : TypeId} {v vx v' : Value} {w' : World}
    (hrun : (Builtin.append_ #[t, u] o.type #[v, vx]).run P w = .ok v' w') (hgd : o.guard = none) (ho : o.op = .call { callee := .builtin .append, args := #[s, x], argTypes := #[t, u] }) (hs : a.eval s = v) (hx : a.eval x = vx)
    (h : wpList P ops Q rest (a.put o.dst v') w') : wpList P ops Q (o :: rest) a w :=
  wpList_plain hgd fun _ hK => by
    unfold Oper.wp execOp
    simp only [ho, resolve, invoke, builtin, Sem.run_bind, Sem.run_pure, Result.andThen_ok, List.map_toArray, List.map_cons, List.map_nil, hs, hx, hrun]
    exact hK _ _ h

theorem encInt_len {n : Int} (h1 : -9223372036854775808 ≤ n) (h2 : n ≤ 9223372036854775807) : (encInt n).length ≤ 10 := varint_len10 (zigI_lt h1 h2)
theorem encIntsTo_len (l : List Int) (hl : l.length ≤ 1099511627776) (hr : ∀ j : Nat, -9223372036854775808 ≤ l[j]?.getD 0 ∧ l[j]?.getD 0 ≤ 9223372036854775807) : ∀ k : Nat, k ≤ l.length → (encIntsTo l k).length ≤ 10 + 10 * k
  | 0, _ => by rw [encIntsTo_zero]; exact varint_len10 (by omega)
  | k + 1, h => by
    rw [encIntsTo_succ l k (by omega), List.length_append]
    have := encIntsTo_len l hl hr k (by omega)
    have := encInt_len (hr k).1 (hr k).2
    omega


set_option maxRecDepth 100000 in
set_option maxHeartbeats 400000 in
theorem clone_any (A : Option Addr) (n c : Nat) (bs : List UInt8) (w : World) (HX : Hid (bs.length = n)) (hR : Rd w w.heap.size A n (vByte bs)) (hn : n ≤ 70368744177664) :
    Calls Tryz.prog 36 #[.slice A n c] w fun e w' => ∃ A' c', e = .returned (.slice A' n c') ∧ n ≤ c' ∧ c' ≤ 9223372036854775807 ∧
      w'.ownsRow w.heap.size 5 1 (.slice A' n c') n (bs.map fun b => Value.int .u8 ((b.toNat : Nat) : Int)) ∧ Rd w' w'.heap.size A' n (vByte bs) ∧ Below w.heap.size w w' := by
  obtain ⟨i0, hi, hz0, hz1, hz2⟩ := info_parts info_u8
  have hq := Lib.run_eql_slice_nil (P := Tryz.prog) w 39 5 A n c 0 0 Tryz.underlying39
  rcases A with _ | a
  · have h0 := hR.none_ rfl
    subst h0
    obtain rfl : bs = [] := List.eq_nil_of_length_eq_zero HX.out
    go_enter Tryz.func36, Tryz.ntmps36
    go_wp2
    go_ret
    exact ⟨none, 0, rfl, by omega, by omega, World.ownsRow_nil _ _ _ _, Rd.nil, Below.refl _ _⟩
  · have ho : (w.alloc (.cells #[] 5)).ownsRow w.heap.size 5 1 (.slice (some ⟨w.heap.size, 0, none⟩) 0 0) 0 [] := World.ownsRow_made w #[] 0 (Nat.le_refl _) (by decide) rfl
    obtain ⟨v, w3, hap, hown, hg, _⟩ := run_append_rd (P := Tryz.prog) (w.alloc (.cells #[] 5)) w.heap.size 39 39 5 i0 _ 1 Tryz.underlying39 hi hz0 hz1 hz2 rfl _ 0 [] ho w.heap.size (some a) n c (vByte bs) (hR.alloc (Nat.le_refl _) _) (fun h => by cases h) (fun _ _ => rfl) (by unfold maxLen; omega) (by omega) (by simp)
    have HA := Lib.hid hap; clear hap
    simp only [Nat.zero_add, List.nil_append] at hown
    obtain ⟨A', c', rfl⟩ := own_slice hown
    have e : (List.range n).map (vByte bs) = bs.map fun b => Value.int .u8 ((b.toNat : Nat) : Int) := by
      refine List.ext_getElem (by simp [HX.out]) fun i h1 h2 => ?_
      have hi : i < bs.length := by simpa using h2
      simp [vByte, hi]
    rw [e] at hown
    clear e
    go_enter Tryz.func36, Tryz.ntmps36
    go_wp2_with (at_builtin; refine wpList_append_run HA.out rfl rfl rfl rfl ?_)
    go_ret
    obtain ⟨_, r2, r3⟩ := rd_bytes hown
    exact ⟨A', c', rfl, r2, own_cap hown, hown, r3, ((Below.refl _ _).alloc (Nat.le_refl _) _).grown hg (by simp) (fun k e => (ho.lt k e).1)⟩

set_option maxRecDepth 100000 in
set_option maxHeartbeats 400000 in
theorem wdone_any (B gd : Nat) (bs : List UInt8) (w : World) (HW : Hid (Wr w B gd bs)) (hl : bs.length ≤ 70368744177664) :
    Calls Tryz.prog 43 #[.pointer (some ⟨gd, 0, none⟩)] w fun e w' => ∃ A' n c', e = .returned (.slice A' n c') ∧ n ≤ c' ∧ c' ≤ 9223372036854775807 ∧ Hid (bs.length = n) ∧
      w'.ownsRow w.heap.size 5 1 (.slice A' n c') n (bs.map fun b => Value.int .u8 ((b.toNat : Nat) : Int)) ∧ Rd w' w'.heap.size A' n (vByte bs) ∧ Below w.heap.size w w' := by
  obtain ⟨h0, A, n, c, hx, h2, h3⟩ := HW.out
  have hc : w.cell? ⟨gd, 0, none⟩ = some (.slice A n c) := by simpa using h2.cell 0
  have HX := Lib.hid hx
  obtain ⟨_, _, r3⟩ := rd_bytes h3
  have hn : n ≤ 70368744177664 := by omega
  clear hx h2 h3
  go_enter Tryz.func43, Tryz.ntmps43
  go_wp2_with (go_at_call 36; ((with_reducible refine (clone_any _ _ _ bs _ HX r3 hn).mono ?_); rintro e w2 ⟨A', c', rfl, q1, q2, q3, q4, q5⟩))
  go_ret
  exact ⟨A', n, c', rfl, q1, q2, HX, q3, q4, q5⟩

end Go.Proofs.YtldmokjpfnakkaaGreat
