/- The walk of (*worldmintref04.Dice).Roll and worldmintref04.Verify. -/
import Derived.Test.YtklkppmmnlachaaDiceMore
import Derived.Deep.RegionHeld3
namespace Go.Proofs.Ytklkppmmnlachaa
open Go.RowKit

/-- The reference's die at block gd. -/
def RDie (w : World) (gd : Nat) (sv : Value) (label : ByteArray) (at_ : Int) : Prop := Blk w gd 54 #[sv, .string label, .int .i64 at_]

theorem rd_ne_rdie {w : World} {B gd len cap : Nat} {A : Option Addr} {bs : List UInt8} {label : ByteArray} {at_ : Int} (hR : Rd w B A len (vByte bs)) (hD : RDie w gd (.slice A len cap) label at_) :
    0 < len → ∃ b off, A = some ⟨b, off, none⟩ ∧ b < B ∧ b ≠ gd ∧ ∀ j, j < len → w.cell? ⟨b, off + j, none⟩ = some (vByte bs j) := by
  intro h
  obtain ⟨b, off, e, hb, hc⟩ := hR h
  refine ⟨b, off, e, hb, ?_, hc⟩
  rintro rfl
  have h0 := hc 0 h
  rw [Nat.add_zero, Blk.cell hD off] at h0
  rcases off with _ | _ | _ | off <;> simp [vByte] at h0
theorem Rd.rdie {w w' : World} {B gd len cap : Nat} {A : Option Addr} {bs : List UInt8} {label : ByteArray} {at_ : Int} (hR : Rd w B A len (vByte bs)) (hD : RDie w gd (.slice A len cap) label at_) (hB : B ≤ w.heap.size) (hg : w.grownBy w' (some gd)) : Rd w' B A len (vByte bs) := by
  intro h
  obtain ⟨b, off, e, hb, hne, hc⟩ := rd_ne_rdie hR hD h
  exact ⟨b, off, e, hb, fun j hj => (World.cell?_of_block (w := w) (hg.block b (by omega) (fun e => hne (by injection e)))).trans (hc j hj)⟩

set_option maxRecDepth 100000 in
set_option maxHeartbeats 2000000 in
theorem rroll_any (gd : Nat) (A : Option Addr) (len cap : Nat) (bs : List UInt8) (label : ByteArray) (at_ n : Int) (w : World) (HD : Hid (RDie w gd (.slice A len cap) label at_)) (hat : Hid (-9223372036854775808 ≤ at_ ∧ at_ ≤ 9223372036854775807)) (hn1 : n ≤ 9223372036854775807)
    (HL : Hid (bs.length = len)) (hlab : label.size ≤ 35184372088832) (hlc : len ≤ cap) (hmax : len ≤ 35184372088832) (hR : Rd w w.heap.size A len (vByte bs)) :
    Calls Try.prog 32 #[.pointer (some ⟨gd, 0, none⟩), .int .i64 n] w fun e w' => e = .returned (.tuple #[.int .i64 (rollVal (bytesI label.data.toList bs) at_ n), .int .i64 (rollErr (bytesI label.data.toList bs) at_ n)]) ∧
      RDie w' gd (.slice A len cap) label (rollAt (bytesI label.data.toList bs) at_ n) ∧ w.grownBy w' (some gd) := by
  generalize hkey : bytesI label.data.toList bs = key at *
  have HKEY := Lib.hid hkey
  clear hkey
  by_cases hn : n < 1
  · obtain ⟨q1, q2, q3⟩ := roll_arg (key := key) (at_ := at_) hn
    have Q1 := Lib.hid q1
    have Q2 := Lib.hid q2
    have Q3 := Lib.hid q3
    clear q1 q2 q3
    go_enter Try.func32, Try.ntmps32
    go_wp2
    go_ret2
    rw [Q1.out, Q2.out, Q3.out]
    exact ⟨rfl, HD.out, only_refl _ _⟩
  · have hn01 : 1 ≤ n := by omega
    go_enter Try.func32, Try.ntmps32
    go_wp2
    go_loopw [6] (fun v wr => ∃ i : Nat, i ≤ 128 ∧ v = .int .i64 (i : Int) ∧ RDie wr gd (.slice A len cap) label (atAdd at_ i) ∧ w.grownBy wr (some gd) ∧ Hid (NoHit key at_ n i)) (fun v _ => 128 - (intOf v).toNat)
    case atStart => exact ⟨0, by omega, rfl, by rw [atAdd_zero hat.out]; exact HD.out, only_refl _ _, fun j hj => absurd hj (by omega)⟩
    case round =>
      obtain ⟨i, hi, rfl, hD, ho, hno⟩ := hrel
      have hRr := (hR.rdie HD.out (Nat.le_refl _) ho).more ho.size
      by_cases hlt : i < 128
      · have hc0 : wr.cell? ⟨gd, 0, none⟩ = some (.slice A len cap) := by simpa using Blk.cell hD 0
        have hc1 : wr.cell? ⟨gd, 1, none⟩ = some (.string label) := by simpa using Blk.cell hD 1
        have hc2 : wr.cell? ⟨gd, 2, none⟩ = some (.int .i64 (atAdd at_ i)) := by simpa using Blk.cell hD 2
        have hgl := Blk.lt hD
        go_wp2
        go_region_held3 (fun w' => w'.cell? ⟨gd, 0, none⟩ = some (.slice A len cap) ∧ w'.cell? ⟨gd, 1, none⟩ = some (.string label) ∧ w'.cell? ⟨gd, 2, none⟩ = some (.int .i64 (atAdd at_ i))) (first | exact ⟨hc0, hc1, hc2⟩ | exact ⟨(hb3.cell (p := ⟨gd, 0, none⟩) hgl).trans hc0, (hb3.cell (p := ⟨gd, 1, none⟩) hgl).trans hc1, (hb3.cell (p := ⟨gd, 2, none⟩) hgl).trans hc2⟩)
          (first | (go_at_call 21; ((with_reducible refine (rword_any _ _ _ _ bs _ _ HL hlab hlc hmax hRr.drew).mono ?_); rintro e w3 ⟨rfl, hb3⟩; replace hb3 := undrew hb3)))
        all_goals
          have hD3 := Blk.all hD hb3
          have ho3 := only_below ho hb3
          have hd2 : w3.cell? ⟨gd, 2, none⟩ = some (.int .i64 (atAdd at_ i)) := by simpa using Blk.cell hD3 2
          have hf2 : w3.frozen? ⟨gd, 2, none⟩ = false := Blk.frozen hD3 2
          have HAT := Lib.hid (atAdd_succ at_ i)
          have hst := Lib.hid (Blk.set_ hD3 2 (.int .i64 (wrap64 (atAdd at_ i + 1))))
          have hon := only_set (p := ⟨gd, 2, none⟩) ho3 (.inl rfl) (.int .i64 (wrap64 (atAdd at_ i + 1)))
          rw [show wordS bs label.data.toList (atAdd at_ i) = streamI key (atAdd at_ i) from by rw [← HKEY.out]; rfl]
          obtain ⟨hs0, hs1'⟩ := stream_in key (atAdd at_ i)
          have hs1 : streamI key (atAdd at_ i) ≤ 18446744073709551615 := by omega
          clear hc0 hc1 hc2 hb3 hD
          cases hok : redOk (streamI key (atAdd at_ i)) n with
          | true =>
            obtain ⟨q1, q2, q3⟩ := roll_some hn01 hno.out hlt hok
            have Q1 := Lib.hid q1
            have Q2 := Lib.hid q2
            have Q3 := Lib.hid q3
            clear q1 q2 q3
            go_wp2_with (go_at_call 23; ((with_reducible refine (rreduce_any _ _ _ hs0 hs1 hn1).mono ?_); rintro e w' ⟨rfl, rfl⟩))
            go_ret2
            rw [Q1.out, Q2.out, Q3.out, ← HAT.out]
            exact ⟨rfl, hst.out, hon⟩
          | false =>
            go_wp2_with (go_at_call 23; ((with_reducible refine (rreduce_any _ _ _ hs0 hs1 hn1).mono ?_); rintro e w' ⟨rfl, rfl⟩))
            refine ⟨⟨i + 1, by omega, by go_num, by rw [← HAT.out]; exact hst.out, hon, Lib.hid fun j hj => ?_⟩, by simp [intOf]; omega⟩
            rcases (show j < i ∨ j = i by omega) with h | rfl
            · exact hno.out j h
            · exact hok
      · obtain rfl : i = 128 := by omega
        obtain ⟨q1, q2, q3⟩ := roll_none hn01 hno.out
        have Q1 := Lib.hid q1
        have Q2 := Lib.hid q2
        have Q3 := Lib.hid q3
        clear q1 q2 q3
        go_wp2
        go_ret2
        rw [Q1.out, Q2.out, Q3.out]
        exact ⟨rfl, hD, ho⟩

set_option maxRecDepth 100000 in
set_option maxHeartbeats 1000000 in
theorem rverify_any (c : Int) (label : ByteArray) (A : Option Addr) (len cap : Nat) (bs : List UInt8) (at_ n r : Int) (w : World) (HL : Hid (bs.length = len)) (hlab : label.size ≤ 35184372088832) (hlc : len ≤ cap) (hmax : len ≤ 35184372088832) (hR : Rd w w.heap.size A len (vByte bs))
    (hat : Hid (-9223372036854775808 ≤ at_ ∧ at_ ≤ 9223372036854775807)) (hn1 : n ≤ 9223372036854775807) :
    Calls Try.prog 26 #[.int .u64 c, .slice A len cap, .string label, .int .i64 at_, .int .i64 n, .int .i64 r] w fun e w' => e = .returned (.bool (verifyI c bs label.data.toList at_ n r)) ∧ Below w.heap.size w w' := by
  have hD0 := Lib.hid (show RDie (w.alloc (.cells #[.slice A len cap, .string label, .int .i64 at_] 54)) w.heap.size (.slice A len cap) label at_ from Blk.new _ _ _)
  have hR0 : Rd (w.alloc (.cells #[.slice A len cap, .string label, .int .i64 at_] 54)) (w.alloc (.cells #[.slice A len cap, .string label, .int .i64 at_] 54)).heap.size A len (vByte bs) := (hR.alloc (Nat.le_refl _) _).more (by simp)
  have hcomm : (commitI bs == c) = (c == commitI bs) := by rw [Bool.eq_iff_iff, beq_iff_eq, beq_iff_eq]; exact eq_comm
  have HCM := Lib.hid hcomm; clear hcomm
  have HV := Lib.hid (show verifyI c bs label.data.toList at_ n r = ((c == commitI bs) && ((rollErr (bytesI label.data.toList bs) at_ n == 0) && (rollVal (bytesI label.data.toList bs) at_ n == r))) from rfl)
  cases hc : (commitI bs == c) <;> cases he : (rollErr (bytesI label.data.toList bs) at_ n == 0)
  all_goals
    go_enter Try.func26, Try.ntmps26
    go_wp2_with (first
      | (go_at_call 32; ((with_reducible refine (rroll_any _ _ _ _ bs _ _ _ _ hD0 hat hn1 HL hlab hlc hmax hR0).mono ?_); rintro e w1 ⟨rfl, hD1, ho1⟩; have hb1 : Below w.heap.size w w1 := below_of_only ((Below.refl _ w).alloc (Nat.le_refl _) _) ho1 (by simp) (Nat.le_refl _); replace hR := hR.all hb1))
      | (go_at_call 27; ((with_reducible refine (rcommit_any _ _ _ bs _ HL hlc hmax hR).mono ?_); rintro e w2 ⟨rfl, hb2⟩; replace hb1 := bt hb1 hb2)))
    go_ret
    rw [HV.out, ← HCM.out, hc, he]
    exact ⟨rfl, hb1⟩

/-- What Sides returns. -/
def sidesI (n : Int) : Int :=
  if aroundI n 400 < 100 then aroundI n 400 + 1
  else if aroundI n 400 < 300 then (2 : Int) ^ ((aroundI n 400).toNat % 61 + 1) + (aroundI n 400) / 61 % 3 - 1
  else (2 : Int) ^ ((aroundI n 400).toNat % 61 + 1) / 2 * 3 - (aroundI n 400) % 2
theorem pow_bounds {m : Nat} (h1 : 1 ≤ m) (h : m ≤ 61) : (2 : Int) ≤ 2 ^ m ∧ (2 : Int) ^ m ≤ 2305843009213693952 := by
  have e : ((2 ^ m : Nat) : Int) = (2 : Int) ^ m := by push_cast; rfl
  have l : 2 ^ 1 ≤ 2 ^ m := Nat.pow_le_pow_right (by decide) h1
  have u : 2 ^ m ≤ 2 ^ 61 := Nat.pow_le_pow_right (by decide) h
  omega
theorem sidesI_range (n : Int) : 1 ≤ sidesI n ∧ sidesI n ≤ 3458764513820540928 := by
  have hr := aroundI_range n 400 (by decide)
  have hp := pow_bounds (m := (aroundI n 400).toNat % 61 + 1) (by omega) (by omega)
  unfold sidesI
  split
  · omega
  · split <;> omega

set_option maxRecDepth 100000 in
set_option maxHeartbeats 1000000 in
theorem sides_any (n : Int) (w : World) (h1 : -9223372036854775808 ≤ n) (h2 : n ≤ 9223372036854775807) :
    Calls Try.prog 18 #[.int .i64 n] w fun e w' => e = .returned (.int .i64 (sidesI n)) ∧ w = w' := by
  go_enter Try.func18, Try.ntmps18
  go_wp2_with fail
  refine (around_nat n 400 400 _ rfl (by omega) (by omega) (by omega) (by omega)).mono ?_
  rintro e w' ⟨k, rfl, hk, HK, rfl⟩
  have HS : Hid (sidesI n = if (k : Int) < 100 then (k : Int) + 1 else if (k : Int) < 300 then (2 : Int) ^ (k % 61 + 1) + (k : Int) / 61 % 3 - 1 else (2 : Int) ^ (k % 61 + 1) / 2 * 3 - (k : Int) % 2) := by
    refine Lib.hid ?_
    unfold sidesI
    have hk' : aroundI n 400 = (k : Int) := by have := HK.out; exact this.symm
    rw [hk', Int.toNat_natCast]
  by_cases h100 : k < 100
  · go_wp2
    go_ret
    rw [HS.out, if_pos (by omega)]
    exact ⟨rfl, rfl⟩
  · go_wp2
    go_loop [4, 5] (fun p i => ∃ j : Nat, j ≤ k % 61 + 1 ∧ i = .int .i64 (j : Int) ∧ p = .int .i64 ((2 : Int) ^ j)) (fun _ i => 62 - (intOf i).toNat)
    case atStart => exact ⟨0, by omega, rfl, rfl⟩
    case round =>
      obtain ⟨j, hj, rfl, rfl⟩ := hrel
      by_cases hlt : j < k % 61 + 1
      · have HP := Lib.hid (show (2 : Int) ^ (j + 1) = 2 * 2 ^ j by rw [Int.pow_succ]; omega)
        have hb := Nat.pow_le_pow_right (n := 2) (by decide) (show j ≤ 60 by omega)
        have hb0 : 0 < 2 ^ j := Nat.two_pow_pos j
        have he : ((2 ^ j : Nat) : Int) = (2 : Int) ^ j := by push_cast; rfl
        have hb1 : (2 : Int) ^ j ≤ 1152921504606846976 := by omega
        have hb2 : (0 : Int) < (2 : Int) ^ j := by omega
        clear hb hb0 he
        go_wp2
        exact ⟨⟨j + 1, by omega, by go_num, by rw [HP.out]⟩, by simp [intOf]; omega⟩
      · obtain rfl : j = k % 61 + 1 := by omega
        obtain ⟨hp0, hp1⟩ := pow_bounds (m := k % 61 + 1) (by omega) (by omega)
        have HT := Lib.hid (rfl : (2 : Int) ^ (k % 61 + 1) = 2 ^ (k % 61 + 1))
        generalize (2 : Int) ^ (k % 61 + 1) = p at *
        by_cases h300 : k < 300
        · go_wp2
          go_ret
          rw [HS.out, if_neg (by omega), if_pos (by omega)]
          exact ⟨rfl, rfl⟩
        · go_wp2
          go_ret
          rw [HS.out, if_neg (by omega), if_neg (by omega)]
          exact ⟨rfl, rfl⟩

end Go.Proofs.Ytklkppmmnlachaa
