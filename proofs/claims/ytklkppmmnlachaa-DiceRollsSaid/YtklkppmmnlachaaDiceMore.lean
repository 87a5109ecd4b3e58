/- The walks of dice.New, Seek, At, Commit, Opens, Word, Verify, and of the reference's Commit, Word. -/
import Derived.Test.YtklkppmmnlachaaDiceRoll2
import Derived.Test.YtklkppmmnlachaaHashRef
namespace Go.Proofs.Ytklkppmmnlachaa
open Go.RowKit

def seedB : List UInt8 := [115, 101, 101, 100]
def commitI (seed : List UInt8) : Int := bytesI seedB seed

set_option maxRecDepth 100000 in
set_option maxHeartbeats 400000 in
theorem dnew_any (label : ByteArray) (A : Option Addr) (len cap : Nat) (bs : List UInt8) (w : World) (HL : Hid (bs.length = len)) (hlab : label.size ≤ 140737488351232) (hlc : len ≤ cap) (hmax : len ≤ 35184372088832) (hR : Rd w w.heap.size A len (vByte bs)) :
    Calls Try.prog 15 #[.slice A len cap, .string label] w fun e w' => ∃ gd, e = .returned (.pointer (some ⟨gd, 0, none⟩)) ∧ w.heap.size ≤ gd ∧ Die w' gd (bytesI label.data.toList bs) 0 ∧ Below w.heap.size w w' := by
  go_enter Try.func15, Try.ntmps15
  go_wp2_with (go_at_call 49; ((with_reducible refine (hbytes_any _ _ _ _ _ bs _ HL hlab hlc hmax (Nat.le_refl _) hR).mono ?_); rintro e w1 ⟨rfl, hb1⟩))
  go_ret
  exact ⟨w1.heap.size, rfl, hb1.size, Blk.new _ _ _, hb1.alloc hb1.size _⟩

set_option maxRecDepth 100000 in
set_option maxHeartbeats 400000 in
theorem seek_any (gd : Nat) (key at_ at' : Int) (w : World) (HD : Hid (Die w gd key at_)) :
    Calls Try.prog 16 #[.pointer (some ⟨gd, 0, none⟩), .int .i64 at'] w fun e w' => e = .returned (.tuple #[]) ∧ Die w' gd key at' ∧ w.grownBy w' (some gd) := by
  have hc : w.cell? ⟨gd, 1, none⟩ = some (.int .i64 at_) := by simpa using Blk.cell HD.out 1
  have hf : w.frozen? ⟨gd, 1, none⟩ = false := Blk.frozen HD.out 1
  go_enter Try.func16, Try.ntmps16
  go_wp2
  go_end0
  exact ⟨rfl, Blk.set_ HD.out 1 _, only_set (only_refl _ _) (.inl rfl) _⟩

set_option maxRecDepth 100000 in
set_option maxHeartbeats 400000 in
theorem at_any (gd : Nat) (key at_ : Int) (w : World) (HD : Hid (Die w gd key at_)) :
    Calls Try.prog 19 #[.pointer (some ⟨gd, 0, none⟩)] w fun e w' => e = .returned (.int .i64 at_) ∧ w = w' := by
  have hc : w.cell? ⟨gd, 1, none⟩ = some (.int .i64 at_) := by simpa using Blk.cell HD.out 1
  go_enter Try.func19, Try.ntmps19
  go_wp2
  go_ret
  exact ⟨rfl, rfl⟩

set_option maxRecDepth 100000 in
set_option maxHeartbeats 400000 in
theorem commit_any (A : Option Addr) (len cap : Nat) (bs : List UInt8) (w : World) (HL : Hid (bs.length = len)) (hlc : len ≤ cap) (hmax : len ≤ 35184372088832) (hR : Rd w w.heap.size A len (vByte bs)) :
    Calls Try.prog 24 #[.slice A len cap] w fun e w' => e = .returned (.int .u64 (commitI bs)) ∧ Below w.heap.size w w' := by
  go_enter Try.func24, Try.ntmps24
  go_wp2_with (go_at_call 49; ((with_reducible refine (hbytes_any ⟨#[115, 101, 101, 100]⟩ _ _ _ _ bs _ HL (by decide) hlc hmax (Nat.le_refl _) hR).mono ?_); rintro e w1 ⟨rfl, hb1⟩))
  go_ret
  exact ⟨rfl, hb1⟩

set_option maxRecDepth 100000 in
set_option maxHeartbeats 400000 in
theorem opens_any (c : Int) (A : Option Addr) (len cap : Nat) (bs : List UInt8) (w : World) (HL : Hid (bs.length = len)) (hlc : len ≤ cap) (hmax : len ≤ 35184372088832) (hR : Rd w w.heap.size A len (vByte bs)) :
    Calls Try.prog 28 #[.int .u64 c, .slice A len cap] w fun e w' => e = .returned (.bool (c == commitI bs)) ∧ Below w.heap.size w w' := by
  go_enter Try.func28, Try.ntmps28
  go_wp2_with (go_at_call 24; ((with_reducible refine (commit_any _ _ _ bs _ HL hlc hmax hR).mono ?_); rintro e w1 ⟨rfl, hb1⟩))
  go_ret
  exact ⟨rfl, hb1⟩

def wordS (seed label : List UInt8) (at_ : Int) : Int := streamI (bytesI label seed) at_

set_option maxRecDepth 100000 in
set_option maxHeartbeats 400000 in
theorem word_any (label : ByteArray) (A : Option Addr) (len cap : Nat) (bs : List UInt8) (at_ : Int) (w : World) (HL : Hid (bs.length = len)) (hlab : label.size ≤ 140737488351232) (hlc : len ≤ cap) (hmax : len ≤ 35184372088832) (hR : Rd w w.heap.size A len (vByte bs)) :
    Calls Try.prog 22 #[.slice A len cap, .string label, .int .i64 at_] w fun e w' => e = .returned (.int .u64 (wordS bs label.data.toList at_)) ∧ Below w.heap.size w w' := by
  go_enter Try.func22, Try.ntmps22
  go_wp2_with (first
    | (go_at_call 49; ((with_reducible refine (hbytes_any _ _ _ _ _ bs _ HL hlab hlc hmax (Nat.le_refl _) hR).mono ?_); rintro e w1 ⟨rfl, hb1⟩))
    | (go_at_call 53; ((with_reducible refine (wordAt_any _ _ _).mono ?_); rintro e w2 ⟨rfl, hb2⟩)))
  go_ret
  exact ⟨rfl, bt hb1 hb2⟩

set_option maxRecDepth 100000 in
set_option maxHeartbeats 400000 in
theorem rcommit_any (A : Option Addr) (len cap : Nat) (bs : List UInt8) (w : World) (HL : Hid (bs.length = len)) (hlc : len ≤ cap) (hmax : len ≤ 35184372088832) (hR : Rd w w.heap.size A len (vByte bs)) :
    Calls Try.prog 27 #[.slice A len cap] w fun e w' => e = .returned (.int .u64 (commitI bs)) ∧ Below w.heap.size w w' := by
  go_enter Try.func27, Try.ntmps27
  go_wp2_with (go_at_call 52; ((with_reducible refine (rbytes_any ⟨#[115, 101, 101, 100]⟩ _ _ _ _ bs _ HL (by decide) hlc hmax (Nat.le_refl _) hR).mono ?_); rintro e w1 ⟨rfl, hb1⟩))
  go_ret
  exact ⟨rfl, hb1⟩

set_option maxRecDepth 100000 in
set_option maxHeartbeats 400000 in
theorem rword_any (label : ByteArray) (A : Option Addr) (len cap : Nat) (bs : List UInt8) (at_ : Int) (w : World) (HL : Hid (bs.length = len)) (hlab : label.size ≤ 35184372088832) (hlc : len ≤ cap) (hmax : len ≤ 35184372088832) (hR : Rd w w.heap.size A len (vByte bs)) :
    Calls Try.prog 21 #[.slice A len cap, .string label, .int .i64 at_] w fun e w' => e = .returned (.int .u64 (wordS bs label.data.toList at_)) ∧ Below w.heap.size w w' := by
  have HE := Lib.hid (show wordS bs label.data.toList at_ = sumI [119, 111, 114, 100] [toI (bytesI label.data.toList bs), at_] from rfl)
  have htk : wrap64 (bytesI label.data.toList bs) = toI (bytesI label.data.toList bs) := rfl
  generalize toI (bytesI label.data.toList bs) = tk at *
  go_enter Try.func21, Try.ntmps21
  go_wp2_with (first
    | (go_at_call 52; ((with_reducible refine (rbytes_any _ _ _ _ _ bs _ HL hlab hlc hmax (Nat.le_refl _) hR).mono ?_); rintro e w1 ⟨rfl, hb1⟩))
    | (go_at_call 51; refine (rsum_any ⟨#[119, 111, 114, 100]⟩ _ 2 2 (w1.heap.size + 1) [tk, at_] _ rfl (by decide) (by decide) (by simp) (rd_lit2 w1 _ tk at_)).mono ?_; rintro e w2 ⟨rfl, hb2⟩))
  go_ret
  rw [HE.out]
  exact ⟨rfl, (hb1.alloc hb1.size _).trans (hb2.mono (by have := hb1.size; simp; omega))⟩

/-- What Verify returns. -/
def verifyI (c : Int) (seed label : List UInt8) (at_ n r : Int) : Bool := (c == commitI seed) && ((rollErr (bytesI label seed) at_ n == 0) && (rollVal (bytesI label seed) at_ n == r))

set_option maxRecDepth 100000 in
set_option maxHeartbeats 400000 in
theorem verify_any (c : Int) (label : ByteArray) (A : Option Addr) (len cap : Nat) (bs : List UInt8) (at_ n r : Int) (w : World) (HL : Hid (bs.length = len)) (hlab : label.size ≤ 140737488351232) (hlc : len ≤ cap) (hmax : len ≤ 35184372088832) (hR : Rd w w.heap.size A len (vByte bs))
    (hat : Hid (-9223372036854775808 ≤ at_ ∧ at_ ≤ 9223372036854775807)) (hn1 : n ≤ 9223372036854775807) :
    Calls Try.prog 25 #[.int .u64 c, .slice A len cap, .string label, .int .i64 at_, .int .i64 n, .int .i64 r] w fun e w' => e = .returned (.bool (verifyI c bs label.data.toList at_ n r)) ∧ Below w.heap.size w w' := by
  cases hc : (c == commitI bs) with
  | false =>
    have HV := Lib.hid (show verifyI c bs label.data.toList at_ n r = false by unfold verifyI; rw [hc]; rfl)
    go_enter Try.func25, Try.ntmps25
    go_wp2_with (go_at_call 28; ((with_reducible refine (opens_any _ _ _ _ bs _ HL hlc hmax hR).mono ?_); rintro e w1 ⟨rfl, hb1⟩))
    go_ret
    rw [HV.out]
    exact ⟨rfl, hb1⟩
  | true =>
    have HV := Lib.hid (show verifyI c bs label.data.toList at_ n r = ((rollErr (bytesI label.data.toList bs) at_ n == 0) && (rollVal (bytesI label.data.toList bs) at_ n == r)) by unfold verifyI; rw [hc]; rfl)
    cases he : (rollErr (bytesI label.data.toList bs) at_ n == 0) with
    | true =>
      go_enter Try.func25, Try.ntmps25
      go_wp2_with (first
        | (go_at_call 28; ((with_reducible refine (opens_any _ _ _ _ bs _ HL hlc hmax hR).mono ?_); rintro e w1 ⟨rfl, hb1⟩; replace hR := hR.all hb1))
        | (go_at_call 15; ((with_reducible refine (dnew_any _ _ _ _ bs _ HL hlab hlc hmax hR).mono ?_); rintro e w2 ⟨gd, rfl, hg2, hD2, hb2⟩; have hgw : w.heap.size ≤ gd := Nat.le_trans hb1.size hg2; have HD := Lib.hid hD2; replace hb1 := bt hb1 hb2; clear hD2 hb2))
        | (go_at_call 16; ((with_reducible refine (seek_any _ _ _ _ _ HD).mono ?_); rintro e w3 ⟨rfl, hD3, ho3⟩; replace HD := Lib.hid hD3; replace hb1 := below_of_only hb1 ho3 hb1.size hgw; clear hD3 ho3))
        | (go_at_call 17; ((with_reducible refine (roll_any _ _ _ _ _ HD hat hn1).mono ?_); rintro e w4 ⟨rfl, hD4, ho4⟩; replace hb1 := below_of_only hb1 ho4 hb1.size hgw; clear hD4 ho4)))
      go_ret
      rw [HV.out, he]
      exact ⟨rfl, hb1⟩
    | false =>
      go_enter Try.func25, Try.ntmps25
      go_wp2_with (first
        | (go_at_call 28; ((with_reducible refine (opens_any _ _ _ _ bs _ HL hlc hmax hR).mono ?_); rintro e w1 ⟨rfl, hb1⟩; replace hR := hR.all hb1))
        | (go_at_call 15; ((with_reducible refine (dnew_any _ _ _ _ bs _ HL hlab hlc hmax hR).mono ?_); rintro e w2 ⟨gd, rfl, hg2, hD2, hb2⟩; have hgw : w.heap.size ≤ gd := Nat.le_trans hb1.size hg2; have HD := Lib.hid hD2; replace hb1 := bt hb1 hb2; clear hD2 hb2))
        | (go_at_call 16; ((with_reducible refine (seek_any _ _ _ _ _ HD).mono ?_); rintro e w3 ⟨rfl, hD3, ho3⟩; replace HD := Lib.hid hD3; replace hb1 := below_of_only hb1 ho3 hb1.size hgw; clear hD3 ho3))
        | (go_at_call 17; ((with_reducible refine (roll_any _ _ _ _ _ HD hat hn1).mono ?_); rintro e w4 ⟨rfl, hD4, ho4⟩; replace hb1 := below_of_only hb1 ho4 hb1.size hgw; clear hD4 ho4)))
      go_ret
      rw [HV.out, he]
      exact ⟨rfl, hb1⟩

end Go.Proofs.Ytklkppmmnlachaa
