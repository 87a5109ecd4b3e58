/- client: clone of bytes, hashes of a body and tags. -/
import Derived.Test.YtompkpleiichaaaIMap
import Derived.Test.YtompkpleiichaaaRefHelp
import Derived.Test.YtompkpleiichaaaHashRef
import Derived.Lib.SliceRun
namespace Go.Proofs.Ytompkpleiichaaa
open Go.RowKit

theorem range_vByte {n : Nat} {bs : List UInt8} (h : bs.length = n) : (List.range n).map (vByte bs) = bs.map fun b => Value.int .u8 ((b.toNat : Nat) : Int) := by
  subst h
  apply List.ext_getElem?
  intro j
  by_cases hj : j < bs.length
  · simp [vByte, hj]
  · simp [hj]
theorem oneCell_vByte (bs : List UInt8) (j : Nat) : (vByte bs j).oneCell' = true := rfl

set_option maxRecDepth 100000 in
theorem cloneB_any (A : Option Addr) (n c : Nat) (bs : List UInt8) (w : World) (HL : Hid (bs.length = n)) (hn : n ≤ 35184372088832) (hR : Rd w w.heap.size A n (vByte bs)) :
    Calls Try.prog 48 #[.slice A n c] w fun e w' => ∃ A' c', e = .returned (.slice A' n c') ∧ Bts w' A' n c' bs ∧ Below w.heap.size w w' := by
  rcases A with _ | ad
  · have h0 := hR.none_ rfl
    subst h0
    have hb0 : bs = [] := List.eq_nil_of_length_eq_zero HL.out
    subst hb0
    have hq := Lib.run_eql_slice_nil (P := Try.prog) w 23 5 none 0 c 0 0 Try.underlying23
    go_enter Try.func48, Try.ntmps48
    go_wp2
    go_ret
    exact ⟨none, 0, rfl, Bts.nil _, Below.refl _ _⟩
  · obtain ⟨i0, hi, hz0, hz1, hz2⟩ := info_parts info_few
    have hB := (Below.refl w.heap.size w).alloc (Nat.le_refl _) (.cells #[] 5)
    obtain ⟨v', w', hap, hown, hg, hat⟩ := run_append_rd (P := Try.prog) (w.alloc (.cells #[] 5)) w.heap.size 23 23 5 i0 _ 1 Try.underlying23 hi hz0 hz1 hz2 rfl (.slice (some ⟨w.heap.size, 0, none⟩) 0 0) 0 []
      (World.ownsRow_made w #[] 0 (Nat.le_refl _) (by decide) rfl) _ (some ad) n c (vByte bs) (hR.all hB) (by intro h; cases h) (fun j _ => oneCell_vByte bs j) (by unfold maxLen; omega) (by omega) (by simp)
    have HA := Lib.hid hap
    rw [Nat.zero_add, List.nil_append, range_vByte HL.out] at hown
    have HO := Lib.hid hown
    have HB := Lib.hid (show Below w.heap.size w w' from hB.grown hg (by simp) (fun k e => by simp [Value.ownBlock] at e; omega))
    clear hap hat hown hg hB
    have hq := Lib.run_eql_slice_nil (P := Try.prog) w 23 5 (some ad) n c 0 0 Try.underlying23
    go_enter Try.func48, Try.ntmps48
    go_wp2_with (at_builtin; refine wpList_append_run HA.out rfl rfl rfl rfl ?_)
    go_ret
    obtain ⟨A', c', rfl⟩ := own_slice HO.out
    exact ⟨A', c', rfl, (Bts.of_own HO.out).1, HB.out⟩

def bodyB : List UInt8 := [98, 111, 100, 121]
def tagB : List UInt8 := [116, 97, 103]
def bodyI (bs : List UInt8) : Int := bytesI bodyB bs
def tagI (key cl num body : Int) : Int := sumI tagB [toI key, cl, num, toI body]
set_option maxRecDepth 100000 in
theorem bodyHash_any (A : Option Addr) (n c : Nat) (bs : List UInt8) (w : World) (HL : Hid (bs.length = n)) (hnc : n ≤ c) (hn : n ≤ 35184372088832) (hR : Rd w w.heap.size A n (vByte bs)) :
    Calls Try.prog 52 #[.slice A n c] w fun e w' => e = .returned (.int .u64 (bodyI bs)) ∧ Below w.heap.size w w' := by
  go_enter Try.func52, Try.ntmps52
  go_wp2_with fail
  refine (hbytes_any ⟨#[98, 111, 100, 121]⟩ A n c w.heap.size bs w HL (by decide) hnc hn (Nat.le_refl _) hR).mono ?_
  rintro e w1 ⟨rfl, hb⟩
  go_wp2
  go_ret
  exact ⟨rfl, hb⟩
theorem rd_lit4' (W : World) (t : TypeId) (x y z u : Int) : Rd (W.alloc (.cells #[.int .i64 x, .int .i64 y, .int .i64 z, .int .i64 u] t)) (W.heap.size + 1) (some ⟨W.heap.size, 0, none⟩) 4 (vInt [x, y, z, u]) := fun _ => ⟨_, _, rfl, by omega, fun j hj => by
  rcases (show j = 0 ∨ j = 1 ∨ j = 2 ∨ j = 3 by omega) with rfl | rfl | rfl | rfl <;> simp [vInt]⟩
set_option maxRecDepth 100000 in
theorem tag_any (key cl num body : Int) (w : World) : Calls Try.prog 53 #[.int .u64 key, .int .i64 cl, .int .i64 num, .int .u64 body] w fun e w' => e = .returned (.int .u64 (tagI key cl num body)) ∧ Below w.heap.size w w' := by
  go_enter Try.func53, Try.ntmps53
  go_wp2_with fail
  refine (hsum_any ⟨#[116, 97, 103]⟩ _ 4 4 (w.heap.size + 1) [toI key, cl, num, toI body] _ (Lib.hid rfl) (by decide) (by decide) (by simp) (rd_lit4' w 3 (toI key) cl num (toI body))).mono ?_
  rintro e w1 ⟨rfl, hb⟩
  have hb2 := bt ((Below.refl w.heap.size w).alloc (Nat.le_refl _) _) hb
  go_wp2
  go_ret
  exact ⟨rfl, hb2⟩
set_option maxRecDepth 100000 in
theorem ctag_any (key cl num : Int) (A : Option Addr) (n c : Nat) (bs : List UInt8) (w : World) (HL : Hid (bs.length = n)) (hnc : n ≤ c) (hn : n ≤ 35184372088832) (hR : Rd w w.heap.size A n (vByte bs)) :
    Calls Try.prog 39 #[.int .u64 key, .int .i64 cl, .int .i64 num, .slice A n c] w fun e w' => e = .returned (.int .u64 (tagI key cl num (bodyI bs))) ∧ Below w.heap.size w w' := by
  go_enter Try.func39, Try.ntmps39
  go_wp2_with fail
  refine (bodyHash_any A n c bs w HL hnc hn hR).mono ?_
  rintro e w1 ⟨rfl, hb⟩
  go_wp2_with fail
  refine (tag_any _ _ _ _ _).mono ?_
  rintro e w2 ⟨rfl, hb2⟩
  have hb3 := bt hb hb2
  go_wp2
  go_ret
  exact ⟨rfl, hb3⟩
set_option maxRecDepth 100000 in
theorem rtag_any (key cl num : Int) (A : Option Addr) (n c : Nat) (bs : List UInt8) (w : World) (HL : Hid (bs.length = n)) (hnc : n ≤ c) (hn : n ≤ 35184372088832) (hR : Rd w w.heap.size A n (vByte bs)) :
    Calls Try.prog 30 #[.int .u64 key, .int .i64 cl, .int .i64 num, .slice A n c] w fun e w' => e = .returned (.int .u64 (tagI key cl num (bodyI bs))) ∧ Below w.heap.size w w' := by
  go_enter Try.func30, Try.ntmps30
  go_wp2_with fail
  refine (rbytes_any ⟨#[98, 111, 100, 121]⟩ A n c w.heap.size bs w HL (by decide) hnc hn (Nat.le_refl _) hR).mono ?_
  rintro e w1 ⟨rfl, hb⟩
  go_wp2_with fail
  refine (rsum_any ⟨#[116, 97, 103]⟩ _ 4 4 (w1.heap.size + 1) [toI key, cl, num, toI (bodyI bs)] _ (Lib.hid rfl) (by decide) (by decide) (by simp) (rd_lit4' w1 3 (toI key) cl num (toI (bodyI bs)))).mono ?_
  rintro e w2 ⟨rfl, hb2⟩
  have hb3 := bt hb (bt ((Below.refl w1.heap.size w1).alloc (Nat.le_refl _) _) hb2)
  go_wp2
  go_ret
  exact ⟨rfl, hb3⟩
set_option maxRecDepth 100000 in
theorem isClient_any (n : Int) (w : World) : Calls Try.prog 47 #[.int .i64 n] w fun e w' => e = .returned (.bool (decide (1 ≤ n ∧ n ≤ 1073741824))) ∧ w = w' := by
  by_cases h1 : 1 ≤ n <;> by_cases h2 : n ≤ 1073741824
  all_goals go_enter Try.func47, Try.ntmps47
  all_goals go_wp2
  all_goals go_ret
  all_goals exact ⟨by simp [h1, h2], rfl⟩
end Go.Proofs.Ytompkpleiichaaa
