/- The walks of worldmintref02's encodings. -/
import Derived.Test.YtldmokjpfnakkaaGreatHWireCut
import Derived.RangeFuncNested
import Derived.RangeFuncBound
import Derived.RangeFuncCalls
import Derived.RangeFuncLeaves
import Derived.RangeFuncBox
import Derived.Shelf.Abstract
import Derived.Shelf.RegionOpen
import Derived.WalkKit
import Derived.OwnWalkIn
import Derived.TacticsInMore
import Derived.LoopNIn
import Derived.LoopIn
import Derived.Lib.Hide
import Derived.Test.YtldmokjpfnakkaaGreatProg
import Derived.Test.YtldmokjpfnakkaaGreatHG3
import Derived.Test.YtldmokjpfnakkaaGreatHMem
import Derived.Maps.AppendAt

namespace Go.Proofs.YtldmokjpfnakkaaGreat
open Go.RowKit

/-- A row of bytes of the call's own is returned. -/
def RetB (bs : List UInt8) (w : World) (e : Ending) (w' : World) : Prop :=
  ∃ (A : Option Addr) (n c : Nat), e = .returned (.slice A n c) ∧ Hid (bs.length = n) ∧ w'.ownsRow w.heap.size 5 1 (.slice A n c) n (bs.map fun b => Value.int .u8 ((b.toNat : Nat) : Int)) ∧ Below w.heap.size w w'
theorem fit_of_mem {vs : List V} (h : ∀ y ∈ vs, FitV y) : ∀ j : Nat, FitV (vs[j]?.getD V0) := by
  intro j
  by_cases hj : j < vs.length
  · rw [List.getElem?_eq_getElem hj]; exact h _ (List.getElem_mem _)
  · rw [List.getElem?_eq_none (by omega)]; exact fit0 0
theorem VRow.take {w : World} {B n m : Nat} {A : Option Addr} {vs : List V} (h : VRow w B A n vs) (hm : m ≤ n) : VRow w B A m (vs.take m) := by
  obtain ⟨hl, S, T, h1, h2⟩ := h
  have e : ∀ j, j < m → (vs.take m)[j]?.getD V0 = vs[j]?.getD V0 := fun j hj => by rw [List.getElem?_take, if_pos hj]
  refine ⟨by rw [List.length_take, hl]; omega, S, T, fun hn => ?_, fun j hj => ?_⟩
  · obtain ⟨b, off, e1, hb, hc⟩ := h1 (by omega)
    exact ⟨b, off, e1, hb, fun j hj i hi => by rw [e j hj]; exact hc j (by omega) i hi⟩
  · rw [e j hj]; exact h2 j (by omega)
theorem Wr.drew {w : World} {B gd : Nat} {bs : List UInt8} (h : Wr w B gd bs) : Wr w.drew B gd bs := h
/-- append of one byte. -/
theorem own_one {w : World} {base k : Nat} {v : Value} {bs : List UInt8} (h : w.ownsRow base 5 1 v k (bs.map fun b => Value.int .u8 ((b.toNat : Nat) : Int))) (x : UInt8) (xi : Int) (hx : xi = ((x.toNat : Nat) : Int)) (hk : k ≤ 35184372088832) (hbase : base ≤ w.heap.size) :
    ∃ g c w', Hid ((Builtin.append_ #[39, 39] 39 #[v, .slice (some ⟨w.heap.size, 0, none⟩) 1 1]).run Tryz.prog (w.alloc (.cells #[.int .u8 xi] 5)) = .ok (.slice (some ⟨g, 0, none⟩) (k + 1) c) w') ∧
      w'.ownsRow base 5 1 (.slice (some ⟨g, 0, none⟩) (k + 1) c) (k + 1) ((bs ++ [x]).map fun b => Value.int .u8 ((b.toNat : Nat) : Int)) ∧ Below base w w' := by
  subst hx
  obtain ⟨i0, hi, hz0, hz1, hz2⟩ := info_parts info_u8
  obtain ⟨g, c, w', hap, hown, hg, _, _⟩ := run_append_one (P := Tryz.prog) w base 39 39 5 i0 _ 1 Tryz.underlying39 hi hz0 hz1 hz2 rfl v k _ h (.int .u8 ((x.toNat : Nat) : Int)) rfl (by unfold maxLen; omega) (by omega) hbase
  exact ⟨g, c, w', Lib.hid hap, by rw [List.map_append]; exact hown, (Below.refl base w).grown hg hbase (fun r e => (h.lt r e).1)⟩
/-- append of many bytes. -/
theorem own_many {w : World} {base k m c : Nat} {v : Value} {bs xs : List UInt8} {A : Option Addr} (h : w.ownsRow base 5 1 v k (bs.map fun b => Value.int .u8 ((b.toNat : Nat) : Int))) (hx : xs.length = m) (hR : Rd w w.heap.size A m (vByte xs)) (hk : k + m ≤ 35184372088832) (hbase : base ≤ w.heap.size) :
    ∃ A' n' c' w', Hid ((Builtin.append_ #[39, 39] 39 #[v, .slice A m c]).run Tryz.prog w = .ok (.slice A' n' c') w') ∧ Hid (n' = k + m) ∧
      w'.ownsRow base 5 1 (.slice A' n' c') n' ((bs ++ xs).map fun b => Value.int .u8 ((b.toNat : Nat) : Int)) ∧ Below base w w' := by
  obtain ⟨i0, hi, hz0, hz1, hz2⟩ := info_parts info_u8
  obtain ⟨v', w', hap, hown, hg, _⟩ := run_append_rd (P := Tryz.prog) w base 39 39 5 i0 _ 1 Tryz.underlying39 hi hz0 hz1 hz2 rfl v k _ h w.heap.size A m c (vByte xs) hR hR.none_ (fun _ _ => rfl) (by unfold maxLen; omega) (by omega) hbase
  obtain ⟨A', c', rfl⟩ := own_slice hown
  have e : (List.range m).map (vByte xs) = xs.map fun b => Value.int .u8 ((b.toNat : Nat) : Int) := by
    subst hx
    refine List.ext_getElem (by simp) fun i h1 h2 => ?_
    have hi : i < xs.length := by simpa using h2
    simp [vByte, hi]
  rw [e, ← List.map_append] at hown
  exact ⟨A', k + m, c', w', Lib.hid hap, Lib.hid rfl, hown, (Below.refl base w).grown hg hbase (fun r e => (h.lt r e).1)⟩

set_option maxRecDepth 100000 in
set_option maxHeartbeats 1000000 in
theorem euint_any (n : Nat) (ni : Int) (hni : ni = (n : Int)) (w : World) (hn : n ≤ 18446744073709551615) :
    Calls Tryz.prog 54 #[.int .u64 ni] w (RetB (varint n) w) := by
  subst hni
  have HV := Lib.hid (varint_len10 hn)
  go_enter Tryz.func54, Tryz.ntmps54
  go_wp2
  go_loopw [0, 3] (fun v o wr => ∃ m k : Nat, ∃ pre : List UInt8, v = .int .u64 (m : Int) ∧ m ≤ 18446744073709551615 ∧ k ≤ 10 ∧ Hid (pre.length = k) ∧ Hid (pre ++ varint m = varint n) ∧ wr.ownsRow w.heap.size 5 1 o k (pre.map fun b => Value.int .u8 ((b.toNat : Nat) : Int)) ∧ Below w.heap.size w wr) (fun v _ _ => (intOf v).toNat)
  case atStart => exact ⟨n, 0, [], rfl, hn, by omega, Lib.hid rfl, Lib.hid rfl, World.ownsRow_nil _ _ _ _, Below.refl _ _⟩
  case round =>
    obtain ⟨m, k, pre, rfl, hm, hk, HK, HE, hown, hb⟩ := hrel
    obtain ⟨v3, rfl⟩ : ∃ x, x = u3 := ⟨_, rfl⟩
    by_cases hge : 128 ≤ m
    · have hk9 : k + 1 ≤ 10 := by
        have h1 := congrArg List.length HE.out
        rw [List.length_append, varint_ge hge, List.length_cons] at h1
        have := HV.out
        have := HK.out
        omega
      obtain ⟨g, c, w3, HA, hown3, hb3⟩ := own_one hown (UInt8.ofNat (m % 128 + 128)) (128 + (m : Int) % 128) (by rw [ofNat_toNat (by omega)]; omega) (by omega) hb.size
      have hge' : 127 < (m : Int) := by omega
      go_wp2_with (at_builtin; refine wpList_append_run HA.out rfl rfl rfl rfl ?_)
      exact ⟨⟨m / 128, k + 1, _, by go_num, by omega, by omega, Lib.hid (by rw [List.length_append, HK.out]; rfl), Lib.hid (by rw [← HE.out, varint_ge hge, List.append_assoc]; rfl), hown3, hb.trans hb3⟩, by simp [intOf]; omega⟩
    · obtain ⟨g, c, w3, HA, hown3, hb3⟩ := own_one hown (UInt8.ofNat m) (m : Int) (by rw [ofNat_toNat (by omega)]) (by omega) hb.size
      have hge' : (m : Int) ≤ 127 := by omega
      go_wp2_with (at_builtin; refine wpList_append_run HA.out rfl rfl rfl rfl ?_)
      go_ret
      have he : pre ++ [UInt8.ofNat m] = varint n := by rw [← HE.out, varint_lt (by omega)]
      exact ⟨_, _, _, rfl, Lib.hid (by rw [← he, List.length_append, HK.out]; rfl), by rw [← he]; exact hown3, hb.trans hb3⟩

set_option maxRecDepth 100000 in
set_option maxHeartbeats 400000 in
theorem ezig_any (n : Int) (w : World) (h1 : -9223372036854775808 ≤ n) (h2 : n ≤ 9223372036854775807) :
    Calls Tryz.prog 84 #[.int .i64 n] w fun e w' => e = .returned (.int .u64 ((zigI n : Nat) : Int)) ∧ w = w' := by
  by_cases h : n < 0
  · have HZ := Lib.hid (show ((zigI n : Nat) : Int) = 2 * (-(n + 1)) + 1 by unfold zigI; rw [if_pos h]; omega)
    go_enter Tryz.func84, Tryz.ntmps84
    go_wp2
    go_ret
    rw [HZ.out]
    exact ⟨rfl, rfl⟩
  · have HZ := Lib.hid (show ((zigI n : Nat) : Int) = 2 * n by unfold zigI; rw [if_neg h]; omega)
    go_enter Tryz.func84, Tryz.ntmps84
    go_wp2
    go_ret
    rw [HZ.out]
    exact ⟨rfl, rfl⟩

set_option maxRecDepth 100000 in
set_option maxHeartbeats 400000 in
theorem eint_any (n : Int) (w : World) (h1 : -9223372036854775808 ≤ n) (h2 : n ≤ 9223372036854775807) :
    Calls Tryz.prog 67 #[.int .i64 n] w (RetB (encInt n) w) := by
  go_enter Tryz.func67, Tryz.ntmps67
  go_wp2_with (first
    | (go_at_call 84; ((with_reducible refine (ezig_any _ _ h1 h2).mono ?_); rintro e w1 ⟨rfl, rfl⟩))
    | (go_at_call 54; ((with_reducible refine (euint_any _ _ rfl _ (zigI_lt h1 h2)).mono ?_); rintro e w1 ⟨A, m, c, rfl, q1, q2, q3⟩)))
  go_ret
  exact ⟨A, m, c, rfl, q1, q2, q3⟩

set_option maxRecDepth 100000 in
set_option maxHeartbeats 400000 in
theorem eraw_any (A : Option Addr) (m c : Nat) (bs : List UInt8) (w : World) (HX : Hid (bs.length = m)) (hm : m ≤ 17592186044416) (hR : Rd w w.heap.size A m (vByte bs)) :
    Calls Tryz.prog 53 #[.slice A m c] w (RetB (encRaw bs) w) := by
  go_enter Tryz.func53, Tryz.ntmps53
  go_wp2_with fail
  refine (euint_any m _ rfl _ (by omega)).mono ?_
  rintro e w1 ⟨A1, n1, c1, rfl, HX1, hown1, hb1⟩
  have hn1 : n1 ≤ 10 := by rw [← HX1.out]; exact varint_len10 (by omega)
  obtain ⟨A2, n2, c2, w2, HA, HN, hown2, hb2⟩ := own_many (c := c) hown1 HX.out (hR.all hb1) (by omega) hb1.size
  go_wp2_with (at_builtin; refine wpList_append_run HA.out rfl rfl rfl rfl ?_)
  go_ret
  have he : varint m ++ bs = encRaw bs := by unfold encRaw; rw [HX.out]
  rw [he] at hown2
  exact ⟨A2, n2, c2, rfl, Lib.hid (by have := hown2.1; simpa using this), hown2, hb1.trans hb2⟩

end Go.Proofs.YtldmokjpfnakkaaGreat

/- The walks of hash.mix, worldmintref01.mix, hash.wordsOf and its iterator. -/
namespace Go.Proofs.YtldmokjpfnakkaaGreat
open Go.RowKit Go.Shelf
attribute [local go_sem] Oper.semAt_some

set_option maxHeartbeats 400000 in
theorem mix_any (a b : Int) (w : World) :
    Calls Tryz.prog 71 #[.int .u64 a, .int .u64 b] w fun e w' => e = .returned (.int .u64 (mixI a b)) ∧ w = w' := by
  go_enter Tryz.func71, Tryz.ntmps71
  go_wp2
  go_ret
  exact ⟨rfl, rfl⟩

set_option maxHeartbeats 400000 in
theorem rmix_any (a b : Int) (w : World) :
    Calls Tryz.prog 85 #[.int .u64 a, .int .u64 b] w fun e w' => e = .returned (.int .u64 (mixI a b)) ∧ w = w' := by
  go_enter Tryz.func85, Tryz.ntmps85
  go_wp2
  go_ret
  refine ⟨?_, rfl⟩
  rw [mixI_alt]; rfl

set_option maxHeartbeats 400000 in
theorem wordsOf_in (F : Fence) (n : Nat) (h25 : F.fn 56) (hro : F.round = none) (A : Option Addr) (len cap : Nat) (w : World) :
    CallsIn F n Tryz.prog 56 #[.slice A len cap] w fun e w' => e = .returned (.func (.func 70) #[] #[.pointer (some ⟨w.heap.size, 0, none⟩)]) ∧ w.alloc (.cells #[.slice A len cap] 39) = w' := by
  refine callsIn_of_wp Tryz.func56 rfl h25 ?_ hro
  simp only [Tryz.ntmps56, List.size_toArray, List.length_cons, List.length_nil, Nat.reduceAdd, Nat.reduceSub, Array.replicate_succ, Array.replicate_zero, List.push_toArray, List.append_toArray, List.nil_append, List.cons_append]
  gi_wp2
  go_ret
  exact ⟨rfl, rfl⟩

/-- The blocks that the iterator reads. -/
def WordsKept (A : Option Addr) (len Bs : Nat) (k : Nat) : Prop := k = Bs ∨ (0 < len ∧ ∃ ad, A = some ad ∧ k = ad.block)

set_option maxRecDepth 100000 in
set_option maxHeartbeats 1000000 in
theorem words1_in (F : Fence) (n : Nat) (h28 : F.fn 70) (hro : F.round = none) (hn : 1 ≤ n) (l Bs B len cap : Nat) (A : Option Addr) (bs : List UInt8) (HL : Hid (bs.length = len)) (hlc : len ≤ cap) (hmax : len ≤ 140737488351232)
    (J Jx : List Int → World → Prop)
    (hY : Hid (∀ pre x W, J pre W → pre.length < nwords bs → YieldAt F (n - 1) Tryz.prog l #[.int .u64 x] W fun e W' =>
      (e = .returned (.bool true) ∧ J (pre ++ [x]) W' ∧ Keeps (WordsKept A len Bs) W W') ∨ (e = .returned (.bool false) ∧ Jx (pre ++ [x]) W')))
    (W : World) (HB : Hid (W.cell? ⟨Bs, 0, none⟩ = some (.slice A len cap))) (hR : Rd W B A len (vByte bs)) (h0 : J [] W) :
    CallsIn F n Tryz.prog 70 #[.func (.yield l) #[] #[], .pointer (some ⟨Bs, 0, none⟩)] W fun e W' => (∃ v, e = .returned v) ∧
      ((∃ ys, ys = wordsI bs ∧ J ys W') ∨ (∃ pre, True ∧ Jx pre W')) := by
  refine callsIn_of_wp Tryz.func70 rfl h28 ?_ hro
  simp only [Tryz.ntmps70, List.size_toArray, List.length_cons, List.length_nil, Nat.reduceAdd, Nat.reduceSub, Array.replicate_succ, Array.replicate_zero, List.push_toArray, List.append_toArray, List.nil_append, List.cons_append]
  gi_wp2
  gi_loopw [3] (fun v wr => ∃ k s : Nat, Hid (s = 8 * k) ∧ s < len + 8 ∧ v = .int .i64 (s : Int) ∧ J (wordsTo bs k) wr ∧ Keeps (WordsKept A len Bs) W wr)
    (fun v _ => len + 8 - (intOf v).toNat)
  case atStart => exact ⟨0, 0, rfl, by omega, rfl, h0, Keeps.refl _ _⟩
  case round =>
    obtain ⟨k, s, hs, hk, rfl, hJs, hnx⟩ := hrel
    have hBs : wr.cell? ⟨Bs, 0, none⟩ = some (.slice A len cap) := (hnx.cell (p := ⟨Bs, 0, none⟩) (.inl rfl)).trans HB.out
    by_cases hlt : s < len
    · obtain ⟨b, off, rfl, hb, hc0⟩ := hR (by omega)
      have Hc : Hid (∀ j, j < (group bs k).length → wr.cell? ⟨b, off + s + j, none⟩ = some (.int .u8 (((group bs k)[j]?.getD 0).toNat : Nat))) := by
        intro j hj
        rw [group_length] at hj
        rw [hnx.cell (p := ⟨b, off + s + j, none⟩) (.inr ⟨by omega, _, rfl, rfl⟩), Nat.add_assoc, hc0 (s + j) (by have := HL.out; have := hs.out; omega)]
        simp only [vByte, group, hs.out, List.getElem?_take, List.getElem?_drop]
        rw [if_pos (by omega)]
      have Hl : Hid ((group bs k).length = min 8 (len - s)) := by show _ = _; rw [group_length, HL.out, hs.out]
      clear hc0
      by_cases h8 : s + 8 ≤ len
      · gi_wp2
        gi_loop [4, 22] (fun v i => ∃ j : Nat, j ≤ 8 ∧ i = .int .i64 (j : Int) ∧ v = .int .u64 ((wordN ((group bs k).take j) : Nat) : Int))
          (fun _ i => 8 - (intOf i).toNat)
        case atStart => exact ⟨0, by omega, rfl, by simp [wordN]⟩
        case round =>
          obtain ⟨j, hj, rfl, rfl⟩ := hrel
          by_cases hj8 : j < 8
          · have hcj := Hc.out j (by have := Hl.out; omega)
            have HS := Lib.hid (word_step (group bs k) j (by omega) (by have := Hl.out; omega))
            gi_wp2
            exact ⟨⟨j + 1, by omega, by go_num, congrArg (Value.int .u64) HS.out⟩, by simp [intOf]; omega⟩
          · obtain rfl : j = 8 := by omega
            obtain ⟨fn, tmps, assign, body, hy, hR3⟩ := hY.out _ ((wordN ((group bs k).take (8)) : Nat) : Int) wr hJs (by rw [wordsTo_length]; unfold nwords; have := HL.out; have := hs.out; omega)
            gi_wp2
            refine hR3.mono ?_
            rintro e W3 (⟨rfl, hJ3, hk3⟩ | ⟨rfl, hJx3⟩)
            · gi_wp2
              exact ⟨⟨k + 1, s + 8, by show _ = _; rw [hs.out]; omega, by omega, by go_num, by rw [wordsTo_succ]; rw [group_take _ _ _ (by have := Hl.out; omega)] at hJ3; exact hJ3, hnx.trans hk3⟩, by simp [intOf]; omega⟩
            · gi_wp2
              refine bodyPost_ret (results_none rfl _ _ _) rfl ?_
              exact ⟨⟨_, rfl⟩, .inr ⟨_, trivial, hJx3⟩⟩
      · gi_wp2
        gi_loop [4, 22] (fun v i => ∃ j : Nat, j ≤ len - s ∧ i = .int .i64 (j : Int) ∧ v = .int .u64 ((wordN ((group bs k).take j) : Nat) : Int))
          (fun _ i => len - s - (intOf i).toNat)
        case atStart => exact ⟨0, by omega, rfl, by simp [wordN]⟩
        case round =>
          obtain ⟨j, hj, rfl, rfl⟩ := hrel
          by_cases hj8 : j < len - s
          · have hcj := Hc.out j (by have := Hl.out; omega)
            have HS := Lib.hid (word_step (group bs k) j (by omega) (by have := Hl.out; omega))
            gi_wp2
            exact ⟨⟨j + 1, by omega, by go_num, congrArg (Value.int .u64) HS.out⟩, by simp [intOf]; omega⟩
          · obtain rfl : j = len - s := by omega
            obtain ⟨fn, tmps, assign, body, hy, hR3⟩ := hY.out _ ((wordN ((group bs k).take (len - s)) : Nat) : Int) wr hJs (by rw [wordsTo_length]; unfold nwords; have := HL.out; have := hs.out; omega)
            gi_wp2
            refine hR3.mono ?_
            rintro e W3 (⟨rfl, hJ3, hk3⟩ | ⟨rfl, hJx3⟩)
            · gi_wp2
              exact ⟨⟨k + 1, s + 8, by show _ = _; rw [hs.out]; omega, by omega, by go_num, by rw [wordsTo_succ]; rw [group_take _ _ _ (by have := Hl.out; omega)] at hJ3; exact hJ3, hnx.trans hk3⟩, by simp [intOf]; omega⟩
            · gi_wp2
              refine bodyPost_ret (results_none rfl _ _ _) rfl ?_
              exact ⟨⟨_, rfl⟩, .inr ⟨_, trivial, hJx3⟩⟩
    · gi_wp2
      go_end0
      exact ⟨⟨_, rfl⟩, .inl ⟨_, by unfold wordsI nwords; congr 1; have := HL.out; have := hs.out; omega, hJs⟩⟩

theorem words_stops (F : Fence) (n : Nat) (h28 : F.fn 70) (hro : F.round = none) (hn : 1 ≤ n) (Bs B len cap : Nat) (A : Option Addr) (bs : List UInt8) (hl : bs.length = len) (hlc : len ≤ cap) (hmax : len ≤ 140737488351232)
    (w : World) (hBs : Bs < w.heap.size) (hB : B ≤ w.heap.size) (hc : w.cell? ⟨Bs, 0, none⟩ = some (.slice A len cap)) (hR : Rd w B A len (vByte bs)) :
    SeqStopsK F n Tryz.prog 70 #[.pointer (some ⟨Bs, 0, none⟩)] (fun x : Int => #[Value.int .u64 x]) (Keeps (WordsKept A len Bs)) (fun ys => ys = wordsI bs) (fun _ => True) (nwords bs) w := fun l J Jx W hW _ _ hY h0 =>
  words1_in F n h28 hro hn l Bs B len cap A bs hl hlc hmax J Jx hY W ((hW.cell (p := ⟨Bs, 0, none⟩) hBs).trans hc) (hR.below hW hB) h0

end Go.Proofs.YtldmokjpfnakkaaGreat

/- The walk of hash.Sum. -/
namespace Go.Proofs.YtldmokjpfnakkaaGreat
open Go.RowKit Go.Shelf
attribute [local go_sem] Oper.semAt_some

set_option maxRecDepth 100000 in
set_option maxHeartbeats 1000000 in
theorem hsum_any (label : ByteArray) (A : Option Addr) (len cap B : Nat) (ws : List Int) (w : World) (HL : Hid (ws.length = len)) (hlab : label.size ≤ 140737488351232) (hmax : len ≤ 140737488351232)
    (hB : B ≤ w.heap.size) (hR : Rd w B A len (vInt ws)) :
    Calls Tryz.prog 57 #[.string label, .slice A len cap] w fun e w' => e = .returned (.int .u64 (sumI label.data.toList ws)) ∧ Below w.heap.size w w' := by
  obtain ⟨c1, w1, hconv, hc1, hz1, hb1, hr1⟩ := conv_bytes (P := Tryz.prog) (w.alloc (.cells #[.int .u64 0] 78)) 9 39 5 label Tryz.underlying9 Tryz.underlying39 Tryz.underlying5
  rw [World.size_alloc] at hconv hz1 hb1 hr1
  have HZ := Lib.hid hz1; clear hz1
  refine (callsIn_wide (n := 5)).1 ?_
  refine callsIn_of_wp_marks Tryz.func57 rfl trivial ?_ rfl
  simp only [Tryz.ntmps57, List.size_toArray, List.length_cons, List.length_nil, Nat.reduceAdd, Nat.reduceSub, Array.replicate_succ, Array.replicate_zero, List.push_toArray, List.append_toArray, List.nil_append, List.cons_append]
  gi_wp2_with (refine ⟨trivial, ?_⟩; gi_at_call 56; refine (wordsOf_in Fence.wide _ trivial rfl _ _ _ _).mono ?_; rintro e w' ⟨rfl, rfl⟩)
  have bS1 : Boxed w1 w.heap.size 78 (.int .u64 0) := (hb1.block _ (by omega)).trans (Boxed.new w 78 (.int .u64 0))
  have bN := Boxed.new w1 39 (.slice (some ⟨w.heap.size + 1, 0, none⟩) label.size c1)
  have hB1 : Below w.heap.size w w1 := ((Below.refl _ w).alloc (Nat.le_refl _) (.cells #[.int .u64 0] 78)).trans (hb1.mono (by omega))
  have hB2 := hB1.alloc (by have := HZ.out; omega) (.cells #[.slice (some ⟨w.heap.size + 1, 0, none⟩) label.size c1] 39)
  refine wpIn_rangeFunc_ownG rfl (by decide) (gf := 70) (lb := #[.pointer (some ⟨w1.heap.size, 0, none⟩)]) rfl trivial (enters_of Tryz.func70 (by kernel_rfl) rfl)
    (words_stops Fence.wide _ trivial rfl (by decide) w1.heap.size (w.heap.size + 1 + 1) label.size c1 _ label.data.toList (by simp) hc1 hlab _ (by simp) (by have := HZ.out; simp; omega) bN.cell (hr1.alloc (by have := HZ.out; omega) _))
    (fun h k => h.trans k) ?hKb (Below.refl _ _) (fun _ => rfl)
    (fun pre W => Boxed W w.heap.size 78 (.int .u64 (mixAll 0 pre)) ∧ Below w.heap.size w W)
    (fun _ _ _ => False)
    (OwnFrom.and (Own.from (boxed_own _ _ _) _) (ownFrom_below (Nat.le_refl _) (by have := HZ.out; simp; omega)))
    (fun _ _ _ _ _ hs _ _ => hs)
    ⟨bS1.alloc _, hB2⟩
    (fun x => { tmps := #[.string label, .slice A len cap, undef, undef, .int .u64 0, .pointer (some ⟨w.heap.size, 0, none⟩), .int .u64 x, undef, undef, .string label, .slice (some ⟨w.heap.size + 1, 0, none⟩) label.size c1, .func (.func 70) #[] #[.pointer (some ⟨w1.heap.size, 0, none⟩)], .int .u64 x, undef, undef, undef, undef, undef, undef, undef, undef, undef, undef, undef, undef, undef, undef, undef, undef, undef, undef, undef, undef, undef, undef, undef, undef, undef, undef], defers := [] }) ?assign ?body ?done ?stop
  case hKb =>
    intro W l o o' hl hW _ _ k hk
    have hz := HZ.out
    rw [World.size_alloc] at hl
    refine World.putObj_heap_other ?_
    rcases hk with rfl | ⟨_, ad, h, rfl⟩
    · omega
    · injection h with h; subst h; simp; omega
  case assign =>
    intro l x W K hK
    gi_wp2
    exact hK
  case body =>
    rintro l pre x W ⟨hS, hB'⟩ _
    have hc := hS.cell
    have hf := hS.frozen
    gi_wp2_with (refine ⟨trivial, ?_⟩; gi_at_call 71; refine (CallsIn.inRound l (callsIn_wide.2 (mix_any _ _ _))).mono ?_; rintro e w' ⟨rfl, rfl⟩)
    refine ⟨(KeepsOthers.setCell _ _ _).from _, fun k hk => Below.heap_setCell _ _ _ _ ?_, by rw [mixAll_snoc]; exact hS.set _, hB'.setCell (p := ⟨w.heap.size, 0, none⟩) (Nat.le_refl _) _⟩
    have hz := HZ.out
    rcases hk with rfl | ⟨_, ad, h, rfl⟩
    · simp; omega
    · injection h with h; subst h; simp
  case done =>
    rintro D ys W hD rfl ⟨hS, hB'⟩ hK
    have hc := hS.cell
    have hf := hS.frozen
    gi_wp2_with (refine ⟨trivial, ?_⟩; gi_at_call 71; refine (callsIn_wide.2 (mix_any _ _ _)).mono ?_; rintro e w' ⟨rfl, rfl⟩)
    gi_loopw [8, 28] (fun _ i wr => ∃ j : Nat, j ≤ len ∧ i = .int .i64 (j : Int) ∧ Boxed wr w.heap.size 78 (.int .u64 (sumTo label.data.toList len ws j)) ∧ Below w.heap.size w wr ∧ Hid (wr.heap[D]? = some (.deferred (some []))))
      (fun _ i _ => len - (intOf i).toNat)
    case atStart =>
      exact ⟨0, by omega, rfl, by rw [sumTo_zero]; exact (hS.set _).set _, (hB'.setCell (p := ⟨w.heap.size, 0, none⟩) (Nat.le_refl _) _).setCell (p := ⟨w.heap.size, 0, none⟩) (Nat.le_refl _) _, (KeepsOthers.setCell _ _ _).same D _ ((KeepsOthers.setCell _ _ _).same D _ hK rfl) rfl⟩
    case round =>
      obtain ⟨j, hj, rfl, hS3, hB3, hK3⟩ := hrel
      have hc3 := hS3.cell
      have hf3 := hS3.frozen
      by_cases hlt : j < len
      · obtain ⟨b, off, rfl, hb, hcl⟩ := (hR.below hB3 hB).at_ hlt
        have hcl' : wr.cell? ⟨b, off + j, none⟩ = some (.int .i64 (ws[j]?.getD 0)) := hcl
        have HT := Lib.hid (sumTo_succ label.data.toList len ws j (by have := HL.out; omega))
        clear hcl
        gi_wp2_with (refine ⟨trivial, ?_⟩; gi_at_call 71; refine (callsIn_wide.2 (mix_any _ _ _)).mono ?_; rintro e w' ⟨rfl, rfl⟩)
        exact ⟨⟨j + 1, by omega, by go_num, by rw [HT.out]; exact hS3.set _, hB3.setCell (p := ⟨w.heap.size, 0, none⟩) (Nat.le_refl _) _, (KeepsOthers.setCell _ _ _).same D _ hK3.out rfl⟩, by simp [intOf]; omega⟩
      · obtain rfl : j = len := by omega
        gi_wp2_with (refine ⟨trivial, ?_⟩; gi_at_call 71; refine (callsIn_wide.2 (mix_any _ _ _)).mono ?_; rintro e w' ⟨rfl, rfl⟩)
        refine ⟨by simp, .inl ⟨_, _, rfl, run_takeDeferred hK3.out, ?_⟩⟩
        refine ⟨_, results_tmp rfl _ _ _, ?_, hB3.trans (belowK_b (w := w) (Nat.le_refl _) wr D _ _ (by have := HZ.out; simp at hD; omega) hK3.out rfl rfl)⟩
        rw [← sumTo_all _ _ _ HL.out]
        rfl
  case stop =>
    rintro D c pre W _ _ h _
    exact h.elim

end Go.Proofs.YtldmokjpfnakkaaGreat
