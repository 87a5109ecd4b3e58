/- The walks of dice.Join and worldmintref04.Join. -/
import Derived.Test.YtklkppmmnlachaaByteRows
import Derived.Test.YtklkppmmnlachaaDiceMore
import Derived.Test.YtklkppmmnlachaaMem2
namespace Go.Proofs.Ytklkppmmnlachaa
open Go.RowKit

def seedsB : List UInt8 := [115, 101, 101, 100, 115]
def partB : List UInt8 := [112, 97, 114, 116]
/-- The number of the first k seeds. -/
def joinN (L : List (List UInt8)) (k : Nat) : Int := (L.take k).foldl (fun s b => pairI s (bytesI partB b)) (sumI seedsB [(L.length : Nat)])
theorem joinN_zero (L : List (List UInt8)) : joinN L 0 = sumI seedsB [(L.length : Nat)] := rfl
theorem joinN_succ (L : List (List UInt8)) (k : Nat) (hk : k < L.length) : joinN L (k + 1) = pairI (joinN L k) (bytesI partB (L[k]?.getD [])) := by
  unfold joinN
  rw [List.take_succ_eq_append_getElem hk, List.foldl_append]
  simp [hk]
theorem sumI_in (label : List UInt8) (ws : List Int) : InU (sumI label ws) := mixI_in _ _
theorem joinN_in (L : List (List UInt8)) : ∀ k, k ≤ L.length → InU (joinN L k)
  | 0, _ => by rw [joinN_zero]; exact sumI_in _ _
  | k + 1, h => by rw [joinN_succ L k (by omega)]; exact sumI_in _ _
/-- A byte of a number, from the low end. -/
def byteAt (N : Int) (j : Nat) : UInt8 := UInt8.ofNat (N.toNat / 256 ^ j)
def joinTo (N : Int) (i : Nat) : List UInt8 := (List.range 8).map fun j => if j < i then byteAt N j else 0
def joinL (L : List (List UInt8)) : List UInt8 := joinTo (joinN L L.length) 8
theorem joinTo_length (N : Int) (i : Nat) : (joinTo N i).length = 8 := by simp [joinTo]
theorem joinL_length (L : List (List UInt8)) : (joinL L).length = 8 := joinTo_length _ _
theorem joinTo_zero (N : Int) : joinTo N 0 = [0, 0, 0, 0, 0, 0, 0, 0] := by simp [joinTo, List.range_succ]
theorem joinTo_set (N : Int) (i : Nat) : (joinTo N i).set i (byteAt N i) = joinTo N (i + 1) := by
  refine List.ext_getElem (by simp [joinTo]) fun k h1 h2 => ?_
  have hk : k < 8 := by simpa [joinTo] using h2
  rw [List.getElem_set]
  by_cases e : i = k
  · subst e; simp [joinTo]
  · rw [if_neg e]
    simp only [joinTo, List.getElem_map, List.getElem_range]
    by_cases h : k < i
    · rw [if_pos h, if_pos (by omega)]
    · rw [if_neg h, if_neg (by omega)]
theorem joinTo_take (N : Int) (i : Nat) (hi : i < 8) : (joinTo N 8).take (i + 1) = (joinTo N 8).take i ++ [byteAt N i] := by
  rw [List.take_succ_eq_append_getElem (by simp [joinTo]; omega)]
  simp [joinTo, hi]
theorem byteAt_val (N : Int) (i : Nat) : (((byteAt N i).toNat : Nat) : Int) = ((N.toNat / 256 ^ i % 256 : Nat) : Int) := by unfold byteAt; rw [UInt8.toNat_ofNat']
theorem byteAt_shr {N : Int} {i : Nat} (h : 0 ≤ N) : N / 2 ^ (8 * i) % 256 = (((byteAt N i).toNat : Nat) : Int) := by
  rw [byteAt_val]
  obtain ⟨n, rfl⟩ := Int.eq_ofNat_of_zero_le h
  rw [Int.pow_mul, show (2 : Int) ^ 8 = 256 by decide, Int.toNat_natCast]
  simp only [Int.natCast_emod, Int.natCast_ediv, Int.natCast_pow]
  rfl
theorem byteAt_div {N : Int} {i : Nat} (h : 0 ≤ N) : N / 256 ^ i % 256 = (((byteAt N i).toNat : Nat) : Int) := by
  rw [byteAt_val]
  obtain ⟨n, rfl⟩ := Int.eq_ofNat_of_zero_le h
  rw [Int.toNat_natCast]
  simp only [Int.natCast_emod, Int.natCast_ediv, Int.natCast_pow]
  rfl

set_option maxRecDepth 100000 in
set_option maxHeartbeats 1000000 in
theorem join_any (A : Option Addr) (n cap : Nat) (L : List (List UInt8)) (w : World) (hn : n ≤ cap) (hcap : cap ≤ 9223372036854775807) (hR : RdRows w A n L) (hm : Hid (∀ j : Nat, (L[j]?.getD []).length ≤ 35184372088832)) :
    Calls Try.prog 30 #[.slice A n cap] w fun e w' => ∃ g, e = .returned (.slice (some ⟨g, 0, none⟩) 8 8) ∧ w'.ownsRow w.heap.size 5 1 (.slice (some ⟨g, 0, none⟩) 8 8) 8 ((joinL L).map fun b => Value.int .u8 ((b.toNat : Nat) : Int)) ∧ Below w.heap.size w w' := by
  have HL := Lib.hid hR.1
  have hS : Rd (w.alloc (.cells #[.int .i64 (n : Int)] 3)) (w.heap.size + 1) (some ⟨w.heap.size, 0, none⟩) 1 (vInt [(n : Int)]) := rd_lit1 _ _ _
  go_enter Try.func30, Try.ntmps30
  go_wp2_with (go_at_call 54; ((with_reducible refine (hsum_any ⟨#[115, 101, 101, 100, 115]⟩ _ 1 1 (w.heap.size + 1) [(n : Int)] _ (Lib.hid rfl) (by decide) (by decide) (by simp) hS).mono ?_); rintro e w1 ⟨rfl, hb1⟩))
  have hb : Below w.heap.size w w1 := ((Below.refl _ w).alloc (Nat.le_refl _) _).trans (hb1.mono (by simp))
  clear hb1 hS
  go_loopw [3, 5, 14] (fun v _ i wr => ∃ k : Nat, k ≤ n ∧ i = .int .i64 (k : Int) ∧ v = .int .u64 (joinN L k) ∧ Below w.heap.size w wr) (fun _ _ i _ => n - (intOf i).toNat)
  case atStart => exact ⟨0, by omega, rfl, by rw [joinN_zero, HL.out]; rfl, hb⟩
  case round =>
    obtain ⟨k, hk, rfl, rfl, hbr⟩ := hrel
    clear hb
    by_cases hlt : k < n
    · obtain ⟨b, off, A', m, c', bs, rfl, hblt, hcell, HB, HM, hmc, hc', hRr⟩ := (hR.all hbr).at_ hlt
      have hm' : m ≤ 35184372088832 := by have := hm.out k; rw [← HB.out, HM.out] at this; exact this
      have HS := Lib.hid (joinN_succ L k (by rw [HL.out]; exact hlt))
      rw [← HB.out] at HS
      go_wp2_with (first
        | (go_at_call 49; ((with_reducible refine (hbytes_any ⟨#[112, 97, 114, 116]⟩ _ _ _ _ bs _ HM (by decide) hmc hm' (Nat.le_refl _) hRr).mono ?_); rintro e w2 ⟨rfl, hb2⟩; replace hbr := bt hbr hb2; clear hb2))
        | (go_at_call 55; ((with_reducible refine (hpair_any _ _ _).mono ?_); rintro e w2 ⟨rfl, hb2⟩; replace hbr := bt hbr hb2; clear hb2)))
      exact ⟨⟨k + 1, by omega, by go_num, by rw [HS.out]; rfl, hbr⟩, by simp [intOf]; omega⟩
    · obtain rfl : k = n := by omega
      obtain ⟨i0, hi, hz0, hz1, hz2⟩ := info_parts info_few
      obtain ⟨w2, hmk, hown, hb2, hlt2⟩ := make_all (P := Try.prog) wr 28 5 i0 _ 1 Try.underlying28 hi hz0 hz1 hz2 rfl .i64 .i64 8 (by decide) (by decide)
      generalize hg : wr.heap.size = g at *
      have hmk2 : (Instr.makeSlice 28 (.int .i64 8) (.int .i64 8)).run Try.prog wr = .ok (.slice (some ⟨g, 0, none⟩) 8 8) w2 := hmk
      have hbw : w.heap.size ≤ g := by rw [← hg]; exact hbr.size
      replace hbr := hbr.trans (hb2.mono hbw)
      clear hmk hg hb2
      have hN := joinN_in L k (by rw [HL.out]; omega)
      obtain ⟨hN0, hN1'⟩ := hN
      have HJ := Lib.hid (show joinL L = joinTo (joinN L k) 8 by unfold joinL; rw [HL.out])
      generalize joinN L k = N at *
      have hN1 : N ≤ 18446744073709551615 := by omega
      have hown0 : w2.ownsRow w.heap.size 5 1 (.slice (some ⟨g, 0, none⟩) 8 8) 8 ((joinTo N 0).map fun b => Value.int .u8 ((b.toNat : Nat) : Int)) := by
        rw [joinTo_zero]
        exact own_lower hown hbw
      clear hown hN1'
      go_wp2
      go_loopw [7, 26] (fun _ v wr => ∃ i : Nat, i ≤ 8 ∧ v = .int .i64 (i : Int) ∧ wr.ownsRow w.heap.size 5 1 (.slice (some ⟨g, 0, none⟩) 8 8) 8 ((joinTo N i).map fun b => Value.int .u8 ((b.toNat : Nat) : Int)) ∧ Below w.heap.size w wr) (fun _ v _ => 8 - (intOf v).toNat)
      case atStart => exact ⟨0, by omega, rfl, hown0, hbr⟩
      case round =>
        clear hown0 hbr hmk2
        obtain ⟨i, hi8, rfl, hown, hbr⟩ := hrel
        by_cases hlt : i < 8
        · obtain ⟨hc, hf⟩ := own_byte hown hlt
          have HB := Lib.hid (byteAt_shr (i := i) hN0)
          have hst := own_byte_set hown i (byteAt N i)
          rw [joinTo_set] at hst
          have hst2 := hbr.setCell (p := ⟨g, i, none⟩) hbw (.int .u8 (((byteAt N i).toNat : Nat) : Int))
          have HST := Lib.hid hst
          have HST2 := Lib.hid hst2
          clear hst hst2
          go_wp2
          rw [HB.out]
          exact ⟨⟨i + 1, by omega, by go_num, HST.out, HST2.out⟩, by simp [intOf]; omega⟩
        · obtain rfl : i = 8 := by omega
          go_wp2
          go_ret
          exact ⟨g, rfl, by rw [HJ.out]; exact hown, hbr⟩

set_option maxRecDepth 100000 in
set_option maxHeartbeats 1000000 in
theorem rjoin_any (A : Option Addr) (n cap : Nat) (L : List (List UInt8)) (w : World) (hn : n ≤ cap) (hcap : cap ≤ 9223372036854775807) (hR : RdRows w A n L) (hm : Hid (∀ j : Nat, (L[j]?.getD []).length ≤ 35184372088832)) :
    Calls Try.prog 31 #[.slice A n cap] w fun e w' => ∃ A' c, e = .returned (.slice A' 8 c) ∧ w'.ownsRow w.heap.size 5 1 (.slice A' 8 c) 8 ((joinL L).map fun b => Value.int .u8 ((b.toNat : Nat) : Int)) ∧ Below w.heap.size w w' := by
  have HL := Lib.hid hR.1
  obtain ⟨i0, hi, hz0, hz1, hz2⟩ := info_parts info_few
  have hS : Rd (w.alloc (.cells #[.int .i64 (n : Int)] 3)) (w.heap.size + 1) (some ⟨w.heap.size, 0, none⟩) 1 (vInt [(n : Int)]) := rd_lit1 _ _ _
  go_enter Try.func31, Try.ntmps31
  go_wp2_with (go_at_call 51; ((with_reducible refine (rsum_any ⟨#[115, 101, 101, 100, 115]⟩ _ 1 1 (w.heap.size + 1) [(n : Int)] _ (Lib.hid rfl) (by decide) (by decide) (by simp) hS).mono ?_); rintro e w1 ⟨rfl, hb1⟩))
  have hb : Below w.heap.size w w1 := ((Below.refl _ w).alloc (Nat.le_refl _) _).trans (hb1.mono (by simp))
  clear hb1 hS
  go_loopw [3, 4] (fun v i wr => ∃ k : Nat, k ≤ n ∧ i = .int .i64 (k : Int) ∧ v = .int .u64 (joinN L k) ∧ Below w.heap.size w wr) (fun _ i _ => n - (intOf i).toNat)
  case atStart => exact ⟨0, by omega, rfl, by rw [joinN_zero, HL.out]; rfl, hb⟩
  case round =>
    obtain ⟨k, hk, rfl, rfl, hbr⟩ := hrel
    clear hb
    by_cases hlt : k < n
    · obtain ⟨b, off, A', m, c', bs, rfl, hblt, hcell, HB, HM, hmc, hc', hRr⟩ := (hR.all hbr).at_ hlt
      have hm' : m ≤ 35184372088832 := by have := hm.out k; rw [← HB.out, HM.out] at this; exact this
      have HS := Lib.hid (joinN_succ L k (by rw [HL.out]; exact hlt))
      rw [← HB.out] at HS
      go_wp2_with (first
        | (go_at_call 52; ((with_reducible refine (rbytes_any ⟨#[112, 97, 114, 116]⟩ _ _ _ _ bs _ HM (by decide) hmc hm' (Nat.le_refl _) hRr).mono ?_); rintro e w2 ⟨rfl, hb2⟩; replace hbr := bt hbr hb2; clear hb2))
        | (go_at_call 56; ((with_reducible refine (rpair_any _ _ _).mono ?_); rintro e w2 ⟨rfl, hb2⟩; replace hbr := bt hbr hb2; clear hb2)))
      exact ⟨⟨k + 1, by omega, by go_num, by rw [HS.out]; rfl, hbr⟩, by simp [intOf]; omega⟩
    · obtain rfl : k = n := by omega
      have hN := joinN_in L k (by rw [HL.out]; omega)
      obtain ⟨hN0, hN1'⟩ := hN
      have HJ := Lib.hid (show joinL L = joinTo (joinN L k) 8 by unfold joinL; rw [HL.out])
      generalize joinN L k = N at *
      have hN1 : N ≤ 18446744073709551615 := by omega
      clear hN1'
      go_wp2
      go_loopw [3, 5, 6] (fun s v j wr => ∃ i : Nat, ∃ M : Int, i ≤ 8 ∧ j = .int .i64 (i : Int) ∧ s = .int .u64 M ∧ 0 ≤ M ∧ M ≤ 18446744073709551615 ∧ Hid (M = N / 256 ^ i) ∧ wr.ownsRow w.heap.size 5 1 v i (((joinTo N 8).take i).map fun b => Value.int .u8 ((b.toNat : Nat) : Int)) ∧ Below w.heap.size w wr) (fun _ _ v _ => 8 - (intOf v).toNat)
      case atStart => exact ⟨0, N, by omega, rfl, rfl, hN0, hN1, Lib.hid (by simp), World.ownsRow_nil _ _ _ _, hbr⟩
      case round =>
        clear hbr
        obtain ⟨i, M, hi8, rfl, rfl, hM0, hM1, HM, hown, hbr⟩ := hrel
        obtain ⟨v5, rfl⟩ : ∃ x, x = u5 := ⟨_, rfl⟩
        by_cases hlt : i < 8
        · obtain ⟨g, c', w3, hap, hown3, hg3, hat3, hs3⟩ := run_append_one (P := Try.prog) wr w.heap.size 28 28 5 i0 _ 1 Try.underlying28 hi hz0 hz1 hz2 rfl v5 i _ hown (.int .u8 (M % 256)) rfl (by unfold maxLen; omega) (by omega) hbr.size
          have HA := Lib.hid hap; clear hap
          have HE := Lib.hid (show M % 256 = (((byteAt N i).toNat : Nat) : Int) by rw [HM.out]; exact byteAt_div hN0)
          go_wp2_with (at_builtin; refine wpList_append_run HA.out rfl rfl rfl rfl ?_)
          refine ⟨⟨i + 1, M / 256, by omega, by go_num, rfl, by omega, by omega, Lib.hid ?_, ?_, hbr.grown hg3 hbr.size (fun k e => (hown.lt k e).1)⟩, by simp [intOf]; omega⟩
          · rw [HM.out, Int.ediv_ediv_of_nonneg (by exact Int.le_of_lt (Int.pow_pos (by decide))), Int.pow_succ]
          · rw [joinTo_take N i hlt, List.map_append]
            rw [HE.out] at hown3
            exact hown3
        · obtain rfl : i = 8 := by omega
          obtain ⟨A', c', rfl⟩ := own_slice hown
          rw [List.take_of_length_le (by rw [joinTo_length]; omega)] at hown
          go_wp2
          go_ret
          exact ⟨A', c', rfl, by rw [HJ.out]; exact hown, hbr⟩

/-- A seed with one byte turned does not open the commitment. -/
theorem seeds_one (bs : List UInt8) (k : Nat) (b : UInt8) (hk : k < bs.length) : (commitI bs == commitI (bs.set k (xorB (bs[k]?.getD 0) b))) = (((b.toNat : Nat) : Int) == 0) := by
  rw [Bool.eq_iff_iff, beq_iff_eq, beq_iff_eq]
  unfold commitI
  rw [bytes_one seedB (a := bs) (b := bs.set k (xorB (bs[k]?.getD 0) b)) (g := k / 8) (by simp) (by unfold nwords; omega) (fun j hj => (group_set j hj).symm)]
  have e1 : bs[k]?.getD 0 = bs[k] := by simp [hk]
  rw [e1]
  constructor
  · intro h
    have h2 : (bs.set k (xorB bs[k] b))[k]? = bs[k]? := by rw [← h]
    rw [List.getElem?_set_self hk, List.getElem?_eq_getElem hk] at h2
    injection h2 with h2
    unfold xorB at h2
    have h3 : b = 0 := by
      have := congrArg (fun x => bs[k] ^^^ x) h2
      simpa [← UInt8.xor_assoc] using this
    subst h3; rfl
  · intro h
    have h3 : b = 0 := UInt8.toNat_inj.1 (by have : b.toNat = 0 := by omega
                                             rw [this]; rfl)
    subst h3
    unfold xorB
    simp

end Go.Proofs.Ytklkppmmnlachaa
