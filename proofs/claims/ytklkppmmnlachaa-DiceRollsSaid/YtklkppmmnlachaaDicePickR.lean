/- The reference's Sum and Pick, and Has. -/
import Derived.Test.YtklkppmmnlachaaDicePickP
namespace Go.Proofs.Ytklkppmmnlachaa
open Go.RowKit

theorem vInt_el (ws : List Int) (j : Nat) (hj : j < ws.length) : vInt ws j = .int .i64 (elW ws j) := by simp [vInt, elW, hj]

theorem Rd.off {w w' : World} {B gd n : Nat} {A : Option Addr} {f : Nat → Value} (h : Rd w B A n f) (hne : ∀ b off, A = some ⟨b, off, none⟩ → 0 < n → b ≠ gd) (hB : B ≤ w.heap.size) (hg : w.grownBy w' (some gd)) : Rd w' B A n f := by
  intro hn
  obtain ⟨b, off, e, hb, hc⟩ := h hn
  exact ⟨b, off, e, hb, fun j hj => (World.cell?_of_block (w := w) (hg.block b (by omega) (fun e' => hne b off e hn (by injection e')))).trans (hc j hj)⟩

set_option maxRecDepth 100000 in
set_option maxHeartbeats 1000000 in
theorem rsumw_any (A : Option Addr) (len cap : Nat) (ws : List Int) (w : World) (HL : Hid (ws.length = len)) (hmax : len ≤ 35184372088832) (HI : Hid (∀ j, -9223372036854775808 ≤ elW ws j ∧ elW ws j ≤ 9223372036854775807)) (hR : Rd w w.heap.size A len (vInt ws)) :
    Calls Try.prog 59 #[.slice A len cap] w fun e w' => e = .returned (.int .i64 (sumW ws)) ∧ w' = w := by
  go_enter Try.func59, Try.ntmps59
  go_wp2
  go_loopw [4, 5] (fun s i wr => wr = w ∧ ∃ k : Nat, k ≤ len ∧ i = .int .i64 (k : Int) ∧ s = .int .i64 (preW ws k) ∧ Hid (GoodW ws k) ∧ Hid (sumG (ws.drop k) (preW ws k) = sumW ws)) (fun _ i _ => len - (intOf i).toNat)
  case atStart => exact ⟨rfl, 0, by omega, rfl, by rw [preW_zero], Lib.hid (GoodW.zero ws), Lib.hid (sumW_eq ws).symm⟩
  case round =>
    obtain ⟨rfl, k, hk, rfl, rfl, hg, hs⟩ := hrel
    have hpr := hg.out.range
    by_cases hlt : k < len
    · obtain ⟨b, off, rfl, hbB, hc⟩ := hR.at_ hlt
      rw [vInt_el _ _ (by rw [HL.out]; exact hlt)] at hc
      have hei := HI.out k
      have HSU := Lib.hid (preW_succ ws k)
      by_cases hb : elW ws k < 0 ∨ 1152921504606846976 - preW ws k < elW ws k
      · have hz := sumG_bad (by rw [HL.out]; exact hlt) hb
        rw [hs.out] at hz
        have HZ := Lib.hid hz
        clear hz
        rcases (show elW ws k < 0 ∨ (0 ≤ elW ws k ∧ 1152921504606846976 - preW ws k < elW ws k) by omega) with h | ⟨h, h'⟩
        all_goals
          clear hb
          go_wp2
          go_ret
          rw [HZ.out]
          exact ⟨rfl, rfl⟩
      · have h0 : 0 ≤ elW ws k := by omega
        have h1 : elW ws k ≤ 1152921504606846976 - preW ws k := by omega
        have HG := Lib.hid (hg.out.succ h0 h1)
        have HS := Lib.hid ((sumG_go (by rw [HL.out]; exact hlt) h0 h1).trans hs.out)
        clear hb
        go_wp2
        exact ⟨⟨trivial, k + 1, by omega, by go_num, by rw [HSU.out], HG, HS⟩, by simp [intOf]; omega⟩
    · obtain rfl : k = len := by omega
      have HE := Lib.hid (show sumW ws = preW ws k by rw [← hs.out, ← HL.out]; exact sumG_end ws)
      go_wp2
      go_ret
      rw [HE.out]
      exact ⟨rfl, rfl⟩

set_option maxRecDepth 100000 in
set_option maxHeartbeats 1000000 in
theorem rhas_any (A : Option Addr) (len cap : Nat) (ws : List Int) (x : Int) (w : World) (HL : Hid (ws.length = len)) (hmax : len ≤ 35184372088832) (hR : Rd w w.heap.size A len (vInt ws)) :
    Calls Try.prog 41 #[.slice A len cap, .int .i64 x] w fun e w' => e = .returned (.bool (decide (x ∈ ws))) ∧ w' = w := by
  go_enter Try.func41, Try.ntmps41
  go_wp2
  go_loopw [5] (fun i wr => wr = w ∧ ∃ k : Nat, k ≤ len ∧ i = .int .i64 (k : Int) ∧ Hid (∀ j, j < k → elW ws j ≠ x)) (fun i _ => len - (intOf i).toNat)
  case atStart => exact ⟨rfl, 0, by omega, rfl, Lib.hid (fun j h => absurd h (by omega))⟩
  case round =>
    obtain ⟨rfl, k, hk, rfl, hno⟩ := hrel
    by_cases hlt : k < len
    · obtain ⟨b, off, rfl, hbB, hc⟩ := hR.at_ hlt
      rw [vInt_el _ _ (by rw [HL.out]; exact hlt)] at hc
      by_cases he : elW ws k = x
      · have HM := Lib.hid (show x ∈ ws by rw [← he]; unfold elW; rw [List.getElem?_eq_getElem (by rw [HL.out]; exact hlt)]; exact List.getElem_mem _)
        have q : (elW ws k == x) = true := by simpa using he
        go_wp2
        go_ret
        rw [decide_eq_true HM.out]
        exact ⟨rfl, rfl⟩
      · have HN := Lib.hid (show ∀ j, j < k + 1 → elW ws j ≠ x from fun j hj => by
          rcases (show j < k ∨ j = k by omega) with h | rfl
          · exact hno.out j h
          · exact he)
        have q : (elW ws k == x) = false := by simpa using he
        go_wp2
        exact ⟨⟨trivial, k + 1, by omega, by go_num, HN⟩, by simp [intOf]; omega⟩
    · obtain rfl : k = len := by omega
      have HM := Lib.hid (show ¬ x ∈ ws from fun hm => by
        obtain ⟨j, hj, e⟩ := List.mem_iff_getElem.1 hm
        exact hno.out j (by rw [← HL.out]; exact hj) (by unfold elW; rw [List.getElem?_eq_getElem hj]; exact e))
      go_wp2
      go_ret
      rw [decide_eq_false HM.out]
      exact ⟨rfl, rfl⟩

set_option maxRecDepth 100000 in
set_option maxHeartbeats 1000000 in
theorem rpick_any (gd : Nat) (A : Option Addr) (len cap : Nat) (bs : List UInt8) (label : ByteArray) (key at_ : Int) (B : Option Addr) (n c : Nat) (ws : List Int) (w : World) (HD : Hid (RDie w gd (.slice A len cap) label at_)) (hat : Hid (-9223372036854775808 ≤ at_ ∧ at_ ≤ 9223372036854775807))
    (HL : Hid (bs.length = len)) (hlab : label.size ≤ 35184372088832) (hlc : len ≤ cap) (hmax : len ≤ 35184372088832) (HKEY : Hid (bytesI label.data.toList bs = key)) (hR : Rd w w.heap.size A len (vByte bs))
    (HN : Hid (ws.length = n)) (hn : n ≤ 35184372088832) (HI : Hid (∀ j, -9223372036854775808 ≤ elW ws j ∧ elW ws j ≤ 9223372036854775807)) (hW : Rd w w.heap.size B n (vInt ws)) (hne : ∀ b off, B = some ⟨b, off, none⟩ → 0 < n → b ≠ gd) :
    Calls Try.prog 37 #[.pointer (some ⟨gd, 0, none⟩), .slice B n c] w fun e w' => e = .returned (.tuple #[.int .i64 (pickVal key at_ ws), .int .i64 (pickErr key at_ ws)]) ∧ RDie w' gd (.slice A len cap) label (pickAt key at_ ws) ∧ w.grownBy w' (some gd) := by
  have hgd : gd < w.heap.size := Blk.lt HD.out
  have hsc := sumG_cases ws 0 (Nat.zero_le _) (GoodW.zero ws)
  rw [← sumW_eq] at hsc
  by_cases hz : sumW ws = 0
  · have H1 := Lib.hid (show pickVal key at_ ws = 0 by unfold pickVal; rw [if_pos hz])
    have H2 := Lib.hid (show pickErr key at_ ws = 1 by unfold pickErr; rw [if_pos hz])
    have H3 := Lib.hid (show pickAt key at_ ws = at_ by unfold pickAt; rw [if_pos hz])
    clear hsc
    go_enter Try.func37, Try.ntmps37
    go_wp2_with (go_at_call 59; refine (rsumw_any _ _ _ ws _ HN hn HI hW).mono ?_; rintro e w2 ⟨rfl, rfl⟩; rw [hz])
    go_ret2
    rw [H1.out, H2.out, H3.out]
    exact ⟨rfl, HD.out, only_refl _ _⟩
  · obtain ⟨hg, hs⟩ := hsc.resolve_right hz
    have hgr := hg.range
    rw [← hs] at hgr
    have hs1 : 1 ≤ sumW ws := by omega
    have hvr := rollVal_range (key := key) (at_ := at_) (n := sumW ws) hs1
    have H2 := Lib.hid (show pickErr key at_ ws = rollErr key at_ (sumW ws) by unfold pickErr; rw [if_neg hz])
    have H3 := Lib.hid (show pickAt key at_ ws = rollAt key at_ (sumW ws) by unfold pickAt; rw [if_neg hz])
    have hz' : (sumW ws == 0) = false := by simpa using hz
    have HSU := Lib.hid hs
    have HG := Lib.hid hg
    clear hsc hg hs
    by_cases hE : rollErr key at_ (sumW ws) = 0
    · have H1 := Lib.hid (show pickVal key at_ ws = idxW ws (rollVal key at_ (sumW ws)) by unfold pickVal; rw [if_neg hz, if_pos hE])
      have hE' : (rollErr key at_ (sumW ws) == 0) = true := by simpa using hE
      go_enter Try.func37, Try.ntmps37
      go_wp2_with (first
        | (go_at_call 59; refine (rsumw_any _ _ _ ws _ HN hn HI hW).mono ?_; rintro e w2 ⟨rfl, rfl⟩)
        | (go_at_call 32; refine (rroll_any _ _ _ _ bs _ _ _ _ HD hat (by omega) HL hlab hlc hmax hR).mono ?_; rw [HKEY.out]; rintro e w3 ⟨rfl, hD3, ho3⟩))
      have hW3 := (hW.off hne (Nat.le_refl _) ho3).more ho3.size
      have hn0 : 0 < n := by
        rcases Nat.eq_zero_or_pos n with h | h
        · have h1 := HSU.out
          rw [HN.out, h, preW_zero] at h1
          omega
        · exact h
      generalize hr0 : rollVal key at_ (sumW ws) = R at *
      have HR0 := Lib.hid hr0
      have hRn := hvr.2
      rw [HSU.out, HN.out] at hRn
      have HG' := HG
      rw [HN.out] at HG'
      clear hr0
      go_loopw [7, 9] (fun r i wr => wr = w3 ∧ ∃ k : Nat, k < n ∧ i = .int .i64 (k : Int) ∧ r = .int .i64 (R - preW ws k) ∧ Hid (preW ws k ≤ R) ∧ Hid (∀ j, j < k → preW ws (j + 1) ≤ R)) (fun _ i _ => n - (intOf i).toNat)
      case atStart => exact ⟨rfl, 0, hn0, rfl, by rw [preW_zero, Int.sub_zero], Lib.hid (by rw [preW_zero]; exact hvr.1), Lib.hid (fun j h => absurd h (by omega))⟩
      case round =>
        obtain ⟨rfl, k, hk, rfl, rfl, hle, hlo⟩ := hrel
        obtain ⟨b, off, rfl, hbB, hc⟩ := hW3.at_ hk
        rw [vInt_el _ _ (by rw [HN.out]; exact hk)] at hc
        have hgk := HG'.out k hk
        have hpk := (show GoodW ws k from fun i hi => HG'.out i (by omega)).range
        have hle' := hle.out
        have HSK := Lib.hid (preW_succ ws k)
        by_cases hge : elW ws k ≤ R - preW ws k
        · have HK1 := Lib.hid (show preW ws (k + 1) ≤ R by rw [HSK.out]; omega)
          have hk1 : k + 1 < n := by
            rcases (show k + 1 < n ∨ k + 1 = n by omega) with h | h
            · exact h
            · have := HK1.out
              rw [h] at this
              omega
          have HLO := Lib.hid (show ∀ j, j < k + 1 → preW ws (j + 1) ≤ R from fun j hj => by
            rcases (show j < k ∨ j = k by omega) with h | rfl
            · exact hlo.out j h
            · exact HK1.out)
          go_wp2
          exact ⟨⟨trivial, k + 1, hk1, by go_num, by rw [HSK.out]; congr 1; omega, HK1, HLO⟩, by simp [intOf]; omega⟩
        · have HX := Lib.hid (show idxW ws R = k by
            have := idxW_at (ws := ws) (r := R) (k := 0) (i := k) (by rw [HN.out]; omega) (fun j hj => by rw [Nat.zero_add]; exact hlo.out j hj) (by rw [Nat.zero_add, HSK.out]; omega)
            rwa [List.drop_zero, preW_zero, Int.sub_zero] at this)
          go_wp2
          go_ret2
          rw [H1.out, H2.out, H3.out, HX.out, hE]
          exact ⟨rfl, hD3, ho3⟩
    · have H1 := Lib.hid (show pickVal key at_ ws = 0 by unfold pickVal; rw [if_neg hz, if_neg hE])
      have hE' : (rollErr key at_ (sumW ws) == 0) = false := by simpa using hE
      go_enter Try.func37, Try.ntmps37
      go_wp2_with (first
        | (go_at_call 59; refine (rsumw_any _ _ _ ws _ HN hn HI hW).mono ?_; rintro e w2 ⟨rfl, rfl⟩)
        | (go_at_call 32; refine (rroll_any _ _ _ _ bs _ _ _ _ HD hat (by omega) HL hlab hlc hmax hR).mono ?_; rw [HKEY.out]; rintro e w3 ⟨rfl, hD3, ho3⟩))
      go_loopw [7, 9] (fun r i wr => wr = w3 ∧ i = .int .i64 0) (fun _ _ _ => 0)
      case atStart => exact ⟨rfl, rfl⟩
      case round =>
        obtain ⟨rfl, rfl⟩ := hrel
        go_wp2
        go_ret2
        rw [H1.out, H2.out, H3.out]
        exact ⟨rfl, hD3, ho3⟩
end Go.Proofs.Ytklkppmmnlachaa
