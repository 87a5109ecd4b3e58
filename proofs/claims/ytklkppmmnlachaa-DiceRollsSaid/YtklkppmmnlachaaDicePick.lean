/- The walk of (*dice.Dice).Pick, with sort.Search. -/
import Derived.Test.YtklkppmmnlachaaDicePickR
namespace Go.Proofs.Ytklkppmmnlachaa
open Go.RowKit

set_option maxRecDepth 100000 in
set_option maxHeartbeats 1000000 in
/-- The closure of Pick: result < sums[i]. -/
theorem pick1_any (gr gs gb n c : Nat) (R : Int) (f : Nat → Int) (i : Nat) (w : World) (hi : i < n) (hr : w.cell? ⟨gr, 0, none⟩ = some (.int .i64 R)) (hs : w.cell? ⟨gs, 0, none⟩ = some (.slice (some ⟨gb, 0, none⟩) n c)) (hc : w.cell? ⟨gb, i, none⟩ = some (.int .i64 (f i))) :
    Calls Try.prog 58 #[.int .i64 (i : Int), .pointer (some ⟨gr, 0, none⟩), .pointer (some ⟨gs, 0, none⟩)] w fun e w' => e = .returned (.bool (decide (R < f i))) ∧ w' = w.drew := by
  go_enter Try.func58, Try.ntmps58
  go_wp2
  go_region
  go_wp2
  go_ret
  exact ⟨rfl, rfl⟩

structure SameHeap (a w : World) : Prop where
  os : w.os = a.os
  tape : w.tape = a.tape
  output : w.output = a.output
  heap : w.heap = a.heap
theorem SameHeap.refl (w : World) : SameHeap w w := ⟨rfl, rfl, rfl, rfl⟩
theorem SameHeap.drew {a w : World} (h : SameHeap a w) : SameHeap a w.drew := ⟨h.os, h.tape, h.output, h.heap⟩
theorem SameHeap.cell {a w : World} (h : SameHeap a w) (p : Addr) : w.cell? p = a.cell? p := by unfold World.cell?; rw [h.heap]

set_option maxRecDepth 100000 in
set_option maxHeartbeats 1000000 in
theorem search_any (gr gs gb n c : Nat) (R : Int) (f : Nat → Int) (w : World) (hn : n ≤ 35184372088832) (hr : w.cell? ⟨gr, 0, none⟩ = some (.int .i64 R)) (hs : w.cell? ⟨gs, 0, none⟩ = some (.slice (some ⟨gb, 0, none⟩) n c)) (hc : Hid (∀ i, i < n → w.cell? ⟨gb, i, none⟩ = some (.int .i64 (f i)))) (hm : Hid (∀ i j, i ≤ j → j < n → f i ≤ f j)) :
    Calls Try.prog 57 #[.int .i64 (n : Int), .func (.func 58) #[] #[.pointer (some ⟨gr, 0, none⟩), .pointer (some ⟨gs, 0, none⟩)]] w fun e w' => (∃ k : Nat, k ≤ n ∧ e = .returned (.int .i64 (k : Int)) ∧ (∀ j, j < k → f j ≤ R) ∧ (∀ j, k ≤ j → j < n → R < f j)) ∧ SameHeap w w' := by
  go_enter Try.func57, Try.ntmps57
  go_wp2
  go_loopw [5, 6] (fun a b wr => ∃ lo hi : Nat, lo ≤ hi ∧ hi ≤ n ∧ a = .int .i64 (lo : Int) ∧ b = .int .i64 (hi : Int) ∧ Hid (∀ j, j < lo → f j ≤ R) ∧ Hid (∀ j, hi ≤ j → j < n → R < f j) ∧ SameHeap w wr) (fun a b _ => (intOf b - intOf a).toNat)
  case atStart => exact ⟨0, n, by omega, by omega, rfl, rfl, Lib.hid (fun j h => absurd h (by omega)), Lib.hid (fun j h h' => absurd h (by omega)), SameHeap.refl _⟩
  case round =>
    obtain ⟨lo, hi, hlh, hhn, rfl, rfl, hlo, hhi, hsh⟩ := hrel
    by_cases hlt : lo < hi
    · obtain ⟨mid, hmid⟩ : ∃ mid : Nat, mid = (lo + hi) / 2 := ⟨_, rfl⟩
      have hm1 : lo ≤ mid := by omega
      have hm2 : mid < hi := by omega
      have hmi : ((lo : Int) + (hi : Int)) / 2 = (mid : Int) := by omega
      have hr' := (hsh.cell _).trans hr
      have hs' := (hsh.cell _).trans hs
      have hc' := (hsh.cell _).trans (hc.out mid (by omega))
      have hd := hsh.drew
      clear hmid
      by_cases hlt2 : R < f mid
      · have q : decide (R < f mid) = true := decide_eq_true hlt2
        go_wp2_with (go_at_call 58; refine (pick1_any gr gs gb n c R f mid _ (by omega) hr' hs' hc').mono ?_; rintro e w2 ⟨rfl, rfl⟩)
        exact ⟨⟨lo, mid, hm1, by omega, rfl, rfl, hlo, Lib.hid (fun j h h' => Int.lt_of_lt_of_le hlt2 (hm.out mid j h h')), hd⟩, by simp [intOf]; omega⟩
      · have q : decide (R < f mid) = false := decide_eq_false hlt2
        go_wp2_with (go_at_call 58; refine (pick1_any gr gs gb n c R f mid _ (by omega) hr' hs' hc').mono ?_; rintro e w2 ⟨rfl, rfl⟩)
        exact ⟨⟨mid + 1, hi, by omega, hhn, by go_num, rfl, Lib.hid (fun j h => by have := hm.out j mid (by omega) (by omega); omega), hhi, hd⟩, by simp [intOf]; omega⟩
    · obtain rfl : lo = hi := by omega
      go_wp2
      go_ret
      exact ⟨⟨lo, hhn, rfl, hlo.out, hhi.out⟩, hsh⟩

def sumsTo (ws : List Int) (n k : Nat) : List Int := (List.range n).map fun j : Nat => if j < k then preW ws (j + 1) else 0
theorem sumsTo_zero (ws : List Int) (n : Nat) : (sumsTo ws n 0).map (Value.int .i64) = List.replicate n (Value.int .i64 0) := by
  unfold sumsTo
  simp [List.map_const']
theorem sumsTo_set (ws : List Int) (n k : Nat) : (sumsTo ws n k).set k (preW ws (k + 1)) = sumsTo ws n (k + 1) := by
  refine List.ext_getElem (by simp [sumsTo]) fun i h1 h2 => ?_
  rw [List.getElem_set]
  simp only [sumsTo, List.getElem_map, List.getElem_range]
  by_cases e : k = i
  · subst e; simp
  · rw [if_neg e]
    by_cases h : i < k
    · rw [if_pos h, if_pos (by omega)]
    · rw [if_neg h, if_neg (by omega)]
theorem sumsTo_at (ws : List Int) (n j : Nat) (h : j < n) : (sumsTo ws n n)[j]?.getD 0 = preW ws (j + 1) := by simp [sumsTo, h]

set_option maxRecDepth 100000 in
set_option maxHeartbeats 1000000 in
theorem pick_any (gd : Nat) (key at_ : Int) (B : Option Addr) (n c : Nat) (ws : List Int) (w : World) (HD : Hid (Die w gd key at_)) (hat : Hid (-9223372036854775808 ≤ at_ ∧ at_ ≤ 9223372036854775807))
    (HN : Hid (ws.length = n)) (hn : n ≤ 35184372088832) (HI : Hid (∀ j, -9223372036854775808 ≤ elW ws j ∧ elW ws j ≤ 9223372036854775807)) (hW : Rd w w.heap.size B n (vInt ws)) :
    Calls Try.prog 36 #[.pointer (some ⟨gd, 0, none⟩), .slice B n c] w fun e w' => e = .returned (.tuple #[.int .i64 (pickVal key at_ ws), .int .i64 (pickErr key at_ ws)]) ∧ Die w' gd key (pickAt key at_ ws) ∧ w.grownBy w' (some gd) := by
  have hgd : gd < w.heap.size := Blk.lt HD.out
  obtain ⟨i0, hi, hz0, hz1, hz2⟩ := info_parts infoInt
  obtain ⟨w1, hmk, hown1, hb1, hs1⟩ := make_all (P := Try.prog) w 29 3 i0 _ 8 Try.underlying29 hi hz0 hz1 hz2 rfl .i64 .i64 n (by omega) (by unfold maxLen; omega)
  rw [← sumsTo_zero ws] at hown1
  generalize hg : w.heap.size = g at *
  have HGE := Lib.hid hg
  clear hg
  generalize hgs : w1.heap.size = gs at *
  have HGS := Lib.hid hgs
  clear hgs
  go_enter Try.func36, Try.ntmps36
  go_wp2
  rw [HGS.out]
  have hB0 : Blk (w1.alloc (.cells #[.slice (some ⟨g, 0, none⟩) n n] 29)) gs 29 #[.slice (some ⟨g, 0, none⟩) n n] := by rw [← HGS.out]; exact Blk.new _ _ _
  have hb0 : Below g w (w1.alloc (.cells #[.slice (some ⟨g, 0, none⟩) n n] 29)) := hb1.alloc (by rw [HGS.out]; omega) _
  have hown0 := hown1.alloc (.cells #[.slice (some ⟨g, 0, none⟩) n n] 29)
  go_loopw [7, 17] (fun s i wr => ∃ k : Nat, k ≤ n ∧ i = .int .i64 (k : Int) ∧ s = .int .i64 (preW ws k) ∧ Hid (GoodW ws k) ∧ Hid (sumG (ws.drop k) (preW ws k) = sumW ws) ∧ wr.ownsRow g 3 1 (.slice (some ⟨g, 0, none⟩) n n) n ((sumsTo ws n k).map (Value.int .i64)) ∧ Blk wr gs 29 #[.slice (some ⟨g, 0, none⟩) n n] ∧ Below g w wr) (fun _ i _ => n - (intOf i).toNat)
  case atStart => exact ⟨0, by omega, rfl, by rw [preW_zero], Lib.hid (GoodW.zero ws), Lib.hid (sumW_eq ws).symm, hown0, hB0, hb0⟩
  case round =>
    clear hown1 hb1 hmk hB0 hb0 hown0
    obtain ⟨k, hk, rfl, rfl, hgo, hs, hown, hB, hb⟩ := hrel
    have hpr := hgo.out.range
    have HDr := Lib.hid (show Die wr gd key at_ from Blk.below HD.out hb hgd)
    have HOr := Lib.hid (show w.grownBy wr (some gd) from only_of_below (by rw [HGE.out]; exact hb) _)
    have hc6 : wr.cell? ⟨gs, 0, none⟩ = some (.slice (some ⟨g, 0, none⟩) n n) := by simpa using Blk.cell hB 0
    by_cases hlt : k < n
    · obtain ⟨b, off, rfl, hbB, hc⟩ := (hW.below hb (Nat.le_refl _)).at_ hlt
      rw [vInt_el _ _ (by rw [HN.out]; exact hlt)] at hc
      have hei := HI.out k
      have HSU := Lib.hid (preW_succ ws k)
      by_cases hbad : elW ws k < 0 ∨ 1152921504606846976 - preW ws k < elW ws k
      · have hz := sumG_bad (by rw [HN.out]; exact hlt) hbad
        rw [hs.out] at hz
        have H1 := Lib.hid (show pickVal key at_ ws = 0 by unfold pickVal; rw [if_pos hz])
        have H2 := Lib.hid (show pickErr key at_ ws = 1 by unfold pickErr; rw [if_pos hz])
        have H3 := Lib.hid (show pickAt key at_ ws = at_ by unfold pickAt; rw [if_pos hz])
        clear hz
        rcases (show elW ws k < 0 ∨ (0 ≤ elW ws k ∧ 1152921504606846976 - preW ws k < elW ws k) by omega) with h | ⟨h, h'⟩
        all_goals
          clear hbad
          go_wp2
          go_ret2
          rw [H1.out, H2.out, H3.out]
          exact ⟨rfl, HDr.out, HOr.out⟩
      · have h0 : 0 ≤ elW ws k := by omega
        have h1 : elW ws k ≤ 1152921504606846976 - preW ws k := by omega
        have HG := Lib.hid (hgo.out.succ h0 h1)
        have HS := Lib.hid ((sumG_go (by rw [HN.out]; exact hlt) h0 h1).trans hs.out)
        obtain ⟨hck, hfk⟩ := own_int (j := k) hown hlt
        have hst := own_int_set hown k (preW ws (k + 1))
        rw [sumsTo_set, HSU.out] at hst
        have HST := Lib.hid hst
        have HB2 := Lib.hid (Blk.far (p := ⟨g, k, none⟩) hB (by simp; omega) (.int .i64 (preW ws k + elW ws k)))
        have HBE := Lib.hid (hb.setCell (p := ⟨g, k, none⟩) (Nat.le_refl _) (.int .i64 (preW ws k + elW ws k)))
        clear hbad hst
        go_wp2
        exact ⟨⟨k + 1, by omega, by go_num, by rw [HSU.out], HG, HS, HST.out, HB2.out, HBE.out⟩, by simp [intOf]; omega⟩
    · obtain rfl : k = n := by omega
      have hE0 : sumW ws = preW ws k := by rw [← hs.out, ← HN.out]; exact sumG_end ws
      rw [← hE0] at hpr
      rw [← hE0]
      have HE := Lib.hid hE0
      clear hE0
      by_cases hz : sumW ws = 0
      · have H1 := Lib.hid (show pickVal key at_ ws = 0 by unfold pickVal; rw [if_pos hz])
        have H2 := Lib.hid (show pickErr key at_ ws = 1 by unfold pickErr; rw [if_pos hz])
        have H3 := Lib.hid (show pickAt key at_ ws = at_ by unfold pickAt; rw [if_pos hz])
        have hz' : (sumW ws == 0) = true := by simpa using hz
        go_wp2
        go_ret2
        rw [H1.out, H2.out, H3.out]
        exact ⟨rfl, HDr.out, HOr.out⟩
      · have hz' : (sumW ws == 0) = false := by simpa using hz
        have hs1' : 1 ≤ sumW ws := by omega
        have hvr := rollVal_range (key := key) (at_ := at_) (n := sumW ws) hs1'
        have H2 := Lib.hid (show pickErr key at_ ws = rollErr key at_ (sumW ws) by unfold pickErr; rw [if_neg hz])
        have H3 := Lib.hid (show pickAt key at_ ws = rollAt key at_ (sumW ws) by unfold pickAt; rw [if_neg hz])
        by_cases hE : rollErr key at_ (sumW ws) = 0
        · have H1 := Lib.hid (show pickVal key at_ ws = idxW ws (rollVal key at_ (sumW ws)) by unfold pickVal; rw [if_neg hz, if_pos hE])
          have q1 : (rollErr key at_ (sumW ws) != 0) = false := by rw [hE]; rfl
          have hk0 : 0 < k := by
            rcases Nat.eq_zero_or_pos k with h | h
            · have h1 := HE.out
              rw [h, preW_zero] at h1
              omega
            · exact h
          have HG : Hid (GoodW ws k) := hgo
          have HMO := Lib.hid (show ∀ i j, i ≤ j → j < k → preW ws (i + 1) ≤ preW ws (j + 1) from fun i j h h' => HG.out.mono (by omega) (by omega))
          have hvn := hvr.2
          generalize hR0 : rollVal key at_ (sumW ws) = R at *
          have HR0 := Lib.hid hR0
          clear hR0
          go_wp2_with (first
            | (go_at_call 17; refine (roll_any _ _ _ _ _ HDr hat (by omega)).mono ?_; rw [HR0.out]; rintro e w5 ⟨rfl, hD5, ho5⟩; have hB5 := Blk.alloc (Blk.grown hB ho5 (fun e => by injection e; omega)) (.cells #[.int .i64 R] 3); have hc5 : (w5.alloc (.cells #[.int .i64 R] 3)).cell? ⟨gs, 0, none⟩ = some (.slice (some ⟨g, 0, none⟩) k k) := (by simpa using Blk.cell hB5 0); have hr5 : (w5.alloc (.cells #[.int .i64 R] 3)).cell? ⟨w5.heap.size, 0, none⟩ = some (.int .i64 R) := (Blk.cell (Blk.new w5 3 #[.int .i64 R]) 0); have hown5 := (hown.kept ho5 (.inr (fun e => by have := (hown.lt gd e).1; omega))).alloc (.cells #[.int .i64 R] 3); have hrow5 := Lib.hid (show ∀ i, i < k → (w5.alloc (.cells #[.int .i64 R] 3)).cell? ⟨g, i, none⟩ = some (.int .i64 (preW ws (i + 1))) from fun i hi => by rw [(own_int hown5 hi).1, sumsTo_at ws k i hi]))
            | (go_at_call 57; refine (search_any _ _ _ _ _ R (fun i => preW ws (i + 1)) _ hn hr5 hc5 hrow5 HMO).mono ?_; rintro e w6 ⟨⟨t, htk, rfl, hlo, hhi⟩, hsh⟩; have HLO := Lib.hid hlo; have HHI := Lib.hid hhi; clear hlo hhi))
          go_ret2
          have htn : t < k := by
            rcases (show t < k ∨ t = k by omega) with h | h
            · exact h
            · have h1 := HLO.out (k - 1) (by omega)
              rw [show k - 1 + 1 = k by omega, ← HE.out] at h1
              omega
          have HX : idxW ws R = t := by
            have := idxW_at (ws := ws) (r := R) (k := 0) (i := t) (by rw [HN.out]; omega) (fun j hj => by rw [Nat.zero_add]; exact HLO.out j hj) (by rw [Nat.zero_add]; exact HHI.out t (Nat.le_refl _) htn)
            rwa [List.drop_zero, preW_zero, Int.sub_zero] at this
          have ho6 := only_new (HOr.out.trans ho5) (.cells #[.int .i64 R] 3)
          rw [H1.out, H2.out, H3.out, HX, hE]
          refine ⟨rfl, ?_, ?_⟩
          · have h5 := Blk.alloc hD5 (.cells #[.int .i64 R] 3)
            unfold Blk at h5
            unfold Die Blk
            rw [hsh.heap]
            exact h5
          · exact ⟨hsh.os.trans ho6.os, hsh.tape.trans ho6.tape, hsh.output.trans ho6.output, by rw [hsh.heap]; exact ho6.size, fun i h h' => by rw [hsh.heap]; exact ho6.block i h h'⟩
        · have H1 := Lib.hid (show pickVal key at_ ws = 0 by unfold pickVal; rw [if_neg hz, if_neg hE])
          have q1 : (rollErr key at_ (sumW ws) != 0) = true := by simpa using hE
          go_wp2_with (first
            | (go_at_call 17; refine (roll_any _ _ _ _ _ HDr hat (by omega)).mono ?_; rintro e w5 ⟨rfl, hD5, ho5⟩))
          go_ret2
          rw [H1.out, H2.out, H3.out]
          exact ⟨rfl, Blk.alloc hD5 _, only_new (HOr.out.trans ho5) _⟩
end Go.Proofs.Ytklkppmmnlachaa
