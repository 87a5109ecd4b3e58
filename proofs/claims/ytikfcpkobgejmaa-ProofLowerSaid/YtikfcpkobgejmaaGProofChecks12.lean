/- Part 12 of the texts that ProofChecks needs: PfRValid PfRBest PfRWin. -/
import Derived.BigRegion
import Derived.Test.YtikfcpkobgejmaaGProofChecks11

/- reference: Valid. -/
namespace Go.Proofs.Ytikfcpkobgejmaa
open Go.RowKit

set_option maxRecDepth 100000 in
set_option maxHeartbeats 2000000 in
theorem rvalid_any (n : Int) (s : Sl) (L : List Bd) (w : World) (HL : Hid (Bds w s L)) :
    Calls Try.prog 31 #[.int .i64 n, slV s] w fun e w' => e = .returned (.int .i64 (validE n L)) ∧ Below w.heap.size w w' := by
  obtain ⟨A, m, c⟩ := s
  unfold slV
  dsimp only
  have hm := HL.out.rows.len
  dsimp only at hm
  by_cases h1 : n < 1
  · have HV := Lib.hid (show validE n L = 5 by unfold validE; rw [if_pos (.inl h1)])
    go_enter Try.func31, Try.ntmps31
    go_wp2
    go_ret
    rw [HV.out]
    exact ⟨rfl, Below.refl _ _⟩
  by_cases h2 : 8 < n
  · have HV := Lib.hid (show validE n L = 5 by unfold validE; rw [if_pos (.inr h2)])
    go_enter Try.func31, Try.ntmps31
    go_wp2
    go_ret
    rw [HV.out]
    exact ⟨rfl, Below.refl _ _⟩
  by_cases h3 : 10 < m
  · have HV := Lib.hid (show validE n L = 4 by unfold validE; rw [if_neg (by omega), if_pos (by omega)])
    have h3' : (10 : Int) < (m : Int) := by omega
    go_enter Try.func31, Try.ntmps31
    go_wp2
    go_ret
    rw [HV.out]
    exact ⟨rfl, Below.refl _ _⟩
  have HV := Lib.hid (show validE n L = firstE n L by unfold validE; rw [if_neg (by omega), if_neg (by omega)])
  have h3' : ¬ ((10 : Int) < (m : Int)) := by omega
  have HM := Lib.hid hm
  clear hm
  go_enter Try.func31, Try.ntmps31
  go_wp2
  go_loopw [5] (fun i wr => ∃ k : Nat, k ≤ m ∧ i = .int .i64 (k : Int) ∧ Hid (firstE n L = firstE n (L.drop k)) ∧ Hid (Below w.heap.size w wr)) (fun i _ => m - (intOf i).toNat)
  case atStart => exact ⟨0, by omega, rfl, Lib.hid rfl, Lib.hid (Below.refl _ _)⟩
  case round =>
    obtain ⟨k, hk, rfl, HF, HB⟩ := hrel
    by_cases hlt : k < m
    · have hkl : k < L.length := by rw [HM.out]; exact hlt
      obtain ⟨b, off, hA, hbl, q0, q1, q2, hok⟩ := (HL.out.all HB.out).cell hkl
      dsimp only at hA
      subst hA
      have HST := fun h => Lib.hid (firstE_stop (n := n) hkl h)
      have HNX := fun h => Lib.hid (firstE_next (n := n) hkl h)
      obtain ⟨bk, hbk⟩ : ∃ bk, L[k] = bk := ⟨_, rfl⟩
      rw [hbk] at q0 q1 q2 hok HST HNX
      obtain ⟨bi, pr, ⟨sA, sn, sc⟩, ls⟩ := bk
      unfold slV at q2
      dsimp only at q0 q1 q2
      have hsl := hok.len
      have hsn1 := hok.cap
      have hsn2 := hok.max
      dsimp only at hsl hsn1 hsn2
      have hsn : sn ≤ 9223372036854775807 := Nat.le_trans hsn1 hsn2
      clear hsn1 hsn2
      have HOK := Lib.hid hok
      have HB1 : Hid (Below w.heap.size w (wr.alloc (.cells #[.int .i64 bi, .int .i64 pr, .slice sA sn sc] 85))) := Lib.hid (HB.out.alloc HB.out.size _)
      clear hok hkl hbk
      have fin : ∀ e : Int, e ≠ 0 → bidE n ⟨bi, pr, (sA, sn, sc), ls⟩ = e → validE n L = e := fun e he hb => by
        rw [HV.out, HF.out, (HST (by rw [hb]; exact he)).out, hb]
      have FIN := Lib.hid fin
      clear fin HST
      by_cases b1 : bi < 1
      · have HE := Lib.hid (FIN.out 1 (by decide) (by unfold bidE; rw [if_pos (.inl b1)]))
        clear FIN HNX hsl
        go_wp2
        go_ret
        rw [HE.out]
        exact ⟨rfl, HB1.out⟩
      by_cases b2 : 1073741824 < bi
      · have HE := Lib.hid (FIN.out 1 (by decide) (by unfold bidE; rw [if_pos (.inr b2)]))
        clear FIN HNX hsl
        go_wp2
        go_ret
        rw [HE.out]
        exact ⟨rfl, HB1.out⟩
      by_cases b3 : pr < 1
      · have HE := Lib.hid (FIN.out 5 (by decide) (by unfold bidE; rw [if_neg (by dsimp only; omega), if_pos (.inl b3)]))
        clear FIN HNX hsl
        go_wp2
        go_ret
        rw [HE.out]
        exact ⟨rfl, HB1.out⟩
      by_cases b4 : 1099511627776 < pr
      · have HE := Lib.hid (FIN.out 5 (by decide) (by unfold bidE; rw [if_neg (by dsimp only; omega), if_pos (.inr b4)]))
        clear FIN HNX hsl
        go_wp2
        go_ret
        rw [HE.out]
        exact ⟨rfl, HB1.out⟩
      rcases Nat.eq_zero_or_pos sn with b5 | b5
      · subst b5
        have HE := Lib.hid (FIN.out 1 (by decide) (by unfold bidE; rw [if_neg (by dsimp only; omega), if_neg (by dsimp only; omega), if_pos (List.eq_nil_of_length_eq_zero hsl)]))
        clear FIN HNX hsl
        go_wp2
        go_ret
        rw [HE.out]
        exact ⟨rfl, HB1.out⟩
      have hls : ls ≠ [] := by
        intro e
        rw [e] at hsl
        simp at hsl
        omega
      have HBD := Lib.hid (fun x (hx : lotsBad n (-1) ls = x) => show bidE n ⟨bi, pr, (sA, sn, sc), ls⟩ = if x then 1 else 0 by unfold bidE; rw [if_neg (by dsimp only; omega), if_neg (by dsimp only; omega), if_neg hls, hx])
      have HSL := Lib.hid hsl
      have b5' : (0 : Int) < (sn : Int) := by omega
      clear hls hsl
      go_wp2
      have HOK1 := Lib.hid (Bd.ok.all HOK.out ((Below.refl wr.heap.size wr).alloc (Nat.le_refl _) (.cells #[.int .i64 bi, .int .i64 pr, .slice sA sn sc] 85)))
      have q2x := Lib.hid ((Blk.new wr 85 #[.int .i64 bi, .int .i64 pr, .slice sA sn sc]).cell 2)
      have hlx : Hid (∀ {gx : Nat}, wr.heap.size = gx → gx < (wr.alloc (.cells #[.int .i64 bi, .int .i64 pr, .slice sA sn sc] 85)).heap.size) := Lib.hid (fun h => by rw [World.size_alloc]; omega)
      generalize wr.alloc (.cells #[.int .i64 bi, .int .i64 pr, .slice sA sn sc] 85) = w1 at *
      have k2 := q2x.out
      clear HOK q0 q1 q2 q2x
      obtain ⟨gx, hgx⟩ : ∃ gx, wr.heap.size = gx := ⟨_, rfl⟩
      rw [hgx] at k2 ⊢
      have hgl : gx < w1.heap.size := hlx.out hgx
      clear hgx hlx
      go_loopw [7] (fun i wr => ∃ (j : Nat) (last : Int), j ≤ sn ∧ i = .int .i64 (j : Int) ∧ -1 ≤ last ∧ Hid (∀ q, j = q + 1 → ls[q]?.getD 0 = last) ∧ Hid (lotsBad n (-1) ls = lotsBad n last (ls.drop j)) ∧ Hid (Below w1.heap.size w1 wr)) (fun i _ => sn - (intOf i).toNat)
      case atStart => exact ⟨0, -1, by omega, rfl, by omega, Lib.hid (fun q h => absurd h (by omega)), Lib.hid rfl, Lib.hid (Below.refl _ _)⟩
      case round =>
        obtain ⟨j, last, hj, rfl, hl1, HPV, HBADJ, HBR⟩ := hrel
        have q2 := (HBR.out.cell (p := ⟨gx, 2, none⟩) hgl).trans k2
        have HB3 : Hid (Below w.heap.size w wr.drew) := Lib.hid (below_drewN (bt HB1.out HBR.out) 1)
        have HB4 : Hid (Below w1.heap.size w1 wr.drew) := Lib.hid (below_drewN HBR.out 1)
        have HB5 : Hid (Below w.heap.size w wr) := Lib.hid (bt HB1.out HBR.out)
        by_cases hlt2 : j < sn
        · obtain ⟨b2, o2, hA2, -, hc2⟩ := NIn.cell (NIn.all HOK1.out HBR.out) hlt2
          dsimp only at hA2
          subst hA2
          have hjl : j < ls.length := by rw [HSL.out]; exact hlt2
          obtain ⟨x, hx⟩ : ∃ x, ls[j]?.getD 0 = x := ⟨_, rfl⟩
          rw [hx] at hc2
          have HX := Lib.hid hx
          have HD : Hid (lotsBad n last (ls.drop j) = (decide (x ≤ last) || decide (n ≤ x) || lotsBad n x (ls.drop (j + 1)))) := Lib.hid (by
            rw [drop_at hjl]
            rw [List.getElem?_eq_getElem hjl] at hx
            simp only [Option.getD_some] at hx
            rw [hx]
            rfl)
          clear hx hjl
          have hjs : (j : Int) < (sn : Int) := by omega
          by_cases x0 : x < 0
          · have HE := Lib.hid (FIN.out 1 (by decide) (by rw [HBD.out true (by rw [HBADJ.out, HD.out]; simp; omega)]; rfl))
            clear FIN HNX
            go_wp2
            refine wp_region_held_drew (S := (fun w' => w'.cell? ⟨gx, 2, none⟩ = some (.slice (some ⟨b2, o2, none⟩) sn sc) ∧ w'.cell? ⟨b2, o2 + j, none⟩ = some (.int .i64 x))) (by kernel_rfl) ⟨q2, hc2⟩ (fun hHeld => ?_)
            refine takeH 0 (some 54) (v := ?_) (by rfl) (by rfl) (by kernel_rfl) (by kernel_rfl) (by kernel_rfl) (fun _ _ _ h => h) ?_ (by assumption) ?_
            rotate_left
            · intro o ho w hSw
              obtain ⟨z0, z1⟩ := hSw
              cases ho
              go_simp
              try with_reducible rfl
            try simp only [Act.put, List.setIfInBounds_toArray, List.set_cons_zero, List.set_cons_succ]
            refine takeH 1 (some 55) (v := ?_) (by rfl) (by rfl) (by kernel_rfl) (by kernel_rfl) (by kernel_rfl) (fun _ _ _ h => h) ?_ (by assumption) ?_
            rotate_left
            · intro o ho w hSw
              obtain ⟨z0, z1⟩ := hSw
              cases ho
              go_simp
              try with_reducible rfl
            try simp only [Act.put, List.setIfInBounds_toArray, List.set_cons_zero, List.set_cons_succ]
            refine takeH 2 (some 56) (v := ?_) (by rfl) (by rfl) (by kernel_rfl) (by kernel_rfl) (by kernel_rfl) (fun _ _ _ h => h) ?_ (by assumption) ?_
            rotate_left
            · intro o ho w hSw
              obtain ⟨z0, z1⟩ := hSw
              cases ho
              go_simp
              try with_reducible rfl
            try simp only [Act.put, List.setIfInBounds_toArray, List.set_cons_zero, List.set_cons_succ]
            refine takeH 3 (some 57) (v := ?_) (by rfl) (by rfl) (by kernel_rfl) (by kernel_rfl) (by kernel_rfl) (fun _ _ _ h => h) ?_ (by assumption) ?_
            rotate_left
            · intro o ho w hSw
              obtain ⟨z0, z1⟩ := hSw
              cases ho
              go_simp
              try with_reducible rfl
            try simp only [Act.put, List.setIfInBounds_toArray, List.set_cons_zero, List.set_cons_succ]
            refine takeH 4 (some 58) (v := ?_) (by rfl) (by rfl) (by kernel_rfl) (by kernel_rfl) (by kernel_rfl) (fun _ _ _ h => h) ?_ (by assumption) ?_
            rotate_left
            · intro o ho w hSw
              obtain ⟨z0, z1⟩ := hSw
              cases ho
              go_simp
              try with_reducible rfl
            try simp only [Act.put, List.setIfInBounds_toArray, List.set_cons_zero, List.set_cons_succ]
            refine takeH 5 (some 59) (v := .bool true) (by rfl) (by rfl) (by kernel_rfl) (by kernel_rfl) (by kernel_rfl) (fun _ _ _ h => h) ?_ (by assumption) ?_
            skip
            · intro o ho w hSw
              obtain ⟨z0, z1⟩ := hSw
              cases ho
              go_simp
              try with_reducible rfl
            try simp only [Act.put, List.setIfInBounds_toArray, List.set_cons_zero, List.set_cons_succ]
            refine takeH 6 (some 60) (v := ?_) (by rfl) (by rfl) (by kernel_rfl) (by kernel_rfl) (by kernel_rfl) (fun _ _ _ h => h) ?_ (by assumption) ?_
            rotate_left
            · intro o ho w hSw
              obtain ⟨z0, z1⟩ := hSw
              cases ho
              go_simp
              try with_reducible rfl
            try simp only [Act.put, List.setIfInBounds_toArray, List.set_cons_zero, List.set_cons_succ]
            refine skipH 7 (some 61) (by rfl) (by rfl) (by kernel_rfl) (by kernel_rfl) (by kernel_rfl) (fun _ _ _ h => h) (by assumption) ?_
            try simp only [Act.put, List.setIfInBounds_toArray, List.set_cons_zero, List.set_cons_succ]
            refine skipH 8 (some 62) (by rfl) (by rfl) (by kernel_rfl) (by kernel_rfl) (by kernel_rfl) (fun _ _ _ h => h) (by assumption) ?_
            try simp only [Act.put, List.setIfInBounds_toArray, List.set_cons_zero, List.set_cons_succ]
            refine skipH 9 (some 63) (by rfl) (by rfl) (by kernel_rfl) (by kernel_rfl) (by kernel_rfl) (fun _ _ _ h => h) (by assumption) ?_
            try simp only [Act.put, List.setIfInBounds_toArray, List.set_cons_zero, List.set_cons_succ]
            refine skipH 10 (some 64) (by rfl) (by rfl) (by kernel_rfl) (by kernel_rfl) (by kernel_rfl) (fun _ _ _ h => h) (by assumption) ?_
            try simp only [Act.put, List.setIfInBounds_toArray, List.set_cons_zero, List.set_cons_succ]
            refine skipH 11 (some 65) (by rfl) (by rfl) (by kernel_rfl) (by kernel_rfl) (by kernel_rfl) (fun _ _ _ h => h) (by assumption) ?_
            try simp only [Act.put, List.setIfInBounds_toArray, List.set_cons_zero, List.set_cons_succ]
            refine skipH 12 (some 66) (by rfl) (by rfl) (by kernel_rfl) (by kernel_rfl) (by kernel_rfl) (fun _ _ _ h => h) (by assumption) ?_
            try simp only [Act.put, List.setIfInBounds_toArray, List.set_cons_zero, List.set_cons_succ]
            refine skipH 13 (some 67) (by rfl) (by rfl) (by kernel_rfl) (by kernel_rfl) (by kernel_rfl) (fun _ _ _ h => h) (by assumption) ?_
            try simp only [Act.put, List.setIfInBounds_toArray, List.set_cons_zero, List.set_cons_succ]
            refine takeH 14 (some 68) (v := ?_) (by rfl) (by rfl) (by kernel_rfl) (by kernel_rfl) (by kernel_rfl) (fun _ _ _ h => h) ?_ (by assumption) ?_
            rotate_left
            · intro o ho w hSw
              obtain ⟨z0, z1⟩ := hSw
              cases ho
              go_simp
              try with_reducible rfl
            try simp only [Act.put, List.setIfInBounds_toArray, List.set_cons_zero, List.set_cons_succ]
            refine takeH 15 (some 69) (v := ?_) (by rfl) (by rfl) (by kernel_rfl) (by kernel_rfl) (by kernel_rfl) (fun _ _ _ h => h) ?_ (by assumption) ?_
            rotate_left
            · intro o ho w hSw
              obtain ⟨z0, z1⟩ := hSw
              cases ho
              go_simp
              try with_reducible rfl
            try simp only [Act.put, List.setIfInBounds_toArray, List.set_cons_zero, List.set_cons_succ]
            refine skipH 16 (some 70) (by rfl) (by rfl) (by kernel_rfl) (by kernel_rfl) (by kernel_rfl) (fun _ _ _ h => h) (by assumption) ?_
            try simp only [Act.put, List.setIfInBounds_toArray, List.set_cons_zero, List.set_cons_succ]
            refine skipH 17 (some 71) (by rfl) (by rfl) (by kernel_rfl) (by kernel_rfl) (by kernel_rfl) (fun _ _ _ h => h) (by assumption) ?_
            try simp only [Act.put, List.setIfInBounds_toArray, List.set_cons_zero, List.set_cons_succ]
            refine skipH 18 (some 72) (by rfl) (by rfl) (by kernel_rfl) (by kernel_rfl) (by kernel_rfl) (fun _ _ _ h => h) (by assumption) ?_
            try simp only [Act.put, List.setIfInBounds_toArray, List.set_cons_zero, List.set_cons_succ]
            refine skipH 19 (some 73) (by rfl) (by rfl) (by kernel_rfl) (by kernel_rfl) (by kernel_rfl) (fun _ _ _ h => h) (by assumption) ?_
            try simp only [Act.put, List.setIfInBounds_toArray, List.set_cons_zero, List.set_cons_succ]
            refine skipH 20 (some 74) (by rfl) (by rfl) (by kernel_rfl) (by kernel_rfl) (by kernel_rfl) (fun _ _ _ h => h) (by assumption) ?_
            try simp only [Act.put, List.setIfInBounds_toArray, List.set_cons_zero, List.set_cons_succ]
            refine skipH 21 (some 75) (by rfl) (by rfl) (by kernel_rfl) (by kernel_rfl) (by kernel_rfl) (fun _ _ _ h => h) (by assumption) ?_
            try simp only [Act.put, List.setIfInBounds_toArray, List.set_cons_zero, List.set_cons_succ]
            refine skipH 22 (some 76) (by rfl) (by rfl) (by kernel_rfl) (by kernel_rfl) (by kernel_rfl) (fun _ _ _ h => h) (by assumption) ?_
            try simp only [Act.put, List.setIfInBounds_toArray, List.set_cons_zero, List.set_cons_succ]
            refine skipH 23 (some 77) (by rfl) (by rfl) (by kernel_rfl) (by kernel_rfl) (by kernel_rfl) (fun _ _ _ h => h) (by assumption) ?_
            try simp only [Act.put, List.setIfInBounds_toArray, List.set_cons_zero, List.set_cons_succ]
            refine skipH 24 (some 78) (by rfl) (by rfl) (by kernel_rfl) (by kernel_rfl) (by kernel_rfl) (fun _ _ _ h => h) (by assumption) ?_
            try simp only [Act.put, List.setIfInBounds_toArray, List.set_cons_zero, List.set_cons_succ]
            refine skipH 25 (some 79) (by rfl) (by rfl) (by kernel_rfl) (by kernel_rfl) (by kernel_rfl) (fun _ _ _ h => h) (by assumption) ?_
            try simp only [Act.put, List.setIfInBounds_toArray, List.set_cons_zero, List.set_cons_succ]
            refine skipH 26 (some 80) (by rfl) (by rfl) (by kernel_rfl) (by kernel_rfl) (by kernel_rfl) (fun _ _ _ h => h) (by assumption) ?_
            try simp only [Act.put, List.setIfInBounds_toArray, List.set_cons_zero, List.set_cons_succ]
            refine skipH 27 (some 81) (by rfl) (by rfl) (by kernel_rfl) (by kernel_rfl) (by kernel_rfl) (fun _ _ _ h => h) (by assumption) ?_
            try simp only [Act.put, List.setIfInBounds_toArray, List.set_cons_zero, List.set_cons_succ]
            refine skipH 28 (some 82) (by rfl) (by rfl) (by kernel_rfl) (by kernel_rfl) (by kernel_rfl) (fun _ _ _ h => h) (by assumption) ?_
            try simp only [Act.put, List.setIfInBounds_toArray, List.set_cons_zero, List.set_cons_succ]
            refine skipH 29 (some 83) (by rfl) (by rfl) (by kernel_rfl) (by kernel_rfl) (by kernel_rfl) (fun _ _ _ h => h) (by assumption) ?_
            try simp only [Act.put, List.setIfInBounds_toArray, List.set_cons_zero, List.set_cons_succ]
            refine skipH 30 (some 84) (by rfl) (by rfl) (by kernel_rfl) (by kernel_rfl) (by kernel_rfl) (fun _ _ _ h => h) (by assumption) ?_
            try simp only [Act.put, List.setIfInBounds_toArray, List.set_cons_zero, List.set_cons_succ]
            refine skipH 31 (some 85) (by rfl) (by rfl) (by kernel_rfl) (by kernel_rfl) (by kernel_rfl) (fun _ _ _ h => h) (by assumption) ?_
            try simp only [Act.put, List.setIfInBounds_toArray, List.set_cons_zero, List.set_cons_succ]
            refine takeH 32 (some 86) (v := ?_) (by rfl) (by rfl) (by kernel_rfl) (by kernel_rfl) (by kernel_rfl) (fun _ _ _ h => h) ?_ (by assumption) ?_
            rotate_left
            · intro o ho w hSw
              obtain ⟨z0, z1⟩ := hSw
              cases ho
              go_simp
              try with_reducible rfl
            try simp only [Act.put, List.setIfInBounds_toArray, List.set_cons_zero, List.set_cons_succ]
            refine wpAnyH_done (by kernel_rfl) ?_ _
            go_wp2
            go_ret
            rw [HE.out]
            exact ⟨rfl, HB3.out⟩
          by_cases x2 : n ≤ x
          · have HE := Lib.hid (FIN.out 1 (by decide) (by rw [HBD.out true (by rw [HBADJ.out, HD.out]; simp [x2])]; rfl))
            clear FIN HNX
            go_wp2
            refine wp_region_held_drew (S := (fun w' => w'.cell? ⟨gx, 2, none⟩ = some (.slice (some ⟨b2, o2, none⟩) sn sc) ∧ w'.cell? ⟨b2, o2 + j, none⟩ = some (.int .i64 x))) (by kernel_rfl) ⟨q2, hc2⟩ (fun hHeld => ?_)
            refine takeH 0 (some 54) (v := ?_) (by rfl) (by rfl) (by kernel_rfl) (by kernel_rfl) (by kernel_rfl) (fun _ _ _ h => h) ?_ (by assumption) ?_
            rotate_left
            · intro o ho w hSw
              obtain ⟨z0, z1⟩ := hSw
              cases ho
              go_simp
              try with_reducible rfl
            try simp only [Act.put, List.setIfInBounds_toArray, List.set_cons_zero, List.set_cons_succ]
            refine takeH 1 (some 55) (v := ?_) (by rfl) (by rfl) (by kernel_rfl) (by kernel_rfl) (by kernel_rfl) (fun _ _ _ h => h) ?_ (by assumption) ?_
            rotate_left
            · intro o ho w hSw
              obtain ⟨z0, z1⟩ := hSw
              cases ho
              go_simp
              try with_reducible rfl
            try simp only [Act.put, List.setIfInBounds_toArray, List.set_cons_zero, List.set_cons_succ]
            refine takeH 2 (some 56) (v := ?_) (by rfl) (by rfl) (by kernel_rfl) (by kernel_rfl) (by kernel_rfl) (fun _ _ _ h => h) ?_ (by assumption) ?_
            rotate_left
            · intro o ho w hSw
              obtain ⟨z0, z1⟩ := hSw
              cases ho
              go_simp
              try with_reducible rfl
            try simp only [Act.put, List.setIfInBounds_toArray, List.set_cons_zero, List.set_cons_succ]
            refine takeH 3 (some 57) (v := ?_) (by rfl) (by rfl) (by kernel_rfl) (by kernel_rfl) (by kernel_rfl) (fun _ _ _ h => h) ?_ (by assumption) ?_
            rotate_left
            · intro o ho w hSw
              obtain ⟨z0, z1⟩ := hSw
              cases ho
              go_simp
              try with_reducible rfl
            try simp only [Act.put, List.setIfInBounds_toArray, List.set_cons_zero, List.set_cons_succ]
            refine takeH 4 (some 58) (v := ?_) (by rfl) (by rfl) (by kernel_rfl) (by kernel_rfl) (by kernel_rfl) (fun _ _ _ h => h) ?_ (by assumption) ?_
            rotate_left
            · intro o ho w hSw
              obtain ⟨z0, z1⟩ := hSw
              cases ho
              go_simp
              try with_reducible rfl
            try simp only [Act.put, List.setIfInBounds_toArray, List.set_cons_zero, List.set_cons_succ]
            refine takeH 5 (some 59) (v := .bool false) (by rfl) (by rfl) (by kernel_rfl) (by kernel_rfl) (by kernel_rfl) (fun _ _ _ h => h) ?_ (by assumption) ?_
            skip
            · intro o ho w hSw
              obtain ⟨z0, z1⟩ := hSw
              cases ho
              go_simp
              try with_reducible rfl
            try simp only [Act.put, List.setIfInBounds_toArray, List.set_cons_zero, List.set_cons_succ]
            refine takeH 6 (some 60) (v := ?_) (by rfl) (by rfl) (by kernel_rfl) (by kernel_rfl) (by kernel_rfl) (fun _ _ _ h => h) ?_ (by assumption) ?_
            rotate_left
            · intro o ho w hSw
              obtain ⟨z0, z1⟩ := hSw
              cases ho
              go_simp
              try with_reducible rfl
            try simp only [Act.put, List.setIfInBounds_toArray, List.set_cons_zero, List.set_cons_succ]
            refine takeH 7 (some 61) (v := ?_) (by rfl) (by rfl) (by kernel_rfl) (by kernel_rfl) (by kernel_rfl) (fun _ _ _ h => h) ?_ (by assumption) ?_
            rotate_left
            · intro o ho w hSw
              obtain ⟨z0, z1⟩ := hSw
              cases ho
              go_simp
              try with_reducible rfl
            try simp only [Act.put, List.setIfInBounds_toArray, List.set_cons_zero, List.set_cons_succ]
            refine takeH 8 (some 62) (v := ?_) (by rfl) (by rfl) (by kernel_rfl) (by kernel_rfl) (by kernel_rfl) (fun _ _ _ h => h) ?_ (by assumption) ?_
            rotate_left
            · intro o ho w hSw
              obtain ⟨z0, z1⟩ := hSw
              cases ho
              go_simp
              try with_reducible rfl
            try simp only [Act.put, List.setIfInBounds_toArray, List.set_cons_zero, List.set_cons_succ]
            refine takeH 9 (some 63) (v := ?_) (by rfl) (by rfl) (by kernel_rfl) (by kernel_rfl) (by kernel_rfl) (fun _ _ _ h => h) ?_ (by assumption) ?_
            rotate_left
            · intro o ho w hSw
              obtain ⟨z0, z1⟩ := hSw
              cases ho
              go_simp
              try with_reducible rfl
            try simp only [Act.put, List.setIfInBounds_toArray, List.set_cons_zero, List.set_cons_succ]
            refine takeH 10 (some 64) (v := ?_) (by rfl) (by rfl) (by kernel_rfl) (by kernel_rfl) (by kernel_rfl) (fun _ _ _ h => h) ?_ (by assumption) ?_
            rotate_left
            · intro o ho w hSw
              obtain ⟨z0, z1⟩ := hSw
              cases ho
              go_simp
              try with_reducible rfl
            try simp only [Act.put, List.setIfInBounds_toArray, List.set_cons_zero, List.set_cons_succ]
            refine takeH 11 (some 65) (v := ?_) (by rfl) (by rfl) (by kernel_rfl) (by kernel_rfl) (by kernel_rfl) (fun _ _ _ h => h) ?_ (by assumption) ?_
            rotate_left
            · intro o ho w hSw
              obtain ⟨z0, z1⟩ := hSw
              cases ho
              go_simp
              try with_reducible rfl
            try simp only [Act.put, List.setIfInBounds_toArray, List.set_cons_zero, List.set_cons_succ]
            refine takeH 12 (some 66) (v := ?_) (by rfl) (by rfl) (by kernel_rfl) (by kernel_rfl) (by kernel_rfl) (fun _ _ _ h => h) ?_ (by assumption) ?_
            rotate_left
            · intro o ho w hSw
              obtain ⟨z0, z1⟩ := hSw
              cases ho
              go_simp
              try with_reducible rfl
            try simp only [Act.put, List.setIfInBounds_toArray, List.set_cons_zero, List.set_cons_succ]
            refine takeH 13 (some 67) (v := .bool true) (by rfl) (by rfl) (by kernel_rfl) (by kernel_rfl) (by kernel_rfl) (fun _ _ _ h => h) ?_ (by assumption) ?_
            skip
            · intro o ho w hSw
              obtain ⟨z0, z1⟩ := hSw
              cases ho
              go_simp
              try with_reducible rfl
            try simp only [Act.put, List.setIfInBounds_toArray, List.set_cons_zero, List.set_cons_succ]
            refine takeH 14 (some 68) (v := ?_) (by rfl) (by rfl) (by kernel_rfl) (by kernel_rfl) (by kernel_rfl) (fun _ _ _ h => h) ?_ (by assumption) ?_
            rotate_left
            · intro o ho w hSw
              obtain ⟨z0, z1⟩ := hSw
              cases ho
              go_simp
              try with_reducible rfl
            try simp only [Act.put, List.setIfInBounds_toArray, List.set_cons_zero, List.set_cons_succ]
            refine takeH 15 (some 69) (v := ?_) (by rfl) (by rfl) (by kernel_rfl) (by kernel_rfl) (by kernel_rfl) (fun _ _ _ h => h) ?_ (by assumption) ?_
            rotate_left
            · intro o ho w hSw
              obtain ⟨z0, z1⟩ := hSw
              cases ho
              go_simp
              try with_reducible rfl
            try simp only [Act.put, List.setIfInBounds_toArray, List.set_cons_zero, List.set_cons_succ]
            refine skipH 16 (some 70) (by rfl) (by rfl) (by kernel_rfl) (by kernel_rfl) (by kernel_rfl) (fun _ _ _ h => h) (by assumption) ?_
            try simp only [Act.put, List.setIfInBounds_toArray, List.set_cons_zero, List.set_cons_succ]
            refine skipH 17 (some 71) (by rfl) (by rfl) (by kernel_rfl) (by kernel_rfl) (by kernel_rfl) (fun _ _ _ h => h) (by assumption) ?_
            try simp only [Act.put, List.setIfInBounds_toArray, List.set_cons_zero, List.set_cons_succ]
            refine skipH 18 (some 72) (by rfl) (by rfl) (by kernel_rfl) (by kernel_rfl) (by kernel_rfl) (fun _ _ _ h => h) (by assumption) ?_
            try simp only [Act.put, List.setIfInBounds_toArray, List.set_cons_zero, List.set_cons_succ]
            refine skipH 19 (some 73) (by rfl) (by rfl) (by kernel_rfl) (by kernel_rfl) (by kernel_rfl) (fun _ _ _ h => h) (by assumption) ?_
            try simp only [Act.put, List.setIfInBounds_toArray, List.set_cons_zero, List.set_cons_succ]
            refine skipH 20 (some 74) (by rfl) (by rfl) (by kernel_rfl) (by kernel_rfl) (by kernel_rfl) (fun _ _ _ h => h) (by assumption) ?_
            try simp only [Act.put, List.setIfInBounds_toArray, List.set_cons_zero, List.set_cons_succ]
            refine skipH 21 (some 75) (by rfl) (by rfl) (by kernel_rfl) (by kernel_rfl) (by kernel_rfl) (fun _ _ _ h => h) (by assumption) ?_
            try simp only [Act.put, List.setIfInBounds_toArray, List.set_cons_zero, List.set_cons_succ]
            refine skipH 22 (some 76) (by rfl) (by rfl) (by kernel_rfl) (by kernel_rfl) (by kernel_rfl) (fun _ _ _ h => h) (by assumption) ?_
            try simp only [Act.put, List.setIfInBounds_toArray, List.set_cons_zero, List.set_cons_succ]
            refine skipH 23 (some 77) (by rfl) (by rfl) (by kernel_rfl) (by kernel_rfl) (by kernel_rfl) (fun _ _ _ h => h) (by assumption) ?_
            try simp only [Act.put, List.setIfInBounds_toArray, List.set_cons_zero, List.set_cons_succ]
            refine skipH 24 (some 78) (by rfl) (by rfl) (by kernel_rfl) (by kernel_rfl) (by kernel_rfl) (fun _ _ _ h => h) (by assumption) ?_
            try simp only [Act.put, List.setIfInBounds_toArray, List.set_cons_zero, List.set_cons_succ]
            refine skipH 25 (some 79) (by rfl) (by rfl) (by kernel_rfl) (by kernel_rfl) (by kernel_rfl) (fun _ _ _ h => h) (by assumption) ?_
            try simp only [Act.put, List.setIfInBounds_toArray, List.set_cons_zero, List.set_cons_succ]
            refine skipH 26 (some 80) (by rfl) (by rfl) (by kernel_rfl) (by kernel_rfl) (by kernel_rfl) (fun _ _ _ h => h) (by assumption) ?_
            try simp only [Act.put, List.setIfInBounds_toArray, List.set_cons_zero, List.set_cons_succ]
            refine skipH 27 (some 81) (by rfl) (by rfl) (by kernel_rfl) (by kernel_rfl) (by kernel_rfl) (fun _ _ _ h => h) (by assumption) ?_
            try simp only [Act.put, List.setIfInBounds_toArray, List.set_cons_zero, List.set_cons_succ]
            refine skipH 28 (some 82) (by rfl) (by rfl) (by kernel_rfl) (by kernel_rfl) (by kernel_rfl) (fun _ _ _ h => h) (by assumption) ?_
            try simp only [Act.put, List.setIfInBounds_toArray, List.set_cons_zero, List.set_cons_succ]
            refine skipH 29 (some 83) (by rfl) (by rfl) (by kernel_rfl) (by kernel_rfl) (by kernel_rfl) (fun _ _ _ h => h) (by assumption) ?_
            try simp only [Act.put, List.setIfInBounds_toArray, List.set_cons_zero, List.set_cons_succ]
            refine skipH 30 (some 84) (by rfl) (by rfl) (by kernel_rfl) (by kernel_rfl) (by kernel_rfl) (fun _ _ _ h => h) (by assumption) ?_
            try simp only [Act.put, List.setIfInBounds_toArray, List.set_cons_zero, List.set_cons_succ]
            refine skipH 31 (some 85) (by rfl) (by rfl) (by kernel_rfl) (by kernel_rfl) (by kernel_rfl) (fun _ _ _ h => h) (by assumption) ?_
            try simp only [Act.put, List.setIfInBounds_toArray, List.set_cons_zero, List.set_cons_succ]
            refine takeH 32 (some 86) (v := ?_) (by rfl) (by rfl) (by kernel_rfl) (by kernel_rfl) (by kernel_rfl) (fun _ _ _ h => h) ?_ (by assumption) ?_
            rotate_left
            · intro o ho w hSw
              obtain ⟨z0, z1⟩ := hSw
              cases ho
              go_simp
              try with_reducible rfl
            try simp only [Act.put, List.setIfInBounds_toArray, List.set_cons_zero, List.set_cons_succ]
            refine wpAnyH_done (by kernel_rfl) ?_ _
            go_wp2
            go_ret
            rw [HE.out]
            exact ⟨rfl, HB3.out⟩
          rcases j with _ | j
          · have HD2 : Hid (0 ≤ x → lotsBad n (-1) ls = lotsBad n x (ls.drop (0 + 1))) := Lib.hid (fun hx0 => by
              rw [show lotsBad n (-1) ls = (decide (x ≤ -1) || decide (n ≤ x) || lotsBad n x (ls.drop (0 + 1))) by
                rcases ls with _ | ⟨y, t⟩
                · have := HSL.out; simp at this; omega
                · have := HX.out; simp at this; subst this; rfl]
              rw [decide_eq_false (show ¬ x ≤ -1 by omega), decide_eq_false x2]
              rfl)
            go_wp2
            refine wp_region_held_drew (S := (fun w' => w'.cell? ⟨gx, 2, none⟩ = some (.slice (some ⟨b2, o2, none⟩) sn sc) ∧ w'.cell? ⟨b2, o2, none⟩ = some (.int .i64 x))) (by kernel_rfl) ⟨q2, hc2⟩ (fun hHeld => ?_)
            refine takeH 0 (some 54) (v := ?_) (by rfl) (by rfl) (by kernel_rfl) (by kernel_rfl) (by kernel_rfl) (fun _ _ _ h => h) ?_ (by assumption) ?_
            rotate_left
            · intro o ho w hSw
              obtain ⟨z0, z1⟩ := hSw
              cases ho
              go_simp
              try with_reducible rfl
            try simp only [Act.put, List.setIfInBounds_toArray, List.set_cons_zero, List.set_cons_succ]
            refine takeH 1 (some 55) (v := ?_) (by rfl) (by rfl) (by kernel_rfl) (by kernel_rfl) (by kernel_rfl) (fun _ _ _ h => h) ?_ (by assumption) ?_
            rotate_left
            · intro o ho w hSw
              obtain ⟨z0, z1⟩ := hSw
              cases ho
              go_simp
              try with_reducible rfl
            try simp only [Act.put, List.setIfInBounds_toArray, List.set_cons_zero, List.set_cons_succ]
            refine takeH 2 (some 56) (v := ?_) (by rfl) (by rfl) (by kernel_rfl) (by kernel_rfl) (by kernel_rfl) (fun _ _ _ h => h) ?_ (by assumption) ?_
            rotate_left
            · intro o ho w hSw
              obtain ⟨z0, z1⟩ := hSw
              cases ho
              go_simp
              try with_reducible rfl
            try simp only [Act.put, List.setIfInBounds_toArray, List.set_cons_zero, List.set_cons_succ]
            refine takeH 3 (some 57) (v := ?_) (by rfl) (by rfl) (by kernel_rfl) (by kernel_rfl) (by kernel_rfl) (fun _ _ _ h => h) ?_ (by assumption) ?_
            rotate_left
            · intro o ho w hSw
              obtain ⟨z0, z1⟩ := hSw
              cases ho
              go_simp
              try with_reducible rfl
            try simp only [Act.put, List.setIfInBounds_toArray, List.set_cons_zero, List.set_cons_succ]
            refine takeH 4 (some 58) (v := ?_) (by rfl) (by rfl) (by kernel_rfl) (by kernel_rfl) (by kernel_rfl) (fun _ _ _ h => h) ?_ (by assumption) ?_
            rotate_left
            · intro o ho w hSw
              obtain ⟨z0, z1⟩ := hSw
              cases ho
              go_simp
              try with_reducible rfl
            try simp only [Act.put, List.setIfInBounds_toArray, List.set_cons_zero, List.set_cons_succ]
            refine takeH 5 (some 59) (v := .bool false) (by rfl) (by rfl) (by kernel_rfl) (by kernel_rfl) (by kernel_rfl) (fun _ _ _ h => h) ?_ (by assumption) ?_
            skip
            · intro o ho w hSw
              obtain ⟨z0, z1⟩ := hSw
              cases ho
              go_simp
              try with_reducible rfl
            try simp only [Act.put, List.setIfInBounds_toArray, List.set_cons_zero, List.set_cons_succ]
            refine takeH 6 (some 60) (v := ?_) (by rfl) (by rfl) (by kernel_rfl) (by kernel_rfl) (by kernel_rfl) (fun _ _ _ h => h) ?_ (by assumption) ?_
            rotate_left
            · intro o ho w hSw
              obtain ⟨z0, z1⟩ := hSw
              cases ho
              go_simp
              try with_reducible rfl
            try simp only [Act.put, List.setIfInBounds_toArray, List.set_cons_zero, List.set_cons_succ]
            refine takeH 7 (some 61) (v := ?_) (by rfl) (by rfl) (by kernel_rfl) (by kernel_rfl) (by kernel_rfl) (fun _ _ _ h => h) ?_ (by assumption) ?_
            rotate_left
            · intro o ho w hSw
              obtain ⟨z0, z1⟩ := hSw
              cases ho
              go_simp
              try with_reducible rfl
            try simp only [Act.put, List.setIfInBounds_toArray, List.set_cons_zero, List.set_cons_succ]
            refine takeH 8 (some 62) (v := ?_) (by rfl) (by rfl) (by kernel_rfl) (by kernel_rfl) (by kernel_rfl) (fun _ _ _ h => h) ?_ (by assumption) ?_
            rotate_left
            · intro o ho w hSw
              obtain ⟨z0, z1⟩ := hSw
              cases ho
              go_simp
              try with_reducible rfl
            try simp only [Act.put, List.setIfInBounds_toArray, List.set_cons_zero, List.set_cons_succ]
            refine takeH 9 (some 63) (v := ?_) (by rfl) (by rfl) (by kernel_rfl) (by kernel_rfl) (by kernel_rfl) (fun _ _ _ h => h) ?_ (by assumption) ?_
            rotate_left
            · intro o ho w hSw
              obtain ⟨z0, z1⟩ := hSw
              cases ho
              go_simp
              try with_reducible rfl
            try simp only [Act.put, List.setIfInBounds_toArray, List.set_cons_zero, List.set_cons_succ]
            refine takeH 10 (some 64) (v := ?_) (by rfl) (by rfl) (by kernel_rfl) (by kernel_rfl) (by kernel_rfl) (fun _ _ _ h => h) ?_ (by assumption) ?_
            rotate_left
            · intro o ho w hSw
              obtain ⟨z0, z1⟩ := hSw
              cases ho
              go_simp
              try with_reducible rfl
            try simp only [Act.put, List.setIfInBounds_toArray, List.set_cons_zero, List.set_cons_succ]
            refine takeH 11 (some 65) (v := ?_) (by rfl) (by rfl) (by kernel_rfl) (by kernel_rfl) (by kernel_rfl) (fun _ _ _ h => h) ?_ (by assumption) ?_
            rotate_left
            · intro o ho w hSw
              obtain ⟨z0, z1⟩ := hSw
              cases ho
              go_simp
              try with_reducible rfl
            try simp only [Act.put, List.setIfInBounds_toArray, List.set_cons_zero, List.set_cons_succ]
            refine takeH 12 (some 66) (v := ?_) (by rfl) (by rfl) (by kernel_rfl) (by kernel_rfl) (by kernel_rfl) (fun _ _ _ h => h) ?_ (by assumption) ?_
            rotate_left
            · intro o ho w hSw
              obtain ⟨z0, z1⟩ := hSw
              cases ho
              go_simp
              try with_reducible rfl
            try simp only [Act.put, List.setIfInBounds_toArray, List.set_cons_zero, List.set_cons_succ]
            refine takeH 13 (some 67) (v := .bool false) (by rfl) (by rfl) (by kernel_rfl) (by kernel_rfl) (by kernel_rfl) (fun _ _ _ h => h) ?_ (by assumption) ?_
            skip
            · intro o ho w hSw
              obtain ⟨z0, z1⟩ := hSw
              cases ho
              go_simp
              try with_reducible rfl
            try simp only [Act.put, List.setIfInBounds_toArray, List.set_cons_zero, List.set_cons_succ]
            refine takeH 14 (some 68) (v := ?_) (by rfl) (by rfl) (by kernel_rfl) (by kernel_rfl) (by kernel_rfl) (fun _ _ _ h => h) ?_ (by assumption) ?_
            rotate_left
            · intro o ho w hSw
              obtain ⟨z0, z1⟩ := hSw
              cases ho
              go_simp
              try with_reducible rfl
            try simp only [Act.put, List.setIfInBounds_toArray, List.set_cons_zero, List.set_cons_succ]
            refine takeH 15 (some 69) (v := ?_) (by rfl) (by rfl) (by kernel_rfl) (by kernel_rfl) (by kernel_rfl) (fun _ _ _ h => h) ?_ (by assumption) ?_
            rotate_left
            · intro o ho w hSw
              obtain ⟨z0, z1⟩ := hSw
              cases ho
              go_simp
              try with_reducible rfl
            try simp only [Act.put, List.setIfInBounds_toArray, List.set_cons_zero, List.set_cons_succ]
            refine takeH 16 (some 70) (v := ?_) (by rfl) (by rfl) (by kernel_rfl) (by kernel_rfl) (by kernel_rfl) (fun _ _ _ h => h) ?_ (by assumption) ?_
            rotate_left
            · intro o ho w hSw
              obtain ⟨z0, z1⟩ := hSw
              cases ho
              go_simp
              try with_reducible rfl
            try simp only [Act.put, List.setIfInBounds_toArray, List.set_cons_zero, List.set_cons_succ]
            refine takeH 17 (some 71) (v := .bool false) (by rfl) (by rfl) (by kernel_rfl) (by kernel_rfl) (by kernel_rfl) (fun _ _ _ h => h) ?_ (by assumption) ?_
            skip
            · intro o ho w hSw
              obtain ⟨z0, z1⟩ := hSw
              cases ho
              go_simp
              try with_reducible rfl
            try simp only [Act.put, List.setIfInBounds_toArray, List.set_cons_zero, List.set_cons_succ]
            refine takeH 18 (some 72) (v := ?_) (by rfl) (by rfl) (by kernel_rfl) (by kernel_rfl) (by kernel_rfl) (fun _ _ _ h => h) ?_ (by assumption) ?_
            rotate_left
            · intro o ho w hSw
              obtain ⟨z0, z1⟩ := hSw
              cases ho
              go_simp
              try with_reducible rfl
            try simp only [Act.put, List.setIfInBounds_toArray, List.set_cons_zero, List.set_cons_succ]
            refine skipH 19 (some 73) (by rfl) (by rfl) (by kernel_rfl) (by kernel_rfl) (by kernel_rfl) (fun _ _ _ h => h) (by assumption) ?_
            try simp only [Act.put, List.setIfInBounds_toArray, List.set_cons_zero, List.set_cons_succ]
            refine skipH 20 (some 74) (by rfl) (by rfl) (by kernel_rfl) (by kernel_rfl) (by kernel_rfl) (fun _ _ _ h => h) (by assumption) ?_
            try simp only [Act.put, List.setIfInBounds_toArray, List.set_cons_zero, List.set_cons_succ]
            refine skipH 21 (some 75) (by rfl) (by rfl) (by kernel_rfl) (by kernel_rfl) (by kernel_rfl) (fun _ _ _ h => h) (by assumption) ?_
            try simp only [Act.put, List.setIfInBounds_toArray, List.set_cons_zero, List.set_cons_succ]
            refine skipH 22 (some 76) (by rfl) (by rfl) (by kernel_rfl) (by kernel_rfl) (by kernel_rfl) (fun _ _ _ h => h) (by assumption) ?_
            try simp only [Act.put, List.setIfInBounds_toArray, List.set_cons_zero, List.set_cons_succ]
            refine skipH 23 (some 77) (by rfl) (by rfl) (by kernel_rfl) (by kernel_rfl) (by kernel_rfl) (fun _ _ _ h => h) (by assumption) ?_
            try simp only [Act.put, List.setIfInBounds_toArray, List.set_cons_zero, List.set_cons_succ]
            refine skipH 24 (some 78) (by rfl) (by rfl) (by kernel_rfl) (by kernel_rfl) (by kernel_rfl) (fun _ _ _ h => h) (by assumption) ?_
            try simp only [Act.put, List.setIfInBounds_toArray, List.set_cons_zero, List.set_cons_succ]
            refine skipH 25 (some 79) (by rfl) (by rfl) (by kernel_rfl) (by kernel_rfl) (by kernel_rfl) (fun _ _ _ h => h) (by assumption) ?_
            try simp only [Act.put, List.setIfInBounds_toArray, List.set_cons_zero, List.set_cons_succ]
            refine skipH 26 (some 80) (by rfl) (by rfl) (by kernel_rfl) (by kernel_rfl) (by kernel_rfl) (fun _ _ _ h => h) (by assumption) ?_
            try simp only [Act.put, List.setIfInBounds_toArray, List.set_cons_zero, List.set_cons_succ]
            refine skipH 27 (some 81) (by rfl) (by rfl) (by kernel_rfl) (by kernel_rfl) (by kernel_rfl) (fun _ _ _ h => h) (by assumption) ?_
            try simp only [Act.put, List.setIfInBounds_toArray, List.set_cons_zero, List.set_cons_succ]
            refine skipH 28 (some 82) (by rfl) (by rfl) (by kernel_rfl) (by kernel_rfl) (by kernel_rfl) (fun _ _ _ h => h) (by assumption) ?_
            try simp only [Act.put, List.setIfInBounds_toArray, List.set_cons_zero, List.set_cons_succ]
            refine skipH 29 (some 83) (by rfl) (by rfl) (by kernel_rfl) (by kernel_rfl) (by kernel_rfl) (fun _ _ _ h => h) (by assumption) ?_
            try simp only [Act.put, List.setIfInBounds_toArray, List.set_cons_zero, List.set_cons_succ]
            refine skipH 30 (some 84) (by rfl) (by rfl) (by kernel_rfl) (by kernel_rfl) (by kernel_rfl) (fun _ _ _ h => h) (by assumption) ?_
            try simp only [Act.put, List.setIfInBounds_toArray, List.set_cons_zero, List.set_cons_succ]
            refine takeH 31 (some 85) (v := ?_) (by rfl) (by rfl) (by kernel_rfl) (by kernel_rfl) (by kernel_rfl) (fun _ _ _ h => h) ?_ (by assumption) ?_
            rotate_left
            · intro o ho w hSw
              obtain ⟨z0, z1⟩ := hSw
              cases ho
              go_simp
              try with_reducible rfl
            try simp only [Act.put, List.setIfInBounds_toArray, List.set_cons_zero, List.set_cons_succ]
            refine takeH 32 (some 86) (v := ?_) (by rfl) (by rfl) (by kernel_rfl) (by kernel_rfl) (by kernel_rfl) (fun _ _ _ h => h) ?_ (by assumption) ?_
            rotate_left
            · intro o ho w hSw
              obtain ⟨z0, z1⟩ := hSw
              cases ho
              go_simp
              try with_reducible rfl
            try simp only [Act.put, List.setIfInBounds_toArray, List.set_cons_zero, List.set_cons_succ]
            refine wpAnyH_done (by kernel_rfl) ?_ _
            go_wp2
            exact ⟨⟨0 + 1, x, by omega, by go_num, by omega, Lib.hid (fun q h => by obtain rfl : q = 0 := (by omega); exact HX.out), Lib.hid (HD2.out (by omega)), HB4⟩, by simp [intOf]; omega⟩
          obtain ⟨b3, o3, hA3, -, hc3⟩ := NIn.cell (NIn.all HOK1.out HBR.out) (k := j) (show j < sn by omega)
          dsimp only at hA3
          injection hA3 with hA3
          injection hA3 with hA3 hA4 _
          subst hA3 hA4
          rw [HPV.out j rfl] at hc3
          have hsub : ((j : Int) + 1 - 1) = (j : Int) := by omega
          have hjn : j < sn := by omega
          have hwj : IntKind.i64.wrap (j : Int) = (j : Int) := IntWalk.i64_in _ (by omega)
          have hj2 : (0 : Int) ≤ (j : Int) + 1 := by omega
          have hj3 : (0 : Int) < (j : Int) + 1 := by omega
          have hj4 : (j : Int) + 1 < (sn : Int) := by omega
          have hj1 : j + 1 < sn := hlt2
          by_cases x1 : x ≤ last
          · have HE := Lib.hid (FIN.out 1 (by decide) (by rw [HBD.out true (by rw [HBADJ.out, HD.out]; simp [x1])]; rfl))
            clear FIN HNX
            go_wp2
            refine wp_region_held_drew (S := (fun w' => w'.cell? ⟨gx, 2, none⟩ = some (.slice (some ⟨b2, o2, none⟩) sn sc) ∧ w'.cell? ⟨b2, o2 + (j + 1), none⟩ = some (.int .i64 x) ∧ w'.cell? ⟨b2, o2 + j, none⟩ = some (.int .i64 last))) (by kernel_rfl) ⟨q2, hc2, hc3⟩ (fun hHeld => ?_)
            refine takeH 0 (some 54) (v := ?_) (by rfl) (by rfl) (by kernel_rfl) (by kernel_rfl) (by kernel_rfl) (fun _ _ _ h => h) ?_ (by assumption) ?_
            rotate_left
            · intro o ho w hSw
              obtain ⟨z0, z1, z2⟩ := hSw
              cases ho
              go_simp
              try with_reducible rfl
            try simp only [Act.put, List.setIfInBounds_toArray, List.set_cons_zero, List.set_cons_succ]
            refine takeH 1 (some 55) (v := ?_) (by rfl) (by rfl) (by kernel_rfl) (by kernel_rfl) (by kernel_rfl) (fun _ _ _ h => h) ?_ (by assumption) ?_
            rotate_left
            · intro o ho w hSw
              obtain ⟨z0, z1, z2⟩ := hSw
              cases ho
              go_simp
              try with_reducible rfl
            try simp only [Act.put, List.setIfInBounds_toArray, List.set_cons_zero, List.set_cons_succ]
            refine takeH 2 (some 56) (v := ?_) (by rfl) (by rfl) (by kernel_rfl) (by kernel_rfl) (by kernel_rfl) (fun _ _ _ h => h) ?_ (by assumption) ?_
            rotate_left
            · intro o ho w hSw
              obtain ⟨z0, z1, z2⟩ := hSw
              cases ho
              go_simp
              try with_reducible rfl
            try simp only [Act.put, List.setIfInBounds_toArray, List.set_cons_zero, List.set_cons_succ]
            refine takeH 3 (some 57) (v := ?_) (by rfl) (by rfl) (by kernel_rfl) (by kernel_rfl) (by kernel_rfl) (fun _ _ _ h => h) ?_ (by assumption) ?_
            rotate_left
            · intro o ho w hSw
              obtain ⟨z0, z1, z2⟩ := hSw
              cases ho
              go_simp
              try with_reducible rfl
            try simp only [Act.put, List.setIfInBounds_toArray, List.set_cons_zero, List.set_cons_succ]
            refine takeH 4 (some 58) (v := ?_) (by rfl) (by rfl) (by kernel_rfl) (by kernel_rfl) (by kernel_rfl) (fun _ _ _ h => h) ?_ (by assumption) ?_
            rotate_left
            · intro o ho w hSw
              obtain ⟨z0, z1, z2⟩ := hSw
              cases ho
              go_simp
              try with_reducible rfl
            try simp only [Act.put, List.setIfInBounds_toArray, List.set_cons_zero, List.set_cons_succ]
            refine takeH 5 (some 59) (v := .bool false) (by rfl) (by rfl) (by kernel_rfl) (by kernel_rfl) (by kernel_rfl) (fun _ _ _ h => h) ?_ (by assumption) ?_
            skip
            · intro o ho w hSw
              obtain ⟨z0, z1, z2⟩ := hSw
              cases ho
              go_simp
              try with_reducible rfl
            try simp only [Act.put, List.setIfInBounds_toArray, List.set_cons_zero, List.set_cons_succ]
            refine takeH 6 (some 60) (v := ?_) (by rfl) (by rfl) (by kernel_rfl) (by kernel_rfl) (by kernel_rfl) (fun _ _ _ h => h) ?_ (by assumption) ?_
            rotate_left
            · intro o ho w hSw
              obtain ⟨z0, z1, z2⟩ := hSw
              cases ho
              go_simp
              try with_reducible rfl
            try simp only [Act.put, List.setIfInBounds_toArray, List.set_cons_zero, List.set_cons_succ]
            refine takeH 7 (some 61) (v := ?_) (by rfl) (by rfl) (by kernel_rfl) (by kernel_rfl) (by kernel_rfl) (fun _ _ _ h => h) ?_ (by assumption) ?_
            rotate_left
            · intro o ho w hSw
              obtain ⟨z0, z1, z2⟩ := hSw
              cases ho
              go_simp
              try with_reducible rfl
            try simp only [Act.put, List.setIfInBounds_toArray, List.set_cons_zero, List.set_cons_succ]
            refine takeH 8 (some 62) (v := ?_) (by rfl) (by rfl) (by kernel_rfl) (by kernel_rfl) (by kernel_rfl) (fun _ _ _ h => h) ?_ (by assumption) ?_
            rotate_left
            · intro o ho w hSw
              obtain ⟨z0, z1, z2⟩ := hSw
              cases ho
              go_simp
              try with_reducible rfl
            try simp only [Act.put, List.setIfInBounds_toArray, List.set_cons_zero, List.set_cons_succ]
            refine takeH 9 (some 63) (v := ?_) (by rfl) (by rfl) (by kernel_rfl) (by kernel_rfl) (by kernel_rfl) (fun _ _ _ h => h) ?_ (by assumption) ?_
            rotate_left
            · intro o ho w hSw
              obtain ⟨z0, z1, z2⟩ := hSw
              cases ho
              go_simp
              try with_reducible rfl
            try simp only [Act.put, List.setIfInBounds_toArray, List.set_cons_zero, List.set_cons_succ]
            refine takeH 10 (some 64) (v := ?_) (by rfl) (by rfl) (by kernel_rfl) (by kernel_rfl) (by kernel_rfl) (fun _ _ _ h => h) ?_ (by assumption) ?_
            rotate_left
            · intro o ho w hSw
              obtain ⟨z0, z1, z2⟩ := hSw
              cases ho
              go_simp
              try with_reducible rfl
            try simp only [Act.put, List.setIfInBounds_toArray, List.set_cons_zero, List.set_cons_succ]
            refine takeH 11 (some 65) (v := ?_) (by rfl) (by rfl) (by kernel_rfl) (by kernel_rfl) (by kernel_rfl) (fun _ _ _ h => h) ?_ (by assumption) ?_
            rotate_left
            · intro o ho w hSw
              obtain ⟨z0, z1, z2⟩ := hSw
              cases ho
              go_simp
              try with_reducible rfl
            try simp only [Act.put, List.setIfInBounds_toArray, List.set_cons_zero, List.set_cons_succ]
            refine takeH 12 (some 66) (v := ?_) (by rfl) (by rfl) (by kernel_rfl) (by kernel_rfl) (by kernel_rfl) (fun _ _ _ h => h) ?_ (by assumption) ?_
            rotate_left
            · intro o ho w hSw
              obtain ⟨z0, z1, z2⟩ := hSw
              cases ho
              go_simp
              try with_reducible rfl
            try simp only [Act.put, List.setIfInBounds_toArray, List.set_cons_zero, List.set_cons_succ]
            refine takeH 13 (some 67) (v := .bool false) (by rfl) (by rfl) (by kernel_rfl) (by kernel_rfl) (by kernel_rfl) (fun _ _ _ h => h) ?_ (by assumption) ?_
            skip
            · intro o ho w hSw
              obtain ⟨z0, z1, z2⟩ := hSw
              cases ho
              go_simp
              try with_reducible rfl
            try simp only [Act.put, List.setIfInBounds_toArray, List.set_cons_zero, List.set_cons_succ]
            refine takeH 14 (some 68) (v := ?_) (by rfl) (by rfl) (by kernel_rfl) (by kernel_rfl) (by kernel_rfl) (fun _ _ _ h => h) ?_ (by assumption) ?_
            rotate_left
            · intro o ho w hSw
              obtain ⟨z0, z1, z2⟩ := hSw
              cases ho
              go_simp
              try with_reducible rfl
            try simp only [Act.put, List.setIfInBounds_toArray, List.set_cons_zero, List.set_cons_succ]
            refine takeH 15 (some 69) (v := ?_) (by rfl) (by rfl) (by kernel_rfl) (by kernel_rfl) (by kernel_rfl) (fun _ _ _ h => h) ?_ (by assumption) ?_
            rotate_left
            · intro o ho w hSw
              obtain ⟨z0, z1, z2⟩ := hSw
              cases ho
              go_simp
              try with_reducible rfl
            try simp only [Act.put, List.setIfInBounds_toArray, List.set_cons_zero, List.set_cons_succ]
            refine takeH 16 (some 70) (v := ?_) (by rfl) (by rfl) (by kernel_rfl) (by kernel_rfl) (by kernel_rfl) (fun _ _ _ h => h) ?_ (by assumption) ?_
            rotate_left
            · intro o ho w hSw
              obtain ⟨z0, z1, z2⟩ := hSw
              cases ho
              go_simp
              try with_reducible rfl
            try simp only [Act.put, List.setIfInBounds_toArray, List.set_cons_zero, List.set_cons_succ]
            refine takeH 17 (some 71) (v := .bool true) (by rfl) (by rfl) (by kernel_rfl) (by kernel_rfl) (by kernel_rfl) (fun _ _ _ h => h) ?_ (by assumption) ?_
            skip
            · intro o ho w hSw
              obtain ⟨z0, z1, z2⟩ := hSw
              cases ho
              go_simp
              try with_reducible rfl
            try simp only [Act.put, List.setIfInBounds_toArray, List.set_cons_zero, List.set_cons_succ]
            refine takeH 18 (some 72) (v := ?_) (by rfl) (by rfl) (by kernel_rfl) (by kernel_rfl) (by kernel_rfl) (fun _ _ _ h => h) ?_ (by assumption) ?_
            rotate_left
            · intro o ho w hSw
              obtain ⟨z0, z1, z2⟩ := hSw
              cases ho
              go_simp
              try with_reducible rfl
            try simp only [Act.put, List.setIfInBounds_toArray, List.set_cons_zero, List.set_cons_succ]
            refine takeH 19 (some 73) (v := ?_) (by rfl) (by rfl) (by kernel_rfl) (by kernel_rfl) (by kernel_rfl) (fun _ _ _ h => h) ?_ (by assumption) ?_
            rotate_left
            · intro o ho w hSw
              obtain ⟨z0, z1, z2⟩ := hSw
              cases ho
              go_simp
              try with_reducible rfl
            try simp only [Act.put, List.setIfInBounds_toArray, List.set_cons_zero, List.set_cons_succ]
            refine takeH 20 (some 74) (v := ?_) (by rfl) (by rfl) (by kernel_rfl) (by kernel_rfl) (by kernel_rfl) (fun _ _ _ h => h) ?_ (by assumption) ?_
            rotate_left
            · intro o ho w hSw
              obtain ⟨z0, z1, z2⟩ := hSw
              cases ho
              go_simp
              try with_reducible rfl
            try simp only [Act.put, List.setIfInBounds_toArray, List.set_cons_zero, List.set_cons_succ]
            refine takeH 21 (some 75) (v := ?_) (by rfl) (by rfl) (by kernel_rfl) (by kernel_rfl) (by kernel_rfl) (fun _ _ _ h => h) ?_ (by assumption) ?_
            rotate_left
            · intro o ho w hSw
              obtain ⟨z0, z1, z2⟩ := hSw
              cases ho
              go_simp
              try with_reducible rfl
            try simp only [Act.put, List.setIfInBounds_toArray, List.set_cons_zero, List.set_cons_succ]
            refine takeH 22 (some 76) (v := ?_) (by rfl) (by rfl) (by kernel_rfl) (by kernel_rfl) (by kernel_rfl) (fun _ _ _ h => h) ?_ (by assumption) ?_
            rotate_left
            · intro o ho w hSw
              obtain ⟨z0, z1, z2⟩ := hSw
              cases ho
              go_simp
              try with_reducible rfl
            try simp only [Act.put, List.setIfInBounds_toArray, List.set_cons_zero, List.set_cons_succ]
            refine takeH 23 (some 77) (v := ?_) (by rfl) (by rfl) (by kernel_rfl) (by kernel_rfl) (by kernel_rfl) (fun _ _ _ h => h) ?_ (by assumption) ?_
            rotate_left
            · intro o ho w hSw
              obtain ⟨z0, z1, z2⟩ := hSw
              cases ho
              go_simp
              try with_reducible rfl
            try simp only [Act.put, List.setIfInBounds_toArray, List.set_cons_zero, List.set_cons_succ]
            refine takeH 24 (some 78) (v := ?_) (by rfl) (by rfl) (by kernel_rfl) (by kernel_rfl) (by kernel_rfl) (fun _ _ _ h => h) ?_ (by assumption) ?_
            rotate_left
            · intro o ho w hSw
              obtain ⟨z0, z1, z2⟩ := hSw
              cases ho
              go_simp
              try with_reducible rfl
            try simp only [Act.put, List.setIfInBounds_toArray, List.set_cons_zero, List.set_cons_succ]
            refine takeH 25 (some 79) (v := ?_) (by rfl) (by rfl) (by kernel_rfl) (by kernel_rfl) (by kernel_rfl) (fun _ _ _ h => h) ?_ (by assumption) ?_
            rotate_left
            · intro o ho w hSw
              obtain ⟨z0, z1, z2⟩ := hSw
              cases ho
              go_simp
              try with_reducible rfl
            try simp only [Act.put, List.setIfInBounds_toArray, List.set_cons_zero, List.set_cons_succ]
            refine takeH 26 (some 80) (v := ?_) (by rfl) (by rfl) (by kernel_rfl) (by kernel_rfl) (by kernel_rfl) (fun _ _ _ h => h) ?_ (by assumption) ?_
            rotate_left
            · intro o ho w hSw
              obtain ⟨z0, z1, z2⟩ := hSw
              cases ho
              go_simp
              try with_reducible rfl
            try simp only [Act.put, List.setIfInBounds_toArray, List.set_cons_zero, List.set_cons_succ]
            refine takeH 27 (some 81) (v := .int .i64 (j : Int)) (by rfl) (by rfl) (by kernel_rfl) (by kernel_rfl) (by kernel_rfl) (fun _ _ _ h => h) ?_ (by assumption) ?_
            skip
            · intro o ho w hSw
              obtain ⟨z0, z1, z2⟩ := hSw
              cases ho
              go_simp
              try rfl
            try simp only [Act.put, List.setIfInBounds_toArray, List.set_cons_zero, List.set_cons_succ]
            refine takeH 28 (some 82) (v := ?_) (by rfl) (by rfl) (by kernel_rfl) (by kernel_rfl) (by kernel_rfl) (fun _ _ _ h => h) ?_ (by assumption) ?_
            rotate_left
            · intro o ho w hSw
              obtain ⟨z0, z1, z2⟩ := hSw
              cases ho
              go_simp
              try with_reducible rfl
            try simp only [Act.put, List.setIfInBounds_toArray, List.set_cons_zero, List.set_cons_succ]
            refine takeH 29 (some 83) (v := ?_) (by rfl) (by rfl) (by kernel_rfl) (by kernel_rfl) (by kernel_rfl) (fun _ _ _ h => h) ?_ (by assumption) ?_
            rotate_left
            · intro o ho w hSw
              obtain ⟨z0, z1, z2⟩ := hSw
              cases ho
              go_simp
              try with_reducible rfl
            try simp only [Act.put, List.setIfInBounds_toArray, List.set_cons_zero, List.set_cons_succ]
            refine takeH 30 (some 84) (v := .bool true) (by rfl) (by rfl) (by kernel_rfl) (by kernel_rfl) (by kernel_rfl) (fun _ _ _ h => h) ?_ (by assumption) ?_
            skip
            · intro o ho w hSw
              obtain ⟨z0, z1, z2⟩ := hSw
              cases ho
              go_simp
              try with_reducible rfl
            try simp only [Act.put, List.setIfInBounds_toArray, List.set_cons_zero, List.set_cons_succ]
            refine takeH 31 (some 85) (v := ?_) (by rfl) (by rfl) (by kernel_rfl) (by kernel_rfl) (by kernel_rfl) (fun _ _ _ h => h) ?_ (by assumption) ?_
            rotate_left
            · intro o ho w hSw
              obtain ⟨z0, z1, z2⟩ := hSw
              cases ho
              go_simp
              try with_reducible rfl
            try simp only [Act.put, List.setIfInBounds_toArray, List.set_cons_zero, List.set_cons_succ]
            refine takeH 32 (some 86) (v := ?_) (by rfl) (by rfl) (by kernel_rfl) (by kernel_rfl) (by kernel_rfl) (fun _ _ _ h => h) ?_ (by assumption) ?_
            rotate_left
            · intro o ho w hSw
              obtain ⟨z0, z1, z2⟩ := hSw
              cases ho
              go_simp
              try with_reducible rfl
            try simp only [Act.put, List.setIfInBounds_toArray, List.set_cons_zero, List.set_cons_succ]
            refine wpAnyH_done (by kernel_rfl) ?_ _
            go_wp2
            go_ret
            rw [HE.out]
            exact ⟨rfl, HB3.out⟩
          have HD2 : Hid (lotsBad n (-1) ls = lotsBad n x (ls.drop (j + 1 + 1))) := Lib.hid (by rw [HBADJ.out, HD.out]; simp [x1, x2])
          go_wp2
          refine wp_region_held_drew (S := (fun w' => w'.cell? ⟨gx, 2, none⟩ = some (.slice (some ⟨b2, o2, none⟩) sn sc) ∧ w'.cell? ⟨b2, o2 + (j + 1), none⟩ = some (.int .i64 x) ∧ w'.cell? ⟨b2, o2 + j, none⟩ = some (.int .i64 last))) (by kernel_rfl) ⟨q2, hc2, hc3⟩ (fun hHeld => ?_)
          refine takeH 0 (some 54) (v := ?_) (by rfl) (by rfl) (by kernel_rfl) (by kernel_rfl) (by kernel_rfl) (fun _ _ _ h => h) ?_ (by assumption) ?_
          rotate_left
          · intro o ho w hSw
            obtain ⟨z0, z1, z2⟩ := hSw
            cases ho
            go_simp
            try with_reducible rfl
          try simp only [Act.put, List.setIfInBounds_toArray, List.set_cons_zero, List.set_cons_succ]
          refine takeH 1 (some 55) (v := ?_) (by rfl) (by rfl) (by kernel_rfl) (by kernel_rfl) (by kernel_rfl) (fun _ _ _ h => h) ?_ (by assumption) ?_
          rotate_left
          · intro o ho w hSw
            obtain ⟨z0, z1, z2⟩ := hSw
            cases ho
            go_simp
            try with_reducible rfl
          try simp only [Act.put, List.setIfInBounds_toArray, List.set_cons_zero, List.set_cons_succ]
          refine takeH 2 (some 56) (v := ?_) (by rfl) (by rfl) (by kernel_rfl) (by kernel_rfl) (by kernel_rfl) (fun _ _ _ h => h) ?_ (by assumption) ?_
          rotate_left
          · intro o ho w hSw
            obtain ⟨z0, z1, z2⟩ := hSw
            cases ho
            go_simp
            try with_reducible rfl
          try simp only [Act.put, List.setIfInBounds_toArray, List.set_cons_zero, List.set_cons_succ]
          refine takeH 3 (some 57) (v := ?_) (by rfl) (by rfl) (by kernel_rfl) (by kernel_rfl) (by kernel_rfl) (fun _ _ _ h => h) ?_ (by assumption) ?_
          rotate_left
          · intro o ho w hSw
            obtain ⟨z0, z1, z2⟩ := hSw
            cases ho
            go_simp
            try with_reducible rfl
          try simp only [Act.put, List.setIfInBounds_toArray, List.set_cons_zero, List.set_cons_succ]
          refine takeH 4 (some 58) (v := ?_) (by rfl) (by rfl) (by kernel_rfl) (by kernel_rfl) (by kernel_rfl) (fun _ _ _ h => h) ?_ (by assumption) ?_
          rotate_left
          · intro o ho w hSw
            obtain ⟨z0, z1, z2⟩ := hSw
            cases ho
            go_simp
            try with_reducible rfl
          try simp only [Act.put, List.setIfInBounds_toArray, List.set_cons_zero, List.set_cons_succ]
          refine takeH 5 (some 59) (v := .bool false) (by rfl) (by rfl) (by kernel_rfl) (by kernel_rfl) (by kernel_rfl) (fun _ _ _ h => h) ?_ (by assumption) ?_
          skip
          · intro o ho w hSw
            obtain ⟨z0, z1, z2⟩ := hSw
            cases ho
            go_simp
            try with_reducible rfl
          try simp only [Act.put, List.setIfInBounds_toArray, List.set_cons_zero, List.set_cons_succ]
          refine takeH 6 (some 60) (v := ?_) (by rfl) (by rfl) (by kernel_rfl) (by kernel_rfl) (by kernel_rfl) (fun _ _ _ h => h) ?_ (by assumption) ?_
          rotate_left
          · intro o ho w hSw
            obtain ⟨z0, z1, z2⟩ := hSw
            cases ho
            go_simp
            try with_reducible rfl
          try simp only [Act.put, List.setIfInBounds_toArray, List.set_cons_zero, List.set_cons_succ]
          refine takeH 7 (some 61) (v := ?_) (by rfl) (by rfl) (by kernel_rfl) (by kernel_rfl) (by kernel_rfl) (fun _ _ _ h => h) ?_ (by assumption) ?_
          rotate_left
          · intro o ho w hSw
            obtain ⟨z0, z1, z2⟩ := hSw
            cases ho
            go_simp
            try with_reducible rfl
          try simp only [Act.put, List.setIfInBounds_toArray, List.set_cons_zero, List.set_cons_succ]
          refine takeH 8 (some 62) (v := ?_) (by rfl) (by rfl) (by kernel_rfl) (by kernel_rfl) (by kernel_rfl) (fun _ _ _ h => h) ?_ (by assumption) ?_
          rotate_left
          · intro o ho w hSw
            obtain ⟨z0, z1, z2⟩ := hSw
            cases ho
            go_simp
            try with_reducible rfl
          try simp only [Act.put, List.setIfInBounds_toArray, List.set_cons_zero, List.set_cons_succ]
          refine takeH 9 (some 63) (v := ?_) (by rfl) (by rfl) (by kernel_rfl) (by kernel_rfl) (by kernel_rfl) (fun _ _ _ h => h) ?_ (by assumption) ?_
          rotate_left
          · intro o ho w hSw
            obtain ⟨z0, z1, z2⟩ := hSw
            cases ho
            go_simp
            try with_reducible rfl
          try simp only [Act.put, List.setIfInBounds_toArray, List.set_cons_zero, List.set_cons_succ]
          refine takeH 10 (some 64) (v := ?_) (by rfl) (by rfl) (by kernel_rfl) (by kernel_rfl) (by kernel_rfl) (fun _ _ _ h => h) ?_ (by assumption) ?_
          rotate_left
          · intro o ho w hSw
            obtain ⟨z0, z1, z2⟩ := hSw
            cases ho
            go_simp
            try with_reducible rfl
          try simp only [Act.put, List.setIfInBounds_toArray, List.set_cons_zero, List.set_cons_succ]
          refine takeH 11 (some 65) (v := ?_) (by rfl) (by rfl) (by kernel_rfl) (by kernel_rfl) (by kernel_rfl) (fun _ _ _ h => h) ?_ (by assumption) ?_
          rotate_left
          · intro o ho w hSw
            obtain ⟨z0, z1, z2⟩ := hSw
            cases ho
            go_simp
            try with_reducible rfl
          try simp only [Act.put, List.setIfInBounds_toArray, List.set_cons_zero, List.set_cons_succ]
          refine takeH 12 (some 66) (v := ?_) (by rfl) (by rfl) (by kernel_rfl) (by kernel_rfl) (by kernel_rfl) (fun _ _ _ h => h) ?_ (by assumption) ?_
          rotate_left
          · intro o ho w hSw
            obtain ⟨z0, z1, z2⟩ := hSw
            cases ho
            go_simp
            try with_reducible rfl
          try simp only [Act.put, List.setIfInBounds_toArray, List.set_cons_zero, List.set_cons_succ]
          refine takeH 13 (some 67) (v := .bool false) (by rfl) (by rfl) (by kernel_rfl) (by kernel_rfl) (by kernel_rfl) (fun _ _ _ h => h) ?_ (by assumption) ?_
          skip
          · intro o ho w hSw
            obtain ⟨z0, z1, z2⟩ := hSw
            cases ho
            go_simp
            try with_reducible rfl
          try simp only [Act.put, List.setIfInBounds_toArray, List.set_cons_zero, List.set_cons_succ]
          refine takeH 14 (some 68) (v := ?_) (by rfl) (by rfl) (by kernel_rfl) (by kernel_rfl) (by kernel_rfl) (fun _ _ _ h => h) ?_ (by assumption) ?_
          rotate_left
          · intro o ho w hSw
            obtain ⟨z0, z1, z2⟩ := hSw
            cases ho
            go_simp
            try with_reducible rfl
          try simp only [Act.put, List.setIfInBounds_toArray, List.set_cons_zero, List.set_cons_succ]
          refine takeH 15 (some 69) (v := ?_) (by rfl) (by rfl) (by kernel_rfl) (by kernel_rfl) (by kernel_rfl) (fun _ _ _ h => h) ?_ (by assumption) ?_
          rotate_left
          · intro o ho w hSw
            obtain ⟨z0, z1, z2⟩ := hSw
            cases ho
            go_simp
            try with_reducible rfl
          try simp only [Act.put, List.setIfInBounds_toArray, List.set_cons_zero, List.set_cons_succ]
          refine takeH 16 (some 70) (v := ?_) (by rfl) (by rfl) (by kernel_rfl) (by kernel_rfl) (by kernel_rfl) (fun _ _ _ h => h) ?_ (by assumption) ?_
          rotate_left
          · intro o ho w hSw
            obtain ⟨z0, z1, z2⟩ := hSw
            cases ho
            go_simp
            try with_reducible rfl
          try simp only [Act.put, List.setIfInBounds_toArray, List.set_cons_zero, List.set_cons_succ]
          refine takeH 17 (some 71) (v := .bool true) (by rfl) (by rfl) (by kernel_rfl) (by kernel_rfl) (by kernel_rfl) (fun _ _ _ h => h) ?_ (by assumption) ?_
          skip
          · intro o ho w hSw
            obtain ⟨z0, z1, z2⟩ := hSw
            cases ho
            go_simp
            try with_reducible rfl
          try simp only [Act.put, List.setIfInBounds_toArray, List.set_cons_zero, List.set_cons_succ]
          refine takeH 18 (some 72) (v := ?_) (by rfl) (by rfl) (by kernel_rfl) (by kernel_rfl) (by kernel_rfl) (fun _ _ _ h => h) ?_ (by assumption) ?_
          rotate_left
          · intro o ho w hSw
            obtain ⟨z0, z1, z2⟩ := hSw
            cases ho
            go_simp
            try with_reducible rfl
          try simp only [Act.put, List.setIfInBounds_toArray, List.set_cons_zero, List.set_cons_succ]
          refine takeH 19 (some 73) (v := ?_) (by rfl) (by rfl) (by kernel_rfl) (by kernel_rfl) (by kernel_rfl) (fun _ _ _ h => h) ?_ (by assumption) ?_
          rotate_left
          · intro o ho w hSw
            obtain ⟨z0, z1, z2⟩ := hSw
            cases ho
            go_simp
            try with_reducible rfl
          try simp only [Act.put, List.setIfInBounds_toArray, List.set_cons_zero, List.set_cons_succ]
          refine takeH 20 (some 74) (v := ?_) (by rfl) (by rfl) (by kernel_rfl) (by kernel_rfl) (by kernel_rfl) (fun _ _ _ h => h) ?_ (by assumption) ?_
          rotate_left
          · intro o ho w hSw
            obtain ⟨z0, z1, z2⟩ := hSw
            cases ho
            go_simp
            try with_reducible rfl
          try simp only [Act.put, List.setIfInBounds_toArray, List.set_cons_zero, List.set_cons_succ]
          refine takeH 21 (some 75) (v := ?_) (by rfl) (by rfl) (by kernel_rfl) (by kernel_rfl) (by kernel_rfl) (fun _ _ _ h => h) ?_ (by assumption) ?_
          rotate_left
          · intro o ho w hSw
            obtain ⟨z0, z1, z2⟩ := hSw
            cases ho
            go_simp
            try with_reducible rfl
          try simp only [Act.put, List.setIfInBounds_toArray, List.set_cons_zero, List.set_cons_succ]
          refine takeH 22 (some 76) (v := ?_) (by rfl) (by rfl) (by kernel_rfl) (by kernel_rfl) (by kernel_rfl) (fun _ _ _ h => h) ?_ (by assumption) ?_
          rotate_left
          · intro o ho w hSw
            obtain ⟨z0, z1, z2⟩ := hSw
            cases ho
            go_simp
            try with_reducible rfl
          try simp only [Act.put, List.setIfInBounds_toArray, List.set_cons_zero, List.set_cons_succ]
          refine takeH 23 (some 77) (v := ?_) (by rfl) (by rfl) (by kernel_rfl) (by kernel_rfl) (by kernel_rfl) (fun _ _ _ h => h) ?_ (by assumption) ?_
          rotate_left
          · intro o ho w hSw
            obtain ⟨z0, z1, z2⟩ := hSw
            cases ho
            go_simp
            try with_reducible rfl
          try simp only [Act.put, List.setIfInBounds_toArray, List.set_cons_zero, List.set_cons_succ]
          refine takeH 24 (some 78) (v := ?_) (by rfl) (by rfl) (by kernel_rfl) (by kernel_rfl) (by kernel_rfl) (fun _ _ _ h => h) ?_ (by assumption) ?_
          rotate_left
          · intro o ho w hSw
            obtain ⟨z0, z1, z2⟩ := hSw
            cases ho
            go_simp
            try with_reducible rfl
          try simp only [Act.put, List.setIfInBounds_toArray, List.set_cons_zero, List.set_cons_succ]
          refine takeH 25 (some 79) (v := ?_) (by rfl) (by rfl) (by kernel_rfl) (by kernel_rfl) (by kernel_rfl) (fun _ _ _ h => h) ?_ (by assumption) ?_
          rotate_left
          · intro o ho w hSw
            obtain ⟨z0, z1, z2⟩ := hSw
            cases ho
            go_simp
            try with_reducible rfl
          try simp only [Act.put, List.setIfInBounds_toArray, List.set_cons_zero, List.set_cons_succ]
          refine takeH 26 (some 80) (v := ?_) (by rfl) (by rfl) (by kernel_rfl) (by kernel_rfl) (by kernel_rfl) (fun _ _ _ h => h) ?_ (by assumption) ?_
          rotate_left
          · intro o ho w hSw
            obtain ⟨z0, z1, z2⟩ := hSw
            cases ho
            go_simp
            try with_reducible rfl
          try simp only [Act.put, List.setIfInBounds_toArray, List.set_cons_zero, List.set_cons_succ]
          refine takeH 27 (some 81) (v := .int .i64 (j : Int)) (by rfl) (by rfl) (by kernel_rfl) (by kernel_rfl) (by kernel_rfl) (fun _ _ _ h => h) ?_ (by assumption) ?_
          skip
          · intro o ho w hSw
            obtain ⟨z0, z1, z2⟩ := hSw
            cases ho
            go_simp
            try rfl
          try simp only [Act.put, List.setIfInBounds_toArray, List.set_cons_zero, List.set_cons_succ]
          refine takeH 28 (some 82) (v := ?_) (by rfl) (by rfl) (by kernel_rfl) (by kernel_rfl) (by kernel_rfl) (fun _ _ _ h => h) ?_ (by assumption) ?_
          rotate_left
          · intro o ho w hSw
            obtain ⟨z0, z1, z2⟩ := hSw
            cases ho
            go_simp
            try with_reducible rfl
          try simp only [Act.put, List.setIfInBounds_toArray, List.set_cons_zero, List.set_cons_succ]
          refine takeH 29 (some 83) (v := ?_) (by rfl) (by rfl) (by kernel_rfl) (by kernel_rfl) (by kernel_rfl) (fun _ _ _ h => h) ?_ (by assumption) ?_
          rotate_left
          · intro o ho w hSw
            obtain ⟨z0, z1, z2⟩ := hSw
            cases ho
            go_simp
            try with_reducible rfl
          try simp only [Act.put, List.setIfInBounds_toArray, List.set_cons_zero, List.set_cons_succ]
          refine takeH 30 (some 84) (v := .bool false) (by rfl) (by rfl) (by kernel_rfl) (by kernel_rfl) (by kernel_rfl) (fun _ _ _ h => h) ?_ (by assumption) ?_
          skip
          · intro o ho w hSw
            obtain ⟨z0, z1, z2⟩ := hSw
            cases ho
            go_simp
            try with_reducible rfl
          try simp only [Act.put, List.setIfInBounds_toArray, List.set_cons_zero, List.set_cons_succ]
          refine takeH 31 (some 85) (v := ?_) (by rfl) (by rfl) (by kernel_rfl) (by kernel_rfl) (by kernel_rfl) (fun _ _ _ h => h) ?_ (by assumption) ?_
          rotate_left
          · intro o ho w hSw
            obtain ⟨z0, z1, z2⟩ := hSw
            cases ho
            go_simp
            try with_reducible rfl
          try simp only [Act.put, List.setIfInBounds_toArray, List.set_cons_zero, List.set_cons_succ]
          refine takeH 32 (some 86) (v := ?_) (by rfl) (by rfl) (by kernel_rfl) (by kernel_rfl) (by kernel_rfl) (fun _ _ _ h => h) ?_ (by assumption) ?_
          rotate_left
          · intro o ho w hSw
            obtain ⟨z0, z1, z2⟩ := hSw
            cases ho
            go_simp
            try with_reducible rfl
          try simp only [Act.put, List.setIfInBounds_toArray, List.set_cons_zero, List.set_cons_succ]
          refine wpAnyH_done (by kernel_rfl) ?_ _
          go_wp2
          exact ⟨⟨j + 1 + 1, x, by omega, by go_num, by omega, Lib.hid (fun q h => by obtain rfl : q = j + 1 := (by omega); exact HX.out), HD2, HB4⟩, by simp [intOf]; omega⟩
        · obtain rfl : j = sn := by omega
          have HF2 : Hid (firstE n L = firstE n (L.drop (k + 1))) := Lib.hid (by
            rw [HF.out]
            refine (HNX ?_).out
            rw [HBD.out false (by rw [HBADJ.out, List.drop_eq_nil_of_le (by rw [HSL.out]; exact Nat.le_refl _)]; rfl)]
            rfl)
          clear FIN HNX HBD
          go_wp2
          exact ⟨⟨k + 1, by omega, by go_num, HF2, HB5⟩, by simp [intOf]; omega⟩
    · obtain rfl : k = m := by omega
      go_wp2
      go_ret
      rw [HV.out, HF.out, List.drop_eq_nil_of_le (by rw [HM.out]; exact Nat.le_refl _)]
      exact ⟨rfl, HB.out⟩
end Go.Proofs.Ytikfcpkobgejmaa

/- reference: best, Best, Win: they return choices that are feasible. -/
namespace Go.Proofs.Ytikfcpkobgejmaa
open Go.RowKit

def RBestPost (L : List Bd) (m : Nat) (w : World) (e : Ending) (w' : World) : Prop := ∃ A' k c' C, e = .returned (.tuple #[.slice A' k c', .int .i64 (valueB L C)]) ∧ NIn w' w'.heap.size (A', k, c') C ∧ feasB L C = true ∧ k ≤ m ∧ Below w.heap.size w w'
set_option maxRecDepth 100000 in
set_option maxHeartbeats 8000000 in
theorem rbest_any (A : Option Addr) (m c : Nat) (L : List Bd) (wo : Int) (w : World) (HL : Hid (Bds w (A, m, c) L)) (hm : m ≤ 10) (HN : Hid (∀ b ∈ L, b.s.2.1 ≤ 1000000)) (HP : Hid (PricesOk L)) :
    Calls Try.prog 63 #[.slice A m c, .int .i64 wo] w (RBestPost L m w) := by
  have HLL := Lib.hid HL.out.rows.len
  dsimp only at HLL
  go_enter Try.func63, Try.ntmps63
  go_wp2
  go_loop [8, 9] (fun tv iv => ∃ i T : Nat, i ≤ m ∧ iv = .int .i64 (i : Int) ∧ tv = .int .i64 (T : Int) ∧ Hid (T = 2 ^ i)) (fun _ iv => m - (intOf iv).toNat)
  case atStart => exact ⟨0, 1, by omega, rfl, rfl, Lib.hid rfl⟩
  case round =>
    obtain ⟨i, T, hi, rfl, rfl, HT⟩ := hrel
    have hT : T ≤ 1024 := by rw [HT.out]; exact Nat.le_trans (Nat.pow_le_pow_right (by omega) (show i ≤ 10 by omega)) (by decide)
    by_cases him : i < m
    · have HT2 : Hid (T * 2 = 2 ^ (i + 1)) := Lib.hid (by rw [HT.out, Nat.pow_succ])
      go_wp2
      exact ⟨⟨i + 1, T * 2, by omega, by go_num, by go_num, HT2⟩, by simp [intOf]; omega⟩
    obtain rfl : i = m := by omega
    clear HT
    go_wp2
    go_loopw [6, 7, 10] (fun sv vv bv wr => ∃ (b : Nat) (A' : Option Addr) (k c' : Nat) (C : List Int), b ≤ T ∧ bv = .int .i64 (b : Int) ∧ sv = .slice A' k c' ∧ vv = .int .i64 (valueB L C) ∧ k ≤ i ∧ Hid (NIn wr wr.heap.size (A', k, c') C) ∧ Hid (feasB L C = true) ∧ Hid (Below w.heap.size w wr)) (fun _ _ bv _ => T - (intOf bv).toNat)
    case atStart => exact ⟨0, none, 0, 0, [], by omega, rfl, rfl, rfl, by omega, Lib.hid (NIn.nil _ _), Lib.hid rfl, Lib.hid (Below.refl _ _)⟩
    case round =>
      obtain ⟨b, A', k, c', C, hb, rfl, rfl, rfl, hk, HC, HFE, HB⟩ := hrel
      by_cases hbT : b < T
      rotate_left
      · have HF : Hid (RBestPost L i w (.returned (.tuple #[.slice A' k c', .int .i64 (valueB L C)])) wr) := Lib.hid ⟨A', k, c', C, rfl, HC.out, HFE.out, hk, HB.out⟩
        obtain rfl : b = T := by omega
        go_wp2
        exact bodyPost_ret (v := .tuple #[.slice A' k c', .int .i64 (valueB L C)]) (by simp [results, Try.results63, go_sem]) rfl HF.out
      have hbi : (b : Int) < (T : Int) := by omega
      go_wp2_with fail
      refine (choice_any (b : Int) i wr (by omega) (by omega) (by omega)).mono ?_
      rintro e w2 ⟨A1, k1, c1, C1, rfl, hO1, hl1, hk1, hlb1, hb1⟩
      have HC1 := Lib.hid hO1.nin
      have HL1 := Lib.hid hl1
      have HLB1 := Lib.hid hlb1
      have HB2 := Lib.hid (bt HB.out hb1)
      have HC2 := Lib.hid (NIn.all HC.out hb1)
      clear hO1 hl1 hlb1 hb1 HC HB
      go_wp2_with fail
      refine (rfeas_any A i c A1 k1 c1 L C1 w2 (Lib.hid (HL.out.all HB2.out)) HC1 (by omega) HN).mono ?_
      rintro e w3 ⟨rfl, hb3⟩
      have HB3 := Lib.hid (bt HB2.out hb3)
      have HC3 := Lib.hid (NIn.all HC2.out hb3)
      have HC13 := Lib.hid (NIn.all HC1.out hb3)
      clear hb3 HB2 HC2 HC1
      have HFB : Hid (feasB L C1 = true → feasB L C1 = true) := Lib.hid (fun h => h)
      obtain ⟨fb, hfb⟩ : ∃ fb, feasB L C1 = fb := ⟨_, rfl⟩
      have HFF := Lib.hid hfb
      rw [hfb]
      clear hfb HFB
      go_wp2
      go_loop [12, 13] (fun fv jv => ∃ (j : Nat) (g : Bool), j ≤ k1 ∧ jv = .int .i64 (j : Int) ∧ fv = .bool g ∧ Hid (g = true → fb = true)) (fun _ jv => k1 - (intOf jv).toNat)
      case atStart => exact ⟨0, fb, by omega, rfl, rfl, Lib.hid (fun h => h)⟩
      case round =>
        obtain ⟨j, g, hj, rfl, rfl, HG⟩ := hrel
        by_cases hjk : j < k1
        · have hji : (j : Int) < (k1 : Int) := by omega
          cases g with
          | false =>
            go_wp2
            exact ⟨⟨j + 1, false, by omega, by go_num, rfl, Lib.hid (fun h => by cases h)⟩, by simp [intOf]; omega⟩
          | true =>
            obtain ⟨bc, oc, hAc, -, pc⟩ := HC13.out.cell (k := j) hjk
            dsimp only at hAc
            subst hAc
            have hxr := (lotsBad_ok HLB1.out (by omega)).2 (C1[j]?.getD 0) (by rw [List.getElem?_eq_getElem (by rw [HL1.out]; exact hjk)]; exact List.getElem_mem _)
            obtain ⟨xn, hxn⟩ : ∃ xn : Nat, C1[j]?.getD 0 = (xn : Int) := ⟨(C1[j]?.getD 0).toNat, by omega⟩
            rw [hxn] at pc hxr
            have hxi : (xn : Int) < (i : Int) := hxr.2
            have hx0 : (0 : Int) ≤ (xn : Int) := by omega
            obtain ⟨bA, oA, hAA, -, c0, -⟩ := (HL.out.all HB3.out).cell (k := xn) (by rw [HLL.out]; omega)
            dsimp only at hAA
            subst hAA
            replace c0 : ∃ bd, w3.cell? ⟨bA, oA + xn * 3, none⟩ = some (.int .i64 bd) := ⟨_, c0⟩
            obtain ⟨bd, c0⟩ := c0
            clear hxr hxn
            have HG2 : Hid ((bd != wo) = true → fb = true) := Lib.hid (fun _ => HG.out rfl)
            go_wp2
            exact ⟨⟨j + 1, bd != wo, by omega, by go_num, rfl, HG2⟩, by simp [intOf]; omega⟩
        obtain rfl : j = k1 := by omega
        have HVL := Lib.hid (rvalue_any (A, i, c) (A1, j, c1) L C1 w3 (Lib.hid (HL.out.all HB3.out)) HC13 HP (by dsimp only; omega))
        unfold slV at HVL
        dsimp only at HVL
        obtain ⟨v0, hv0⟩ : ∃ v, valueB L C = v := ⟨_, rfl⟩
        obtain ⟨v1, hv1⟩ : ∃ v, valueB L C1 = v := ⟨_, rfl⟩
        rw [hv1] at HVL
        rw [hv0]
        have HV0 := Lib.hid hv0
        have HV1 := Lib.hid hv1
        clear hv0 hv1
        cases g with
        | false =>
          go_wp2_with (go_at_call 13; (with_reducible refine HVL.out.mono ?_); rintro e w4 ⟨rfl, rfl⟩)
          exact ⟨⟨b + 1, A', k, c', C, by omega, by go_num, rfl, by rw [HV0.out], hk, HC3, HFE, HB3⟩, by simp [intOf]; omega⟩
        | true =>
          have HF1 : Hid (feasB L C1 = true) := Lib.hid (by rw [HFF.out]; exact HG.out rfl)
          by_cases hgt : v0 < v1
          · go_wp2_with (go_at_call 13; (with_reducible refine HVL.out.mono ?_); rintro e w4 ⟨rfl, rfl⟩)
            exact ⟨⟨b + 1, A1, j, c1, C1, by omega, by go_num, rfl, by rw [HV1.out], hk1, HC13, HF1, HB3⟩, by simp [intOf]; omega⟩
          by_cases heq : v1 = v0
          rotate_left
          · have hq : (v1 == v0) = false := by simpa using heq
            clear heq
            go_wp2_with (go_at_call 13; (with_reducible refine HVL.out.mono ?_); rintro e w4 ⟨rfl, rfl⟩)
            exact ⟨⟨b + 1, A', k, c', C, by omega, by go_num, rfl, by rw [HV0.out], hk, HC3, HFE, HB3⟩, by simp [intOf]; omega⟩
          have hq : (v1 == v0) = true := by simpa using heq
          have HEQ := Lib.hid heq
          clear heq
          go_wp2_with (go_at_call 13; (with_reducible refine HVL.out.mono ?_); rintro e w4 ⟨rfl, rfl⟩)
          refine (less_any A1 j c1 A' k c' C1 C _ HC13 HC3 (by omega)).mono ?_
          rintro e w5 ⟨r, rfl, hb5⟩
          have HB5 := Lib.hid (bt HB3.out hb5)
          have HC5 := Lib.hid (NIn.all HC3.out hb5)
          have HC15 := Lib.hid (NIn.all HC13.out hb5)
          clear hb5
          cases r with
          | true =>
            go_wp2
            exact ⟨⟨b + 1, A1, j, c1, C1, by omega, by go_num, rfl, by rw [HV1.out], hk1, HC15, HF1, HB5⟩, by simp [intOf]; omega⟩
          | false =>
            go_wp2
            exact ⟨⟨b + 1, A', k, c', C, by omega, by go_num, rfl, by rw [HV0.out], hk, HC5, HFE, HB5⟩, by simp [intOf]; omega⟩
theorem BidsOk.of_valid {n : Nat} {L : List Bd} (h : validE (n : Int) L = 0) {w : World} {s : Sl} (HL : Bds w s L) : BidsOk n L := by
  have := (valid_ok h HL).2.2.2
  simpa using this
def RBest3Post (L : List Bd) (m : Nat) (w : World) (e : Ending) (w' : World) : Prop := ∃ A' k c' C, e = .returned (.tuple #[.slice A' k c', .int .i64 (valueB L C), .int .i64 0]) ∧ NIn w' w'.heap.size (A', k, c') C ∧ feasB L C = true ∧ k ≤ m ∧ Below w.heap.size w w'
set_option maxHeartbeats 1000000 in
theorem rBest_any (n : Nat) (A : Option Addr) (m c : Nat) (L : List Bd) (w : World) (HL : Hid (Bds w (A, m, c) L)) (HV : Hid (validE (n : Int) L = 0)) :
    Calls Try.prog 44 #[.int .i64 (n : Int), .slice A m c] w (RBest3Post L m w) := by
  have HVA := Lib.hid (rvalid_any (n : Int) (A, m, c) L w HL)
  rw [HV.out] at HVA
  unfold slV at HVA
  dsimp only at HVA
  have HOK := Lib.hid (BidsOk.of_valid HV.out HL.out)
  have hm : m ≤ 10 := by
    have := (valid_ok HV.out HL.out).2.2.1
    rw [HL.out.rows.len] at this
    exact this
  go_enter Try.func44, Try.ntmps44
  go_wp2_with fail
  refine HVA.out.mono ?_
  rintro e w2 ⟨rfl, hb2⟩
  have HB2 := Lib.hid hb2
  clear hb2
  go_wp2_with fail
  refine (rbest_any A m c L 0 w2 (Lib.hid (HL.out.all HB2.out)) hm (Lib.hid (fun b hb => by have := (HOK.out b hb).2.2.1; omega)) (Lib.hid HOK.out.prices)).mono ?_
  rintro e w3 ⟨A', k, c', C, rfl, h1, h2, h3, hb3⟩
  have HF : Hid (RBest3Post L m w (.returned (.tuple #[.slice A' k c', .int .i64 (valueB L C), .int .i64 0])) w3) := Lib.hid ⟨A', k, c', C, rfl, h1, h2, h3, bt HB2.out hb3⟩
  clear h1 h2 hb3
  go_wp2
  exact bodyPost_ret (v := .tuple #[.slice A' k c', .int .i64 (valueB L C), .int .i64 0]) (by simp [results, Try.results44, go_sem]) rfl HF.out
end Go.Proofs.Ytikfcpkobgejmaa

/- reference: Win returns a feasible choice. -/
namespace Go.Proofs.Ytikfcpkobgejmaa
open Go.RowKit

theorem feasGo_take {L : List Bd} : ∀ (C : List Int) (q : Nat) (last : Int) (seen : List Bd), feasGo L last seen C = true → feasGo L last seen (C.take q) = true
  | [], q, _, _, _ => by rw [List.take_nil]; rfl
  | i :: t, 0, _, _, _ => rfl
  | i :: t, q + 1, last, seen, h => by
    rw [List.take_succ_cons]
    simp only [feasGo] at h ⊢
    split at h
    · cases h
    · rename_i h1
      rw [if_neg h1]
      split at h
      · cases h
      · rename_i b hb
        split at h
        · cases h
        · rename_i h2
          rw [if_neg h2]
          exact feasGo_take t q i _ h
theorem feasB_take {L : List Bd} {C : List Int} (q : Nat) (h : feasB L C = true) : feasB L (C.take q) = true := feasGo_take C q _ _ h
theorem NIn.take {w : World} {B n c : Nat} {A : Option Addr} {xs : List Int} (h : NIn w B (A, n, c) xs) (q : Nat) (hq : q ≤ n) : NIn w B (A, q, c) (xs.take q) := by
  have hl := h.len
  have hc := h.cap
  dsimp only at hl hc
  refine ⟨by rw [List.length_take]; dsimp only; omega, by dsimp only; omega, h.max, fun h0 => ?_⟩
  obtain ⟨b, off, e, hb, hcell⟩ := h.rd (show 0 < n by dsimp only at h0; omega)
  refine ⟨b, off, e, hb, fun j hj => ?_⟩
  dsimp only at hj
  rw [hcell j (by dsimp only; omega)]
  simp [vInt, hj]
theorem td4_ok (x : Int) (h1 : -9223372036854775808 ≤ x) (h2 : x ≤ 9223372036854775807) : -9223372036854775808 ≤ x.tdiv 4 ∧ x.tdiv 4 ≤ 9223372036854775807 := by
  rcases Int.le_total 0 x with h | h
  · have := td_ok x 4 h (by omega)
    omega
  · obtain ⟨y, hy⟩ : ∃ y, -x = y := ⟨_, rfl⟩
    obtain rfl : x = -y := by omega
    have := td_ok y 4 (by omega) (by omega)
    rw [Int.neg_tdiv]
    omega
def WinPost (L : List Bd) (m : Nat) (w : World) (e : Ending) (w' : World) : Prop := ∃ A' k c' C, e = .returned (.slice A' k c') ∧ NIn w' w'.heap.size (A', k, c') C ∧ feasB L C = true ∧ k ≤ m ∧ Below w.heap.size w w'
set_option maxHeartbeats 4000000 in
theorem rwin_any (n : Nat) (A : Option Addr) (m c : Nat) (L : List Bd) (kk : Int) (w : World) (HL : Hid (Bds w (A, m, c) L)) (HV : Hid (validE (n : Int) L = 0)) (hk1 : -9223372036854775808 ≤ kk) (hk2 : kk ≤ 9223372036854775807) :
    Calls Try.prog 12 #[.int .i64 (n : Int), .slice A m c, .int .i64 kk] w (WinPost L m w) := by
  have hm : m ≤ 10 := by
    have := (valid_ok HV.out HL.out).2.2.1
    rw [HL.out.rows.len] at this
    exact this
  have HOK := Lib.hid (BidsOk.of_valid HV.out HL.out)
  have hk4 := td4_ok kk hk1 hk2
  go_enter Try.func12, Try.ntmps12
  go_wp2_with fail
  refine (rBest_any n A m c L w HL HV).mono ?_
  rintro e w2 ⟨A1, k1, c1, C1, rfl, h1, h2, h3, hb2⟩
  have HC1 := Lib.hid h1
  have HF1 := Lib.hid h2
  have HB2 := Lib.hid hb2
  obtain ⟨v, hv⟩ : ∃ v, valueB L C1 = v := ⟨_, rfl⟩
  rw [hv]
  clear h1 h2 hb2 hv
  go_wp2_with fail
  refine (around_nat kk 4 4 w2 (by rfl) hk1 hk2 (by omega) (by omega)).mono ?_
  rintro e w3 ⟨r, rfl, hr, -, rfl⟩
  have HW1 : Hid (WinPost L m w (.returned (.slice A1 k1 c1)) w2) := Lib.hid ⟨A1, k1, c1, C1, rfl, HC1.out, HF1.out, h3, HB2.out⟩
  obtain ⟨kq, hkq⟩ : ∃ q, kk.tdiv 4 = q := ⟨_, rfl⟩
  rw [hkq] at hk4
  clear hk1 hk2
  by_cases h0 : 0 < r
  · have h0i : (0 : Int) < (r : Int) := by omega
    go_wp2
    go_ret
    exact HW1.out
  have h0i : ¬ (0 : Int) < (r : Int) := by omega
  clear HW1
  go_wp2_with fail
  refine (around_nat kq 1024 1024 w2 (by rfl) hk4.1 hk4.2 (by omega) (by omega)).mono ?_
  rintro e w3 ⟨b, rfl, hb, -, rfl⟩
  go_wp2_with fail
  refine (choice_any (b : Int) m w2 (by omega) (by omega) (by omega)).mono ?_
  rintro e w4 ⟨A2, k2, c2, C2, rfl, hO2, hl2, hk2, hlb2, hb4⟩
  have HC2 := Lib.hid hO2.nin
  have HB4 := Lib.hid (bt HB2.out hb4)
  have HC14 := Lib.hid (NIn.all HC1.out hb4)
  clear hO2 hl2 hlb2 hb4 HC1 HB2
  go_wp2_with fail
  refine (rfeas_any A m c A2 k2 c2 L C2 w4 (Lib.hid (HL.out.all HB4.out)) HC2 (by omega) (Lib.hid (fun b hb => by have := (HOK.out b hb).2.2.1; omega))).mono ?_
  rintro e w5 ⟨rfl, hb5⟩
  have HB5 := Lib.hid (bt HB4.out hb5)
  have HC15 := Lib.hid (NIn.all HC14.out hb5)
  have HC25 := Lib.hid (NIn.all HC2.out hb5)
  clear hb5 HB4 HC14 HC2
  obtain ⟨fb, hfb⟩ : ∃ fb, feasB L C2 = fb := ⟨_, rfl⟩
  have HFF := Lib.hid hfb
  rw [hfb]
  clear hfb
  cases fb with
  | true =>
    have HW1 : Hid (WinPost L m w (.returned (.slice A2 k2 c2)) w5) := Lib.hid ⟨A2, k2, c2, C2, rfl, HC25.out, HFF.out, hk2, HB5.out⟩
    go_wp2
    go_ret
    exact HW1.out
  | false =>
    have HW1 : Hid (WinPost L m w (.returned (.slice A1 (k1 / 2) c1)) w5) := Lib.hid ⟨A1, k1 / 2, c1, C1.take (k1 / 2), rfl, NIn.take HC15.out _ (by omega), feasB_take _ HF1.out, by omega, HB5.out⟩
    have hcap := HC15.out.cap
    have hmax := HC15.out.max
    dsimp only at hcap hmax
    have htd : (k1 : Int).tdiv 2 = ((k1 / 2 : Nat) : Int) := by rw [Int.tdiv_eq_ediv_of_nonneg (by omega)]; rfl
    obtain ⟨kh, hkh⟩ : ∃ kh, k1 / 2 = kh := ⟨_, rfl⟩
    rw [hkh] at htd HW1
    have hkc : kh ≤ c1 := by omega
    have hkc2 : (kh : Int) ≤ (c1 : Int) := by omega
    clear hkh
    rcases A1 with _ | ⟨bA, oA, sp⟩
    · have h01 := NIn.none_ HC15.out rfl
      dsimp only at h01
      have hkh0 : kh = 0 := by
        rw [h01] at htd
        simp at htd
        omega
      clear htd
      subst h01 hkh0
      go_wp2
      go_ret
      exact HW1.out
    · go_wp2
      go_ret
      exact HW1.out
end Go.Proofs.Ytikfcpkobgejmaa
