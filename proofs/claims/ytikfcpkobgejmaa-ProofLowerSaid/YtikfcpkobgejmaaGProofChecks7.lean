/- Part 7 of the texts that ProofChecks needs: PfRFeas. -/
import Derived.Test.YtikfcpkobgejmaaGProofChecks6

/- reference: Feasible. -/
namespace Go.Proofs.Ytikfcpkobgejmaa
open Go.RowKit

set_option maxRecDepth 100000 in
set_option maxHeartbeats 8000000 in
theorem rfeas_any (A : Option Addr) (m c : Nat) (Aw : Option Addr) (nw cw : Nat) (L : List Bd) (win : List Int) (w : World) (HL : Hid (Bds w (A, m, c) L)) (HW : Hid (NIn w w.heap.size (Aw, nw, cw) win)) (hn : nw ≤ 1000000) (HN : Hid (∀ b ∈ L, b.s.2.1 ≤ 1000000)) :
    Calls Try.prog 45 #[.slice A m c, .slice Aw nw cw] w fun e w' => e = .returned (.bool (feasB L win)) ∧ Below w.heap.size w w' := by
  rw [← feasR_eq]
  have HSL := Lib.hid HW.out.len
  have HLL := Lib.hid HL.out.rows.len
  dsimp only at HSL HLL
  have HFR : Hid (feasR L win = (!lotsBad (m : Int) (-1) win && !pairTo L win nw)) := Lib.hid (by unfold feasR; rw [HSL.out, HLL.out])
  have hm1 : m ≤ 9223372036854775807 := Nat.le_trans HL.out.rows.cap HL.out.rows.max
  go_enter Try.func45, Try.ntmps45
  go_wp2
  go_loopw [5] (fun i wr => ∃ (j : Nat) (last : Int), j ≤ nw ∧ i = .int .i64 (j : Int) ∧ -1 ≤ last ∧ Hid (∀ q, j = q + 1 → win[q]?.getD 0 = last) ∧ Hid (lotsBad (m : Int) (-1) win = lotsBad (m : Int) last (win.drop j)) ∧ Hid (Below w.heap.size w wr)) (fun i _ => nw - (intOf i).toNat)
  case atStart => exact ⟨0, -1, by omega, rfl, by omega, Lib.hid (fun q h => absurd h (by omega)), Lib.hid rfl, Lib.hid (Below.refl _ _)⟩
  case round =>
        obtain ⟨j, last, hj, rfl, hl1, HPV, HBADJ, HBR⟩ := hrel
        have HB4 : Hid (Below w.heap.size w wr.drew) := Lib.hid (below_drewN HBR.out 1)
        by_cases hlt2 : j < nw
        · obtain ⟨b2, o2, hA2, -, hc2⟩ := NIn.cell (NIn.all HW.out HBR.out) hlt2
          dsimp only at hA2
          subst hA2
          have hjl : j < win.length := by rw [HSL.out]; exact hlt2
          obtain ⟨x, hx⟩ : ∃ x, win[j]?.getD 0 = x := ⟨_, rfl⟩
          rw [hx] at hc2
          have HX := Lib.hid hx
          have HD : Hid (lotsBad (m : Int) last (win.drop j) = (decide (x ≤ last) || decide ((m : Int) ≤ x) || lotsBad (m : Int) x (win.drop (j + 1)))) := Lib.hid (by
            rw [drop_at hjl]
            rw [List.getElem?_eq_getElem hjl] at hx
            simp only [Option.getD_some] at hx
            rw [hx]
            rfl)
          clear hx hjl
          have hjs : (j : Int) < (nw : Int) := by omega
          by_cases x0 : x < 0
          · have HE : Hid (feasR L win = false) := Lib.hid (by rw [HFR.out, HBADJ.out, HD.out, decide_eq_true (show x ≤ last by omega)]; rfl)
            go_wp2
            refine wp_region_held_drew (S := (fun w' => w'.cell? ⟨b2, o2 + j, none⟩ = some (.int .i64 x))) (by kernel_rfl) hc2 (fun hHeld => ?_)
            refine takeH 0 (some 15) (v := ?_) (by rfl) (by rfl) (by kernel_rfl) (by kernel_rfl) (by kernel_rfl) (fun _ _ _ h => h) ?_ (by assumption) ?_
            rotate_left
            · intro o ho w hSw
              have z0 := hSw
              cases ho
              go_simp
              try with_reducible rfl
            try simp only [Act.put, List.setIfInBounds_toArray, List.set_cons_zero, List.set_cons_succ]
            refine takeH 1 (some 16) (v := ?_) (by rfl) (by rfl) (by kernel_rfl) (by kernel_rfl) (by kernel_rfl) (fun _ _ _ h => h) ?_ (by assumption) ?_
            rotate_left
            · intro o ho w hSw
              have z0 := hSw
              cases ho
              go_simp
              try with_reducible rfl
            try simp only [Act.put, List.setIfInBounds_toArray, List.set_cons_zero, List.set_cons_succ]
            refine takeH 2 (some 17) (v := ?_) (by rfl) (by rfl) (by kernel_rfl) (by kernel_rfl) (by kernel_rfl) (fun _ _ _ h => h) ?_ (by assumption) ?_
            rotate_left
            · intro o ho w hSw
              have z0 := hSw
              cases ho
              go_simp
              try with_reducible rfl
            try simp only [Act.put, List.setIfInBounds_toArray, List.set_cons_zero, List.set_cons_succ]
            refine takeH 3 (some 18) (v := ?_) (by rfl) (by rfl) (by kernel_rfl) (by kernel_rfl) (by kernel_rfl) (fun _ _ _ h => h) ?_ (by assumption) ?_
            rotate_left
            · intro o ho w hSw
              have z0 := hSw
              cases ho
              go_simp
              try with_reducible rfl
            try simp only [Act.put, List.setIfInBounds_toArray, List.set_cons_zero, List.set_cons_succ]
            refine takeH 4 (some 19) (v := .bool true) (by rfl) (by rfl) (by kernel_rfl) (by kernel_rfl) (by kernel_rfl) (fun _ _ _ h => h) ?_ (by assumption) ?_
            skip
            · intro o ho w hSw
              have z0 := hSw
              cases ho
              go_simp
              try with_reducible rfl
            try simp only [Act.put, List.setIfInBounds_toArray, List.set_cons_zero, List.set_cons_succ]
            refine takeH 5 (some 20) (v := ?_) (by rfl) (by rfl) (by kernel_rfl) (by kernel_rfl) (by kernel_rfl) (fun _ _ _ h => h) ?_ (by assumption) ?_
            rotate_left
            · intro o ho w hSw
              have z0 := hSw
              cases ho
              go_simp
              try with_reducible rfl
            try simp only [Act.put, List.setIfInBounds_toArray, List.set_cons_zero, List.set_cons_succ]
            refine skipH 6 (some 21) (by rfl) (by rfl) (by kernel_rfl) (by kernel_rfl) (by kernel_rfl) (fun _ _ _ h => h) (by assumption) ?_
            try simp only [Act.put, List.setIfInBounds_toArray, List.set_cons_zero, List.set_cons_succ]
            refine skipH 7 (some 22) (by rfl) (by rfl) (by kernel_rfl) (by kernel_rfl) (by kernel_rfl) (fun _ _ _ h => h) (by assumption) ?_
            try simp only [Act.put, List.setIfInBounds_toArray, List.set_cons_zero, List.set_cons_succ]
            refine skipH 8 (some 23) (by rfl) (by rfl) (by kernel_rfl) (by kernel_rfl) (by kernel_rfl) (fun _ _ _ h => h) (by assumption) ?_
            try simp only [Act.put, List.setIfInBounds_toArray, List.set_cons_zero, List.set_cons_succ]
            refine skipH 9 (some 24) (by rfl) (by rfl) (by kernel_rfl) (by kernel_rfl) (by kernel_rfl) (fun _ _ _ h => h) (by assumption) ?_
            try simp only [Act.put, List.setIfInBounds_toArray, List.set_cons_zero, List.set_cons_succ]
            refine skipH 10 (some 25) (by rfl) (by rfl) (by kernel_rfl) (by kernel_rfl) (by kernel_rfl) (fun _ _ _ h => h) (by assumption) ?_
            try simp only [Act.put, List.setIfInBounds_toArray, List.set_cons_zero, List.set_cons_succ]
            refine skipH 11 (some 26) (by rfl) (by rfl) (by kernel_rfl) (by kernel_rfl) (by kernel_rfl) (fun _ _ _ h => h) (by assumption) ?_
            try simp only [Act.put, List.setIfInBounds_toArray, List.set_cons_zero, List.set_cons_succ]
            refine skipH 12 (some 27) (by rfl) (by rfl) (by kernel_rfl) (by kernel_rfl) (by kernel_rfl) (fun _ _ _ h => h) (by assumption) ?_
            try simp only [Act.put, List.setIfInBounds_toArray, List.set_cons_zero, List.set_cons_succ]
            refine takeH 13 (some 28) (v := ?_) (by rfl) (by rfl) (by kernel_rfl) (by kernel_rfl) (by kernel_rfl) (fun _ _ _ h => h) ?_ (by assumption) ?_
            rotate_left
            · intro o ho w hSw
              have z0 := hSw
              cases ho
              go_simp
              try with_reducible rfl
            try simp only [Act.put, List.setIfInBounds_toArray, List.set_cons_zero, List.set_cons_succ]
            refine takeH 14 (some 29) (v := ?_) (by rfl) (by rfl) (by kernel_rfl) (by kernel_rfl) (by kernel_rfl) (fun _ _ _ h => h) ?_ (by assumption) ?_
            rotate_left
            · intro o ho w hSw
              have z0 := hSw
              cases ho
              go_simp
              try with_reducible rfl
            try simp only [Act.put, List.setIfInBounds_toArray, List.set_cons_zero, List.set_cons_succ]
            refine skipH 15 (some 30) (by rfl) (by rfl) (by kernel_rfl) (by kernel_rfl) (by kernel_rfl) (fun _ _ _ h => h) (by assumption) ?_
            try simp only [Act.put, List.setIfInBounds_toArray, List.set_cons_zero, List.set_cons_succ]
            refine skipH 16 (some 31) (by rfl) (by rfl) (by kernel_rfl) (by kernel_rfl) (by kernel_rfl) (fun _ _ _ h => h) (by assumption) ?_
            try simp only [Act.put, List.setIfInBounds_toArray, List.set_cons_zero, List.set_cons_succ]
            refine skipH 17 (some 32) (by rfl) (by rfl) (by kernel_rfl) (by kernel_rfl) (by kernel_rfl) (fun _ _ _ h => h) (by assumption) ?_
            try simp only [Act.put, List.setIfInBounds_toArray, List.set_cons_zero, List.set_cons_succ]
            refine skipH 18 (some 33) (by rfl) (by rfl) (by kernel_rfl) (by kernel_rfl) (by kernel_rfl) (fun _ _ _ h => h) (by assumption) ?_
            try simp only [Act.put, List.setIfInBounds_toArray, List.set_cons_zero, List.set_cons_succ]
            refine skipH 19 (some 34) (by rfl) (by rfl) (by kernel_rfl) (by kernel_rfl) (by kernel_rfl) (fun _ _ _ h => h) (by assumption) ?_
            try simp only [Act.put, List.setIfInBounds_toArray, List.set_cons_zero, List.set_cons_succ]
            refine skipH 20 (some 35) (by rfl) (by rfl) (by kernel_rfl) (by kernel_rfl) (by kernel_rfl) (fun _ _ _ h => h) (by assumption) ?_
            try simp only [Act.put, List.setIfInBounds_toArray, List.set_cons_zero, List.set_cons_succ]
            refine skipH 21 (some 36) (by rfl) (by rfl) (by kernel_rfl) (by kernel_rfl) (by kernel_rfl) (fun _ _ _ h => h) (by assumption) ?_
            try simp only [Act.put, List.setIfInBounds_toArray, List.set_cons_zero, List.set_cons_succ]
            refine skipH 22 (some 37) (by rfl) (by rfl) (by kernel_rfl) (by kernel_rfl) (by kernel_rfl) (fun _ _ _ h => h) (by assumption) ?_
            try simp only [Act.put, List.setIfInBounds_toArray, List.set_cons_zero, List.set_cons_succ]
            refine skipH 23 (some 38) (by rfl) (by rfl) (by kernel_rfl) (by kernel_rfl) (by kernel_rfl) (fun _ _ _ h => h) (by assumption) ?_
            try simp only [Act.put, List.setIfInBounds_toArray, List.set_cons_zero, List.set_cons_succ]
            refine skipH 24 (some 39) (by rfl) (by rfl) (by kernel_rfl) (by kernel_rfl) (by kernel_rfl) (fun _ _ _ h => h) (by assumption) ?_
            try simp only [Act.put, List.setIfInBounds_toArray, List.set_cons_zero, List.set_cons_succ]
            refine skipH 25 (some 40) (by rfl) (by rfl) (by kernel_rfl) (by kernel_rfl) (by kernel_rfl) (fun _ _ _ h => h) (by assumption) ?_
            try simp only [Act.put, List.setIfInBounds_toArray, List.set_cons_zero, List.set_cons_succ]
            refine skipH 26 (some 41) (by rfl) (by rfl) (by kernel_rfl) (by kernel_rfl) (by kernel_rfl) (fun _ _ _ h => h) (by assumption) ?_
            try simp only [Act.put, List.setIfInBounds_toArray, List.set_cons_zero, List.set_cons_succ]
            refine skipH 27 (some 42) (by rfl) (by rfl) (by kernel_rfl) (by kernel_rfl) (by kernel_rfl) (fun _ _ _ h => h) (by assumption) ?_
            try simp only [Act.put, List.setIfInBounds_toArray, List.set_cons_zero, List.set_cons_succ]
            refine skipH 28 (some 43) (by rfl) (by rfl) (by kernel_rfl) (by kernel_rfl) (by kernel_rfl) (fun _ _ _ h => h) (by assumption) ?_
            try simp only [Act.put, List.setIfInBounds_toArray, List.set_cons_zero, List.set_cons_succ]
            refine takeH 29 (some 44) (v := ?_) (by rfl) (by rfl) (by kernel_rfl) (by kernel_rfl) (by kernel_rfl) (fun _ _ _ h => h) ?_ (by assumption) ?_
            rotate_left
            · intro o ho w hSw
              have z0 := hSw
              cases ho
              go_simp
              try with_reducible rfl
            try simp only [Act.put, List.setIfInBounds_toArray, List.set_cons_zero, List.set_cons_succ]
            refine wpAnyH_done (by kernel_rfl) ?_ _
            go_wp2
            go_ret
            rw [HE.out]
            exact ⟨rfl, HB4.out⟩
          by_cases x2 : (m : Int) ≤ x
          · have HE : Hid (feasR L win = false) := Lib.hid (by rw [HFR.out, HBADJ.out, HD.out, decide_eq_true x2]; simp)
            go_wp2
            refine wp_region_held_drew (S := (fun w' => w'.cell? ⟨b2, o2 + j, none⟩ = some (.int .i64 x))) (by kernel_rfl) hc2 (fun hHeld => ?_)
            refine takeH 0 (some 15) (v := ?_) (by rfl) (by rfl) (by kernel_rfl) (by kernel_rfl) (by kernel_rfl) (fun _ _ _ h => h) ?_ (by assumption) ?_
            rotate_left
            · intro o ho w hSw
              have z0 := hSw
              cases ho
              go_simp
              try with_reducible rfl
            try simp only [Act.put, List.setIfInBounds_toArray, List.set_cons_zero, List.set_cons_succ]
            refine takeH 1 (some 16) (v := ?_) (by rfl) (by rfl) (by kernel_rfl) (by kernel_rfl) (by kernel_rfl) (fun _ _ _ h => h) ?_ (by assumption) ?_
            rotate_left
            · intro o ho w hSw
              have z0 := hSw
              cases ho
              go_simp
              try with_reducible rfl
            try simp only [Act.put, List.setIfInBounds_toArray, List.set_cons_zero, List.set_cons_succ]
            refine takeH 2 (some 17) (v := ?_) (by rfl) (by rfl) (by kernel_rfl) (by kernel_rfl) (by kernel_rfl) (fun _ _ _ h => h) ?_ (by assumption) ?_
            rotate_left
            · intro o ho w hSw
              have z0 := hSw
              cases ho
              go_simp
              try with_reducible rfl
            try simp only [Act.put, List.setIfInBounds_toArray, List.set_cons_zero, List.set_cons_succ]
            refine takeH 3 (some 18) (v := ?_) (by rfl) (by rfl) (by kernel_rfl) (by kernel_rfl) (by kernel_rfl) (fun _ _ _ h => h) ?_ (by assumption) ?_
            rotate_left
            · intro o ho w hSw
              have z0 := hSw
              cases ho
              go_simp
              try with_reducible rfl
            try simp only [Act.put, List.setIfInBounds_toArray, List.set_cons_zero, List.set_cons_succ]
            refine takeH 4 (some 19) (v := .bool false) (by rfl) (by rfl) (by kernel_rfl) (by kernel_rfl) (by kernel_rfl) (fun _ _ _ h => h) ?_ (by assumption) ?_
            skip
            · intro o ho w hSw
              have z0 := hSw
              cases ho
              go_simp
              try with_reducible rfl
            try simp only [Act.put, List.setIfInBounds_toArray, List.set_cons_zero, List.set_cons_succ]
            refine takeH 5 (some 20) (v := ?_) (by rfl) (by rfl) (by kernel_rfl) (by kernel_rfl) (by kernel_rfl) (fun _ _ _ h => h) ?_ (by assumption) ?_
            rotate_left
            · intro o ho w hSw
              have z0 := hSw
              cases ho
              go_simp
              try with_reducible rfl
            try simp only [Act.put, List.setIfInBounds_toArray, List.set_cons_zero, List.set_cons_succ]
            refine takeH 6 (some 21) (v := ?_) (by rfl) (by rfl) (by kernel_rfl) (by kernel_rfl) (by kernel_rfl) (fun _ _ _ h => h) ?_ (by assumption) ?_
            rotate_left
            · intro o ho w hSw
              have z0 := hSw
              cases ho
              go_simp
              try with_reducible rfl
            try simp only [Act.put, List.setIfInBounds_toArray, List.set_cons_zero, List.set_cons_succ]
            refine takeH 7 (some 22) (v := ?_) (by rfl) (by rfl) (by kernel_rfl) (by kernel_rfl) (by kernel_rfl) (fun _ _ _ h => h) ?_ (by assumption) ?_
            rotate_left
            · intro o ho w hSw
              have z0 := hSw
              cases ho
              go_simp
              try with_reducible rfl
            try simp only [Act.put, List.setIfInBounds_toArray, List.set_cons_zero, List.set_cons_succ]
            refine takeH 8 (some 23) (v := ?_) (by rfl) (by rfl) (by kernel_rfl) (by kernel_rfl) (by kernel_rfl) (fun _ _ _ h => h) ?_ (by assumption) ?_
            rotate_left
            · intro o ho w hSw
              have z0 := hSw
              cases ho
              go_simp
              try with_reducible rfl
            try simp only [Act.put, List.setIfInBounds_toArray, List.set_cons_zero, List.set_cons_succ]
            refine takeH 9 (some 24) (v := ?_) (by rfl) (by rfl) (by kernel_rfl) (by kernel_rfl) (by kernel_rfl) (fun _ _ _ h => h) ?_ (by assumption) ?_
            rotate_left
            · intro o ho w hSw
              have z0 := hSw
              cases ho
              go_simp
              try with_reducible rfl
            try simp only [Act.put, List.setIfInBounds_toArray, List.set_cons_zero, List.set_cons_succ]
            refine takeH 10 (some 25) (v := ?_) (by rfl) (by rfl) (by kernel_rfl) (by kernel_rfl) (by kernel_rfl) (fun _ _ _ h => h) ?_ (by assumption) ?_
            rotate_left
            · intro o ho w hSw
              have z0 := hSw
              cases ho
              go_simp
              try with_reducible rfl
            try simp only [Act.put, List.setIfInBounds_toArray, List.set_cons_zero, List.set_cons_succ]
            refine takeH 11 (some 26) (v := ?_) (by rfl) (by rfl) (by kernel_rfl) (by kernel_rfl) (by kernel_rfl) (fun _ _ _ h => h) ?_ (by assumption) ?_
            rotate_left
            · intro o ho w hSw
              have z0 := hSw
              cases ho
              go_simp
              try with_reducible rfl
            try simp only [Act.put, List.setIfInBounds_toArray, List.set_cons_zero, List.set_cons_succ]
            refine takeH 12 (some 27) (v := .bool true) (by rfl) (by rfl) (by kernel_rfl) (by kernel_rfl) (by kernel_rfl) (fun _ _ _ h => h) ?_ (by assumption) ?_
            skip
            · intro o ho w hSw
              have z0 := hSw
              cases ho
              go_simp
              try with_reducible rfl
            try simp only [Act.put, List.setIfInBounds_toArray, List.set_cons_zero, List.set_cons_succ]
            refine takeH 13 (some 28) (v := ?_) (by rfl) (by rfl) (by kernel_rfl) (by kernel_rfl) (by kernel_rfl) (fun _ _ _ h => h) ?_ (by assumption) ?_
            rotate_left
            · intro o ho w hSw
              have z0 := hSw
              cases ho
              go_simp
              try with_reducible rfl
            try simp only [Act.put, List.setIfInBounds_toArray, List.set_cons_zero, List.set_cons_succ]
            refine takeH 14 (some 29) (v := ?_) (by rfl) (by rfl) (by kernel_rfl) (by kernel_rfl) (by kernel_rfl) (fun _ _ _ h => h) ?_ (by assumption) ?_
            rotate_left
            · intro o ho w hSw
              have z0 := hSw
              cases ho
              go_simp
              try with_reducible rfl
            try simp only [Act.put, List.setIfInBounds_toArray, List.set_cons_zero, List.set_cons_succ]
            refine skipH 15 (some 30) (by rfl) (by rfl) (by kernel_rfl) (by kernel_rfl) (by kernel_rfl) (fun _ _ _ h => h) (by assumption) ?_
            try simp only [Act.put, List.setIfInBounds_toArray, List.set_cons_zero, List.set_cons_succ]
            refine skipH 16 (some 31) (by rfl) (by rfl) (by kernel_rfl) (by kernel_rfl) (by kernel_rfl) (fun _ _ _ h => h) (by assumption) ?_
            try simp only [Act.put, List.setIfInBounds_toArray, List.set_cons_zero, List.set_cons_succ]
            refine skipH 17 (some 32) (by rfl) (by rfl) (by kernel_rfl) (by kernel_rfl) (by kernel_rfl) (fun _ _ _ h => h) (by assumption) ?_
            try simp only [Act.put, List.setIfInBounds_toArray, List.set_cons_zero, List.set_cons_succ]
            refine skipH 18 (some 33) (by rfl) (by rfl) (by kernel_rfl) (by kernel_rfl) (by kernel_rfl) (fun _ _ _ h => h) (by assumption) ?_
            try simp only [Act.put, List.setIfInBounds_toArray, List.set_cons_zero, List.set_cons_succ]
            refine skipH 19 (some 34) (by rfl) (by rfl) (by kernel_rfl) (by kernel_rfl) (by kernel_rfl) (fun _ _ _ h => h) (by assumption) ?_
            try simp only [Act.put, List.setIfInBounds_toArray, List.set_cons_zero, List.set_cons_succ]
            refine skipH 20 (some 35) (by rfl) (by rfl) (by kernel_rfl) (by kernel_rfl) (by kernel_rfl) (fun _ _ _ h => h) (by assumption) ?_
            try simp only [Act.put, List.setIfInBounds_toArray, List.set_cons_zero, List.set_cons_succ]
            refine skipH 21 (some 36) (by rfl) (by rfl) (by kernel_rfl) (by kernel_rfl) (by kernel_rfl) (fun _ _ _ h => h) (by assumption) ?_
            try simp only [Act.put, List.setIfInBounds_toArray, List.set_cons_zero, List.set_cons_succ]
            refine skipH 22 (some 37) (by rfl) (by rfl) (by kernel_rfl) (by kernel_rfl) (by kernel_rfl) (fun _ _ _ h => h) (by assumption) ?_
            try simp only [Act.put, List.setIfInBounds_toArray, List.set_cons_zero, List.set_cons_succ]
            refine skipH 23 (some 38) (by rfl) (by rfl) (by kernel_rfl) (by kernel_rfl) (by kernel_rfl) (fun _ _ _ h => h) (by assumption) ?_
            try simp only [Act.put, List.setIfInBounds_toArray, List.set_cons_zero, List.set_cons_succ]
            refine skipH 24 (some 39) (by rfl) (by rfl) (by kernel_rfl) (by kernel_rfl) (by kernel_rfl) (fun _ _ _ h => h) (by assumption) ?_
            try simp only [Act.put, List.setIfInBounds_toArray, List.set_cons_zero, List.set_cons_succ]
            refine skipH 25 (some 40) (by rfl) (by rfl) (by kernel_rfl) (by kernel_rfl) (by kernel_rfl) (fun _ _ _ h => h) (by assumption) ?_
            try simp only [Act.put, List.setIfInBounds_toArray, List.set_cons_zero, List.set_cons_succ]
            refine skipH 26 (some 41) (by rfl) (by rfl) (by kernel_rfl) (by kernel_rfl) (by kernel_rfl) (fun _ _ _ h => h) (by assumption) ?_
            try simp only [Act.put, List.setIfInBounds_toArray, List.set_cons_zero, List.set_cons_succ]
            refine skipH 27 (some 42) (by rfl) (by rfl) (by kernel_rfl) (by kernel_rfl) (by kernel_rfl) (fun _ _ _ h => h) (by assumption) ?_
            try simp only [Act.put, List.setIfInBounds_toArray, List.set_cons_zero, List.set_cons_succ]
            refine skipH 28 (some 43) (by rfl) (by rfl) (by kernel_rfl) (by kernel_rfl) (by kernel_rfl) (fun _ _ _ h => h) (by assumption) ?_
            try simp only [Act.put, List.setIfInBounds_toArray, List.set_cons_zero, List.set_cons_succ]
            refine takeH 29 (some 44) (v := ?_) (by rfl) (by rfl) (by kernel_rfl) (by kernel_rfl) (by kernel_rfl) (fun _ _ _ h => h) ?_ (by assumption) ?_
            rotate_left
            · intro o ho w hSw
              have z0 := hSw
              cases ho
              go_simp
              try with_reducible rfl
            try simp only [Act.put, List.setIfInBounds_toArray, List.set_cons_zero, List.set_cons_succ]
            refine wpAnyH_done (by kernel_rfl) ?_ _
            go_wp2
            go_ret
            rw [HE.out]
            exact ⟨rfl, HB4.out⟩
          rcases j with _ | j
          · have HD2 : Hid (0 ≤ x → lotsBad (m : Int) (-1) win = lotsBad (m : Int) x (win.drop (0 + 1))) := Lib.hid (fun hx0 => by
              rw [show lotsBad (m : Int) (-1) win = (decide (x ≤ -1) || decide ((m : Int) ≤ x) || lotsBad (m : Int) x (win.drop (0 + 1))) by
                rcases win with _ | ⟨y, t⟩
                · have := HSL.out; simp at this; omega
                · have := HX.out; simp at this; subst this; rfl]
              rw [decide_eq_false (show ¬ x ≤ -1 by omega), decide_eq_false x2]
              rfl)
            go_wp2
            refine wp_region_held_drew (S := (fun w' => w'.cell? ⟨b2, o2, none⟩ = some (.int .i64 x))) (by kernel_rfl) hc2 (fun hHeld => ?_)
            refine takeH 0 (some 15) (v := ?_) (by rfl) (by rfl) (by kernel_rfl) (by kernel_rfl) (by kernel_rfl) (fun _ _ _ h => h) ?_ (by assumption) ?_
            rotate_left
            · intro o ho w hSw
              have z0 := hSw
              cases ho
              go_simp
              try with_reducible rfl
            try simp only [Act.put, List.setIfInBounds_toArray, List.set_cons_zero, List.set_cons_succ]
            refine takeH 1 (some 16) (v := ?_) (by rfl) (by rfl) (by kernel_rfl) (by kernel_rfl) (by kernel_rfl) (fun _ _ _ h => h) ?_ (by assumption) ?_
            rotate_left
            · intro o ho w hSw
              have z0 := hSw
              cases ho
              go_simp
              try with_reducible rfl
            try simp only [Act.put, List.setIfInBounds_toArray, List.set_cons_zero, List.set_cons_succ]
            refine takeH 2 (some 17) (v := ?_) (by rfl) (by rfl) (by kernel_rfl) (by kernel_rfl) (by kernel_rfl) (fun _ _ _ h => h) ?_ (by assumption) ?_
            rotate_left
            · intro o ho w hSw
              have z0 := hSw
              cases ho
              go_simp
              try with_reducible rfl
            try simp only [Act.put, List.setIfInBounds_toArray, List.set_cons_zero, List.set_cons_succ]
            refine takeH 3 (some 18) (v := ?_) (by rfl) (by rfl) (by kernel_rfl) (by kernel_rfl) (by kernel_rfl) (fun _ _ _ h => h) ?_ (by assumption) ?_
            rotate_left
            · intro o ho w hSw
              have z0 := hSw
              cases ho
              go_simp
              try with_reducible rfl
            try simp only [Act.put, List.setIfInBounds_toArray, List.set_cons_zero, List.set_cons_succ]
            refine takeH 4 (some 19) (v := .bool false) (by rfl) (by rfl) (by kernel_rfl) (by kernel_rfl) (by kernel_rfl) (fun _ _ _ h => h) ?_ (by assumption) ?_
            skip
            · intro o ho w hSw
              have z0 := hSw
              cases ho
              go_simp
              try with_reducible rfl
            try simp only [Act.put, List.setIfInBounds_toArray, List.set_cons_zero, List.set_cons_succ]
            refine takeH 5 (some 20) (v := ?_) (by rfl) (by rfl) (by kernel_rfl) (by kernel_rfl) (by kernel_rfl) (fun _ _ _ h => h) ?_ (by assumption) ?_
            rotate_left
            · intro o ho w hSw
              have z0 := hSw
              cases ho
              go_simp
              try with_reducible rfl
            try simp only [Act.put, List.setIfInBounds_toArray, List.set_cons_zero, List.set_cons_succ]
            refine takeH 6 (some 21) (v := ?_) (by rfl) (by rfl) (by kernel_rfl) (by kernel_rfl) (by kernel_rfl) (fun _ _ _ h => h) ?_ (by assumption) ?_
            rotate_left
            · intro o ho w hSw
              have z0 := hSw
              cases ho
              go_simp
              try with_reducible rfl
            try simp only [Act.put, List.setIfInBounds_toArray, List.set_cons_zero, List.set_cons_succ]
            refine takeH 7 (some 22) (v := ?_) (by rfl) (by rfl) (by kernel_rfl) (by kernel_rfl) (by kernel_rfl) (fun _ _ _ h => h) ?_ (by assumption) ?_
            rotate_left
            · intro o ho w hSw
              have z0 := hSw
              cases ho
              go_simp
              try with_reducible rfl
            try simp only [Act.put, List.setIfInBounds_toArray, List.set_cons_zero, List.set_cons_succ]
            refine takeH 8 (some 23) (v := ?_) (by rfl) (by rfl) (by kernel_rfl) (by kernel_rfl) (by kernel_rfl) (fun _ _ _ h => h) ?_ (by assumption) ?_
            rotate_left
            · intro o ho w hSw
              have z0 := hSw
              cases ho
              go_simp
              try with_reducible rfl
            try simp only [Act.put, List.setIfInBounds_toArray, List.set_cons_zero, List.set_cons_succ]
            refine takeH 9 (some 24) (v := ?_) (by rfl) (by rfl) (by kernel_rfl) (by kernel_rfl) (by kernel_rfl) (fun _ _ _ h => h) ?_ (by assumption) ?_
            rotate_left
            · intro o ho w hSw
              have z0 := hSw
              cases ho
              go_simp
              try with_reducible rfl
            try simp only [Act.put, List.setIfInBounds_toArray, List.set_cons_zero, List.set_cons_succ]
            refine takeH 10 (some 25) (v := ?_) (by rfl) (by rfl) (by kernel_rfl) (by kernel_rfl) (by kernel_rfl) (fun _ _ _ h => h) ?_ (by assumption) ?_
            rotate_left
            · intro o ho w hSw
              have z0 := hSw
              cases ho
              go_simp
              try with_reducible rfl
            try simp only [Act.put, List.setIfInBounds_toArray, List.set_cons_zero, List.set_cons_succ]
            refine takeH 11 (some 26) (v := ?_) (by rfl) (by rfl) (by kernel_rfl) (by kernel_rfl) (by kernel_rfl) (fun _ _ _ h => h) ?_ (by assumption) ?_
            rotate_left
            · intro o ho w hSw
              have z0 := hSw
              cases ho
              go_simp
              try with_reducible rfl
            try simp only [Act.put, List.setIfInBounds_toArray, List.set_cons_zero, List.set_cons_succ]
            refine takeH 12 (some 27) (v := .bool false) (by rfl) (by rfl) (by kernel_rfl) (by kernel_rfl) (by kernel_rfl) (fun _ _ _ h => h) ?_ (by assumption) ?_
            skip
            · intro o ho w hSw
              have z0 := hSw
              cases ho
              go_simp
              try with_reducible rfl
            try simp only [Act.put, List.setIfInBounds_toArray, List.set_cons_zero, List.set_cons_succ]
            refine takeH 13 (some 28) (v := ?_) (by rfl) (by rfl) (by kernel_rfl) (by kernel_rfl) (by kernel_rfl) (fun _ _ _ h => h) ?_ (by assumption) ?_
            rotate_left
            · intro o ho w hSw
              have z0 := hSw
              cases ho
              go_simp
              try with_reducible rfl
            try simp only [Act.put, List.setIfInBounds_toArray, List.set_cons_zero, List.set_cons_succ]
            refine takeH 14 (some 29) (v := ?_) (by rfl) (by rfl) (by kernel_rfl) (by kernel_rfl) (by kernel_rfl) (fun _ _ _ h => h) ?_ (by assumption) ?_
            rotate_left
            · intro o ho w hSw
              have z0 := hSw
              cases ho
              go_simp
              try with_reducible rfl
            try simp only [Act.put, List.setIfInBounds_toArray, List.set_cons_zero, List.set_cons_succ]
            refine takeH 15 (some 30) (v := ?_) (by rfl) (by rfl) (by kernel_rfl) (by kernel_rfl) (by kernel_rfl) (fun _ _ _ h => h) ?_ (by assumption) ?_
            rotate_left
            · intro o ho w hSw
              have z0 := hSw
              cases ho
              go_simp
              try with_reducible rfl
            try simp only [Act.put, List.setIfInBounds_toArray, List.set_cons_zero, List.set_cons_succ]
            refine takeH 16 (some 31) (v := .bool false) (by rfl) (by rfl) (by kernel_rfl) (by kernel_rfl) (by kernel_rfl) (fun _ _ _ h => h) ?_ (by assumption) ?_
            skip
            · intro o ho w hSw
              have z0 := hSw
              cases ho
              go_simp
              try with_reducible rfl
            try simp only [Act.put, List.setIfInBounds_toArray, List.set_cons_zero, List.set_cons_succ]
            refine takeH 17 (some 32) (v := ?_) (by rfl) (by rfl) (by kernel_rfl) (by kernel_rfl) (by kernel_rfl) (fun _ _ _ h => h) ?_ (by assumption) ?_
            rotate_left
            · intro o ho w hSw
              have z0 := hSw
              cases ho
              go_simp
              try with_reducible rfl
            try simp only [Act.put, List.setIfInBounds_toArray, List.set_cons_zero, List.set_cons_succ]
            refine skipH 18 (some 33) (by rfl) (by rfl) (by kernel_rfl) (by kernel_rfl) (by kernel_rfl) (fun _ _ _ h => h) (by assumption) ?_
            try simp only [Act.put, List.setIfInBounds_toArray, List.set_cons_zero, List.set_cons_succ]
            refine skipH 19 (some 34) (by rfl) (by rfl) (by kernel_rfl) (by kernel_rfl) (by kernel_rfl) (fun _ _ _ h => h) (by assumption) ?_
            try simp only [Act.put, List.setIfInBounds_toArray, List.set_cons_zero, List.set_cons_succ]
            refine skipH 20 (some 35) (by rfl) (by rfl) (by kernel_rfl) (by kernel_rfl) (by kernel_rfl) (fun _ _ _ h => h) (by assumption) ?_
            try simp only [Act.put, List.setIfInBounds_toArray, List.set_cons_zero, List.set_cons_succ]
            refine skipH 21 (some 36) (by rfl) (by rfl) (by kernel_rfl) (by kernel_rfl) (by kernel_rfl) (fun _ _ _ h => h) (by assumption) ?_
            try simp only [Act.put, List.setIfInBounds_toArray, List.set_cons_zero, List.set_cons_succ]
            refine skipH 22 (some 37) (by rfl) (by rfl) (by kernel_rfl) (by kernel_rfl) (by kernel_rfl) (fun _ _ _ h => h) (by assumption) ?_
            try simp only [Act.put, List.setIfInBounds_toArray, List.set_cons_zero, List.set_cons_succ]
            refine skipH 23 (some 38) (by rfl) (by rfl) (by kernel_rfl) (by kernel_rfl) (by kernel_rfl) (fun _ _ _ h => h) (by assumption) ?_
            try simp only [Act.put, List.setIfInBounds_toArray, List.set_cons_zero, List.set_cons_succ]
            refine skipH 24 (some 39) (by rfl) (by rfl) (by kernel_rfl) (by kernel_rfl) (by kernel_rfl) (fun _ _ _ h => h) (by assumption) ?_
            try simp only [Act.put, List.setIfInBounds_toArray, List.set_cons_zero, List.set_cons_succ]
            refine skipH 25 (some 40) (by rfl) (by rfl) (by kernel_rfl) (by kernel_rfl) (by kernel_rfl) (fun _ _ _ h => h) (by assumption) ?_
            try simp only [Act.put, List.setIfInBounds_toArray, List.set_cons_zero, List.set_cons_succ]
            refine skipH 26 (some 41) (by rfl) (by rfl) (by kernel_rfl) (by kernel_rfl) (by kernel_rfl) (fun _ _ _ h => h) (by assumption) ?_
            try simp only [Act.put, List.setIfInBounds_toArray, List.set_cons_zero, List.set_cons_succ]
            refine skipH 27 (some 42) (by rfl) (by rfl) (by kernel_rfl) (by kernel_rfl) (by kernel_rfl) (fun _ _ _ h => h) (by assumption) ?_
            try simp only [Act.put, List.setIfInBounds_toArray, List.set_cons_zero, List.set_cons_succ]
            refine takeH 28 (some 43) (v := ?_) (by rfl) (by rfl) (by kernel_rfl) (by kernel_rfl) (by kernel_rfl) (fun _ _ _ h => h) ?_ (by assumption) ?_
            rotate_left
            · intro o ho w hSw
              have z0 := hSw
              cases ho
              go_simp
              try with_reducible rfl
            try simp only [Act.put, List.setIfInBounds_toArray, List.set_cons_zero, List.set_cons_succ]
            refine takeH 29 (some 44) (v := ?_) (by rfl) (by rfl) (by kernel_rfl) (by kernel_rfl) (by kernel_rfl) (fun _ _ _ h => h) ?_ (by assumption) ?_
            rotate_left
            · intro o ho w hSw
              have z0 := hSw
              cases ho
              go_simp
              try with_reducible rfl
            try simp only [Act.put, List.setIfInBounds_toArray, List.set_cons_zero, List.set_cons_succ]
            refine wpAnyH_done (by kernel_rfl) ?_ _
            go_wp2
            exact ⟨⟨0 + 1, x, by omega, by go_num, by omega, Lib.hid (fun q h => by obtain rfl : q = 0 := (by omega); exact HX.out), Lib.hid (HD2.out (by omega)), HB4⟩, by simp [intOf]; omega⟩
          obtain ⟨b3, o3, hA3, -, hc3⟩ := NIn.cell (NIn.all HW.out HBR.out) (k := j) (show j < nw by omega)
          dsimp only at hA3
          injection hA3 with hA3
          injection hA3 with hA3 hA4 _
          subst hA3 hA4
          rw [HPV.out j rfl] at hc3
          have hsub : ((j : Int) + 1 - 1) = (j : Int) := by omega
          have hjn : j < nw := by omega
          have hwj : IntKind.i64.wrap (j : Int) = (j : Int) := IntWalk.i64_in _ (by omega)
          have hj2 : (0 : Int) ≤ (j : Int) + 1 := by omega
          have hj3 : (0 : Int) < (j : Int) + 1 := by omega
          have hj4 : (j : Int) + 1 < (nw : Int) := by omega
          have hj1 : j + 1 < nw := hlt2
          by_cases x1 : x ≤ last
          · have HE : Hid (feasR L win = false) := Lib.hid (by rw [HFR.out, HBADJ.out, HD.out, decide_eq_true x1]; rfl)
            go_wp2
            refine wp_region_held_drew (S := (fun w' => w'.cell? ⟨b2, o2 + (j + 1), none⟩ = some (.int .i64 x) ∧ w'.cell? ⟨b2, o2 + j, none⟩ = some (.int .i64 last))) (by kernel_rfl) ⟨hc2, hc3⟩ (fun hHeld => ?_)
            refine takeH 0 (some 15) (v := ?_) (by rfl) (by rfl) (by kernel_rfl) (by kernel_rfl) (by kernel_rfl) (fun _ _ _ h => h) ?_ (by assumption) ?_
            rotate_left
            · intro o ho w hSw
              obtain ⟨z0, z1⟩ := hSw
              cases ho
              go_simp
              try with_reducible rfl
            try simp only [Act.put, List.setIfInBounds_toArray, List.set_cons_zero, List.set_cons_succ]
            refine takeH 1 (some 16) (v := ?_) (by rfl) (by rfl) (by kernel_rfl) (by kernel_rfl) (by kernel_rfl) (fun _ _ _ h => h) ?_ (by assumption) ?_
            rotate_left
            · intro o ho w hSw
              obtain ⟨z0, z1⟩ := hSw
              cases ho
              go_simp
              try with_reducible rfl
            try simp only [Act.put, List.setIfInBounds_toArray, List.set_cons_zero, List.set_cons_succ]
            refine takeH 2 (some 17) (v := ?_) (by rfl) (by rfl) (by kernel_rfl) (by kernel_rfl) (by kernel_rfl) (fun _ _ _ h => h) ?_ (by assumption) ?_
            rotate_left
            · intro o ho w hSw
              obtain ⟨z0, z1⟩ := hSw
              cases ho
              go_simp
              try with_reducible rfl
            try simp only [Act.put, List.setIfInBounds_toArray, List.set_cons_zero, List.set_cons_succ]
            refine takeH 3 (some 18) (v := ?_) (by rfl) (by rfl) (by kernel_rfl) (by kernel_rfl) (by kernel_rfl) (fun _ _ _ h => h) ?_ (by assumption) ?_
            rotate_left
            · intro o ho w hSw
              obtain ⟨z0, z1⟩ := hSw
              cases ho
              go_simp
              try with_reducible rfl
            try simp only [Act.put, List.setIfInBounds_toArray, List.set_cons_zero, List.set_cons_succ]
            refine takeH 4 (some 19) (v := .bool false) (by rfl) (by rfl) (by kernel_rfl) (by kernel_rfl) (by kernel_rfl) (fun _ _ _ h => h) ?_ (by assumption) ?_
            skip
            · intro o ho w hSw
              obtain ⟨z0, z1⟩ := hSw
              cases ho
              go_simp
              try with_reducible rfl
            try simp only [Act.put, List.setIfInBounds_toArray, List.set_cons_zero, List.set_cons_succ]
            refine takeH 5 (some 20) (v := ?_) (by rfl) (by rfl) (by kernel_rfl) (by kernel_rfl) (by kernel_rfl) (fun _ _ _ h => h) ?_ (by assumption) ?_
            rotate_left
            · intro o ho w hSw
              obtain ⟨z0, z1⟩ := hSw
              cases ho
              go_simp
              try with_reducible rfl
            try simp only [Act.put, List.setIfInBounds_toArray, List.set_cons_zero, List.set_cons_succ]
            refine takeH 6 (some 21) (v := ?_) (by rfl) (by rfl) (by kernel_rfl) (by kernel_rfl) (by kernel_rfl) (fun _ _ _ h => h) ?_ (by assumption) ?_
            rotate_left
            · intro o ho w hSw
              obtain ⟨z0, z1⟩ := hSw
              cases ho
              go_simp
              try with_reducible rfl
            try simp only [Act.put, List.setIfInBounds_toArray, List.set_cons_zero, List.set_cons_succ]
            refine takeH 7 (some 22) (v := ?_) (by rfl) (by rfl) (by kernel_rfl) (by kernel_rfl) (by kernel_rfl) (fun _ _ _ h => h) ?_ (by assumption) ?_
            rotate_left
            · intro o ho w hSw
              obtain ⟨z0, z1⟩ := hSw
              cases ho
              go_simp
              try with_reducible rfl
            try simp only [Act.put, List.setIfInBounds_toArray, List.set_cons_zero, List.set_cons_succ]
            refine takeH 8 (some 23) (v := ?_) (by rfl) (by rfl) (by kernel_rfl) (by kernel_rfl) (by kernel_rfl) (fun _ _ _ h => h) ?_ (by assumption) ?_
            rotate_left
            · intro o ho w hSw
              obtain ⟨z0, z1⟩ := hSw
              cases ho
              go_simp
              try with_reducible rfl
            try simp only [Act.put, List.setIfInBounds_toArray, List.set_cons_zero, List.set_cons_succ]
            refine takeH 9 (some 24) (v := ?_) (by rfl) (by rfl) (by kernel_rfl) (by kernel_rfl) (by kernel_rfl) (fun _ _ _ h => h) ?_ (by assumption) ?_
            rotate_left
            · intro o ho w hSw
              obtain ⟨z0, z1⟩ := hSw
              cases ho
              go_simp
              try with_reducible rfl
            try simp only [Act.put, List.setIfInBounds_toArray, List.set_cons_zero, List.set_cons_succ]
            refine takeH 10 (some 25) (v := ?_) (by rfl) (by rfl) (by kernel_rfl) (by kernel_rfl) (by kernel_rfl) (fun _ _ _ h => h) ?_ (by assumption) ?_
            rotate_left
            · intro o ho w hSw
              obtain ⟨z0, z1⟩ := hSw
              cases ho
              go_simp
              try with_reducible rfl
            try simp only [Act.put, List.setIfInBounds_toArray, List.set_cons_zero, List.set_cons_succ]
            refine takeH 11 (some 26) (v := ?_) (by rfl) (by rfl) (by kernel_rfl) (by kernel_rfl) (by kernel_rfl) (fun _ _ _ h => h) ?_ (by assumption) ?_
            rotate_left
            · intro o ho w hSw
              obtain ⟨z0, z1⟩ := hSw
              cases ho
              go_simp
              try with_reducible rfl
            try simp only [Act.put, List.setIfInBounds_toArray, List.set_cons_zero, List.set_cons_succ]
            refine takeH 12 (some 27) (v := .bool false) (by rfl) (by rfl) (by kernel_rfl) (by kernel_rfl) (by kernel_rfl) (fun _ _ _ h => h) ?_ (by assumption) ?_
            skip
            · intro o ho w hSw
              obtain ⟨z0, z1⟩ := hSw
              cases ho
              go_simp
              try with_reducible rfl
            try simp only [Act.put, List.setIfInBounds_toArray, List.set_cons_zero, List.set_cons_succ]
            refine takeH 13 (some 28) (v := ?_) (by rfl) (by rfl) (by kernel_rfl) (by kernel_rfl) (by kernel_rfl) (fun _ _ _ h => h) ?_ (by assumption) ?_
            rotate_left
            · intro o ho w hSw
              obtain ⟨z0, z1⟩ := hSw
              cases ho
              go_simp
              try with_reducible rfl
            try simp only [Act.put, List.setIfInBounds_toArray, List.set_cons_zero, List.set_cons_succ]
            refine takeH 14 (some 29) (v := ?_) (by rfl) (by rfl) (by kernel_rfl) (by kernel_rfl) (by kernel_rfl) (fun _ _ _ h => h) ?_ (by assumption) ?_
            rotate_left
            · intro o ho w hSw
              obtain ⟨z0, z1⟩ := hSw
              cases ho
              go_simp
              try with_reducible rfl
            try simp only [Act.put, List.setIfInBounds_toArray, List.set_cons_zero, List.set_cons_succ]
            refine takeH 15 (some 30) (v := ?_) (by rfl) (by rfl) (by kernel_rfl) (by kernel_rfl) (by kernel_rfl) (fun _ _ _ h => h) ?_ (by assumption) ?_
            rotate_left
            · intro o ho w hSw
              obtain ⟨z0, z1⟩ := hSw
              cases ho
              go_simp
              try with_reducible rfl
            try simp only [Act.put, List.setIfInBounds_toArray, List.set_cons_zero, List.set_cons_succ]
            refine takeH 16 (some 31) (v := .bool true) (by rfl) (by rfl) (by kernel_rfl) (by kernel_rfl) (by kernel_rfl) (fun _ _ _ h => h) ?_ (by assumption) ?_
            skip
            · intro o ho w hSw
              obtain ⟨z0, z1⟩ := hSw
              cases ho
              go_simp
              try with_reducible rfl
            try simp only [Act.put, List.setIfInBounds_toArray, List.set_cons_zero, List.set_cons_succ]
            refine takeH 17 (some 32) (v := ?_) (by rfl) (by rfl) (by kernel_rfl) (by kernel_rfl) (by kernel_rfl) (fun _ _ _ h => h) ?_ (by assumption) ?_
            rotate_left
            · intro o ho w hSw
              obtain ⟨z0, z1⟩ := hSw
              cases ho
              go_simp
              try with_reducible rfl
            try simp only [Act.put, List.setIfInBounds_toArray, List.set_cons_zero, List.set_cons_succ]
            refine takeH 18 (some 33) (v := ?_) (by rfl) (by rfl) (by kernel_rfl) (by kernel_rfl) (by kernel_rfl) (fun _ _ _ h => h) ?_ (by assumption) ?_
            rotate_left
            · intro o ho w hSw
              obtain ⟨z0, z1⟩ := hSw
              cases ho
              go_simp
              try with_reducible rfl
            try simp only [Act.put, List.setIfInBounds_toArray, List.set_cons_zero, List.set_cons_succ]
            refine takeH 19 (some 34) (v := ?_) (by rfl) (by rfl) (by kernel_rfl) (by kernel_rfl) (by kernel_rfl) (fun _ _ _ h => h) ?_ (by assumption) ?_
            rotate_left
            · intro o ho w hSw
              obtain ⟨z0, z1⟩ := hSw
              cases ho
              go_simp
              try with_reducible rfl
            try simp only [Act.put, List.setIfInBounds_toArray, List.set_cons_zero, List.set_cons_succ]
            refine takeH 20 (some 35) (v := ?_) (by rfl) (by rfl) (by kernel_rfl) (by kernel_rfl) (by kernel_rfl) (fun _ _ _ h => h) ?_ (by assumption) ?_
            rotate_left
            · intro o ho w hSw
              obtain ⟨z0, z1⟩ := hSw
              cases ho
              go_simp
              try with_reducible rfl
            try simp only [Act.put, List.setIfInBounds_toArray, List.set_cons_zero, List.set_cons_succ]
            refine takeH 21 (some 36) (v := ?_) (by rfl) (by rfl) (by kernel_rfl) (by kernel_rfl) (by kernel_rfl) (fun _ _ _ h => h) ?_ (by assumption) ?_
            rotate_left
            · intro o ho w hSw
              obtain ⟨z0, z1⟩ := hSw
              cases ho
              go_simp
              try with_reducible rfl
            try simp only [Act.put, List.setIfInBounds_toArray, List.set_cons_zero, List.set_cons_succ]
            refine takeH 22 (some 37) (v := ?_) (by rfl) (by rfl) (by kernel_rfl) (by kernel_rfl) (by kernel_rfl) (fun _ _ _ h => h) ?_ (by assumption) ?_
            rotate_left
            · intro o ho w hSw
              obtain ⟨z0, z1⟩ := hSw
              cases ho
              go_simp
              try with_reducible rfl
            try simp only [Act.put, List.setIfInBounds_toArray, List.set_cons_zero, List.set_cons_succ]
            refine takeH 23 (some 38) (v := ?_) (by rfl) (by rfl) (by kernel_rfl) (by kernel_rfl) (by kernel_rfl) (fun _ _ _ h => h) ?_ (by assumption) ?_
            rotate_left
            · intro o ho w hSw
              obtain ⟨z0, z1⟩ := hSw
              cases ho
              go_simp
              try with_reducible rfl
            try simp only [Act.put, List.setIfInBounds_toArray, List.set_cons_zero, List.set_cons_succ]
            refine takeH 24 (some 39) (v := .int .i64 (j : Int)) (by rfl) (by rfl) (by kernel_rfl) (by kernel_rfl) (by kernel_rfl) (fun _ _ _ h => h) ?_ (by assumption) ?_
            skip
            · intro o ho w hSw
              obtain ⟨z0, z1⟩ := hSw
              cases ho
              go_simp
              try rfl
            try simp only [Act.put, List.setIfInBounds_toArray, List.set_cons_zero, List.set_cons_succ]
            refine takeH 25 (some 40) (v := ?_) (by rfl) (by rfl) (by kernel_rfl) (by kernel_rfl) (by kernel_rfl) (fun _ _ _ h => h) ?_ (by assumption) ?_
            rotate_left
            · intro o ho w hSw
              obtain ⟨z0, z1⟩ := hSw
              cases ho
              go_simp
              try with_reducible rfl
            try simp only [Act.put, List.setIfInBounds_toArray, List.set_cons_zero, List.set_cons_succ]
            refine takeH 26 (some 41) (v := ?_) (by rfl) (by rfl) (by kernel_rfl) (by kernel_rfl) (by kernel_rfl) (fun _ _ _ h => h) ?_ (by assumption) ?_
            rotate_left
            · intro o ho w hSw
              obtain ⟨z0, z1⟩ := hSw
              cases ho
              go_simp
              try with_reducible rfl
            try simp only [Act.put, List.setIfInBounds_toArray, List.set_cons_zero, List.set_cons_succ]
            refine takeH 27 (some 42) (v := .bool true) (by rfl) (by rfl) (by kernel_rfl) (by kernel_rfl) (by kernel_rfl) (fun _ _ _ h => h) ?_ (by assumption) ?_
            skip
            · intro o ho w hSw
              obtain ⟨z0, z1⟩ := hSw
              cases ho
              go_simp
              try with_reducible rfl
            try simp only [Act.put, List.setIfInBounds_toArray, List.set_cons_zero, List.set_cons_succ]
            refine takeH 28 (some 43) (v := ?_) (by rfl) (by rfl) (by kernel_rfl) (by kernel_rfl) (by kernel_rfl) (fun _ _ _ h => h) ?_ (by assumption) ?_
            rotate_left
            · intro o ho w hSw
              obtain ⟨z0, z1⟩ := hSw
              cases ho
              go_simp
              try with_reducible rfl
            try simp only [Act.put, List.setIfInBounds_toArray, List.set_cons_zero, List.set_cons_succ]
            refine takeH 29 (some 44) (v := ?_) (by rfl) (by rfl) (by kernel_rfl) (by kernel_rfl) (by kernel_rfl) (fun _ _ _ h => h) ?_ (by assumption) ?_
            rotate_left
            · intro o ho w hSw
              obtain ⟨z0, z1⟩ := hSw
              cases ho
              go_simp
              try with_reducible rfl
            try simp only [Act.put, List.setIfInBounds_toArray, List.set_cons_zero, List.set_cons_succ]
            refine wpAnyH_done (by kernel_rfl) ?_ _
            go_wp2
            go_ret
            rw [HE.out]
            exact ⟨rfl, HB4.out⟩
          have HD2 : Hid (lotsBad (m : Int) (-1) win = lotsBad (m : Int) x (win.drop (j + 1 + 1))) := Lib.hid (by rw [HBADJ.out, HD.out]; simp [x1, x2])
          go_wp2
          refine wp_region_held_drew (S := (fun w' => w'.cell? ⟨b2, o2 + (j + 1), none⟩ = some (.int .i64 x) ∧ w'.cell? ⟨b2, o2 + j, none⟩ = some (.int .i64 last))) (by kernel_rfl) ⟨hc2, hc3⟩ (fun hHeld => ?_)
          refine takeH 0 (some 15) (v := ?_) (by rfl) (by rfl) (by kernel_rfl) (by kernel_rfl) (by kernel_rfl) (fun _ _ _ h => h) ?_ (by assumption) ?_
          rotate_left
          · intro o ho w hSw
            obtain ⟨z0, z1⟩ := hSw
            cases ho
            go_simp
            try with_reducible rfl
          try simp only [Act.put, List.setIfInBounds_toArray, List.set_cons_zero, List.set_cons_succ]
          refine takeH 1 (some 16) (v := ?_) (by rfl) (by rfl) (by kernel_rfl) (by kernel_rfl) (by kernel_rfl) (fun _ _ _ h => h) ?_ (by assumption) ?_
          rotate_left
          · intro o ho w hSw
            obtain ⟨z0, z1⟩ := hSw
            cases ho
            go_simp
            try with_reducible rfl
          try simp only [Act.put, List.setIfInBounds_toArray, List.set_cons_zero, List.set_cons_succ]
          refine takeH 2 (some 17) (v := ?_) (by rfl) (by rfl) (by kernel_rfl) (by kernel_rfl) (by kernel_rfl) (fun _ _ _ h => h) ?_ (by assumption) ?_
          rotate_left
          · intro o ho w hSw
            obtain ⟨z0, z1⟩ := hSw
            cases ho
            go_simp
            try with_reducible rfl
          try simp only [Act.put, List.setIfInBounds_toArray, List.set_cons_zero, List.set_cons_succ]
          refine takeH 3 (some 18) (v := ?_) (by rfl) (by rfl) (by kernel_rfl) (by kernel_rfl) (by kernel_rfl) (fun _ _ _ h => h) ?_ (by assumption) ?_
          rotate_left
          · intro o ho w hSw
            obtain ⟨z0, z1⟩ := hSw
            cases ho
            go_simp
            try with_reducible rfl
          try simp only [Act.put, List.setIfInBounds_toArray, List.set_cons_zero, List.set_cons_succ]
          refine takeH 4 (some 19) (v := .bool false) (by rfl) (by rfl) (by kernel_rfl) (by kernel_rfl) (by kernel_rfl) (fun _ _ _ h => h) ?_ (by assumption) ?_
          skip
          · intro o ho w hSw
            obtain ⟨z0, z1⟩ := hSw
            cases ho
            go_simp
            try with_reducible rfl
          try simp only [Act.put, List.setIfInBounds_toArray, List.set_cons_zero, List.set_cons_succ]
          refine takeH 5 (some 20) (v := ?_) (by rfl) (by rfl) (by kernel_rfl) (by kernel_rfl) (by kernel_rfl) (fun _ _ _ h => h) ?_ (by assumption) ?_
          rotate_left
          · intro o ho w hSw
            obtain ⟨z0, z1⟩ := hSw
            cases ho
            go_simp
            try with_reducible rfl
          try simp only [Act.put, List.setIfInBounds_toArray, List.set_cons_zero, List.set_cons_succ]
          refine takeH 6 (some 21) (v := ?_) (by rfl) (by rfl) (by kernel_rfl) (by kernel_rfl) (by kernel_rfl) (fun _ _ _ h => h) ?_ (by assumption) ?_
          rotate_left
          · intro o ho w hSw
            obtain ⟨z0, z1⟩ := hSw
            cases ho
            go_simp
            try with_reducible rfl
          try simp only [Act.put, List.setIfInBounds_toArray, List.set_cons_zero, List.set_cons_succ]
          refine takeH 7 (some 22) (v := ?_) (by rfl) (by rfl) (by kernel_rfl) (by kernel_rfl) (by kernel_rfl) (fun _ _ _ h => h) ?_ (by assumption) ?_
          rotate_left
          · intro o ho w hSw
            obtain ⟨z0, z1⟩ := hSw
            cases ho
            go_simp
            try with_reducible rfl
          try simp only [Act.put, List.setIfInBounds_toArray, List.set_cons_zero, List.set_cons_succ]
          refine takeH 8 (some 23) (v := ?_) (by rfl) (by rfl) (by kernel_rfl) (by kernel_rfl) (by kernel_rfl) (fun _ _ _ h => h) ?_ (by assumption) ?_
          rotate_left
          · intro o ho w hSw
            obtain ⟨z0, z1⟩ := hSw
            cases ho
            go_simp
            try with_reducible rfl
          try simp only [Act.put, List.setIfInBounds_toArray, List.set_cons_zero, List.set_cons_succ]
          refine takeH 9 (some 24) (v := ?_) (by rfl) (by rfl) (by kernel_rfl) (by kernel_rfl) (by kernel_rfl) (fun _ _ _ h => h) ?_ (by assumption) ?_
          rotate_left
          · intro o ho w hSw
            obtain ⟨z0, z1⟩ := hSw
            cases ho
            go_simp
            try with_reducible rfl
          try simp only [Act.put, List.setIfInBounds_toArray, List.set_cons_zero, List.set_cons_succ]
          refine takeH 10 (some 25) (v := ?_) (by rfl) (by rfl) (by kernel_rfl) (by kernel_rfl) (by kernel_rfl) (fun _ _ _ h => h) ?_ (by assumption) ?_
          rotate_left
          · intro o ho w hSw
            obtain ⟨z0, z1⟩ := hSw
            cases ho
            go_simp
            try with_reducible rfl
          try simp only [Act.put, List.setIfInBounds_toArray, List.set_cons_zero, List.set_cons_succ]
          refine takeH 11 (some 26) (v := ?_) (by rfl) (by rfl) (by kernel_rfl) (by kernel_rfl) (by kernel_rfl) (fun _ _ _ h => h) ?_ (by assumption) ?_
          rotate_left
          · intro o ho w hSw
            obtain ⟨z0, z1⟩ := hSw
            cases ho
            go_simp
            try with_reducible rfl
          try simp only [Act.put, List.setIfInBounds_toArray, List.set_cons_zero, List.set_cons_succ]
          refine takeH 12 (some 27) (v := .bool false) (by rfl) (by rfl) (by kernel_rfl) (by kernel_rfl) (by kernel_rfl) (fun _ _ _ h => h) ?_ (by assumption) ?_
          skip
          · intro o ho w hSw
            obtain ⟨z0, z1⟩ := hSw
            cases ho
            go_simp
            try with_reducible rfl
          try simp only [Act.put, List.setIfInBounds_toArray, List.set_cons_zero, List.set_cons_succ]
          refine takeH 13 (some 28) (v := ?_) (by rfl) (by rfl) (by kernel_rfl) (by kernel_rfl) (by kernel_rfl) (fun _ _ _ h => h) ?_ (by assumption) ?_
          rotate_left
          · intro o ho w hSw
            obtain ⟨z0, z1⟩ := hSw
            cases ho
            go_simp
            try with_reducible rfl
          try simp only [Act.put, List.setIfInBounds_toArray, List.set_cons_zero, List.set_cons_succ]
          refine takeH 14 (some 29) (v := ?_) (by rfl) (by rfl) (by kernel_rfl) (by kernel_rfl) (by kernel_rfl) (fun _ _ _ h => h) ?_ (by assumption) ?_
          rotate_left
          · intro o ho w hSw
            obtain ⟨z0, z1⟩ := hSw
            cases ho
            go_simp
            try with_reducible rfl
          try simp only [Act.put, List.setIfInBounds_toArray, List.set_cons_zero, List.set_cons_succ]
          refine takeH 15 (some 30) (v := ?_) (by rfl) (by rfl) (by kernel_rfl) (by kernel_rfl) (by kernel_rfl) (fun _ _ _ h => h) ?_ (by assumption) ?_
          rotate_left
          · intro o ho w hSw
            obtain ⟨z0, z1⟩ := hSw
            cases ho
            go_simp
            try with_reducible rfl
          try simp only [Act.put, List.setIfInBounds_toArray, List.set_cons_zero, List.set_cons_succ]
          refine takeH 16 (some 31) (v := .bool true) (by rfl) (by rfl) (by kernel_rfl) (by kernel_rfl) (by kernel_rfl) (fun _ _ _ h => h) ?_ (by assumption) ?_
          skip
          · intro o ho w hSw
            obtain ⟨z0, z1⟩ := hSw
            cases ho
            go_simp
            try with_reducible rfl
          try simp only [Act.put, List.setIfInBounds_toArray, List.set_cons_zero, List.set_cons_succ]
          refine takeH 17 (some 32) (v := ?_) (by rfl) (by rfl) (by kernel_rfl) (by kernel_rfl) (by kernel_rfl) (fun _ _ _ h => h) ?_ (by assumption) ?_
          rotate_left
          · intro o ho w hSw
            obtain ⟨z0, z1⟩ := hSw
            cases ho
            go_simp
            try with_reducible rfl
          try simp only [Act.put, List.setIfInBounds_toArray, List.set_cons_zero, List.set_cons_succ]
          refine takeH 18 (some 33) (v := ?_) (by rfl) (by rfl) (by kernel_rfl) (by kernel_rfl) (by kernel_rfl) (fun _ _ _ h => h) ?_ (by assumption) ?_
          rotate_left
          · intro o ho w hSw
            obtain ⟨z0, z1⟩ := hSw
            cases ho
            go_simp
            try with_reducible rfl
          try simp only [Act.put, List.setIfInBounds_toArray, List.set_cons_zero, List.set_cons_succ]
          refine takeH 19 (some 34) (v := ?_) (by rfl) (by rfl) (by kernel_rfl) (by kernel_rfl) (by kernel_rfl) (fun _ _ _ h => h) ?_ (by assumption) ?_
          rotate_left
          · intro o ho w hSw
            obtain ⟨z0, z1⟩ := hSw
            cases ho
            go_simp
            try with_reducible rfl
          try simp only [Act.put, List.setIfInBounds_toArray, List.set_cons_zero, List.set_cons_succ]
          refine takeH 20 (some 35) (v := ?_) (by rfl) (by rfl) (by kernel_rfl) (by kernel_rfl) (by kernel_rfl) (fun _ _ _ h => h) ?_ (by assumption) ?_
          rotate_left
          · intro o ho w hSw
            obtain ⟨z0, z1⟩ := hSw
            cases ho
            go_simp
            try with_reducible rfl
          try simp only [Act.put, List.setIfInBounds_toArray, List.set_cons_zero, List.set_cons_succ]
          refine takeH 21 (some 36) (v := ?_) (by rfl) (by rfl) (by kernel_rfl) (by kernel_rfl) (by kernel_rfl) (fun _ _ _ h => h) ?_ (by assumption) ?_
          rotate_left
          · intro o ho w hSw
            obtain ⟨z0, z1⟩ := hSw
            cases ho
            go_simp
            try with_reducible rfl
          try simp only [Act.put, List.setIfInBounds_toArray, List.set_cons_zero, List.set_cons_succ]
          refine takeH 22 (some 37) (v := ?_) (by rfl) (by rfl) (by kernel_rfl) (by kernel_rfl) (by kernel_rfl) (fun _ _ _ h => h) ?_ (by assumption) ?_
          rotate_left
          · intro o ho w hSw
            obtain ⟨z0, z1⟩ := hSw
            cases ho
            go_simp
            try with_reducible rfl
          try simp only [Act.put, List.setIfInBounds_toArray, List.set_cons_zero, List.set_cons_succ]
          refine takeH 23 (some 38) (v := ?_) (by rfl) (by rfl) (by kernel_rfl) (by kernel_rfl) (by kernel_rfl) (fun _ _ _ h => h) ?_ (by assumption) ?_
          rotate_left
          · intro o ho w hSw
            obtain ⟨z0, z1⟩ := hSw
            cases ho
            go_simp
            try with_reducible rfl
          try simp only [Act.put, List.setIfInBounds_toArray, List.set_cons_zero, List.set_cons_succ]
          refine takeH 24 (some 39) (v := .int .i64 (j : Int)) (by rfl) (by rfl) (by kernel_rfl) (by kernel_rfl) (by kernel_rfl) (fun _ _ _ h => h) ?_ (by assumption) ?_
          skip
          · intro o ho w hSw
            obtain ⟨z0, z1⟩ := hSw
            cases ho
            go_simp
            try rfl
          try simp only [Act.put, List.setIfInBounds_toArray, List.set_cons_zero, List.set_cons_succ]
          refine takeH 25 (some 40) (v := ?_) (by rfl) (by rfl) (by kernel_rfl) (by kernel_rfl) (by kernel_rfl) (fun _ _ _ h => h) ?_ (by assumption) ?_
          rotate_left
          · intro o ho w hSw
            obtain ⟨z0, z1⟩ := hSw
            cases ho
            go_simp
            try with_reducible rfl
          try simp only [Act.put, List.setIfInBounds_toArray, List.set_cons_zero, List.set_cons_succ]
          refine takeH 26 (some 41) (v := ?_) (by rfl) (by rfl) (by kernel_rfl) (by kernel_rfl) (by kernel_rfl) (fun _ _ _ h => h) ?_ (by assumption) ?_
          rotate_left
          · intro o ho w hSw
            obtain ⟨z0, z1⟩ := hSw
            cases ho
            go_simp
            try with_reducible rfl
          try simp only [Act.put, List.setIfInBounds_toArray, List.set_cons_zero, List.set_cons_succ]
          refine takeH 27 (some 42) (v := .bool false) (by rfl) (by rfl) (by kernel_rfl) (by kernel_rfl) (by kernel_rfl) (fun _ _ _ h => h) ?_ (by assumption) ?_
          skip
          · intro o ho w hSw
            obtain ⟨z0, z1⟩ := hSw
            cases ho
            go_simp
            try with_reducible rfl
          try simp only [Act.put, List.setIfInBounds_toArray, List.set_cons_zero, List.set_cons_succ]
          refine takeH 28 (some 43) (v := ?_) (by rfl) (by rfl) (by kernel_rfl) (by kernel_rfl) (by kernel_rfl) (fun _ _ _ h => h) ?_ (by assumption) ?_
          rotate_left
          · intro o ho w hSw
            obtain ⟨z0, z1⟩ := hSw
            cases ho
            go_simp
            try with_reducible rfl
          try simp only [Act.put, List.setIfInBounds_toArray, List.set_cons_zero, List.set_cons_succ]
          refine takeH 29 (some 44) (v := ?_) (by rfl) (by rfl) (by kernel_rfl) (by kernel_rfl) (by kernel_rfl) (fun _ _ _ h => h) ?_ (by assumption) ?_
          rotate_left
          · intro o ho w hSw
            obtain ⟨z0, z1⟩ := hSw
            cases ho
            go_simp
            try with_reducible rfl
          try simp only [Act.put, List.setIfInBounds_toArray, List.set_cons_zero, List.set_cons_succ]
          refine wpAnyH_done (by kernel_rfl) ?_ _
          go_wp2
          exact ⟨⟨j + 1 + 1, x, by omega, by go_num, by omega, Lib.hid (fun q h => by obtain rfl : q = j + 1 := (by omega); exact HX.out), HD2, HB4⟩, by simp [intOf]; omega⟩
        · obtain rfl : j = nw := by omega
          have HOK : Hid (lotsBad (m : Int) (-1) win = false) := Lib.hid (by rw [HBADJ.out, List.drop_eq_nil_of_le (by rw [HSL.out]; exact Nat.le_refl _)]; rfl)
          have HRG : Hid (∀ q, q < j → ∃ xi : Nat, win[q]?.getD 0 = (xi : Int) ∧ xi < m) := Lib.hid (fun q hq => by
            have h := (lotsBad_ok HOK.out (by omega)).2 (win[q]?.getD 0) (by
              rw [List.getElem?_eq_getElem (by rw [HSL.out]; exact hq)]
              exact List.getElem_mem _)
            exact ⟨(win[q]?.getD 0).toNat, by omega, by omega⟩)
          have HFR2 : Hid (feasR L win = !pairTo L win j) := Lib.hid (by rw [HFR.out, HOK.out]; rfl)
          clear HFR HOK HBADJ HPV HB4 hl1 hlt2
          go_wp2
          go_loopw [6] (fun i wr => ∃ k : Nat, k ≤ j ∧ i = .int .i64 (k : Int) ∧ Hid (pairTo L win k = false) ∧ Hid (Below w.heap.size w wr)) (fun i _ => j - (intOf i).toNat)
          case atStart => exact ⟨0, by omega, rfl, Lib.hid rfl, HBR⟩
          case round =>
            obtain ⟨k, hk, rfl, HPT, HBK⟩ := hrel
            by_cases hkn : k < j
            rotate_left
            · obtain rfl : k = j := by omega
              go_wp2
              go_ret
              rw [HFR2.out, HPT.out]
              exact ⟨rfl, HBK.out⟩
            obtain ⟨xi, hxi, hxm⟩ := HRG.out k hkn
            obtain ⟨bA, oA, hAA, hbA, r0, r1, r2, rok⟩ := (HL.out.all HBK.out).cell (k := xi) (by rw [HLL.out]; exact hxm)
            dsimp only at hAA
            subst hAA
            have HPS := Lib.hid (pairTo_succ L win k)
            have HXI := Lib.hid hxi
            clear hxi
            go_wp2
            go_loopw [7] (fun i wr => ∃ q : Nat, q ≤ k ∧ i = .int .i64 (q : Int) ∧ Hid (((List.range q).any fun j => confB (bdAt L (win[k]?.getD 0).toNat) (bdAt L (win[j]?.getD 0).toNat)) = false) ∧ Hid (Below w.heap.size w wr)) (fun i _ => k - (intOf i).toNat)
            case atStart => exact ⟨0, by omega, rfl, Lib.hid rfl, HBK⟩
            case round =>
              obtain ⟨q, hq, rfl, HQA, HBQ⟩ := hrel
              by_cases hqk : q < k
              rotate_left
              · obtain rfl : q = k := by omega
                have HN : Hid (pairTo L win (q + 1) = false) := Lib.hid (by rw [HPS.out, HPT.out, HQA.out]; rfl)
                go_wp2
                exact ⟨⟨q + 1, by omega, by go_num, HN, HBQ⟩, by simp [intOf]; omega⟩
              obtain ⟨xq, hxq, hqm⟩ := HRG.out q (by omega)
              obtain ⟨bA2, oA2, hAA2, -, u0, u1, u2, uok⟩ := (HL.out.all HBQ.out).cell (k := xq) (by rw [HLL.out]; exact hqm)
              dsimp only at hAA2
              injection hAA2 with hAA2
              injection hAA2 with hAA2 hAA3 _
              subst hAA2 hAA3
              obtain ⟨bB, oB, hAA2, hbl, v0, v1, v2, vok⟩ := (HL.out.all HBQ.out).cell (k := xi) (by rw [HLL.out]; exact hxm)
              dsimp only at hAA2
              injection hAA2 with hAA2
              injection hAA2 with hAA2 hAA3 _
              subst hAA2 hAA3
              obtain ⟨bw, ow, hAw, hbw, p0⟩ := NIn.cell (NIn.all HW.out HBQ.out) (k := k) (show k < j by omega)
              obtain ⟨bw2, ow2, hAw2, -, p1⟩ := NIn.cell (NIn.all HW.out HBQ.out) (k := q) (show q < j by omega)
              dsimp only at hAw hAw2
              subst hAw
              injection hAw2 with hAw2
              injection hAw2 with hAw2 hAw3 _
              subst hAw2 hAw3
              rw [HXI.out] at p0
              rw [hxq] at p1
              have HBD : Hid (Below wr.heap.size wr wr.drew) := Lib.hid (below_drewN (Below.refl _ _) 1)
              have e1 := bdAt_eq (L := L) (i := xi) (by rw [HLL.out]; exact hxm)
              have e2 := bdAt_eq (L := L) (i := xq) (by rw [HLL.out]; exact hqm)
              rw [← e1] at v0 v1 v2 vok
              rw [← e2] at u0 u1 u2 uok
              clear e1 e2
              have HCQ : Hid (confB (bdAt L (win[k]?.getD 0).toNat) (bdAt L (win[q]?.getD 0).toNat) = confB (bdAt L xi) (bdAt L xq)) := Lib.hid (by rw [HXI.out, hxq]; rfl)
              have HAN1 : Hid ((bdAt L xi).s.2.1 ≤ 1000000) := Lib.hid (HN.out _ (by rw [bdAt_eq (by rw [HLL.out]; exact hxm)]; exact List.getElem_mem _))
              have HAN2 : Hid ((bdAt L xq).s.2.1 ≤ 1000000) := Lib.hid (HN.out _ (by rw [bdAt_eq (by rw [HLL.out]; exact hqm)]; exact List.getElem_mem _))
              generalize bdAt L xi = y1 at *
              generalize bdAt L xq = y2 at *
              obtain ⟨b1, q1, ⟨s1, n1, c1⟩, l1⟩ := y1
              obtain ⟨b2, q2, ⟨s2, n2, c2⟩, l2⟩ := y2
              unfold slV at u2 v2
              dsimp only [Bd.ok] at u0 u1 u2 uok v0 v1 v2 vok HAN1 HAN2
              have HS : Hid (∀ w', Below wr.heap.size wr w' → (fun w' => w'.cell? ⟨bw, ow + k, none⟩ = some (.int .i64 xi) ∧ w'.cell? ⟨bw, ow + q, none⟩ = some (.int .i64 xq) ∧ w'.cell? ⟨bA, oA + xi * 3, none⟩ = some (.int .i64 b1) ∧ w'.cell? ⟨bA, oA + xi * 3 + 1, none⟩ = some (.int .i64 q1) ∧ w'.cell? ⟨bA, oA + xi * 3 + 2, none⟩ = some (.slice s1 n1 c1) ∧ w'.cell? ⟨bA, oA + xq * 3, none⟩ = some (.int .i64 b2) ∧ w'.cell? ⟨bA, oA + xq * 3 + 1, none⟩ = some (.int .i64 q2) ∧ w'.cell? ⟨bA, oA + xq * 3 + 2, none⟩ = some (.slice s2 n2 c2)) w') := Lib.hid (fun w' hb => ⟨(hb.cell (p := ⟨bw, ow + k, none⟩) hbw).trans p0, (hb.cell (p := ⟨bw, ow + q, none⟩) hbw).trans p1, (hb.cell (p := ⟨bA, oA + xi * 3, none⟩) hbl).trans v0, (hb.cell (p := ⟨bA, oA + xi * 3 + 1, none⟩) hbl).trans v1, (hb.cell (p := ⟨bA, oA + xi * 3 + 2, none⟩) hbl).trans v2, (hb.cell (p := ⟨bA, oA + xq * 3, none⟩) hbl).trans u0, (hb.cell (p := ⟨bA, oA + xq * 3 + 1, none⟩) hbl).trans u1, (hb.cell (p := ⟨bA, oA + xq * 3 + 2, none⟩) hbl).trans u2⟩)
              have HCC := Lib.hid (rconf_any b1 q1 s1 n1 c1 l1 b2 q2 s2 n2 c2 l2 wr.drew (Lib.hid (NIn.all vok HBD.out)) (Lib.hid (NIn.all uok HBD.out)) HAN1.out HAN2.out)
              have HQS : Hid (((List.range (q + 1)).any fun j => confB (bdAt L (win[k]?.getD 0).toNat) (bdAt L (win[j]?.getD 0).toNat)) = confB ⟨b1, q1, (s1, n1, c1), l1⟩ ⟨b2, q2, (s2, n2, c2), l2⟩) := Lib.hid (by rw [List.range_succ, List.any_append, HQA.out]; simpa using HCQ.out)
              have HNO : Hid (confB ⟨b1, q1, (s1, n1, c1), l1⟩ ⟨b2, q2, (s2, n2, c2), l2⟩ = true → feasR L win = false) := Lib.hid (fun h => by
                rw [HFR2.out]
                have : pairTo L win j = true := by
                  unfold pairTo
                  rw [List.any_eq_true]
                  refine ⟨k, List.mem_range.2 hkn, ?_⟩
                  rw [List.any_eq_true]
                  exact ⟨q, List.mem_range.2 hqk, by rw [HCQ.out]; exact h⟩
                rw [this]
                rfl)
              obtain ⟨cb, hcb⟩ : ∃ cb, confB ⟨b1, q1, (s1, n1, c1), l1⟩ ⟨b2, q2, (s2, n2, c2), l2⟩ = cb := ⟨_, rfl⟩
              rw [hcb] at HCC HQS HNO
              clear hcb HCQ hxq u0 u1 u2 v0 v1 v2 uok vok r0 r1 r2 rok p0 p1 HQA HAN1 HAN2
              have hki : (k : Int) < (j : Int) := by omega
              have hqi : (q : Int) < (j : Int) := by omega
              have hxmi : (xi : Int) < (m : Int) := by omega
              have hxqi : (xq : Int) < (m : Int) := by omega
              have hkn2 : k < j := by omega
              have hqn2 : q < j := by omega
              go_wp2
              refine wp_region_held_drew (S := (fun w' => w'.cell? ⟨bw, ow + k, none⟩ = some (.int .i64 xi) ∧ w'.cell? ⟨bw, ow + q, none⟩ = some (.int .i64 xq) ∧ w'.cell? ⟨bA, oA + xi * 3, none⟩ = some (.int .i64 b1) ∧ w'.cell? ⟨bA, oA + xi * 3 + 1, none⟩ = some (.int .i64 q1) ∧ w'.cell? ⟨bA, oA + xi * 3 + 2, none⟩ = some (.slice s1 n1 c1) ∧ w'.cell? ⟨bA, oA + xq * 3, none⟩ = some (.int .i64 b2) ∧ w'.cell? ⟨bA, oA + xq * 3 + 1, none⟩ = some (.int .i64 q2) ∧ w'.cell? ⟨bA, oA + xq * 3 + 2, none⟩ = some (.slice s2 n2 c2))) (by kernel_rfl) (HS.out _ HBD.out) (fun hHeld => ?_)
              refine takeH 0 (some 56) (v := ?_) (by rfl) (by rfl) (by kernel_rfl) (by kernel_rfl) (by kernel_rfl) (fun _ _ _ h => h) ?_ (by assumption) ?_
              rotate_left
              · (intro o ho w hSw; obtain ⟨z0, z1, z2, z3, z4, z5, z6, z7⟩ := hSw; cases ho; go_simp; try with_reducible rfl)
              try simp only [Act.put, List.setIfInBounds_toArray, List.set_cons_zero, List.set_cons_succ]
              refine takeH 1 (some 57) (v := ?_) (by rfl) (by rfl) (by kernel_rfl) (by kernel_rfl) (by kernel_rfl) (fun _ _ _ h => h) ?_ (by assumption) ?_
              rotate_left
              · (intro o ho w hSw; obtain ⟨z0, z1, z2, z3, z4, z5, z6, z7⟩ := hSw; cases ho; go_simp; try with_reducible rfl)
              try simp only [Act.put, List.setIfInBounds_toArray, List.set_cons_zero, List.set_cons_succ]
              refine takeH 2 (some 58) (v := ?_) (by rfl) (by rfl) (by kernel_rfl) (by kernel_rfl) (by kernel_rfl) (fun _ _ _ h => h) ?_ (by assumption) ?_
              rotate_left
              · (intro o ho w hSw; obtain ⟨z0, z1, z2, z3, z4, z5, z6, z7⟩ := hSw; cases ho; go_simp; try with_reducible rfl)
              try simp only [Act.put, List.setIfInBounds_toArray, List.set_cons_zero, List.set_cons_succ]
              refine takeH 3 (some 59) (v := ?_) (by rfl) (by rfl) (by kernel_rfl) (by kernel_rfl) (by kernel_rfl) (fun _ _ _ h => h) ?_ (by assumption) ?_
              rotate_left
              · (intro o ho w hSw; obtain ⟨z0, z1, z2, z3, z4, z5, z6, z7⟩ := hSw; cases ho; go_simp; try with_reducible rfl)
              try simp only [Act.put, List.setIfInBounds_toArray, List.set_cons_zero, List.set_cons_succ]
              refine takeH 4 (some 60) (v := ?_) (by rfl) (by rfl) (by kernel_rfl) (by kernel_rfl) (by kernel_rfl) (fun _ _ _ h => h) ?_ (by assumption) ?_
              rotate_left
              · (intro o ho w hSw; obtain ⟨z0, z1, z2, z3, z4, z5, z6, z7⟩ := hSw; cases ho; go_simp; try with_reducible rfl)
              try simp only [Act.put, List.setIfInBounds_toArray, List.set_cons_zero, List.set_cons_succ]
              refine takeH 5 (some 61) (v := ?_) (by rfl) (by rfl) (by kernel_rfl) (by kernel_rfl) (by kernel_rfl) (fun _ _ _ h => h) ?_ (by assumption) ?_
              rotate_left
              · (intro o ho w hSw; obtain ⟨z0, z1, z2, z3, z4, z5, z6, z7⟩ := hSw; cases ho; go_simp; try with_reducible rfl)
              try simp only [Act.put, List.setIfInBounds_toArray, List.set_cons_zero, List.set_cons_succ]
              refine takeH 6 (some 62) (v := ?_) (by rfl) (by rfl) (by kernel_rfl) (by kernel_rfl) (by kernel_rfl) (fun _ _ _ h => h) ?_ (by assumption) ?_
              rotate_left
              · (intro o ho w hSw; obtain ⟨z0, z1, z2, z3, z4, z5, z6, z7⟩ := hSw; cases ho; go_simp; try with_reducible rfl)
              try simp only [Act.put, List.setIfInBounds_toArray, List.set_cons_zero, List.set_cons_succ]
              refine takeH 7 (some 63) (v := ?_) (by rfl) (by rfl) (by kernel_rfl) (by kernel_rfl) (by kernel_rfl) (fun _ _ _ h => h) ?_ (by assumption) ?_
              rotate_left
              · (intro o ho w hSw; obtain ⟨z0, z1, z2, z3, z4, z5, z6, z7⟩ := hSw; cases ho; go_simp; try with_reducible rfl)
              try simp only [Act.put, List.setIfInBounds_toArray, List.set_cons_zero, List.set_cons_succ]
              refine takeH 8 (some 64) (v := ?_) (by rfl) (by rfl) (by kernel_rfl) (by kernel_rfl) (by kernel_rfl) (fun _ _ _ h => h) ?_ (by assumption) ?_
              rotate_left
              · (intro o ho w hSw; obtain ⟨z0, z1, z2, z3, z4, z5, z6, z7⟩ := hSw; cases ho; go_simp; try with_reducible rfl)
              try simp only [Act.put, List.setIfInBounds_toArray, List.set_cons_zero, List.set_cons_succ]
              refine takeH 9 (some 65) (v := ?_) (by rfl) (by rfl) (by kernel_rfl) (by kernel_rfl) (by kernel_rfl) (fun _ _ _ h => h) ?_ (by assumption) ?_
              rotate_left
              · (intro o ho w hSw; obtain ⟨z0, z1, z2, z3, z4, z5, z6, z7⟩ := hSw; cases ho; go_simp; try with_reducible rfl)
              try simp only [Act.put, List.setIfInBounds_toArray, List.set_cons_zero, List.set_cons_succ]
              refine takeH 10 (some 66) (v := ?_) (by rfl) (by rfl) (by kernel_rfl) (by kernel_rfl) (by kernel_rfl) (fun _ _ _ h => h) ?_ (by assumption) ?_
              rotate_left
              · (intro o ho w hSw; obtain ⟨z0, z1, z2, z3, z4, z5, z6, z7⟩ := hSw; cases ho; go_simp; try with_reducible rfl)
              try simp only [Act.put, List.setIfInBounds_toArray, List.set_cons_zero, List.set_cons_succ]
              refine takeH 11 (some 67) (v := ?_) (by rfl) (by rfl) (by kernel_rfl) (by kernel_rfl) (by kernel_rfl) (fun _ _ _ h => h) ?_ (by assumption) ?_
              rotate_left
              · (intro o ho w hSw; obtain ⟨z0, z1, z2, z3, z4, z5, z6, z7⟩ := hSw; cases ho; go_simp; try with_reducible rfl)
              try simp only [Act.put, List.setIfInBounds_toArray, List.set_cons_zero, List.set_cons_succ]
              refine takeH 12 (some 68) (v := ?_) (by rfl) (by rfl) (by kernel_rfl) (by kernel_rfl) (by kernel_rfl) (fun _ _ _ h => h) ?_ (by assumption) ?_
              rotate_left
              · (intro o ho w hSw; obtain ⟨z0, z1, z2, z3, z4, z5, z6, z7⟩ := hSw; cases ho; go_simp; try with_reducible rfl)
              try simp only [Act.put, List.setIfInBounds_toArray, List.set_cons_zero, List.set_cons_succ]
              refine takeH 13 (some 69) (v := ?_) (by rfl) (by rfl) (by kernel_rfl) (by kernel_rfl) (by kernel_rfl) (fun _ _ _ h => h) ?_ (by assumption) ?_
              rotate_left
              · (intro o ho w hSw; obtain ⟨z0, z1, z2, z3, z4, z5, z6, z7⟩ := hSw; cases ho; go_simp; try with_reducible rfl)
              try simp only [Act.put, List.setIfInBounds_toArray, List.set_cons_zero, List.set_cons_succ]
              refine wpAnyH_ready (rs := [14]) (by kernel_rfl) (by simp) ?_
              refine AllReadyH.cons rfl (fun K hK => ?_) AllReadyH.nil
              go_simp
              go_at_call 64
              (with_reducible refine (HCC.out).mono ?_)
              rintro e w5 ⟨rfl, hb5⟩
              go_wp2
              refine hK.out _ _ ?_ (fun hHeld5 => ?_)
              · exact (HS.out _ (bt HBD.out hb5))
              clear hK K
              try simp only [Act.put, List.setIfInBounds_toArray, List.set_cons_zero, List.set_cons_succ]
              refine takeH 15 (some 8) (v := ?_) (by rfl) (by rfl) (by kernel_rfl) (by kernel_rfl) (by kernel_rfl) (fun _ _ _ h => h) ?_ (by assumption) ?_
              rotate_left
              · (intro o ho w hSw; obtain ⟨z0, z1, z2, z3, z4, z5, z6, z7⟩ := hSw; cases ho; go_simp; try with_reducible rfl)
              try simp only [Act.put, List.setIfInBounds_toArray, List.set_cons_zero, List.set_cons_succ]
              refine wpAnyH_done (by kernel_rfl) ?_ _
              clear hHeld5
              have HB6 := Lib.hid (bt HBQ.out (bt HBD.out hb5))
              clear hb5
              cases cb with
              | true =>
                have HT := Lib.hid (HNO.out rfl)
                go_wp2
                go_ret
                rw [HT.out]
                exact ⟨rfl, HB6.out⟩
              | false =>
                go_wp2
                exact ⟨⟨q + 1, by omega, by go_num, HQS, HB6⟩, by simp [intOf]; omega⟩
end Go.Proofs.Ytikfcpkobgejmaa
