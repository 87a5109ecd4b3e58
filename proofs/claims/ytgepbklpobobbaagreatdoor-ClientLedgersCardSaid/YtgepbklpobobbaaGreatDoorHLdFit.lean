/- ledger: fits, for valid moves. -/
import Derived.Test.YtgepbklpobobbaaGreatDoorHG11

namespace Go.Proofs.YtgepbklpobobbaaGreatDoor
open Go.RowKit

/-- A move that fits a form. -/
structure MvOk (ni : Nat) (m : Mv) : Prop where
  i0 : 0 ≤ m.item
  i1 : m.item < ni
  n0 : 1 ≤ m.n
  n1 : m.n ≤ 1099511627776
  f0 : 0 ≤ m.frm
  f1 : m.frm ≤ 1073741824
  d0 : 1 ≤ m.dst
  d1 : m.dst ≤ 1073741824
  ne : m.frm ≠ m.dst
set_option maxRecDepth 100000 in
set_option maxHeartbeats 4000000 in
theorem fits2_any (gl ni ci : Nat) (Ai : Option Addr) (m : Mv) (w : World) (hg : gl < w.heap.size) (c1 : w.cell? ⟨gl, 1, none⟩ = some (.slice Ai ni ci)) (HM : MvOk ni m) (hf : 1 ≤ m.frm) :
    Calls Tryz.prog 165 #[.pointer (some ⟨gl, 0, none⟩), mvA m, .agg #[.func (.func 188) #[] #[], .func (.func 188) #[] #[], .bool false, .func (.func 189) #[] #[]]] w fun e w' => e = .returned (.bool true) ∧ Below w.heap.size w w' := by
  obtain ⟨i0, i1, n0, n1, f0, f1, d0, d1, ne⟩ := HM
  obtain ⟨fr, ds, it, n⟩ := m
  dsimp only at i0 i1 n0 n1 f0 f1 d0 d1 ne hf
  unfold mvA
  dsimp only
  have ca := fun W => isAcc_any fr W ⟨f0, f1⟩
  have cb := fun W => isAcc_any ds W ⟨by omega, d1⟩
  have fo := fun W => isOwner_any fr W
  have fd := fun W => isOwner_any ds W
  have g1 : (fr != 0) = true := by simp; omega
  have HF := Lib.hid hf
  clear hf
  have g2 : (ds != 0) = true := by simp; omega
  rw [g1] at fo
  rw [g2] at fd
  go_enter Tryz.func165, Tryz.ntmps165
  go_wp2_with fail
  obtain ⟨M, hM⟩ : ∃ M : Array Value, M = #[.int .i64 fr, .int .i64 ds, .int .i64 it, .int .i64 n, .slice none 0 0] := ⟨_, rfl⟩
  obtain ⟨G, hG⟩ : ∃ G : Array Value, G = #[.func (.func 188) #[] #[], .func (.func 188) #[] #[], .bool false, .func (.func 189) #[] #[]] := ⟨_, rfl⟩
  have hba := ((Below.refl w.heap.size w).alloc (Nat.le_refl _) (.cells M 63)).alloc (by simp) (.cells G 247)
  have k1 := Blk.alloc (Blk.new w 63 M) (.cells G 247)
  have k2 := Blk.new0 (g := w.heap.size + 1) (w.alloc (.cells M 63)) 247 G (by simp)
  have c1' := (hba.cell (p := ⟨gl, 1, none⟩) hg).trans c1
  rw [← hM, ← hG]
  obtain ⟨w2, hw2⟩ : ∃ w2, (w.alloc (.cells M 63)).alloc (.cells G 247) = w2 := ⟨_, rfl⟩
  rw [hw2] at hba k1 k2 c1' ⊢
  have HB := Lib.hid hba
  have lb1 := k1.lt
  have lb2 := k2.lt
  have lg2 : gl < w2.heap.size := by have := hba.size; omega
  obtain ⟨b, hb⟩ : ∃ b, w.heap.size = b := ⟨_, rfl⟩
  rw [hb] at k1 k2 lb1 lb2 ⊢
  rw [hM] at k1
  rw [hG] at k2
  have hS : (fun y => y.cell? ⟨gl, 1, none⟩ = some (.slice Ai ni ci) ∧ y.cell? ⟨b, 0, none⟩ = some (.int .i64 fr) ∧ y.cell? ⟨b, 1, none⟩ = some (.int .i64 ds) ∧ y.cell? ⟨b, 2, none⟩ = some (.int .i64 it) ∧ y.cell? ⟨b, 3, none⟩ = some (.int .i64 n) ∧ y.cell? ⟨b + 1, 0, none⟩ = some (.func (.func 188) #[] #[]) ∧ y.cell? ⟨b + 1, 1, none⟩ = some (.func (.func 188) #[] #[])) w2 := ⟨c1', k1.cell 0, k1.cell 1, k1.cell 2, k1.cell 3, k2.cell 0, k2.cell 1⟩
  have q2 : w2.cell? ⟨b + 1, 2, none⟩ = some (.bool false) := k2.cell 2
  have q4 : w2.cell? ⟨b, 4, none⟩ = some (.slice none 0 0) := k1.cell 4
  clear hba hw2 k1 k2 hM hG c1' c1 g1 g2
  refine wp_region_held_drew (S := (fun y => y.cell? ⟨gl, 1, none⟩ = some (.slice Ai ni ci) ∧ y.cell? ⟨b, 0, none⟩ = some (.int .i64 fr) ∧ y.cell? ⟨b, 1, none⟩ = some (.int .i64 ds) ∧ y.cell? ⟨b, 2, none⟩ = some (.int .i64 it) ∧ y.cell? ⟨b, 3, none⟩ = some (.int .i64 n) ∧ y.cell? ⟨b + 1, 0, none⟩ = some (.func (.func 188) #[] #[]) ∧ y.cell? ⟨b + 1, 1, none⟩ = some (.func (.func 188) #[] #[]))) (by kernel_rfl) hS (fun hHeld => ?_)
  refine takeI 0 (some 7) (v := ?_) ?_ ?_
  rotate_left
  · (intro o ho w hSw; obtain ⟨z0, z1, z2, z3, z4, z5, z6⟩ := hSw; cases ho; go_simp; try with_reducible rfl)
  try simp only [Act.put, pB, pC, pD]
  refine takeI 1 (some 8) (v := ?_) ?_ ?_
  rotate_left
  · (intro o ho w hSw; obtain ⟨z0, z1, z2, z3, z4, z5, z6⟩ := hSw; cases ho; go_simp; try with_reducible rfl)
  try simp only [Act.put, pB, pC, pD]
  refine takeI 2 (some 9) (v := (.bool false)) ?_ ?_
  skip
  · (intro o ho w hSw; obtain ⟨z0, z1, z2, z3, z4, z5, z6⟩ := hSw; cases ho; go_simp; all_goals (first | (simp; done) | (simp; omega)))
  try simp only [Act.put, pB, pC, pD]
  refine takeI 3 (some 10) (v := ?_) ?_ ?_
  rotate_left
  · (intro o ho w hSw; obtain ⟨z0, z1, z2, z3, z4, z5, z6⟩ := hSw; cases ho; go_simp; try with_reducible rfl)
  try simp only [Act.put, pB, pC, pD]
  first
  | refine skipI 4 (some 11) ?_
  | refine takeI 4 (some 11) (v := ?_) ?_ ?_
    rotate_left
    · (intro o ho w hSw; obtain ⟨z0, z1, z2, z3, z4, z5, z6⟩ := hSw; cases ho; go_simp; try with_reducible rfl)
  try simp only [Act.put, pB, pC, pD]
  first
  | refine skipI 5 (some 12) ?_
  | refine takeI 5 (some 12) (v := ?_) ?_ ?_
    rotate_left
    · (intro o ho w hSw; obtain ⟨z0, z1, z2, z3, z4, z5, z6⟩ := hSw; cases ho; go_simp; try with_reducible rfl)
  try simp only [Act.put, pB, pC, pD]
  first
  | refine skipI 6 (some 13) ?_
  | refine takeI 6 (some 13) (v := ?_) ?_ ?_
    rotate_left
    · (intro o ho w hSw; obtain ⟨z0, z1, z2, z3, z4, z5, z6⟩ := hSw; cases ho; go_simp; try with_reducible rfl)
  try simp only [Act.put, pB, pC, pD]
  first
  | refine skipI 7 (some 14) ?_
  | refine takeI 7 (some 14) (v := ?_) ?_ ?_
    rotate_left
    · (intro o ho w hSw; obtain ⟨z0, z1, z2, z3, z4, z5, z6⟩ := hSw; cases ho; go_simp; try with_reducible rfl)
  try simp only [Act.put, pB, pC, pD]
  first
  | refine skipI 8 (some 15) ?_
  | refine takeI 8 (some 15) (v := ?_) ?_ ?_
    rotate_left
    · (intro o ho w hSw; obtain ⟨z0, z1, z2, z3, z4, z5, z6⟩ := hSw; cases ho; go_simp; try with_reducible rfl)
  try simp only [Act.put, pB, pC, pD]
  first
  | refine skipI 9 (some 16) ?_
  | refine takeI 9 (some 16) (v := ?_) ?_ ?_
    rotate_left
    · (intro o ho w hSw; obtain ⟨z0, z1, z2, z3, z4, z5, z6⟩ := hSw; cases ho; go_simp; try with_reducible rfl)
  try simp only [Act.put, pB, pC, pD]
  first
  | refine skipI 10 (some 17) ?_
  | refine takeI 10 (some 17) (v := ?_) ?_ ?_
    rotate_left
    · (intro o ho w hSw; obtain ⟨z0, z1, z2, z3, z4, z5, z6⟩ := hSw; cases ho; go_simp; try with_reducible rfl)
  try simp only [Act.put, pB, pC, pD]
  first
  | refine skipI 11 (some 18) ?_
  | refine takeI 11 (some 18) (v := ?_) ?_ ?_
    rotate_left
    · (intro o ho w hSw; obtain ⟨z0, z1, z2, z3, z4, z5, z6⟩ := hSw; cases ho; go_simp; try with_reducible rfl)
  try simp only [Act.put, pB, pC, pD]
  first
  | refine skipI 12 (some 19) ?_
  | refine takeI 12 (some 19) (v := (.bool false)) ?_ ?_
    skip
    · (intro o ho w hSw; obtain ⟨z0, z1, z2, z3, z4, z5, z6⟩ := hSw; cases ho; go_simp; all_goals (first | (simp; done) | (simp; omega)))
  try simp only [Act.put, pB, pC, pD]
  refine takeI 13 (some 20) (v := ?_) ?_ ?_
  rotate_left
  · (intro o ho w hSw; obtain ⟨z0, z1, z2, z3, z4, z5, z6⟩ := hSw; cases ho; go_simp; try with_reducible rfl)
  try simp only [Act.put, pB, pC, pD]
  refine takeI 14 (some 21) (v := ?_) ?_ ?_
  rotate_left
  · (intro o ho w hSw; obtain ⟨z0, z1, z2, z3, z4, z5, z6⟩ := hSw; cases ho; go_simp; try with_reducible rfl)
  try simp only [Act.put, pB, pC, pD]
  first
  | refine skipI 15 (some 22) ?_
  | refine takeI 15 (some 22) (v := ?_) ?_ ?_
    rotate_left
    · (intro o ho w hSw; obtain ⟨z0, z1, z2, z3, z4, z5, z6⟩ := hSw; cases ho; go_simp; try with_reducible rfl)
  try simp only [Act.put, pB, pC, pD]
  first
  | refine skipI 16 (some 23) ?_
  | refine takeI 16 (some 23) (v := ?_) ?_ ?_
    rotate_left
    · (intro o ho w hSw; obtain ⟨z0, z1, z2, z3, z4, z5, z6⟩ := hSw; cases ho; go_simp; try with_reducible rfl)
  try simp only [Act.put, pB, pC, pD]
  first
  | refine skipI 17 (some 24) ?_
  | refine takeI 17 (some 24) (v := (.bool false)) ?_ ?_
    skip
    · (intro o ho w hSw; obtain ⟨z0, z1, z2, z3, z4, z5, z6⟩ := hSw; cases ho; go_simp; all_goals (first | (simp; done) | (simp; omega)))
  try simp only [Act.put, pB, pC, pD]
  refine takeI 18 (some 25) (v := ?_) ?_ ?_
  rotate_left
  · (intro o ho w hSw; obtain ⟨z0, z1, z2, z3, z4, z5, z6⟩ := hSw; cases ho; go_simp; try with_reducible rfl)
  try simp only [Act.put, pB, pC, pD]
  refine takeI 19 (some 26) (v := ?_) ?_ ?_
  rotate_left
  · (intro o ho w hSw; obtain ⟨z0, z1, z2, z3, z4, z5, z6⟩ := hSw; cases ho; go_simp; try with_reducible rfl)
  try simp only [Act.put, pB, pC, pD]
  first
  | refine skipI 20 (some 27) ?_
  | refine takeI 20 (some 27) (v := ?_) ?_ ?_
    rotate_left
    · (intro o ho w hSw; obtain ⟨z0, z1, z2, z3, z4, z5, z6⟩ := hSw; cases ho; go_simp; try with_reducible rfl)
  try simp only [Act.put, pB, pC, pD]
  first
  | refine skipI 21 (some 28) ?_
  | refine takeI 21 (some 28) (v := ?_) ?_ ?_
    rotate_left
    · (intro o ho w hSw; obtain ⟨z0, z1, z2, z3, z4, z5, z6⟩ := hSw; cases ho; go_simp; try with_reducible rfl)
  try simp only [Act.put, pB, pC, pD]
  first
  | refine skipI 22 (some 29) ?_
  | refine takeI 22 (some 29) (v := (.bool false)) ?_ ?_
    skip
    · (intro o ho w hSw; obtain ⟨z0, z1, z2, z3, z4, z5, z6⟩ := hSw; cases ho; go_simp; all_goals (first | (simp; done) | (simp; omega)))
  try simp only [Act.put, pB, pC, pD]
  refine takeI 23 (some 30) (v := ?_) ?_ ?_
  rotate_left
  · (intro o ho w hSw; obtain ⟨z0, z1, z2, z3, z4, z5, z6⟩ := hSw; cases ho; go_simp; try with_reducible rfl)
  try simp only [Act.put, pB, pC, pD]
  refine takeI 24 (some 31) (v := ?_) ?_ ?_
  rotate_left
  · (intro o ho w hSw; obtain ⟨z0, z1, z2, z3, z4, z5, z6⟩ := hSw; cases ho; go_simp; try with_reducible rfl)
  try simp only [Act.put, pB, pC, pD]
  first
  | refine skipI 25 (some 32) ?_
  | refine takeI 25 (some 32) (v := ?_) ?_ ?_
    rotate_left
    · (intro o ho w hSw; obtain ⟨z0, z1, z2, z3, z4, z5, z6⟩ := hSw; cases ho; go_simp; try with_reducible rfl)
  try simp only [Act.put, pB, pC, pD]
  first
  | refine skipI 26 (some 33) ?_
  | refine takeI 26 (some 33) (v := ?_) ?_ ?_
    rotate_left
    · (intro o ho w hSw; obtain ⟨z0, z1, z2, z3, z4, z5, z6⟩ := hSw; cases ho; go_simp; try with_reducible rfl)
  try simp only [Act.put, pB, pC, pD]
  refine wpAnyH_ready (rs := [27]) (by kernel_rfl) (by simp) ?_
  refine AllReadyH.cons rfl (fun K hK => ?_) AllReadyH.nil
  go_simp
  go_at_call 163
  (refine (ca _).mono ?_)
  rintro e w3 ⟨rfl, hw3⟩
  rw [hw3]
  clear hw3
  go_wp2
  refine hK.out _ _ ?_ (fun hH27 => ?_)
  · exact hS
  clear hK K
  try simp only [Act.put, pB, pC, pD]
  first
  | refine skipI 28 (some 35) ?_
  | refine takeI 28 (some 35) (v := ?_) ?_ ?_
    rotate_left
    · (intro o ho w hSw; obtain ⟨z0, z1, z2, z3, z4, z5, z6⟩ := hSw; cases ho; go_simp; try with_reducible rfl)
  try simp only [Act.put, pB, pC, pD]
  refine takeI 29 (some 36) (v := ?_) ?_ ?_
  rotate_left
  · (intro o ho w hSw; obtain ⟨z0, z1, z2, z3, z4, z5, z6⟩ := hSw; cases ho; go_simp; try with_reducible rfl)
  try simp only [Act.put, pB, pC, pD]
  refine takeI 30 (some 37) (v := ?_) ?_ ?_
  rotate_left
  · (intro o ho w hSw; obtain ⟨z0, z1, z2, z3, z4, z5, z6⟩ := hSw; cases ho; go_simp; try with_reducible rfl)
  try simp only [Act.put, pB, pC, pD]
  first
  | refine skipI 31 (some 38) ?_
  | refine takeI 31 (some 38) (v := ?_) ?_ ?_
    rotate_left
    · (intro o ho w hSw; obtain ⟨z0, z1, z2, z3, z4, z5, z6⟩ := hSw; cases ho; go_simp; try with_reducible rfl)
  try simp only [Act.put, pB, pC, pD]
  first
  | refine skipI 32 (some 39) ?_
  | refine takeI 32 (some 39) (v := ?_) ?_ ?_
    rotate_left
    · (intro o ho w hSw; obtain ⟨z0, z1, z2, z3, z4, z5, z6⟩ := hSw; cases ho; go_simp; try with_reducible rfl)
  try simp only [Act.put, pB, pC, pD]
  refine wpAnyH_ready (rs := [33]) (by kernel_rfl) (by simp) ?_
  refine AllReadyH.cons rfl (fun K hK => ?_) AllReadyH.nil
  go_simp
  go_at_call 163
  (refine (cb _).mono ?_)
  rintro e w3 ⟨rfl, hw3⟩
  rw [hw3]
  clear hw3
  go_wp2
  refine hK.out _ _ ?_ (fun hH33 => ?_)
  · exact hS
  clear hK K
  try simp only [Act.put, pB, pC, pD]
  first
  | refine skipI 34 (some 41) ?_
  | refine takeI 34 (some 41) (v := ?_) ?_ ?_
    rotate_left
    · (intro o ho w hSw; obtain ⟨z0, z1, z2, z3, z4, z5, z6⟩ := hSw; cases ho; go_simp; try with_reducible rfl)
  try simp only [Act.put, pB, pC, pD]
  refine takeI 35 (some 42) (v := ?_) ?_ ?_
  rotate_left
  · (intro o ho w hSw; obtain ⟨z0, z1, z2, z3, z4, z5, z6⟩ := hSw; cases ho; go_simp; try with_reducible rfl)
  try simp only [Act.put, pB, pC, pD]
  refine takeI 36 (some 43) (v := ?_) ?_ ?_
  rotate_left
  · (intro o ho w hSw; obtain ⟨z0, z1, z2, z3, z4, z5, z6⟩ := hSw; cases ho; go_simp; try with_reducible rfl)
  try simp only [Act.put, pB, pC, pD]
  first
  | refine skipI 37 (some 44) ?_
  | refine takeI 37 (some 44) (v := ?_) ?_ ?_
    rotate_left
    · (intro o ho w hSw; obtain ⟨z0, z1, z2, z3, z4, z5, z6⟩ := hSw; cases ho; go_simp; try with_reducible rfl)
  try simp only [Act.put, pB, pC, pD]
  first
  | refine skipI 38 (some 45) ?_
  | refine takeI 38 (some 45) (v := ?_) ?_ ?_
    rotate_left
    · (intro o ho w hSw; obtain ⟨z0, z1, z2, z3, z4, z5, z6⟩ := hSw; cases ho; go_simp; try with_reducible rfl)
  try simp only [Act.put, pB, pC, pD]
  first
  | refine skipI 39 (some 46) ?_
  | refine takeI 39 (some 46) (v := ?_) ?_ ?_
    rotate_left
    · (intro o ho w hSw; obtain ⟨z0, z1, z2, z3, z4, z5, z6⟩ := hSw; cases ho; go_simp; try with_reducible rfl)
  try simp only [Act.put, pB, pC, pD]
  first
  | refine skipI 40 (some 47) ?_
  | refine takeI 40 (some 47) (v := ?_) ?_ ?_
    rotate_left
    · (intro o ho w hSw; obtain ⟨z0, z1, z2, z3, z4, z5, z6⟩ := hSw; cases ho; go_simp; try with_reducible rfl)
  try simp only [Act.put, pB, pC, pD]
  first
  | refine skipI 41 (some 48) ?_
  | refine takeI 41 (some 48) (v := (.bool false)) ?_ ?_
    skip
    · (intro o ho w hSw; obtain ⟨z0, z1, z2, z3, z4, z5, z6⟩ := hSw; cases ho; go_simp; all_goals (first | (simp; done) | (simp; omega)))
  try simp only [Act.put, pB, pC, pD]
  refine takeI 42 (some 49) (v := ?_) ?_ ?_
  rotate_left
  · (intro o ho w hSw; obtain ⟨z0, z1, z2, z3, z4, z5, z6⟩ := hSw; cases ho; go_simp; try with_reducible rfl)
  try simp only [Act.put, pB, pC, pD]
  refine takeI 43 (some 50) (v := ?_) ?_ ?_
  rotate_left
  · (intro o ho w hSw; obtain ⟨z0, z1, z2, z3, z4, z5, z6⟩ := hSw; cases ho; go_simp; try with_reducible rfl)
  try simp only [Act.put, pB, pC, pD]
  first
  | refine skipI 44 (some 51) ?_
  | refine takeI 44 (some 51) (v := ?_) ?_ ?_
    rotate_left
    · (intro o ho w hSw; obtain ⟨z0, z1, z2, z3, z4, z5, z6⟩ := hSw; cases ho; go_simp; try with_reducible rfl)
  try simp only [Act.put, pB, pC, pD]
  first
  | refine skipI 45 (some 52) ?_
  | refine takeI 45 (some 52) (v := ?_) ?_ ?_
    rotate_left
    · (intro o ho w hSw; obtain ⟨z0, z1, z2, z3, z4, z5, z6⟩ := hSw; cases ho; go_simp; try with_reducible rfl)
  try simp only [Act.put, pB, pC, pD]
  first
  | refine skipI 46 (some 53) ?_
  | refine takeI 46 (some 53) (v := ?_) ?_ ?_
    rotate_left
    · (intro o ho w hSw; obtain ⟨z0, z1, z2, z3, z4, z5, z6⟩ := hSw; cases ho; go_simp; try with_reducible rfl)
  try simp only [Act.put, pB, pC, pD]
  first
  | refine skipI 47 (some 54) ?_
  | refine takeI 47 (some 54) (v := ?_) ?_ ?_
    rotate_left
    · (intro o ho w hSw; obtain ⟨z0, z1, z2, z3, z4, z5, z6⟩ := hSw; cases ho; go_simp; try with_reducible rfl)
  try simp only [Act.put, pB, pC, pD]
  refine wpAnyH_ready (rs := [48]) (by kernel_rfl) (by simp) ?_
  refine AllReadyH.cons rfl (fun K hK => ?_) AllReadyH.nil
  go_simp
  go_at_call 188
  (refine (fo _).mono ?_)
  rintro e w3 ⟨rfl, hw3⟩
  rw [hw3]
  clear hw3
  go_wp2
  refine hK.out _ _ ?_ (fun hH48 => ?_)
  · exact hS
  clear hK K
  try simp only [Act.put, pB, pC, pD]
  first
  | refine skipI 49 (some 56) ?_
  | refine takeI 49 (some 56) (v := ?_) ?_ ?_
    rotate_left
    · (intro o ho w hSw; obtain ⟨z0, z1, z2, z3, z4, z5, z6⟩ := hSw; cases ho; go_simp; try with_reducible rfl)
  try simp only [Act.put, pB, pC, pD]
  refine takeI 50 (some 57) (v := ?_) ?_ ?_
  rotate_left
  · (intro o ho w hSw; obtain ⟨z0, z1, z2, z3, z4, z5, z6⟩ := hSw; cases ho; go_simp; try with_reducible rfl)
  try simp only [Act.put, pB, pC, pD]
  refine takeI 51 (some 58) (v := ?_) ?_ ?_
  rotate_left
  · (intro o ho w hSw; obtain ⟨z0, z1, z2, z3, z4, z5, z6⟩ := hSw; cases ho; go_simp; try with_reducible rfl)
  try simp only [Act.put, pB, pC, pD]
  first
  | refine skipI 52 (some 59) ?_
  | refine takeI 52 (some 59) (v := ?_) ?_ ?_
    rotate_left
    · (intro o ho w hSw; obtain ⟨z0, z1, z2, z3, z4, z5, z6⟩ := hSw; cases ho; go_simp; try with_reducible rfl)
  try simp only [Act.put, pB, pC, pD]
  first
  | refine skipI 53 (some 60) ?_
  | refine takeI 53 (some 60) (v := ?_) ?_ ?_
    rotate_left
    · (intro o ho w hSw; obtain ⟨z0, z1, z2, z3, z4, z5, z6⟩ := hSw; cases ho; go_simp; try with_reducible rfl)
  try simp only [Act.put, pB, pC, pD]
  first
  | refine skipI 54 (some 61) ?_
  | refine takeI 54 (some 61) (v := ?_) ?_ ?_
    rotate_left
    · (intro o ho w hSw; obtain ⟨z0, z1, z2, z3, z4, z5, z6⟩ := hSw; cases ho; go_simp; try with_reducible rfl)
  try simp only [Act.put, pB, pC, pD]
  first
  | refine skipI 55 (some 62) ?_
  | refine takeI 55 (some 62) (v := ?_) ?_ ?_
    rotate_left
    · (intro o ho w hSw; obtain ⟨z0, z1, z2, z3, z4, z5, z6⟩ := hSw; cases ho; go_simp; try with_reducible rfl)
  try simp only [Act.put, pB, pC, pD]
  refine wpAnyH_ready (rs := [56]) (by kernel_rfl) (by simp) ?_
  refine AllReadyH.cons rfl (fun K hK => ?_) AllReadyH.nil
  go_simp
  go_at_call 188
  (refine (fd _).mono ?_)
  rintro e w3 ⟨rfl, hw3⟩
  rw [hw3]
  clear hw3
  go_wp2
  refine hK.out _ _ ?_ (fun hH56 => ?_)
  · exact hS
  clear hK K
  try simp only [Act.put, pB, pC, pD]
  first
  | refine skipI 57 (some 64) ?_
  | refine takeI 57 (some 64) (v := ?_) ?_ ?_
    rotate_left
    · (intro o ho w hSw; obtain ⟨z0, z1, z2, z3, z4, z5, z6⟩ := hSw; cases ho; go_simp; try with_reducible rfl)
  try simp only [Act.put, pB, pC, pD]
  refine takeI 58 (some 65) (v := ?_) ?_ ?_
  rotate_left
  · (intro o ho w hSw; obtain ⟨z0, z1, z2, z3, z4, z5, z6⟩ := hSw; cases ho; go_simp; try with_reducible rfl)
  try simp only [Act.put, pB, pC, pD]
  refine wpAnyH_done (by kernel_rfl) ?_ _
  go_wp2
  go_ret
  exact ⟨rfl, below_drewN HB.out 1⟩
set_option maxRecDepth 100000 in
set_option maxHeartbeats 4000000 in
theorem fits0_any (gl ni ci : Nat) (Ai : Option Addr) (m : Mv) (w : World) (hg : gl < w.heap.size) (c1 : w.cell? ⟨gl, 1, none⟩ = some (.slice Ai ni ci)) (HM : MvOk ni m) (hf : m.frm = 0) :
    Calls Tryz.prog 165 #[.pointer (some ⟨gl, 0, none⟩), mvA m, .agg #[.func (.func 187) #[] #[], .func (.func 188) #[] #[], .bool false, .func (.func 189) #[] #[]]] w fun e w' => e = .returned (.bool true) ∧ Below w.heap.size w w' := by
  obtain ⟨i0, i1, n0, n1, f0, f1, d0, d1, ne⟩ := HM
  obtain ⟨fr, ds, it, n⟩ := m
  dsimp only at i0 i1 n0 n1 f0 f1 d0 d1 ne hf
  unfold mvA
  dsimp only
  have ca := fun W => isAcc_any fr W ⟨f0, f1⟩
  have cb := fun W => isAcc_any ds W ⟨by omega, d1⟩
  have fo := fun W => isWorld_any fr W
  have fd := fun W => isOwner_any ds W
  have g1 : (fr == 0) = true := by simp; omega
  have HF := Lib.hid hf
  clear hf
  have g2 : (ds != 0) = true := by simp; omega
  rw [g1] at fo
  rw [g2] at fd
  go_enter Tryz.func165, Tryz.ntmps165
  go_wp2_with fail
  obtain ⟨M, hM⟩ : ∃ M : Array Value, M = #[.int .i64 fr, .int .i64 ds, .int .i64 it, .int .i64 n, .slice none 0 0] := ⟨_, rfl⟩
  obtain ⟨G, hG⟩ : ∃ G : Array Value, G = #[.func (.func 187) #[] #[], .func (.func 188) #[] #[], .bool false, .func (.func 189) #[] #[]] := ⟨_, rfl⟩
  have hba := ((Below.refl w.heap.size w).alloc (Nat.le_refl _) (.cells M 63)).alloc (by simp) (.cells G 247)
  have k1 := Blk.alloc (Blk.new w 63 M) (.cells G 247)
  have k2 := Blk.new0 (g := w.heap.size + 1) (w.alloc (.cells M 63)) 247 G (by simp)
  have c1' := (hba.cell (p := ⟨gl, 1, none⟩) hg).trans c1
  rw [← hM, ← hG]
  obtain ⟨w2, hw2⟩ : ∃ w2, (w.alloc (.cells M 63)).alloc (.cells G 247) = w2 := ⟨_, rfl⟩
  rw [hw2] at hba k1 k2 c1' ⊢
  have HB := Lib.hid hba
  have lb1 := k1.lt
  have lb2 := k2.lt
  have lg2 : gl < w2.heap.size := by have := hba.size; omega
  obtain ⟨b, hb⟩ : ∃ b, w.heap.size = b := ⟨_, rfl⟩
  rw [hb] at k1 k2 lb1 lb2 ⊢
  rw [hM] at k1
  rw [hG] at k2
  have hS : (fun y => y.cell? ⟨gl, 1, none⟩ = some (.slice Ai ni ci) ∧ y.cell? ⟨b, 0, none⟩ = some (.int .i64 fr) ∧ y.cell? ⟨b, 1, none⟩ = some (.int .i64 ds) ∧ y.cell? ⟨b, 2, none⟩ = some (.int .i64 it) ∧ y.cell? ⟨b, 3, none⟩ = some (.int .i64 n) ∧ y.cell? ⟨b + 1, 0, none⟩ = some (.func (.func 187) #[] #[]) ∧ y.cell? ⟨b + 1, 1, none⟩ = some (.func (.func 188) #[] #[])) w2 := ⟨c1', k1.cell 0, k1.cell 1, k1.cell 2, k1.cell 3, k2.cell 0, k2.cell 1⟩
  have q2 : w2.cell? ⟨b + 1, 2, none⟩ = some (.bool false) := k2.cell 2
  have q4 : w2.cell? ⟨b, 4, none⟩ = some (.slice none 0 0) := k1.cell 4
  clear hba hw2 k1 k2 hM hG c1' c1 g1 g2
  refine wp_region_held_drew (S := (fun y => y.cell? ⟨gl, 1, none⟩ = some (.slice Ai ni ci) ∧ y.cell? ⟨b, 0, none⟩ = some (.int .i64 fr) ∧ y.cell? ⟨b, 1, none⟩ = some (.int .i64 ds) ∧ y.cell? ⟨b, 2, none⟩ = some (.int .i64 it) ∧ y.cell? ⟨b, 3, none⟩ = some (.int .i64 n) ∧ y.cell? ⟨b + 1, 0, none⟩ = some (.func (.func 187) #[] #[]) ∧ y.cell? ⟨b + 1, 1, none⟩ = some (.func (.func 188) #[] #[]))) (by kernel_rfl) hS (fun hHeld => ?_)
  refine takeI 0 (some 7) (v := ?_) ?_ ?_
  rotate_left
  · (intro o ho w hSw; obtain ⟨z0, z1, z2, z3, z4, z5, z6⟩ := hSw; cases ho; go_simp; try with_reducible rfl)
  try simp only [Act.put, pB, pC, pD]
  refine takeI 1 (some 8) (v := ?_) ?_ ?_
  rotate_left
  · (intro o ho w hSw; obtain ⟨z0, z1, z2, z3, z4, z5, z6⟩ := hSw; cases ho; go_simp; try with_reducible rfl)
  try simp only [Act.put, pB, pC, pD]
  refine takeI 2 (some 9) (v := (.bool false)) ?_ ?_
  skip
  · (intro o ho w hSw; obtain ⟨z0, z1, z2, z3, z4, z5, z6⟩ := hSw; cases ho; go_simp; all_goals (first | (simp; done) | (simp; omega)))
  try simp only [Act.put, pB, pC, pD]
  refine takeI 3 (some 10) (v := ?_) ?_ ?_
  rotate_left
  · (intro o ho w hSw; obtain ⟨z0, z1, z2, z3, z4, z5, z6⟩ := hSw; cases ho; go_simp; try with_reducible rfl)
  try simp only [Act.put, pB, pC, pD]
  first
  | refine skipI 4 (some 11) ?_
  | refine takeI 4 (some 11) (v := ?_) ?_ ?_
    rotate_left
    · (intro o ho w hSw; obtain ⟨z0, z1, z2, z3, z4, z5, z6⟩ := hSw; cases ho; go_simp; try with_reducible rfl)
  try simp only [Act.put, pB, pC, pD]
  first
  | refine skipI 5 (some 12) ?_
  | refine takeI 5 (some 12) (v := ?_) ?_ ?_
    rotate_left
    · (intro o ho w hSw; obtain ⟨z0, z1, z2, z3, z4, z5, z6⟩ := hSw; cases ho; go_simp; try with_reducible rfl)
  try simp only [Act.put, pB, pC, pD]
  first
  | refine skipI 6 (some 13) ?_
  | refine takeI 6 (some 13) (v := ?_) ?_ ?_
    rotate_left
    · (intro o ho w hSw; obtain ⟨z0, z1, z2, z3, z4, z5, z6⟩ := hSw; cases ho; go_simp; try with_reducible rfl)
  try simp only [Act.put, pB, pC, pD]
  first
  | refine skipI 7 (some 14) ?_
  | refine takeI 7 (some 14) (v := ?_) ?_ ?_
    rotate_left
    · (intro o ho w hSw; obtain ⟨z0, z1, z2, z3, z4, z5, z6⟩ := hSw; cases ho; go_simp; try with_reducible rfl)
  try simp only [Act.put, pB, pC, pD]
  first
  | refine skipI 8 (some 15) ?_
  | refine takeI 8 (some 15) (v := ?_) ?_ ?_
    rotate_left
    · (intro o ho w hSw; obtain ⟨z0, z1, z2, z3, z4, z5, z6⟩ := hSw; cases ho; go_simp; try with_reducible rfl)
  try simp only [Act.put, pB, pC, pD]
  first
  | refine skipI 9 (some 16) ?_
  | refine takeI 9 (some 16) (v := ?_) ?_ ?_
    rotate_left
    · (intro o ho w hSw; obtain ⟨z0, z1, z2, z3, z4, z5, z6⟩ := hSw; cases ho; go_simp; try with_reducible rfl)
  try simp only [Act.put, pB, pC, pD]
  first
  | refine skipI 10 (some 17) ?_
  | refine takeI 10 (some 17) (v := ?_) ?_ ?_
    rotate_left
    · (intro o ho w hSw; obtain ⟨z0, z1, z2, z3, z4, z5, z6⟩ := hSw; cases ho; go_simp; try with_reducible rfl)
  try simp only [Act.put, pB, pC, pD]
  first
  | refine skipI 11 (some 18) ?_
  | refine takeI 11 (some 18) (v := ?_) ?_ ?_
    rotate_left
    · (intro o ho w hSw; obtain ⟨z0, z1, z2, z3, z4, z5, z6⟩ := hSw; cases ho; go_simp; try with_reducible rfl)
  try simp only [Act.put, pB, pC, pD]
  first
  | refine skipI 12 (some 19) ?_
  | refine takeI 12 (some 19) (v := (.bool false)) ?_ ?_
    skip
    · (intro o ho w hSw; obtain ⟨z0, z1, z2, z3, z4, z5, z6⟩ := hSw; cases ho; go_simp; all_goals (first | (simp; done) | (simp; omega)))
  try simp only [Act.put, pB, pC, pD]
  refine takeI 13 (some 20) (v := ?_) ?_ ?_
  rotate_left
  · (intro o ho w hSw; obtain ⟨z0, z1, z2, z3, z4, z5, z6⟩ := hSw; cases ho; go_simp; try with_reducible rfl)
  try simp only [Act.put, pB, pC, pD]
  refine takeI 14 (some 21) (v := ?_) ?_ ?_
  rotate_left
  · (intro o ho w hSw; obtain ⟨z0, z1, z2, z3, z4, z5, z6⟩ := hSw; cases ho; go_simp; try with_reducible rfl)
  try simp only [Act.put, pB, pC, pD]
  first
  | refine skipI 15 (some 22) ?_
  | refine takeI 15 (some 22) (v := ?_) ?_ ?_
    rotate_left
    · (intro o ho w hSw; obtain ⟨z0, z1, z2, z3, z4, z5, z6⟩ := hSw; cases ho; go_simp; try with_reducible rfl)
  try simp only [Act.put, pB, pC, pD]
  first
  | refine skipI 16 (some 23) ?_
  | refine takeI 16 (some 23) (v := ?_) ?_ ?_
    rotate_left
    · (intro o ho w hSw; obtain ⟨z0, z1, z2, z3, z4, z5, z6⟩ := hSw; cases ho; go_simp; try with_reducible rfl)
  try simp only [Act.put, pB, pC, pD]
  first
  | refine skipI 17 (some 24) ?_
  | refine takeI 17 (some 24) (v := (.bool false)) ?_ ?_
    skip
    · (intro o ho w hSw; obtain ⟨z0, z1, z2, z3, z4, z5, z6⟩ := hSw; cases ho; go_simp; all_goals (first | (simp; done) | (simp; omega)))
  try simp only [Act.put, pB, pC, pD]
  refine takeI 18 (some 25) (v := ?_) ?_ ?_
  rotate_left
  · (intro o ho w hSw; obtain ⟨z0, z1, z2, z3, z4, z5, z6⟩ := hSw; cases ho; go_simp; try with_reducible rfl)
  try simp only [Act.put, pB, pC, pD]
  refine takeI 19 (some 26) (v := ?_) ?_ ?_
  rotate_left
  · (intro o ho w hSw; obtain ⟨z0, z1, z2, z3, z4, z5, z6⟩ := hSw; cases ho; go_simp; try with_reducible rfl)
  try simp only [Act.put, pB, pC, pD]
  first
  | refine skipI 20 (some 27) ?_
  | refine takeI 20 (some 27) (v := ?_) ?_ ?_
    rotate_left
    · (intro o ho w hSw; obtain ⟨z0, z1, z2, z3, z4, z5, z6⟩ := hSw; cases ho; go_simp; try with_reducible rfl)
  try simp only [Act.put, pB, pC, pD]
  first
  | refine skipI 21 (some 28) ?_
  | refine takeI 21 (some 28) (v := ?_) ?_ ?_
    rotate_left
    · (intro o ho w hSw; obtain ⟨z0, z1, z2, z3, z4, z5, z6⟩ := hSw; cases ho; go_simp; try with_reducible rfl)
  try simp only [Act.put, pB, pC, pD]
  first
  | refine skipI 22 (some 29) ?_
  | refine takeI 22 (some 29) (v := (.bool false)) ?_ ?_
    skip
    · (intro o ho w hSw; obtain ⟨z0, z1, z2, z3, z4, z5, z6⟩ := hSw; cases ho; go_simp; all_goals (first | (simp; done) | (simp; omega)))
  try simp only [Act.put, pB, pC, pD]
  refine takeI 23 (some 30) (v := ?_) ?_ ?_
  rotate_left
  · (intro o ho w hSw; obtain ⟨z0, z1, z2, z3, z4, z5, z6⟩ := hSw; cases ho; go_simp; try with_reducible rfl)
  try simp only [Act.put, pB, pC, pD]
  refine takeI 24 (some 31) (v := ?_) ?_ ?_
  rotate_left
  · (intro o ho w hSw; obtain ⟨z0, z1, z2, z3, z4, z5, z6⟩ := hSw; cases ho; go_simp; try with_reducible rfl)
  try simp only [Act.put, pB, pC, pD]
  first
  | refine skipI 25 (some 32) ?_
  | refine takeI 25 (some 32) (v := ?_) ?_ ?_
    rotate_left
    · (intro o ho w hSw; obtain ⟨z0, z1, z2, z3, z4, z5, z6⟩ := hSw; cases ho; go_simp; try with_reducible rfl)
  try simp only [Act.put, pB, pC, pD]
  first
  | refine skipI 26 (some 33) ?_
  | refine takeI 26 (some 33) (v := ?_) ?_ ?_
    rotate_left
    · (intro o ho w hSw; obtain ⟨z0, z1, z2, z3, z4, z5, z6⟩ := hSw; cases ho; go_simp; try with_reducible rfl)
  try simp only [Act.put, pB, pC, pD]
  refine wpAnyH_ready (rs := [27]) (by kernel_rfl) (by simp) ?_
  refine AllReadyH.cons rfl (fun K hK => ?_) AllReadyH.nil
  go_simp
  go_at_call 163
  (refine (ca _).mono ?_)
  rintro e w3 ⟨rfl, hw3⟩
  rw [hw3]
  clear hw3
  go_wp2
  refine hK.out _ _ ?_ (fun hH27 => ?_)
  · exact hS
  clear hK K
  try simp only [Act.put, pB, pC, pD]
  first
  | refine skipI 28 (some 35) ?_
  | refine takeI 28 (some 35) (v := ?_) ?_ ?_
    rotate_left
    · (intro o ho w hSw; obtain ⟨z0, z1, z2, z3, z4, z5, z6⟩ := hSw; cases ho; go_simp; try with_reducible rfl)
  try simp only [Act.put, pB, pC, pD]
  refine takeI 29 (some 36) (v := ?_) ?_ ?_
  rotate_left
  · (intro o ho w hSw; obtain ⟨z0, z1, z2, z3, z4, z5, z6⟩ := hSw; cases ho; go_simp; try with_reducible rfl)
  try simp only [Act.put, pB, pC, pD]
  refine takeI 30 (some 37) (v := ?_) ?_ ?_
  rotate_left
  · (intro o ho w hSw; obtain ⟨z0, z1, z2, z3, z4, z5, z6⟩ := hSw; cases ho; go_simp; try with_reducible rfl)
  try simp only [Act.put, pB, pC, pD]
  first
  | refine skipI 31 (some 38) ?_
  | refine takeI 31 (some 38) (v := ?_) ?_ ?_
    rotate_left
    · (intro o ho w hSw; obtain ⟨z0, z1, z2, z3, z4, z5, z6⟩ := hSw; cases ho; go_simp; try with_reducible rfl)
  try simp only [Act.put, pB, pC, pD]
  first
  | refine skipI 32 (some 39) ?_
  | refine takeI 32 (some 39) (v := ?_) ?_ ?_
    rotate_left
    · (intro o ho w hSw; obtain ⟨z0, z1, z2, z3, z4, z5, z6⟩ := hSw; cases ho; go_simp; try with_reducible rfl)
  try simp only [Act.put, pB, pC, pD]
  refine wpAnyH_ready (rs := [33]) (by kernel_rfl) (by simp) ?_
  refine AllReadyH.cons rfl (fun K hK => ?_) AllReadyH.nil
  go_simp
  go_at_call 163
  (refine (cb _).mono ?_)
  rintro e w3 ⟨rfl, hw3⟩
  rw [hw3]
  clear hw3
  go_wp2
  refine hK.out _ _ ?_ (fun hH33 => ?_)
  · exact hS
  clear hK K
  try simp only [Act.put, pB, pC, pD]
  first
  | refine skipI 34 (some 41) ?_
  | refine takeI 34 (some 41) (v := ?_) ?_ ?_
    rotate_left
    · (intro o ho w hSw; obtain ⟨z0, z1, z2, z3, z4, z5, z6⟩ := hSw; cases ho; go_simp; try with_reducible rfl)
  try simp only [Act.put, pB, pC, pD]
  refine takeI 35 (some 42) (v := ?_) ?_ ?_
  rotate_left
  · (intro o ho w hSw; obtain ⟨z0, z1, z2, z3, z4, z5, z6⟩ := hSw; cases ho; go_simp; try with_reducible rfl)
  try simp only [Act.put, pB, pC, pD]
  refine takeI 36 (some 43) (v := ?_) ?_ ?_
  rotate_left
  · (intro o ho w hSw; obtain ⟨z0, z1, z2, z3, z4, z5, z6⟩ := hSw; cases ho; go_simp; try with_reducible rfl)
  try simp only [Act.put, pB, pC, pD]
  first
  | refine skipI 37 (some 44) ?_
  | refine takeI 37 (some 44) (v := ?_) ?_ ?_
    rotate_left
    · (intro o ho w hSw; obtain ⟨z0, z1, z2, z3, z4, z5, z6⟩ := hSw; cases ho; go_simp; try with_reducible rfl)
  try simp only [Act.put, pB, pC, pD]
  first
  | refine skipI 38 (some 45) ?_
  | refine takeI 38 (some 45) (v := ?_) ?_ ?_
    rotate_left
    · (intro o ho w hSw; obtain ⟨z0, z1, z2, z3, z4, z5, z6⟩ := hSw; cases ho; go_simp; try with_reducible rfl)
  try simp only [Act.put, pB, pC, pD]
  first
  | refine skipI 39 (some 46) ?_
  | refine takeI 39 (some 46) (v := ?_) ?_ ?_
    rotate_left
    · (intro o ho w hSw; obtain ⟨z0, z1, z2, z3, z4, z5, z6⟩ := hSw; cases ho; go_simp; try with_reducible rfl)
  try simp only [Act.put, pB, pC, pD]
  first
  | refine skipI 40 (some 47) ?_
  | refine takeI 40 (some 47) (v := ?_) ?_ ?_
    rotate_left
    · (intro o ho w hSw; obtain ⟨z0, z1, z2, z3, z4, z5, z6⟩ := hSw; cases ho; go_simp; try with_reducible rfl)
  try simp only [Act.put, pB, pC, pD]
  first
  | refine skipI 41 (some 48) ?_
  | refine takeI 41 (some 48) (v := (.bool false)) ?_ ?_
    skip
    · (intro o ho w hSw; obtain ⟨z0, z1, z2, z3, z4, z5, z6⟩ := hSw; cases ho; go_simp; all_goals (first | (simp; done) | (simp; omega)))
  try simp only [Act.put, pB, pC, pD]
  refine takeI 42 (some 49) (v := ?_) ?_ ?_
  rotate_left
  · (intro o ho w hSw; obtain ⟨z0, z1, z2, z3, z4, z5, z6⟩ := hSw; cases ho; go_simp; try with_reducible rfl)
  try simp only [Act.put, pB, pC, pD]
  refine takeI 43 (some 50) (v := ?_) ?_ ?_
  rotate_left
  · (intro o ho w hSw; obtain ⟨z0, z1, z2, z3, z4, z5, z6⟩ := hSw; cases ho; go_simp; try with_reducible rfl)
  try simp only [Act.put, pB, pC, pD]
  first
  | refine skipI 44 (some 51) ?_
  | refine takeI 44 (some 51) (v := ?_) ?_ ?_
    rotate_left
    · (intro o ho w hSw; obtain ⟨z0, z1, z2, z3, z4, z5, z6⟩ := hSw; cases ho; go_simp; try with_reducible rfl)
  try simp only [Act.put, pB, pC, pD]
  first
  | refine skipI 45 (some 52) ?_
  | refine takeI 45 (some 52) (v := ?_) ?_ ?_
    rotate_left
    · (intro o ho w hSw; obtain ⟨z0, z1, z2, z3, z4, z5, z6⟩ := hSw; cases ho; go_simp; try with_reducible rfl)
  try simp only [Act.put, pB, pC, pD]
  first
  | refine skipI 46 (some 53) ?_
  | refine takeI 46 (some 53) (v := ?_) ?_ ?_
    rotate_left
    · (intro o ho w hSw; obtain ⟨z0, z1, z2, z3, z4, z5, z6⟩ := hSw; cases ho; go_simp; try with_reducible rfl)
  try simp only [Act.put, pB, pC, pD]
  first
  | refine skipI 47 (some 54) ?_
  | refine takeI 47 (some 54) (v := ?_) ?_ ?_
    rotate_left
    · (intro o ho w hSw; obtain ⟨z0, z1, z2, z3, z4, z5, z6⟩ := hSw; cases ho; go_simp; try with_reducible rfl)
  try simp only [Act.put, pB, pC, pD]
  refine wpAnyH_ready (rs := [48]) (by kernel_rfl) (by simp) ?_
  refine AllReadyH.cons rfl (fun K hK => ?_) AllReadyH.nil
  go_simp
  go_at_call 187
  (refine (fo _).mono ?_)
  rintro e w3 ⟨rfl, hw3⟩
  rw [hw3]
  clear hw3
  go_wp2
  refine hK.out _ _ ?_ (fun hH48 => ?_)
  · exact hS
  clear hK K
  try simp only [Act.put, pB, pC, pD]
  first
  | refine skipI 49 (some 56) ?_
  | refine takeI 49 (some 56) (v := ?_) ?_ ?_
    rotate_left
    · (intro o ho w hSw; obtain ⟨z0, z1, z2, z3, z4, z5, z6⟩ := hSw; cases ho; go_simp; try with_reducible rfl)
  try simp only [Act.put, pB, pC, pD]
  refine takeI 50 (some 57) (v := ?_) ?_ ?_
  rotate_left
  · (intro o ho w hSw; obtain ⟨z0, z1, z2, z3, z4, z5, z6⟩ := hSw; cases ho; go_simp; try with_reducible rfl)
  try simp only [Act.put, pB, pC, pD]
  refine takeI 51 (some 58) (v := ?_) ?_ ?_
  rotate_left
  · (intro o ho w hSw; obtain ⟨z0, z1, z2, z3, z4, z5, z6⟩ := hSw; cases ho; go_simp; try with_reducible rfl)
  try simp only [Act.put, pB, pC, pD]
  first
  | refine skipI 52 (some 59) ?_
  | refine takeI 52 (some 59) (v := ?_) ?_ ?_
    rotate_left
    · (intro o ho w hSw; obtain ⟨z0, z1, z2, z3, z4, z5, z6⟩ := hSw; cases ho; go_simp; try with_reducible rfl)
  try simp only [Act.put, pB, pC, pD]
  first
  | refine skipI 53 (some 60) ?_
  | refine takeI 53 (some 60) (v := ?_) ?_ ?_
    rotate_left
    · (intro o ho w hSw; obtain ⟨z0, z1, z2, z3, z4, z5, z6⟩ := hSw; cases ho; go_simp; try with_reducible rfl)
  try simp only [Act.put, pB, pC, pD]
  first
  | refine skipI 54 (some 61) ?_
  | refine takeI 54 (some 61) (v := ?_) ?_ ?_
    rotate_left
    · (intro o ho w hSw; obtain ⟨z0, z1, z2, z3, z4, z5, z6⟩ := hSw; cases ho; go_simp; try with_reducible rfl)
  try simp only [Act.put, pB, pC, pD]
  first
  | refine skipI 55 (some 62) ?_
  | refine takeI 55 (some 62) (v := ?_) ?_ ?_
    rotate_left
    · (intro o ho w hSw; obtain ⟨z0, z1, z2, z3, z4, z5, z6⟩ := hSw; cases ho; go_simp; try with_reducible rfl)
  try simp only [Act.put, pB, pC, pD]
  refine wpAnyH_ready (rs := [56]) (by kernel_rfl) (by simp) ?_
  refine AllReadyH.cons rfl (fun K hK => ?_) AllReadyH.nil
  go_simp
  go_at_call 188
  (refine (fd _).mono ?_)
  rintro e w3 ⟨rfl, hw3⟩
  rw [hw3]
  clear hw3
  go_wp2
  refine hK.out _ _ ?_ (fun hH56 => ?_)
  · exact hS
  clear hK K
  try simp only [Act.put, pB, pC, pD]
  first
  | refine skipI 57 (some 64) ?_
  | refine takeI 57 (some 64) (v := ?_) ?_ ?_
    rotate_left
    · (intro o ho w hSw; obtain ⟨z0, z1, z2, z3, z4, z5, z6⟩ := hSw; cases ho; go_simp; try with_reducible rfl)
  try simp only [Act.put, pB, pC, pD]
  refine takeI 58 (some 65) (v := ?_) ?_ ?_
  rotate_left
  · (intro o ho w hSw; obtain ⟨z0, z1, z2, z3, z4, z5, z6⟩ := hSw; cases ho; go_simp; try with_reducible rfl)
  try simp only [Act.put, pB, pC, pD]
  refine wpAnyH_done (by kernel_rfl) ?_ _
  go_wp2
  go_ret
  exact ⟨rfl, below_drewN HB.out 1⟩
end Go.Proofs.YtgepbklpobobbaaGreatDoor
