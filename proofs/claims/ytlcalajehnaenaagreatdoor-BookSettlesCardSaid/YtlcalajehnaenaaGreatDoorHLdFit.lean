/- ledger: fits, for valid moves. -/
import Derived.Test.YtlcalajehnaenaaGreatDoorHG8
namespace Go.Proofs.YtlcalajehnaenaaGreatDoor
open Go.RowKit
structure MvOk (ni : Nat) (m : Mv) : Prop where
 i0 : 0 ≤ m.item
 i1 : m.item < ni
 n0 : 1 ≤ m.n
 n1 : m.n ≤ 1099511627776
 f0 : 0 ≤ m.frm
 f1 : m.frm ≤ 1073741824
 d0 : 1 ≤ m.dst
 d1 : m.dst ≤ 1073741824
 ne : m.frm ≠ m.dst
set_option maxRecDepth 100000 in
set_option maxHeartbeats 4000000 in
theorem fits2_any (gl ni ci : Nat) (Ai : Option Addr) (m : Mv) (w : World) (hg : gl < w.heap.size) (c1 : w.cell? ⟨gl, 1, none⟩ = some (.slice Ai ni ci)) (HM : MvOk ni m) (hf : 1 ≤ m.frm) :
 Calls Tryz.prog 152 #[.pointer (some ⟨gl, 0, none⟩), mvA m, .agg #[.func (.func 180) #[] #[], .func (.func 180) #[] #[], .bool false, .func (.func 181) #[] #[]]] w fun e w' => e = .returned (.bool true) ∧ Below w.heap.size w w' := by
 obtain ⟨i0, i1, n0, n1, f0, f1, d0, d1, ne⟩ := HM
 obtain ⟨fr, ds, it, n⟩ := m
 dsimp only at i0 i1 n0 n1 f0 f1 d0 d1 ne hf
 unfold mvA
 dsimp only
 have ca := fun W => isAcc_any fr W ⟨f0, f1⟩
 have cb := fun W => isAcc_any ds W ⟨by omega, d1⟩
 have fo := fun W => isOwner_any fr W
 have fd := fun W => isOwner_any ds W
 have g1 : (fr != 0) = true := by simp; omega
 have HF := Lib.hid hf
 clear hf
 have g2 : (ds != 0) = true := by simp; omega
 rw [g1] at fo
 rw [g2] at fd
 go_enter Tryz.func152, Tryz.ntmps152
 go_wp2_with fail
 obtain ⟨M, hM⟩ : ∃ M : Array Value, M = #[.int .i64 fr, .int .i64 ds, .int .i64 it, .int .i64 n, .slice none 0 0] := ⟨_, rfl⟩
 obtain ⟨G, hG⟩ : ∃ G : Array Value, G = #[.func (.func 180) #[] #[], .func (.func 180) #[] #[], .bool false, .func (.func 181) #[] #[]] := ⟨_, rfl⟩
 have hba := ((Below.refl w.heap.size w).alloc (Nat.le_refl _) (.cells M 40)).alloc (by simp) (.cells G 227)
 have k1 := Blk.alloc (Blk.new w 40 M) (.cells G 227)
 have k2 := Blk.new0 (g := w.heap.size + 1) (w.alloc (.cells M 40)) 227 G (by simp)
 have c1' := (hba.cell (p := ⟨gl, 1, none⟩) hg).trans c1
 rw [← hM, ← hG]
 obtain ⟨w2, hw2⟩ : ∃ w2, (w.alloc (.cells M 40)).alloc (.cells G 227) = w2 := ⟨_, rfl⟩
 rw [hw2] at hba k1 k2 c1' ⊢
 have HB := Lib.hid hba
 have lb1 := k1.lt
 have lb2 := k2.lt
 have lg2 : gl < w2.heap.size := by have := hba.size; omega
 obtain ⟨b, hb⟩ : ∃ b, w.heap.size = b := ⟨_, rfl⟩
 rw [hb] at k1 k2 lb1 lb2 ⊢
 rw [hM] at k1
 rw [hG] at k2
 have hS : (fun y => y.cell? ⟨gl, 1, none⟩ = some (.slice Ai ni ci) ∧ y.cell? ⟨b, 0, none⟩ = some (.int .i64 fr) ∧ y.cell? ⟨b, 1, none⟩ = some (.int .i64 ds) ∧ y.cell? ⟨b, 2, none⟩ = some (.int .i64 it) ∧ y.cell? ⟨b, 3, none⟩ = some (.int .i64 n) ∧ y.cell? ⟨b + 1, 0, none⟩ = some (.func (.func 180) #[] #[]) ∧ y.cell? ⟨b + 1, 1, none⟩ = some (.func (.func 180) #[] #[])) w2 := ⟨c1', k1.cell 0, k1.cell 1, k1.cell 2, k1.cell 3, k2.cell 0, k2.cell 1⟩
 have q2 : w2.cell? ⟨b + 1, 2, none⟩ = some (.bool false) := k2.cell 2
 have q4 : w2.cell? ⟨b, 4, none⟩ = some (.slice none 0 0) := k1.cell 4
 clear hba hw2 k1 k2 hM hG c1' c1 g1 g2
 refine wp_region_held_drew (S := (fun y => y.cell? ⟨gl, 1, none⟩ = some (.slice Ai ni ci) ∧ y.cell? ⟨b, 0, none⟩ = some (.int .i64 fr) ∧ y.cell? ⟨b, 1, none⟩ = some (.int .i64 ds) ∧ y.cell? ⟨b, 2, none⟩ = some (.int .i64 it) ∧ y.cell? ⟨b, 3, none⟩ = some (.int .i64 n) ∧ y.cell? ⟨b + 1, 0, none⟩ = some (.func (.func 180) #[] #[]) ∧ y.cell? ⟨b + 1, 1, none⟩ = some (.func (.func 180) #[] #[]))) (by kernel_rfl) hS (fun hHeld => ?_)
 refine takeJ 0 (some 7) ?_
 refine takeJ 1 (some 8) ?_
 refine takeI 2 (some 9) (v := (.bool false)) ?_ ?_
 skip
 ·(intro o ho w hSw; obtain ⟨z0, z1, z2, z3, z4, z5, z6⟩ := hSw; cases ho; go_simp; all_goals (first | (simp; done) | (simp; omega)))
 try simp only [Act.put, pB, pC, pD]
 refine takeJ 3 (some 10) ?_
 first | refine skipJ 4 (some 11) ?_ | refine takeJ 4 (some 11) ?_
 first | refine skipJ 5 (some 12) ?_ | refine takeJ 5 (some 12) ?_
 first | refine skipJ 6 (some 13) ?_ | refine takeJ 6 (some 13) ?_
 first | refine skipJ 7 (some 14) ?_ | refine takeJ 7 (some 14) ?_
 first | refine skipJ 8 (some 15) ?_ | refine takeJ 8 (some 15) ?_
 first | refine skipJ 9 (some 16) ?_ | refine takeJ 9 (some 16) ?_
 first | refine skipJ 10 (some 17) ?_ | refine takeJ 10 (some 17) ?_
 first | refine skipJ 11 (some 18) ?_ | refine takeJ 11 (some 18) ?_
 first
 | refine skipI 12 (some 19) ?_
 | refine takeI 12 (some 19) (v := (.bool false)) ?_ ?_
   skip
   ·(intro o ho w hSw; obtain ⟨z0, z1, z2, z3, z4, z5, z6⟩ := hSw; cases ho; go_simp; all_goals (first | (simp; done) | (simp; omega)))
 try simp only [Act.put, pB, pC, pD]
 refine takeJ 13 (some 20) ?_
 refine takeJ 14 (some 21) ?_
 first | refine skipJ 15 (some 22) ?_ | refine takeJ 15 (some 22) ?_
 first | refine skipJ 16 (some 23) ?_ | refine takeJ 16 (some 23) ?_
 first
 | refine skipI 17 (some 24) ?_
 | refine takeI 17 (some 24) (v := (.bool false)) ?_ ?_
   skip
   ·(intro o ho w hSw; obtain ⟨z0, z1, z2, z3, z4, z5, z6⟩ := hSw; cases ho; go_simp; all_goals (first | (simp; done) | (simp; omega)))
 try simp only [Act.put, pB, pC, pD]
 refine takeJ 18 (some 25) ?_
 refine takeJ 19 (some 26) ?_
 first | refine skipJ 20 (some 27) ?_ | refine takeJ 20 (some 27) ?_
 first | refine skipJ 21 (some 28) ?_ | refine takeJ 21 (some 28) ?_
 first
 | refine skipI 22 (some 29) ?_
 | refine takeI 22 (some 29) (v := (.bool false)) ?_ ?_
   skip
   ·(intro o ho w hSw; obtain ⟨z0, z1, z2, z3, z4, z5, z6⟩ := hSw; cases ho; go_simp; all_goals (first | (simp; done) | (simp; omega)))
 try simp only [Act.put, pB, pC, pD]
 refine takeJ 23 (some 30) ?_
 refine takeJ 24 (some 31) ?_
 first | refine skipJ 25 (some 32) ?_ | refine takeJ 25 (some 32) ?_
 first | refine skipJ 26 (some 33) ?_ | refine takeJ 26 (some 33) ?_
 refine wpAnyH_ready (rs := [27]) (by kernel_rfl) (by simp) ?_
 refine AllReadyH.cons rfl (fun K hK => ?_) AllReadyH.nil
 go_simp
 go_at_call 150
 (refine (ca _).mono ?_)
 rintro e w3 ⟨rfl, hw3⟩
 rw [hw3]
 clear hw3
 go_wp2
 refine hK.out _ _ ?_ (fun hH27 => ?_)
 ·exact hS
 clear hK K
 try simp only [Act.put, pB, pC, pD]
 first | refine skipJ 28 (some 35) ?_ | refine takeJ 28 (some 35) ?_
 refine takeJ 29 (some 36) ?_
 refine takeJ 30 (some 37) ?_
 first | refine skipJ 31 (some 38) ?_ | refine takeJ 31 (some 38) ?_
 first | refine skipJ 32 (some 39) ?_ | refine takeJ 32 (some 39) ?_
 refine wpAnyH_ready (rs := [33]) (by kernel_rfl) (by simp) ?_
 refine AllReadyH.cons rfl (fun K hK => ?_) AllReadyH.nil
 go_simp
 go_at_call 150
 (refine (cb _).mono ?_)
 rintro e w3 ⟨rfl, hw3⟩
 rw [hw3]
 clear hw3
 go_wp2
 refine hK.out _ _ ?_ (fun hH33 => ?_)
 ·exact hS
 clear hK K
 try simp only [Act.put, pB, pC, pD]
 first | refine skipJ 34 (some 41) ?_ | refine takeJ 34 (some 41) ?_
 refine takeJ 35 (some 42) ?_
 refine takeJ 36 (some 43) ?_
 first | refine skipJ 37 (some 44) ?_ | refine takeJ 37 (some 44) ?_
 first | refine skipJ 38 (some 45) ?_ | refine takeJ 38 (some 45) ?_
 first | refine skipJ 39 (some 46) ?_ | refine takeJ 39 (some 46) ?_
 first | refine skipJ 40 (some 47) ?_ | refine takeJ 40 (some 47) ?_
 first
 | refine skipI 41 (some 48) ?_
 | refine takeI 41 (some 48) (v := (.bool false)) ?_ ?_
   skip
   ·(intro o ho w hSw; obtain ⟨z0, z1, z2, z3, z4, z5, z6⟩ := hSw; cases ho; go_simp; all_goals (first | (simp; done) | (simp; omega)))
 try simp only [Act.put, pB, pC, pD]
 refine takeJ 42 (some 49) ?_
 refine takeJ 43 (some 50) ?_
 first | refine skipJ 44 (some 51) ?_ | refine takeJ 44 (some 51) ?_
 first | refine skipJ 45 (some 52) ?_ | refine takeJ 45 (some 52) ?_
 first | refine skipJ 46 (some 53) ?_ | refine takeJ 46 (some 53) ?_
 first | refine skipJ 47 (some 54) ?_ | refine takeJ 47 (some 54) ?_
 refine wpAnyH_ready (rs := [48]) (by kernel_rfl) (by simp) ?_
 refine AllReadyH.cons rfl (fun K hK => ?_) AllReadyH.nil
 go_simp
 go_at_call 180
 (refine (fo _).mono ?_)
 rintro e w3 ⟨rfl, hw3⟩
 rw [hw3]
 clear hw3
 go_wp2
 refine hK.out _ _ ?_ (fun hH48 => ?_)
 ·exact hS
 clear hK K
 try simp only [Act.put, pB, pC, pD]
 first | refine skipJ 49 (some 56) ?_ | refine takeJ 49 (some 56) ?_
 refine takeJ 50 (some 57) ?_
 refine takeJ 51 (some 58) ?_
 first | refine skipJ 52 (some 59) ?_ | refine takeJ 52 (some 59) ?_
 first | refine skipJ 53 (some 60) ?_ | refine takeJ 53 (some 60) ?_
 first | refine skipJ 54 (some 61) ?_ | refine takeJ 54 (some 61) ?_
 first | refine skipJ 55 (some 62) ?_ | refine takeJ 55 (some 62) ?_
 refine wpAnyH_ready (rs := [56]) (by kernel_rfl) (by simp) ?_
 refine AllReadyH.cons rfl (fun K hK => ?_) AllReadyH.nil
 go_simp
 go_at_call 180
 (refine (fd _).mono ?_)
 rintro e w3 ⟨rfl, hw3⟩
 rw [hw3]
 clear hw3
 go_wp2
 refine hK.out _ _ ?_ (fun hH56 => ?_)
 ·exact hS
 clear hK K
 try simp only [Act.put, pB, pC, pD]
 first | refine skipJ 57 (some 64) ?_ | refine takeJ 57 (some 64) ?_
 refine takeJ 58 (some 65) ?_
 refine wpAnyH_done (by kernel_rfl) ?_ _
 go_wp2
 go_ret
 exact ⟨rfl, below_drewN HB.out 1⟩
set_option maxRecDepth 100000 in
set_option maxHeartbeats 4000000 in
theorem fits0_any (gl ni ci : Nat) (Ai : Option Addr) (m : Mv) (w : World) (hg : gl < w.heap.size) (c1 : w.cell? ⟨gl, 1, none⟩ = some (.slice Ai ni ci)) (HM : MvOk ni m) (hf : m.frm = 0) :
 Calls Tryz.prog 152 #[.pointer (some ⟨gl, 0, none⟩), mvA m, .agg #[.func (.func 179) #[] #[], .func (.func 180) #[] #[], .bool false, .func (.func 181) #[] #[]]] w fun e w' => e = .returned (.bool true) ∧ Below w.heap.size w w' := by
 obtain ⟨i0, i1, n0, n1, f0, f1, d0, d1, ne⟩ := HM
 obtain ⟨fr, ds, it, n⟩ := m
 dsimp only at i0 i1 n0 n1 f0 f1 d0 d1 ne hf
 unfold mvA
 dsimp only
 have ca := fun W => isAcc_any fr W ⟨f0, f1⟩
 have cb := fun W => isAcc_any ds W ⟨by omega, d1⟩
 have fo := fun W => isWorld_any fr W
 have fd := fun W => isOwner_any ds W
 have g1 : (fr == 0) = true := by simp; omega
 have HF := Lib.hid hf
 clear hf
 have g2 : (ds != 0) = true := by simp; omega
 rw [g1] at fo
 rw [g2] at fd
 go_enter Tryz.func152, Tryz.ntmps152
 go_wp2_with fail
 obtain ⟨M, hM⟩ : ∃ M : Array Value, M = #[.int .i64 fr, .int .i64 ds, .int .i64 it, .int .i64 n, .slice none 0 0] := ⟨_, rfl⟩
 obtain ⟨G, hG⟩ : ∃ G : Array Value, G = #[.func (.func 179) #[] #[], .func (.func 180) #[] #[], .bool false, .func (.func 181) #[] #[]] := ⟨_, rfl⟩
 have hba := ((Below.refl w.heap.size w).alloc (Nat.le_refl _) (.cells M 40)).alloc (by simp) (.cells G 227)
 have k1 := Blk.alloc (Blk.new w 40 M) (.cells G 227)
 have k2 := Blk.new0 (g := w.heap.size + 1) (w.alloc (.cells M 40)) 227 G (by simp)
 have c1' := (hba.cell (p := ⟨gl, 1, none⟩) hg).trans c1
 rw [← hM, ← hG]
 obtain ⟨w2, hw2⟩ : ∃ w2, (w.alloc (.cells M 40)).alloc (.cells G 227) = w2 := ⟨_, rfl⟩
 rw [hw2] at hba k1 k2 c1' ⊢
 have HB := Lib.hid hba
 have lb1 := k1.lt
 have lb2 := k2.lt
 have lg2 : gl < w2.heap.size := by have := hba.size; omega
 obtain ⟨b, hb⟩ : ∃ b, w.heap.size = b := ⟨_, rfl⟩
 rw [hb] at k1 k2 lb1 lb2 ⊢
 rw [hM] at k1
 rw [hG] at k2
 have hS : (fun y => y.cell? ⟨gl, 1, none⟩ = some (.slice Ai ni ci) ∧ y.cell? ⟨b, 0, none⟩ = some (.int .i64 fr) ∧ y.cell? ⟨b, 1, none⟩ = some (.int .i64 ds) ∧ y.cell? ⟨b, 2, none⟩ = some (.int .i64 it) ∧ y.cell? ⟨b, 3, none⟩ = some (.int .i64 n) ∧ y.cell? ⟨b + 1, 0, none⟩ = some (.func (.func 179) #[] #[]) ∧ y.cell? ⟨b + 1, 1, none⟩ = some (.func (.func 180) #[] #[])) w2 := ⟨c1', k1.cell 0, k1.cell 1, k1.cell 2, k1.cell 3, k2.cell 0, k2.cell 1⟩
 have q2 : w2.cell? ⟨b + 1, 2, none⟩ = some (.bool false) := k2.cell 2
 have q4 : w2.cell? ⟨b, 4, none⟩ = some (.slice none 0 0) := k1.cell 4
 clear hba hw2 k1 k2 hM hG c1' c1 g1 g2
 refine wp_region_held_drew (S := (fun y => y.cell? ⟨gl, 1, none⟩ = some (.slice Ai ni ci) ∧ y.cell? ⟨b, 0, none⟩ = some (.int .i64 fr) ∧ y.cell? ⟨b, 1, none⟩ = some (.int .i64 ds) ∧ y.cell? ⟨b, 2, none⟩ = some (.int .i64 it) ∧ y.cell? ⟨b, 3, none⟩ = some (.int .i64 n) ∧ y.cell? ⟨b + 1, 0, none⟩ = some (.func (.func 179) #[] #[]) ∧ y.cell? ⟨b + 1, 1, none⟩ = some (.func (.func 180) #[] #[]))) (by kernel_rfl) hS (fun hHeld => ?_)
 refine takeJ 0 (some 7) ?_
 refine takeJ 1 (some 8) ?_
 refine takeI 2 (some 9) (v := (.bool false)) ?_ ?_
 skip
 ·(intro o ho w hSw; obtain ⟨z0, z1, z2, z3, z4, z5, z6⟩ := hSw; cases ho; go_simp; all_goals (first | (simp; done) | (simp; omega)))
 try simp only [Act.put, pB, pC, pD]
 refine takeJ 3 (some 10) ?_
 first | refine skipJ 4 (some 11) ?_ | refine takeJ 4 (some 11) ?_
 first | refine skipJ 5 (some 12) ?_ | refine takeJ 5 (some 12) ?_
 first | refine skipJ 6 (some 13) ?_ | refine takeJ 6 (some 13) ?_
 first | refine skipJ 7 (some 14) ?_ | refine takeJ 7 (some 14) ?_
 first | refine skipJ 8 (some 15) ?_ | refine takeJ 8 (some 15) ?_
 first | refine skipJ 9 (some 16) ?_ | refine takeJ 9 (some 16) ?_
 first | refine skipJ 10 (some 17) ?_ | refine takeJ 10 (some 17) ?_
 first | refine skipJ 11 (some 18) ?_ | refine takeJ 11 (some 18) ?_
 first
 | refine skipI 12 (some 19) ?_
 | refine takeI 12 (some 19) (v := (.bool false)) ?_ ?_
   skip
   ·(intro o ho w hSw; obtain ⟨z0, z1, z2, z3, z4, z5, z6⟩ := hSw; cases ho; go_simp; all_goals (first | (simp; done) | (simp; omega)))
 try simp only [Act.put, pB, pC, pD]
 refine takeJ 13 (some 20) ?_
 refine takeJ 14 (some 21) ?_
 first | refine skipJ 15 (some 22) ?_ | refine takeJ 15 (some 22) ?_
 first | refine skipJ 16 (some 23) ?_ | refine takeJ 16 (some 23) ?_
 first
 | refine skipI 17 (some 24) ?_
 | refine takeI 17 (some 24) (v := (.bool false)) ?_ ?_
   skip
   ·(intro o ho w hSw; obtain ⟨z0, z1, z2, z3, z4, z5, z6⟩ := hSw; cases ho; go_simp; all_goals (first | (simp; done) | (simp; omega)))
 try simp only [Act.put, pB, pC, pD]
 refine takeJ 18 (some 25) ?_
 refine takeJ 19 (some 26) ?_
 first | refine skipJ 20 (some 27) ?_ | refine takeJ 20 (some 27) ?_
 first | refine skipJ 21 (some 28) ?_ | refine takeJ 21 (some 28) ?_
 first
 | refine skipI 22 (some 29) ?_
 | refine takeI 22 (some 29) (v := (.bool false)) ?_ ?_
   skip
   ·(intro o ho w hSw; obtain ⟨z0, z1, z2, z3, z4, z5, z6⟩ := hSw; cases ho; go_simp; all_goals (first | (simp; done) | (simp; omega)))
 try simp only [Act.put, pB, pC, pD]
 refine takeJ 23 (some 30) ?_
 refine takeJ 24 (some 31) ?_
 first | refine skipJ 25 (some 32) ?_ | refine takeJ 25 (some 32) ?_
 first | refine skipJ 26 (some 33) ?_ | refine takeJ 26 (some 33) ?_
 refine wpAnyH_ready (rs := [27]) (by kernel_rfl) (by simp) ?_
 refine AllReadyH.cons rfl (fun K hK => ?_) AllReadyH.nil
 go_simp
 go_at_call 150
 (refine (ca _).mono ?_)
 rintro e w3 ⟨rfl, hw3⟩
 rw [hw3]
 clear hw3
 go_wp2
 refine hK.out _ _ ?_ (fun hH27 => ?_)
 ·exact hS
 clear hK K
 try simp only [Act.put, pB, pC, pD]
 first | refine skipJ 28 (some 35) ?_ | refine takeJ 28 (some 35) ?_
 refine takeJ 29 (some 36) ?_
 refine takeJ 30 (some 37) ?_
 first | refine skipJ 31 (some 38) ?_ | refine takeJ 31 (some 38) ?_
 first | refine skipJ 32 (some 39) ?_ | refine takeJ 32 (some 39) ?_
 refine wpAnyH_ready (rs := [33]) (by kernel_rfl) (by simp) ?_
 refine AllReadyH.cons rfl (fun K hK => ?_) AllReadyH.nil
 go_simp
 go_at_call 150
 (refine (cb _).mono ?_)
 rintro e w3 ⟨rfl, hw3⟩
 rw [hw3]
 clear hw3
 go_wp2
 refine hK.out _ _ ?_ (fun hH33 => ?_)
 ·exact hS
 clear hK K
 try simp only [Act.put, pB, pC, pD]
 first | refine skipJ 34 (some 41) ?_ | refine takeJ 34 (some 41) ?_
 refine takeJ 35 (some 42) ?_
 refine takeJ 36 (some 43) ?_
 first | refine skipJ 37 (some 44) ?_ | refine takeJ 37 (some 44) ?_
 first | refine skipJ 38 (some 45) ?_ | refine takeJ 38 (some 45) ?_
 first | refine skipJ 39 (some 46) ?_ | refine takeJ 39 (some 46) ?_
 first | refine skipJ 40 (some 47) ?_ | refine takeJ 40 (some 47) ?_
 first
 | refine skipI 41 (some 48) ?_
 | refine takeI 41 (some 48) (v := (.bool false)) ?_ ?_
   skip
   ·(intro o ho w hSw; obtain ⟨z0, z1, z2, z3, z4, z5, z6⟩ := hSw; cases ho; go_simp; all_goals (first | (simp; done) | (simp; omega)))
 try simp only [Act.put, pB, pC, pD]
 refine takeJ 42 (some 49) ?_
 refine takeJ 43 (some 50) ?_
 first | refine skipJ 44 (some 51) ?_ | refine takeJ 44 (some 51) ?_
 first | refine skipJ 45 (some 52) ?_ | refine takeJ 45 (some 52) ?_
 first | refine skipJ 46 (some 53) ?_ | refine takeJ 46 (some 53) ?_
 first | refine skipJ 47 (some 54) ?_ | refine takeJ 47 (some 54) ?_
 refine wpAnyH_ready (rs := [48]) (by kernel_rfl) (by simp) ?_
 refine AllReadyH.cons rfl (fun K hK => ?_) AllReadyH.nil
 go_simp
 go_at_call 179
 (refine (fo _).mono ?_)
 rintro e w3 ⟨rfl, hw3⟩
 rw [hw3]
 clear hw3
 go_wp2
 refine hK.out _ _ ?_ (fun hH48 => ?_)
 ·exact hS
 clear hK K
 try simp only [Act.put, pB, pC, pD]
 first | refine skipJ 49 (some 56) ?_ | refine takeJ 49 (some 56) ?_
 refine takeJ 50 (some 57) ?_
 refine takeJ 51 (some 58) ?_
 first | refine skipJ 52 (some 59) ?_ | refine takeJ 52 (some 59) ?_
 first | refine skipJ 53 (some 60) ?_ | refine takeJ 53 (some 60) ?_
 first | refine skipJ 54 (some 61) ?_ | refine takeJ 54 (some 61) ?_
 first | refine skipJ 55 (some 62) ?_ | refine takeJ 55 (some 62) ?_
 refine wpAnyH_ready (rs := [56]) (by kernel_rfl) (by simp) ?_
 refine AllReadyH.cons rfl (fun K hK => ?_) AllReadyH.nil
 go_simp
 go_at_call 180
 (refine (fd _).mono ?_)
 rintro e w3 ⟨rfl, hw3⟩
 rw [hw3]
 clear hw3
 go_wp2
 refine hK.out _ _ ?_ (fun hH56 => ?_)
 ·exact hS
 clear hK K
 try simp only [Act.put, pB, pC, pD]
 first | refine skipJ 57 (some 64) ?_ | refine takeJ 57 (some 64) ?_
 refine takeJ 58 (some 65) ?_
 refine wpAnyH_done (by kernel_rfl) ?_ _
 go_wp2
 go_ret
 exact ⟨rfl, below_drewN HB.out 1⟩
end Go.Proofs.YtlcalajehnaenaaGreatDoor
