/- ledger: possible, at valid steps (Spawn, Trade). -/
import Derived.Test.YtlcalajehnaenaaGreatDoorHG29
import Derived.Test.YtlcalajehnaenaaGreatDoorHLdFit
import Derived.Test.YtlcalajehnaenaaGreatDoorHG8
import Derived.Test.YtlcalajehnaenaaGreatDoorHG1
namespace Go.Proofs.YtlcalajehnaenaaGreatDoor
open Go.RowKit
set_option maxRecDepth 100000 in
set_option maxHeartbeats 4000000 in
theorem poss0_any (mx : Int → Bool) (L : Led) (SS : LSt) (id actor tick : Int) (A : Option Addr) (n c : Nat) (ms : List Mv) (w : World) (HL : Hid (LedAt mx w L SS)) (HM : Hid (MvAt w A n c ms)) (HOK : Hid (∀ m ∈ ms, MvOk L.it.2.1 m)) (HF : Hid (∀ m ∈ ms, m.frm = 0))
 (hn0 : 1 ≤ n) (hn : n ≤ 64) (ha : 0 ≤ actor ∧ actor ≤ 1073741824) (ht0 : 0 ≤ tick) (ht1 : tick ≤ 1099511627776) (ht2 : SS.now ≤ tick) (hns : SS.ns ≤ 60000) :
 Calls Tryz.prog 75 #[.pointer (some ⟨L.gl, 0, none⟩), stA id 0 actor tick (-1) 0 (.slice A n c)] w fun e w' => e = .returned (.bool true) ∧ Below w.heap.size w w' := by
 unfold stA
 have ca := fun W => isAcc_any actor W ha
 have hnI : ¬ ((n : Int) < 1) := by omega
 have hnJ : ¬ (64 < (n : Int)) := by omega
 have hgl : L.gl < w.heap.size := HL.out.c.lt
 go_enter Tryz.func75, Tryz.ntmps75
 go_wp2_with fail
 obtain ⟨M, hM⟩ : ∃ M : Array Value, M = #[.int .i64 id, .int .i64 0, .int .i64 actor, .int .i64 tick, .int .i64 (-1), .int .i64 0, .slice A n c] := ⟨_, rfl⟩
 rw [← hM]
 have hb0 := (Below.refl w.heap.size w).alloc (Nat.le_refl _) (.cells M 43)
 have k0 := Blk.new w 43 M
 obtain ⟨w0, hw0⟩ : ∃ w0, w.alloc (.cells M 43) = w0 := ⟨_, rfl⟩
 rw [hw0] at hb0 k0 ⊢
 obtain ⟨b, hb⟩ : ∃ b, w.heap.size = b := ⟨_, rfl⟩
 have HBE := Lib.hid hb
 rw [hb] at k0 ⊢
 have q1 : w0.cell? ⟨b, 1, none⟩ = some (.int .i64 0) := by rw [hM] at k0; exact k0.cell 1
 go_wp2_with fail
 refine (form0_any _).mono ?_
 rintro e w1 ⟨rfl, hb1⟩
 go_wp2_with fail
 obtain ⟨G, hG⟩ : ∃ G : Array Value, G = #[.func (.func 179) #[] #[], .func (.func 180) #[] #[], .bool false, .func (.func 181) #[] #[]] := ⟨_, rfl⟩
 rw [← hG]
 have hb2 := (bt hb0 hb1).alloc (bt hb0 hb1).size (.cells G 227)
 have k2 := (k0.all hb1).alloc (.cells G 227)
 have kf := Blk.new w1 227 G
 obtain ⟨w2, hw2⟩ : ∃ w2, w1.alloc (.cells G 227) = w2 := ⟨_, rfl⟩
 obtain ⟨f, hf⟩ : ∃ f, w1.heap.size = f := ⟨_, rfl⟩
 rw [hw2] at hb2 k2 kf ⊢
 rw [hf] at kf ⊢
 have hS : (fun y => LedAt mx y L SS ∧ y.cell? ⟨b, 2, none⟩ = some (.int .i64 actor) ∧ y.cell? ⟨b, 3, none⟩ = some (.int .i64 tick) ∧ y.cell? ⟨b, 6, none⟩ = some (.slice A n c)) w2 := ⟨HL.out.all hb2, by rw [hM] at k2; exact k2.cell 2, by rw [hM] at k2; exact k2.cell 3, by rw [hM] at k2; exact k2.cell 6⟩
 have HB2 := Lib.hid hb2
 have K2 := Lib.hid k2
 have KF := Lib.hid kf
 clear hb0 k0 hw0 q1 hb1 hb2 k2 kf hw2 hf w1
 refine wp_region_held_drew (S := (fun y => LedAt mx y L SS ∧ y.cell? ⟨b, 2, none⟩ = some (.int .i64 actor) ∧ y.cell? ⟨b, 3, none⟩ = some (.int .i64 tick) ∧ y.cell? ⟨b, 6, none⟩ = some (.slice A n c))) (by kernel_rfl) ⟨hS.1.all (Below.refl _ _).drew, hS.2⟩ (fun hHeld => ?_)
 refine takeJ 0 (some 15) ?_
 refine takeJ 1 (some 16) ?_
 refine takeI 2 (some 17) (v := (.bool false)) ?_ ?_
 skip
 ·(intro o ho w hSw; obtain ⟨z0, z1, z2, z3⟩ := hSw; cases ho; go_simp; all_goals (first | (simp; done) | (simp; omega)))
 try simp only [Act.put, pB, pC, pD]
 first | refine skipJ 3 (some 18) ?_ | refine takeJ 3 (some 18) ?_
 first | refine skipJ 4 (some 19) ?_ | refine takeJ 4 (some 19) ?_
 refine wpAnyH_ready (rs := [5]) (by kernel_rfl) (by simp) ?_
 refine AllReadyH.cons rfl (fun K hK => ?_) AllReadyH.nil
 go_simp
 go_at_call 150
 (refine (ca _).mono ?_)
 rintro e w3 ⟨rfl, hw3⟩
 rw [hw3]
 clear hw3
 go_wp2
 refine hK.out _ _ ?_ (fun hH5 => ?_)
 ·exact hHeld
 clear hK K
 try simp only [Act.put, pB, pC, pD]
 first | refine skipJ 6 (some 21) ?_ | refine takeJ 6 (some 21) ?_
 refine takeJ 7 (some 22) ?_
 refine takeI 8 (some 23) (v := (.bool false)) ?_ ?_
 skip
 ·(intro o ho w hSw; obtain ⟨z0, z1, z2, z3⟩ := hSw; cases ho; go_simp; all_goals (first | (simp; done) | (simp; omega)))
 try simp only [Act.put, pB, pC, pD]
 first | refine skipJ 9 (some 24) ?_ | refine takeJ 9 (some 24) ?_
 first | refine skipJ 10 (some 25) ?_ | refine takeJ 10 (some 25) ?_
 first | refine skipJ 11 (some 26) ?_ | refine takeJ 11 (some 26) ?_
 refine takeJ 12 (some 27) ?_
 refine takeI 13 (some 28) (v := (.bool false)) ?_ ?_
 skip
 ·(intro o ho w hSw; obtain ⟨z0, z1, z2, z3⟩ := hSw; cases ho; go_simp; all_goals (first | (simp; done) | (simp; omega)))
 try simp only [Act.put, pB, pC, pD]
 first | refine skipJ 14 (some 29) ?_ | refine takeJ 14 (some 29) ?_
 first | refine skipJ 15 (some 30) ?_ | refine takeJ 15 (some 30) ?_
 first | refine skipJ 16 (some 31) ?_ | refine takeJ 16 (some 31) ?_
 refine takeJ 17 (some 32) ?_
 refine takeI 18 (some 33) (v := (.bool false)) ?_ ?_
 skip
 ·(intro o ho w hSw; obtain ⟨z0, z1, z2, z3⟩ := hSw; cases ho; go_simp; all_goals (first | (simp; done) | (simp; omega)))
 try simp only [Act.put, pB, pC, pD]
 first | refine skipJ 19 (some 34) ?_ | refine takeJ 19 (some 34) ?_
 first | refine skipJ 20 (some 35) ?_ | refine takeJ 20 (some 35) ?_
 first | refine skipJ 21 (some 36) ?_ | refine takeJ 21 (some 36) ?_
 refine wpAnyH_ready (rs := [22]) (by kernel_rfl) (by simp) ?_
 refine AllReadyH.cons rfl (fun K hK => ?_) AllReadyH.nil
 go_simp
 go_at_call 151
 (refine (now_any hH5.1 hns).mono ?_)
 rintro e w3 ⟨rfl, hd3⟩
 have HD3 := Lib.hid hd3
 clear hd3
 go_wp2
 refine hK.out _ _ ?_ (fun hH22 => ?_)
 ·exact (by obtain ⟨q3, e3⟩ := HD3.out; rw [e3]; exact ⟨hH5.1.all (below_drewN (Below.refl _ _) q3), hH5.2⟩)
 clear hK K
 try simp only [Act.put, pB, pC, pD]
 first | refine skipJ 23 (some 38) ?_ | refine takeJ 23 (some 38) ?_
 refine takeJ 24 (some 39) ?_
 refine takeI 25 (some 40) (v := (.bool false)) ?_ ?_
 skip
 ·(intro o ho w hSw; obtain ⟨z0, z1, z2, z3⟩ := hSw; cases ho; go_simp; all_goals (first | (simp; done) | (simp; omega)))
 try simp only [Act.put, pB, pC, pD]
 first | refine skipJ 26 (some 41) ?_ | refine takeJ 26 (some 41) ?_
 first | refine skipJ 27 (some 42) ?_ | refine takeJ 27 (some 42) ?_
 first | refine skipJ 28 (some 43) ?_ | refine takeJ 28 (some 43) ?_
 first | refine skipJ 29 (some 44) ?_ | refine takeJ 29 (some 44) ?_
 refine takeJ 30 (some 45) ?_
 refine takeI 31 (some 46) (v := (.bool false)) ?_ ?_
 skip
 ·(intro o ho w hSw; obtain ⟨z0, z1, z2, z3⟩ := hSw; cases ho; go_simp; all_goals (first | (simp; done) | (simp; omega)))
 try simp only [Act.put, pB, pC, pD]
 first | refine skipJ 32 (some 47) ?_ | refine takeJ 32 (some 47) ?_
 first | refine skipJ 33 (some 48) ?_ | refine takeJ 33 (some 48) ?_
 first | refine skipJ 34 (some 49) ?_ | refine takeJ 34 (some 49) ?_
 first | refine skipJ 35 (some 50) ?_ | refine takeJ 35 (some 50) ?_
 refine takeI 36 (some 51) (v := (.bool false)) ?_ ?_
 skip
 ·(intro o ho w hSw; obtain ⟨z0, z1, z2, z3⟩ := hSw; cases ho; go_simp; all_goals (first | (simp; done) | (simp; omega)))
 try simp only [Act.put, pB, pC, pD]
 refine wpAnyH_done (by kernel_rfl) ?_ _
 have HB3 : Hid (Below w.heap.size w w3) := Lib.hid (by obtain ⟨q3, e3⟩ := HD3.out; rw [e3]; exact below_drewN HB2.out.drew q3)
 have K3 : Hid (Blk w3 b 43 M) := Lib.hid (by obtain ⟨q3, e3⟩ := HD3.out; rw [e3]; exact K2.out)
 have KF3 : Hid (Blk w3 f 227 G) := Lib.hid (by obtain ⟨q3, e3⟩ := HD3.out; rw [e3]; exact KF.out)
 have HL3 := Lib.hid hH22.1
 have q6 : w3.cell? ⟨b, 6, none⟩ = some (.slice A n c) := by have := K3.out; rw [hM] at this; exact this.cell 6
 have HM3 := Lib.hid (HM.out.all HB3.out)
 have HMM := Lib.hid hM
 have HGG := Lib.hid hG
 clear hH22 hH5 hHeld HD3 hS HB2 K2 KF hM hG
 go_wp2
 go_loopg [55] n (fun gk iv wr => ∃ k : Nat, k + gk = n ∧ iv = .int .i64 (k : Int) ∧ Hid (Below w3.heap.size w3 wr))
 case atStart => exact ⟨0, by omega, rfl, Lib.hid (Below.refl _ _)⟩
 case round =>
  obtain ⟨k, hi, rfl, HB⟩ := hrel
  have HHI := Lib.hid hi
  have kf := KF3.out.all HB.out
  rw [HGG.out] at kf
  rcases Nat.lt_or_ge k n with hlt | hge
  ·have hltI : (k : Int) < (n : Int) := by omega
   have hi0 : (0 : Int) ≤ (k : Int) := by omega
   obtain ⟨g, off, rfl, hg, m, hm, k0, k1, k2, k3, k4⟩ := (HM3.out.all HB.out).at_ hlt
   have HMO := Lib.hid (HOK.out m (List.mem_of_getElem? hm))
   have HMF := Lib.hid (HF.out m (List.mem_of_getElem? hm))
   have f0 : wr.cell? ⟨f, 0, none⟩ = some (.func (.func 179) #[] #[]) := kf.cell 0
   have f1 : wr.cell? ⟨f, 1, none⟩ = some (.func (.func 180) #[] #[]) := kf.cell 1
   have f2 : wr.cell? ⟨f, 2, none⟩ = some (.bool false) := kf.cell 2
   have f3 : wr.cell? ⟨f, 3, none⟩ = some (.func (.func 181) #[] #[]) := kf.cell 3
   have hfl := kf.lt
   have hba := HB.out.alloc HB.out.size (.cells #[.int .i64 m.frm, .int .i64 m.dst, .int .i64 m.item, .int .i64 m.n, .slice none 0 0] 40)
   have HBA := Lib.hid hba
   have HLA := Lib.hid (HL3.out.all hba)
   clear hi hm hg hba kf
   go_wp2_with fail
   refine (fits0_any L.gl _ _ _ m _ HLA.out.c.lt (HLA.out.c.cell 1) HMO.out HMF.out).mono ?_
   rintro e w5 ⟨rfl, hb5⟩
   have HB5 := Lib.hid (bt HBA.out hb5)
   clear hb5
   go_wp2
   go_roundg (n - (k + 1))
   case measure => have := HHI.out; omega
   case rel => exact ⟨k + 1, by have := HHI.out; omega, by go_num, HB5⟩
  ·obtain rfl : k = n := by omega
   have hnl : ¬ ((k : Int) < (k : Int)) := by omega
   have ks := K3.out.all HB.out
   rw [HMM.out] at ks
   have f3 : wr.cell? ⟨f, 3, none⟩ = some (.func (.func 181) #[] #[]) := kf.cell 3
   have s0 : wr.cell? ⟨b, 0, none⟩ = some (.int .i64 id) := ks.cell 0
   have s1 : wr.cell? ⟨b, 1, none⟩ = some (.int .i64 0) := ks.cell 1
   have s2 : wr.cell? ⟨b, 2, none⟩ = some (.int .i64 actor) := ks.cell 2
   have s3 : wr.cell? ⟨b, 3, none⟩ = some (.int .i64 tick) := ks.cell 3
   have s4 : wr.cell? ⟨b, 4, none⟩ = some (.int .i64 (-1)) := ks.cell 4
   have s5 : wr.cell? ⟨b, 5, none⟩ = some (.int .i64 0) := ks.cell 5
   have s6 : wr.cell? ⟨b, 6, none⟩ = some (.slice A k c) := ks.cell 6
   clear ks kf
   go_wp2_with fail
   refine (isPlain_any _ id 0 actor tick _ _).mono ?_
   rintro e w5 ⟨rfl, hb5⟩
   have HB5 := Lib.hid (bt (bt HB3.out HB.out) hb5)
   clear hb5
   go_wp2
   go_ret
   exact ⟨rfl, HB5.out⟩
set_option maxRecDepth 100000 in
set_option maxHeartbeats 4000000 in
theorem poss2_any (mx : Int → Bool) (L : Led) (SS : LSt) (id actor tick : Int) (A : Option Addr) (n c : Nat) (ms : List Mv) (w : World) (HL : Hid (LedAt mx w L SS)) (HM : Hid (MvAt w A n c ms)) (HOK : Hid (∀ m ∈ ms, MvOk L.it.2.1 m)) (HF : Hid (∀ m ∈ ms, 1 ≤ m.frm))
 (hn0 : 1 ≤ n) (hn : n ≤ 64) (ha : 0 ≤ actor ∧ actor ≤ 1073741824) (ht0 : 0 ≤ tick) (ht1 : tick ≤ 1099511627776) (ht2 : SS.now ≤ tick) (hns : SS.ns ≤ 60000) :
 Calls Tryz.prog 75 #[.pointer (some ⟨L.gl, 0, none⟩), stA id 2 actor tick (-1) 0 (.slice A n c)] w fun e w' => e = .returned (.bool true) ∧ Below w.heap.size w w' := by
 unfold stA
 have ca := fun W => isAcc_any actor W ha
 have hnI : ¬ ((n : Int) < 1) := by omega
 have hnJ : ¬ (64 < (n : Int)) := by omega
 have hgl : L.gl < w.heap.size := HL.out.c.lt
 go_enter Tryz.func75, Tryz.ntmps75
 go_wp2_with fail
 obtain ⟨M, hM⟩ : ∃ M : Array Value, M = #[.int .i64 id, .int .i64 2, .int .i64 actor, .int .i64 tick, .int .i64 (-1), .int .i64 0, .slice A n c] := ⟨_, rfl⟩
 rw [← hM]
 have hb0 := (Below.refl w.heap.size w).alloc (Nat.le_refl _) (.cells M 43)
 have k0 := Blk.new w 43 M
 obtain ⟨w0, hw0⟩ : ∃ w0, w.alloc (.cells M 43) = w0 := ⟨_, rfl⟩
 rw [hw0] at hb0 k0 ⊢
 obtain ⟨b, hb⟩ : ∃ b, w.heap.size = b := ⟨_, rfl⟩
 have HBE := Lib.hid hb
 rw [hb] at k0 ⊢
 have q1 : w0.cell? ⟨b, 1, none⟩ = some (.int .i64 2) := by rw [hM] at k0; exact k0.cell 1
 go_wp2_with fail
 refine (form2_any _).mono ?_
 rintro e w1 ⟨rfl, hb1⟩
 go_wp2_with fail
 obtain ⟨G, hG⟩ : ∃ G : Array Value, G = #[.func (.func 180) #[] #[], .func (.func 180) #[] #[], .bool false, .func (.func 181) #[] #[]] := ⟨_, rfl⟩
 rw [← hG]
 have hb2 := (bt hb0 hb1).alloc (bt hb0 hb1).size (.cells G 227)
 have k2 := (k0.all hb1).alloc (.cells G 227)
 have kf := Blk.new w1 227 G
 obtain ⟨w2, hw2⟩ : ∃ w2, w1.alloc (.cells G 227) = w2 := ⟨_, rfl⟩
 obtain ⟨f, hf⟩ : ∃ f, w1.heap.size = f := ⟨_, rfl⟩
 rw [hw2] at hb2 k2 kf ⊢
 rw [hf] at kf ⊢
 have hS : (fun y => LedAt mx y L SS ∧ y.cell? ⟨b, 2, none⟩ = some (.int .i64 actor) ∧ y.cell? ⟨b, 3, none⟩ = some (.int .i64 tick) ∧ y.cell? ⟨b, 6, none⟩ = some (.slice A n c)) w2 := ⟨HL.out.all hb2, by rw [hM] at k2; exact k2.cell 2, by rw [hM] at k2; exact k2.cell 3, by rw [hM] at k2; exact k2.cell 6⟩
 have HB2 := Lib.hid hb2
 have K2 := Lib.hid k2
 have KF := Lib.hid kf
 clear hb0 k0 hw0 q1 hb1 hb2 k2 kf hw2 hf w1
 refine wp_region_held_drew (S := (fun y => LedAt mx y L SS ∧ y.cell? ⟨b, 2, none⟩ = some (.int .i64 actor) ∧ y.cell? ⟨b, 3, none⟩ = some (.int .i64 tick) ∧ y.cell? ⟨b, 6, none⟩ = some (.slice A n c))) (by kernel_rfl) ⟨hS.1.all (Below.refl _ _).drew, hS.2⟩ (fun hHeld => ?_)
 refine takeJ 0 (some 15) ?_
 refine takeJ 1 (some 16) ?_
 refine takeI 2 (some 17) (v := (.bool false)) ?_ ?_
 skip
 ·(intro o ho w hSw; obtain ⟨z0, z1, z2, z3⟩ := hSw; cases ho; go_simp; all_goals (first | (simp; done) | (simp; omega)))
 try simp only [Act.put, pB, pC, pD]
 first | refine skipJ 3 (some 18) ?_ | refine takeJ 3 (some 18) ?_
 first | refine skipJ 4 (some 19) ?_ | refine takeJ 4 (some 19) ?_
 refine wpAnyH_ready (rs := [5]) (by kernel_rfl) (by simp) ?_
 refine AllReadyH.cons rfl (fun K hK => ?_) AllReadyH.nil
 go_simp
 go_at_call 150
 (refine (ca _).mono ?_)
 rintro e w3 ⟨rfl, hw3⟩
 rw [hw3]
 clear hw3
 go_wp2
 refine hK.out _ _ ?_ (fun hH5 => ?_)
 ·exact hHeld
 clear hK K
 try simp only [Act.put, pB, pC, pD]
 first | refine skipJ 6 (some 21) ?_ | refine takeJ 6 (some 21) ?_
 refine takeJ 7 (some 22) ?_
 refine takeI 8 (some 23) (v := (.bool false)) ?_ ?_
 skip
 ·(intro o ho w hSw; obtain ⟨z0, z1, z2, z3⟩ := hSw; cases ho; go_simp; all_goals (first | (simp; done) | (simp; omega)))
 try simp only [Act.put, pB, pC, pD]
 first | refine skipJ 9 (some 24) ?_ | refine takeJ 9 (some 24) ?_
 first | refine skipJ 10 (some 25) ?_ | refine takeJ 10 (some 25) ?_
 first | refine skipJ 11 (some 26) ?_ | refine takeJ 11 (some 26) ?_
 refine takeJ 12 (some 27) ?_
 refine takeI 13 (some 28) (v := (.bool false)) ?_ ?_
 skip
 ·(intro o ho w hSw; obtain ⟨z0, z1, z2, z3⟩ := hSw; cases ho; go_simp; all_goals (first | (simp; done) | (simp; omega)))
 try simp only [Act.put, pB, pC, pD]
 first | refine skipJ 14 (some 29) ?_ | refine takeJ 14 (some 29) ?_
 first | refine skipJ 15 (some 30) ?_ | refine takeJ 15 (some 30) ?_
 first | refine skipJ 16 (some 31) ?_ | refine takeJ 16 (some 31) ?_
 refine takeJ 17 (some 32) ?_
 refine takeI 18 (some 33) (v := (.bool false)) ?_ ?_
 skip
 ·(intro o ho w hSw; obtain ⟨z0, z1, z2, z3⟩ := hSw; cases ho; go_simp; all_goals (first | (simp; done) | (simp; omega)))
 try simp only [Act.put, pB, pC, pD]
 first | refine skipJ 19 (some 34) ?_ | refine takeJ 19 (some 34) ?_
 first | refine skipJ 20 (some 35) ?_ | refine takeJ 20 (some 35) ?_
 first | refine skipJ 21 (some 36) ?_ | refine takeJ 21 (some 36) ?_
 refine wpAnyH_ready (rs := [22]) (by kernel_rfl) (by simp) ?_
 refine AllReadyH.cons rfl (fun K hK => ?_) AllReadyH.nil
 go_simp
 go_at_call 151
 (refine (now_any hH5.1 hns).mono ?_)
 rintro e w3 ⟨rfl, hd3⟩
 have HD3 := Lib.hid hd3
 clear hd3
 go_wp2
 refine hK.out _ _ ?_ (fun hH22 => ?_)
 ·exact (by obtain ⟨q3, e3⟩ := HD3.out; rw [e3]; exact ⟨hH5.1.all (below_drewN (Below.refl _ _) q3), hH5.2⟩)
 clear hK K
 try simp only [Act.put, pB, pC, pD]
 first | refine skipJ 23 (some 38) ?_ | refine takeJ 23 (some 38) ?_
 refine takeJ 24 (some 39) ?_
 refine takeI 25 (some 40) (v := (.bool false)) ?_ ?_
 skip
 ·(intro o ho w hSw; obtain ⟨z0, z1, z2, z3⟩ := hSw; cases ho; go_simp; all_goals (first | (simp; done) | (simp; omega)))
 try simp only [Act.put, pB, pC, pD]
 first | refine skipJ 26 (some 41) ?_ | refine takeJ 26 (some 41) ?_
 first | refine skipJ 27 (some 42) ?_ | refine takeJ 27 (some 42) ?_
 first | refine skipJ 28 (some 43) ?_ | refine takeJ 28 (some 43) ?_
 first | refine skipJ 29 (some 44) ?_ | refine takeJ 29 (some 44) ?_
 refine takeJ 30 (some 45) ?_
 refine takeI 31 (some 46) (v := (.bool false)) ?_ ?_
 skip
 ·(intro o ho w hSw; obtain ⟨z0, z1, z2, z3⟩ := hSw; cases ho; go_simp; all_goals (first | (simp; done) | (simp; omega)))
 try simp only [Act.put, pB, pC, pD]
 first | refine skipJ 32 (some 47) ?_ | refine takeJ 32 (some 47) ?_
 first | refine skipJ 33 (some 48) ?_ | refine takeJ 33 (some 48) ?_
 first | refine skipJ 34 (some 49) ?_ | refine takeJ 34 (some 49) ?_
 first | refine skipJ 35 (some 50) ?_ | refine takeJ 35 (some 50) ?_
 refine takeI 36 (some 51) (v := (.bool false)) ?_ ?_
 skip
 ·(intro o ho w hSw; obtain ⟨z0, z1, z2, z3⟩ := hSw; cases ho; go_simp; all_goals (first | (simp; done) | (simp; omega)))
 try simp only [Act.put, pB, pC, pD]
 refine wpAnyH_done (by kernel_rfl) ?_ _
 have HB3 : Hid (Below w.heap.size w w3) := Lib.hid (by obtain ⟨q3, e3⟩ := HD3.out; rw [e3]; exact below_drewN HB2.out.drew q3)
 have K3 : Hid (Blk w3 b 43 M) := Lib.hid (by obtain ⟨q3, e3⟩ := HD3.out; rw [e3]; exact K2.out)
 have KF3 : Hid (Blk w3 f 227 G) := Lib.hid (by obtain ⟨q3, e3⟩ := HD3.out; rw [e3]; exact KF.out)
 have HL3 := Lib.hid hH22.1
 have q6 : w3.cell? ⟨b, 6, none⟩ = some (.slice A n c) := by have := K3.out; rw [hM] at this; exact this.cell 6
 have HM3 := Lib.hid (HM.out.all HB3.out)
 have HMM := Lib.hid hM
 have HGG := Lib.hid hG
 clear hH22 hH5 hHeld HD3 hS HB2 K2 KF hM hG
 go_wp2
 go_loopg [55] n (fun gk iv wr => ∃ k : Nat, k + gk = n ∧ iv = .int .i64 (k : Int) ∧ Hid (Below w3.heap.size w3 wr))
 case atStart => exact ⟨0, by omega, rfl, Lib.hid (Below.refl _ _)⟩
 case round =>
  obtain ⟨k, hi, rfl, HB⟩ := hrel
  have HHI := Lib.hid hi
  have kf := KF3.out.all HB.out
  rw [HGG.out] at kf
  rcases Nat.lt_or_ge k n with hlt | hge
  ·have hltI : (k : Int) < (n : Int) := by omega
   have hi0 : (0 : Int) ≤ (k : Int) := by omega
   obtain ⟨g, off, rfl, hg, m, hm, k0, k1, k2, k3, k4⟩ := (HM3.out.all HB.out).at_ hlt
   have HMO := Lib.hid (HOK.out m (List.mem_of_getElem? hm))
   have HMF := Lib.hid (HF.out m (List.mem_of_getElem? hm))
   have f0 : wr.cell? ⟨f, 0, none⟩ = some (.func (.func 180) #[] #[]) := kf.cell 0
   have f1 : wr.cell? ⟨f, 1, none⟩ = some (.func (.func 180) #[] #[]) := kf.cell 1
   have f2 : wr.cell? ⟨f, 2, none⟩ = some (.bool false) := kf.cell 2
   have f3 : wr.cell? ⟨f, 3, none⟩ = some (.func (.func 181) #[] #[]) := kf.cell 3
   have hfl := kf.lt
   have hba := HB.out.alloc HB.out.size (.cells #[.int .i64 m.frm, .int .i64 m.dst, .int .i64 m.item, .int .i64 m.n, .slice none 0 0] 40)
   have HBA := Lib.hid hba
   have HLA := Lib.hid (HL3.out.all hba)
   clear hi hm hg hba kf
   go_wp2_with fail
   refine (fits2_any L.gl _ _ _ m _ HLA.out.c.lt (HLA.out.c.cell 1) HMO.out HMF.out).mono ?_
   rintro e w5 ⟨rfl, hb5⟩
   have HB5 := Lib.hid (bt HBA.out hb5)
   clear hb5
   go_wp2
   go_roundg (n - (k + 1))
   case measure => have := HHI.out; omega
   case rel => exact ⟨k + 1, by have := HHI.out; omega, by go_num, HB5⟩
  ·obtain rfl : k = n := by omega
   have hnl : ¬ ((k : Int) < (k : Int)) := by omega
   have ks := K3.out.all HB.out
   rw [HMM.out] at ks
   have f3 : wr.cell? ⟨f, 3, none⟩ = some (.func (.func 181) #[] #[]) := kf.cell 3
   have s0 : wr.cell? ⟨b, 0, none⟩ = some (.int .i64 id) := ks.cell 0
   have s1 : wr.cell? ⟨b, 1, none⟩ = some (.int .i64 2) := ks.cell 1
   have s2 : wr.cell? ⟨b, 2, none⟩ = some (.int .i64 actor) := ks.cell 2
   have s3 : wr.cell? ⟨b, 3, none⟩ = some (.int .i64 tick) := ks.cell 3
   have s4 : wr.cell? ⟨b, 4, none⟩ = some (.int .i64 (-1)) := ks.cell 4
   have s5 : wr.cell? ⟨b, 5, none⟩ = some (.int .i64 0) := ks.cell 5
   have s6 : wr.cell? ⟨b, 6, none⟩ = some (.slice A k c) := ks.cell 6
   clear ks kf
   go_wp2_with fail
   refine (isPlain_any _ id 2 actor tick _ _).mono ?_
   rintro e w5 ⟨rfl, hb5⟩
   have HB5 := Lib.hid (bt (bt HB3.out HB.out) hb5)
   clear hb5
   go_wp2
   go_ret
   exact ⟨rfl, HB5.out⟩
end Go.Proofs.YtlcalajehnaenaaGreatDoor
