/- package catalog, the compiler: item. -/
import Derived.Test.YtlcalajehnaenaaGreatDoorHLdCpD
import Derived.Test.YtlcalajehnaenaaGreatDoorHG21
import Derived.Test.YtlcalajehnaenaaGreatDoorHG16
import Derived.Test.YtlcalajehnaenaaGreatDoorHG1
namespace Go.Proofs.YtlcalajehnaenaaGreatDoor
open Go.RowKit
def cpC (mi : Nat) (A : Option Addr) (n c : Nat) : Array Value := #[.map (some mi), .slice A n c, .slice none 0 0, .slice none 0 0, .slice none 0 0, .slice none 0 0]
def CpS (kb b5 : Nat) (A : Option Addr) (n c : Nat) (d : Dcl) (y : World) : Prop := y.cell? ⟨kb, 1, none⟩ = some (.slice A n c) ∧ y.cell? ⟨b5, 0, none⟩ = some (.string d.nm) ∧ y.cell? ⟨b5, 1, none⟩ = some (.bool false) ∧ y.cell? ⟨b5, 2, none⟩ = some (.bool false) ∧ y.cell? ⟨b5, 3, none⟩ = some (.bool d.co) ∧ y.cell? ⟨b5, 4, none⟩ = some (.int .i64 0) ∧ y.cell? ⟨b5, 5, none⟩ = some (.int .i64 0) ∧ y.cell? ⟨b5, 6, none⟩ = some (.int .i64 0)
theorem CpS.of {kb b5 mi n c : Nat} {A : Option Addr} {d : Dcl} {y : World} (h1 : Blk y kb 72 (cpC mi A n c)) (h2 : Blk y b5 141 #[.string d.nm, .bool false, .bool false, .bool d.co, .int .i64 0, .int .i64 0, .int .i64 0]) : CpS kb b5 A n c d y := ⟨h1.cell 1, h2.cell 0, h2.cell 1, h2.cell 2, h2.cell 3, h2.cell 4, h2.cell 5, h2.cell 6⟩
theorem bx9 {w a b : World} (h : Below w.heap.size w a) (k : Below a.heap.size a b) : Below w.heap.size w b := h.trans (k.mono h.size)
structure CpAt (B kb mi : Nat) (is : List Itm) (w : World) : Prop where
 row : ∃ A c, Blk w kb 72 (cpC mi A is.length c) ∧ w.ownsRow B 141 7 (.slice A is.length c) is.length (is.flatMap itV)
 lo : B ≤ kb ∧ B ≤ w.heap.size
theorem CpAt.all {B kb mi : Nat} {is : List Itm} {w w' : World} (h : CpAt B kb mi is w) (hb : Below w.heap.size w w') : CpAt B kb mi is w' := by
 obtain ⟨⟨A, c, h1, h2⟩, h3, h4⟩ := h
 exact ⟨⟨A, c, h1.all hb, own_keep h2 hb⟩, h3, Nat.le_trans h4 hb.size⟩
set_option maxRecDepth 100000 in
set_option maxHeartbeats 4000000 in
theorem item_any (B kb mi : Nat) (is : List Itm) (d : Dcl) (w : World) (HC : Hid (CpAt B kb mi is w)) (hl : is.length < 64) :
 Calls Tryz.prog 54 #[.pointer (some ⟨kb, 0, none⟩), .agg #[.int .i64 0, .string d.nm, .int .i64 d.at_, .bool false, .bool false, .bool d.co, .int .i64 0, .int .i64 0, .int .i64 0, .int .i64 0, .int .i64 0, .int .i64 0, .slice none 0 0, .slice none 0 0, .slice none 0 0, .slice none 0 0, .slice none 0 0]] w fun x w' => x = .returned (.int .i64 0) ∧ CpAt B kb mi (is ++ [itmOf d]) w' ∧ Below B w w' := by
 obtain ⟨⟨A, c, hk, ho⟩, lo1, lo2⟩ := HC.out
 obtain ⟨n, hn⟩ : ∃ n, is.length = n := ⟨_, rfl⟩
 rw [hn] at hk ho
 go_enter Tryz.func54, Tryz.ntmps54
 go_wp2_with fail
 have hba := (((Below.refl w.heap.size w).alloc (Nat.le_refl _) (.cells #[.int .i64 0, .string d.nm, .int .i64 d.at_, .bool false, .bool false, .bool d.co, .int .i64 0, .int .i64 0, .int .i64 0, .int .i64 0, .int .i64 0, .int .i64 0, .slice none 0 0, .slice none 0 0, .slice none 0 0, .slice none 0 0, .slice none 0 0] 78)).alloc (by simp) (.cells #[.string d.nm, .bool false, .bool false, .bool d.co, .int .i64 0, .int .i64 0, .int .i64 0] 141))
 have k5 := Blk.new0 (g := w.heap.size + 1) (w.alloc (.cells #[.int .i64 0, .string d.nm, .int .i64 d.at_, .bool false, .bool false, .bool d.co, .int .i64 0, .int .i64 0, .int .i64 0, .int .i64 0, .int .i64 0, .int .i64 0, .slice none 0 0, .slice none 0 0, .slice none 0 0, .slice none 0 0, .slice none 0 0] 78)) 141 #[.string d.nm, .bool false, .bool false, .bool d.co, .int .i64 0, .int .i64 0, .int .i64 0] (by simp)
 obtain ⟨w2, hw2⟩ : ∃ w2, (w.alloc (.cells #[.int .i64 0, .string d.nm, .int .i64 d.at_, .bool false, .bool false, .bool d.co, .int .i64 0, .int .i64 0, .int .i64 0, .int .i64 0, .int .i64 0, .int .i64 0, .slice none 0 0, .slice none 0 0, .slice none 0 0, .slice none 0 0, .slice none 0 0] 78)).alloc (.cells #[.string d.nm, .bool false, .bool false, .bool d.co, .int .i64 0, .int .i64 0, .int .i64 0] 141) = w2 := ⟨_, rfl⟩
 obtain ⟨b5, hb5⟩ : ∃ b5, w.heap.size + 1 = b5 := ⟨_, rfl⟩
 have hbz : w.heap.size < b5 := by omega
 rw [hw2] at hba k5 ⊢
 rw [hb5] at k5 ⊢
 have hk2 := hk.all hba
 have ho2 := own_keep ho hba
 have hbc := ((Below.refl w2.heap.size w2).alloc (Nat.le_refl _) (.cells #[.string d.nm, .bool false, .bool false, .bool d.co, .int .i64 0, .int .i64 0, .int .i64 0] 141)).drew
 obtain ⟨g6, cp6, w6, hrun, hown6, hg6, hnew6⟩ := run_append1b (ty := 23) slT_item (own_keep (w' := (w2.drew.alloc (.cells #[.string d.nm, .bool false, .bool false, .bool d.co, .int .i64 0, .int .i64 0, .int .i64 0] 141))) ho2 hbc) (Blk.new w2.drew 141 #[.string d.nm, .bool false, .bool false, .bool d.co, .int .i64 0, .int .i64 0, .int .i64 0]) rfl (by intro u hu; simp at hu; rcases hu with rfl | rfl | rfl | rfl | rfl | rfl | rfl <;> rfl) (by omega) (by decide) (Nat.le_trans (Nat.le_trans lo2 hba.size) hbc.size)
 have hrun : (Builtin.append_ #[23, 23] 23 #[.slice A n c, .slice (some ⟨w2.heap.size, 0, none⟩) 1 1]).run Tryz.prog (w2.alloc (.cells #[.string d.nm, .bool false, .bool false, .bool d.co, .int .i64 0, .int .i64 0, .int .i64 0] 141)).drew = .ok (.slice (some ⟨g6, 0, none⟩) (n + 1) cp6) w6 := hrun
 have m1 : Mod (fun b => (Value.slice A n c).ownBlock = some b) w2 w6 := (Mod.of_below _ hbc).trans (Mod.of_grown (w := (w2.alloc (.cells #[.string d.nm, .bool false, .bool false, .bool d.co, .int .i64 0, .int .i64 0, .int .i64 0] 141)).drew) hg6 (fun g e => .inl e)) (fun b hb => .inl hb)
 have hk6 := m1.blk hk2 (fun e => absurd ((Ty.of_own ho2 e).unique hk2.ty) (by decide))
 have k56 := m1.blk k5 (fun e => by have := (ho.lt _ e).2; omega)
 have hk7 := hk6.set_ 1 (.slice (some ⟨g6, 0, none⟩) (n + 1) cp6)
 have hkb5 : b5 ≠ kb := fun e => by subst e; exact absurd (k5.ty.unique hk2.ty) (by decide)
 have k57 := k56.far (p := ⟨kb, 1, none⟩) hkb5 (.slice (some ⟨g6, 0, none⟩) (n + 1) cp6)
 have m2 := (Mod.refl (fun b => b = kb) w6).set (p := ⟨kb, 1, none⟩) (.inl rfl) (.slice (some ⟨g6, 0, none⟩) (n + 1) cp6)
 have ho7 := m2.own hown6 (fun g hg e => by subst e; exact absurd ((Ty.of_own hown6 hg).unique hk6.ty) (by decide))
 have hb7 : Below B w (w6.setCell ⟨kb, 1, none⟩ (.slice (some ⟨g6, 0, none⟩) (n + 1) cp6)) := m2.below (m1.below (hba.mono lo2) (Nat.le_trans lo2 hba.size) (fun b hb => (ho.lt b hb).1)) (Nat.le_trans (Nat.le_trans lo2 hba.size) m1.size) (fun b hb => by subst hb; exact lo1)
 have HS0 : Hid (CpS kb b5 A n c d w2.drew) := Lib.hid (CpS.of (y := w2.drew) hk2 k5)
 have HS1 : Hid (CpS kb b5 A n c d (w2.alloc (.cells #[.string d.nm, .bool false, .bool false, .bool d.co, .int .i64 0, .int .i64 0, .int .i64 0] 141)).drew) := Lib.hid (CpS.of (hk2.all hbc) (k5.all hbc))
 have HS6 : Hid (CpS kb b5 A n c d w6) := Lib.hid (CpS.of hk6 k56)
 have f7 := hk6.frozen 1
 have c7 : w6.cell? ⟨kb, 1, none⟩ = some (.slice A n c) := hk6.cell 1
 have HRUN := Lib.hid hrun
 obtain ⟨w7, hw7⟩ : ∃ w7, w6.setCell ⟨kb, 1, none⟩ (.slice (some ⟨g6, 0, none⟩) (n + 1) cp6) = w7 := ⟨_, rfl⟩
 rw [hw7] at hk7 k57 ho7 hb7
 have hk7 : Blk w7 kb 72 (cpC mi (some ⟨g6, 0, none⟩) (n + 1) cp6) := hk7
 have HSX : Hid (∀ y, Below w7.heap.size w7 y → CpS kb b5 (some ⟨g6, 0, none⟩) (n + 1) cp6 d y) := Lib.hid (fun y hy => CpS.of (hk7.all hy) (k57.all hy))
 have HBX := Lib.hid (Below.refl w7.heap.size w7)
 have e1 : (is ++ [itmOf d]).length = n + 1 := by rw [List.length_append, hn]; rfl
 have HC7 : Hid (CpAt B kb mi (is ++ [itmOf d]) w7) := Lib.hid ⟨⟨some ⟨g6, 0, none⟩, cp6, by rw [e1]; exact hk7, by rw [e1, List.flatMap_append]; simpa [List.flatMap_cons, itmOf, itV] using ho7⟩, lo1, Nat.le_trans lo2 hb7.size⟩
 have HB7 := Lib.hid hb7
 have hle : n + 1 ≤ 64 := by omega
 clear hba k5 hw2 hb5 hbz hk2 ho2 hbc hrun hown6 hg6 hnew6 m1 hk6 k56 hk7 hkb5 k57 m2 ho7 hb7 e1 hk ho
 refine beginG (S := (CpS kb b5 A n c d)) 12 (by kernel_rfl) HS0.out (fun hHeld => ?_)
 refine takeG 0 (some 29) (v := ?_) (by rfl) (by rfl) (by kernel_rfl) (by kernel_rfl) (by decide) (by kernel_rfl) (by kernel_rfl) (fun _ _ _ h => h) ?_ (by assumption) ?_
 rotate_left
 ·(intro o ho w hSw; obtain ⟨z0, z1, z2, z3, z4, z5, z6, z7⟩ := hSw; cases ho; go_simp; try with_reducible rfl)
 try simp only [Act.put, pB, pC, pD]
 refine takeG 1 (some 30) (v := ?_) (by rfl) (by rfl) (by kernel_rfl) (by kernel_rfl) (by decide) (by kernel_rfl) (by kernel_rfl) (fun _ _ _ h => h) ?_ (by assumption) ?_
 rotate_left
 ·(intro o ho w hSw; obtain ⟨z0, z1, z2, z3, z4, z5, z6, z7⟩ := hSw; cases ho; go_simp; try with_reducible rfl)
 try simp only [Act.put, pB, pC, pD]
 refine takeG 2 (some 31) (v := ?_) (by rfl) (by rfl) (by kernel_rfl) (by kernel_rfl) (by decide) (by kernel_rfl) (by kernel_rfl) (fun _ _ _ h => h) ?_ (by assumption) ?_
 rotate_left
 ·(intro o ho w hSw; obtain ⟨z0, z1, z2, z3, z4, z5, z6, z7⟩ := hSw; cases ho; go_simp; try with_reducible rfl)
 try simp only [Act.put, pB, pC, pD]
 refine takeG 3 (some 32) (v := ?_) (by rfl) (by rfl) (by kernel_rfl) (by kernel_rfl) (by decide) (by kernel_rfl) (by kernel_rfl) (fun _ _ _ h => h) ?_ (by assumption) ?_
 rotate_left
 ·(intro o ho w hSw; obtain ⟨z0, z1, z2, z3, z4, z5, z6, z7⟩ := hSw; cases ho; go_simp; try with_reducible rfl)
 try simp only [Act.put, pB, pC, pD]
 refine takeG 4 (some 33) (v := ?_) (by rfl) (by rfl) (by kernel_rfl) (by kernel_rfl) (by decide) (by kernel_rfl) (by kernel_rfl) (fun _ _ _ h => h) ?_ (by assumption) ?_
 rotate_left
 ·(intro o ho w hSw; obtain ⟨z0, z1, z2, z3, z4, z5, z6, z7⟩ := hSw; cases ho; go_simp; try with_reducible rfl)
 try simp only [Act.put, pB, pC, pD]
 refine takeG 5 (some 34) (v := ?_) (by rfl) (by rfl) (by kernel_rfl) (by kernel_rfl) (by decide) (by kernel_rfl) (by kernel_rfl) (fun _ _ _ h => h) ?_ (by assumption) ?_
 rotate_left
 ·(intro o ho w hSw; obtain ⟨z0, z1, z2, z3, z4, z5, z6, z7⟩ := hSw; cases ho; go_simp; try with_reducible rfl)
 try simp only [Act.put, pB, pC, pD]
 refine takeG 6 (some 35) (v := ?_) (by rfl) (by rfl) (by kernel_rfl) (by kernel_rfl) (by decide) (by kernel_rfl) (by kernel_rfl) (fun _ _ _ h => h) ?_ (by assumption) ?_
 rotate_left
 ·(intro o ho w hSw; obtain ⟨z0, z1, z2, z3, z4, z5, z6, z7⟩ := hSw; cases ho; go_simp; try with_reducible rfl)
 try simp only [Act.put, pB, pC, pD]
 refine readyG (i := 7) (by kernel_rfl) rfl (fun K hK => ?_)
 go_simp
 refine hK.out _ _ ?_ (fun hHa => ?_)
 ·exact HS1.out
 clear hK K
 try simp only [Act.put, pB, pC, pD]
 refine readyG (i := 8) (by kernel_rfl) rfl (fun K hK => ?_)
 refine step_app (t := 23) HRUN.out (by kernel_rfl) (by rfl) (by rfl) (by rfl) ?_
 refine hK.out _ _ ?_ (fun hHb => ?_)
 ·exact HS6.out
 clear hK K
 (try simp only [Act.put]); (try simp only [pB]); (try simp only [pD]); (try simp only [pC])
 refine takeGD [10, 11, 12] 9 (some 38) (v := ?_) (by rfl) (by rfl) (by kernel_rfl) (by kernel_rfl) (by decide) (by kernel_rfl) (by kernel_rfl) (fun _ _ _ h => h) ?_ (by assumption) ?_
 rotate_left
 ·(intro o ho w hSw; obtain ⟨z0, z1, z2, z3, z4, z5, z6, z7⟩ := hSw; cases ho; go_simp; try with_reducible rfl)
 (try simp only [Act.put]); (try simp only [pB]); (try simp only [pD]); (try simp only [pC])
 refine takeGD [11, 12] 10 (some 39) (v := ?_) (by rfl) (by rfl) (by kernel_rfl) (by kernel_rfl) (by decide) (by kernel_rfl) (by kernel_rfl) (fun _ _ _ h => h) ?_ (by assumption) ?_
 rotate_left
 ·(intro o ho w hSw; obtain ⟨z0, z1, z2, z3, z4, z5, z6, z7⟩ := hSw; cases ho; go_simp; try with_reducible rfl)
 (try simp only [Act.put]); (try simp only [pB]); (try simp only [pD]); (try simp only [pC])
 refine takeG 11 (some 40) (v := ?_) (by rfl) (by rfl) (by kernel_rfl) (by kernel_rfl) (by decide) (by kernel_rfl) (by kernel_rfl) (fun _ _ _ h => h) ?_ (by assumption) ?_
 rotate_left
 ·(intro o ho w hSw; obtain ⟨z0, z1, z2, z3, z4, z5, z6, z7⟩ := hSw; cases ho; go_simp; try with_reducible rfl)
 (try simp only [Act.put]); (try simp only [pB]); (try simp only [pD]); (try simp only [pC])
 refine lastG (by kernel_rfl) rfl (fun K hK => ?_)
 go_simp
 refine hK.out _ _ ?_
 clear hK K
 (try simp only [Act.put]); (try simp only [pB]); (try simp only [pD]); (try simp only [pC])
 refine doneG (by kernel_rfl) ?_ _
 go_wp2_with fail
 try rw [hw7]
 clear hHeld hHa hHb HS0 HS1 HS6 f7 c7 HRUN hw7
 refine wp_region_held_drew (S := (CpS kb b5 (some ⟨g6, 0, none⟩) (n + 1) cp6 d)) (by kernel_rfl) (HSX.out _ HBX.out.drew) (fun hHeld => ?_)
 refine takeI 0 (some 41) (v := ?_) ?_ ?_
 rotate_left
 ·(intro o ho w hSw; obtain ⟨z0, z1, z2, z3, z4, z5, z6, z7⟩ := hSw; cases ho; go_simp; try with_reducible rfl)
 try simp only [Act.put, pB, pC, pD]
 refine takeI 1 (some 42) (v := ?_) ?_ ?_
 rotate_left
 ·(intro o ho w hSw; obtain ⟨z0, z1, z2, z3, z4, z5, z6, z7⟩ := hSw; cases ho; go_simp; try with_reducible rfl)
 try simp only [Act.put, pB, pC, pD]
 refine takeI 2 (some 43) (v := ?_) ?_ ?_
 rotate_left
 ·(intro o ho w hSw; obtain ⟨z0, z1, z2, z3, z4, z5, z6, z7⟩ := hSw; cases ho; go_simp; try with_reducible rfl)
 try simp only [Act.put, pB, pC, pD]
 refine takeI 3 (some 44) (v := ?_) ?_ ?_
 rotate_left
 ·(intro o ho w hSw; obtain ⟨z0, z1, z2, z3, z4, z5, z6, z7⟩ := hSw; cases ho; go_simp; try with_reducible rfl)
 try simp only [Act.put, pB, pC, pD]
 refine takeI 4 (some 45) (v := ?_) ?_ ?_
 rotate_left
 ·(intro o ho w hSw; obtain ⟨z0, z1, z2, z3, z4, z5, z6, z7⟩ := hSw; cases ho; go_simp; try with_reducible rfl)
 try simp only [Act.put, pB, pC, pD]
 refine takeI 5 (some 46) (v := ?_) ?_ ?_
 rotate_left
 ·(intro o ho w hSw; obtain ⟨z0, z1, z2, z3, z4, z5, z6, z7⟩ := hSw; cases ho; go_simp; try with_reducible rfl)
 try simp only [Act.put, pB, pC, pD]
 refine takeI 6 (some 47) (v := (.bool true)) ?_ ?_
 skip
 ·(intro o ho w hSw; obtain ⟨z0, z1, z2, z3, z4, z5, z6, z7⟩ := hSw; cases ho; go_simp; all_goals (first | omega | (simp; done) | (simp; omega)))
 try simp only [Act.put, pB, pC, pD]
 refine takeI 7 (some 48) (v := ?_) ?_ ?_
 rotate_left
 ·(intro o ho w hSw; obtain ⟨z0, z1, z2, z3, z4, z5, z6, z7⟩ := hSw; cases ho; go_simp; try with_reducible rfl)
 try simp only [Act.put, pB, pC, pD]
 refine takeI 9 (some 50) (v := ?_) ?_ ?_
 rotate_left
 ·(intro o ho w hSw; obtain ⟨z0, z1, z2, z3, z4, z5, z6, z7⟩ := hSw; cases ho; go_simp; try with_reducible rfl)
 try simp only [Act.put, pB, pC, pD]
 refine wpAnyH_ready (rs := [8]) (by kernel_rfl) (by simp) ?_
 refine AllReadyH.cons rfl (fun K hK => ?_) AllReadyH.nil
 go_simp
 go_at_call 94
 refine (itemFormed_any (itmOf d) _).mono ?_
 rintro e9 w8 ⟨rfl, hhw8⟩
 have hB8 := bx9 HBX.out.drew hhw8
 go_wp2
 refine hK.out _ _ ?_ (fun hHc => ?_)
 ·exact (HSX.out _ hB8)
 clear hK K
 try simp only [Act.put, pB, pC, pD]
 refine wpAnyH_ready (rs := [10]) (by kernel_rfl) (by simp) ?_
 refine AllReadyH.cons rfl (fun K hK => ?_) AllReadyH.nil
 go_simp
 go_at_call 95
 refine (itemInRange_any (itmOf d) _).mono ?_
 rintro e9 w10 ⟨rfl, hhw10⟩
 have hB10 := bx9 hB8 hhw10
 go_wp2
 refine hK.out _ _ ?_ (fun hHd => ?_)
 ·exact (HSX.out _ hB10)
 clear hK K
 try simp only [Act.put, pB, pC, pD]
 refine wpAnyH_ready (rs := [11]) (by kernel_rfl) (by simp) ?_
 refine AllReadyH.cons rfl (fun K hK => ?_) AllReadyH.nil
 go_simp
 go_at_call 93
 refine (firstC_ok _).mono ?_
 rintro e9 w11 ⟨rfl, hw11⟩
 rw [hw11]
 clear hw11
 go_wp2
 refine hK.out _ _ ?_ (fun hHe => ?_)
 ·exact (HSX.out _ hB10)
 clear hK K
 try simp only [Act.put, pB, pC, pD]
 refine takeI 12 (some 4) (v := ?_) ?_ ?_
 rotate_left
 ·(intro o ho w hSw; obtain ⟨z0, z1, z2, z3, z4, z5, z6, z7⟩ := hSw; cases ho; go_simp; try with_reducible rfl)
 try simp only [Act.put, pB, pC, pD]
 refine wpAnyH_done (by kernel_rfl) ?_ _
 go_wp2
 go_ret
 exact ⟨rfl, HC7.out.all hB10, HB7.out.trans (hB10.mono (Nat.le_trans lo2 HB7.out.size))⟩
end Go.Proofs.YtlcalajehnaenaaGreatDoor
