/- catalog.Valid of catalogs with items alone (printed by gen_ldvalid.py). -/
import Derived.Test.YtlcalajehnaenaaGreatDoorHG12
namespace Go.Proofs.YtlcalajehnaenaaGreatDoor
open Go.RowKit
def catA (A : Option Addr) (n c : Nat) : Value := .agg #[.slice A n c, .slice none 0 0, .slice none 0 0, .slice none 0 0]
structure CatOk (is : List Itm) : Prop where
 word : ∀ i ∈ is, IsWord i.nm
 nd : (is.map Itm.nm).Nodup
 len : is.length ≤ 64
theorem CatOk.small {is : List Itm} (h : CatOk is) : ∀ i ∈ is, i.nm.size ≤ 16 := fun i hi => (h.word i hi).2.1
theorem stays_true : Stays (fun _ => True) := fun _ _ _ _ => trivial
theorem stays_KL : Stays KL := fun _ _ hb h => h.all hb
theorem runs_namesFit1 : Runs 122 := fun args w => by
 simp [callFunc, Tryz.func122, Tryz.f122, go_sem]
theorem runs_itemFormed : Runs 94 := fun args w => by
 simp [callFunc, Tryz.func94, Tryz.f94, go_sem]
theorem runs_itemInRange : Runs 95 := fun args w => by
 simp [callFunc, Tryz.func95, Tryz.f95, go_sem]
theorem runs_itemName : Runs 128 := fun args w => by
 simp [callFunc, Tryz.func128, Tryz.f128, go_sem]
set_option maxRecDepth 100000 in
set_option maxHeartbeats 4000000 in
theorem withinLimits_any (A : Option Addr) (n c : Nat) (w : World) (hn : n ≤ 64) : Calls Tryz.prog 63 #[catA A n c] w fun e w' => e = .returned (.bool true) ∧ Below w.heap.size w w' := by
 unfold catA
 have hnI : (n : Int) ≤ 64 := by omega
 have hb0 := (Below.refl w.heap.size w).alloc (Nat.le_refl _) (.cells #[.slice A n c, .slice none 0 0, .slice none 0 0, .slice none 0 0] 28)
 have hk0 := Blk.new w 28 #[.slice A n c, .slice none 0 0, .slice none 0 0, .slice none 0 0]
 have HB0 := Lib.hid hb0
 have HK0 := Lib.hid hk0
 clear hb0 hk0
 go_enter Tryz.func63, Tryz.ntmps63
 go_wp2_with fail
 refine (everyRule_nil _ _).mono ?_
 rintro e w1 ⟨rfl, hb1⟩
 have HB1 := Lib.hid (HB0.out.trans (hb1.mono HB0.out.size))
 have HK1 := Lib.hid (HK0.out.all hb1)
 have y0 : w1.cell? ⟨w.heap.size, 0, none⟩ = some (.slice A n c) := HK1.out.cell 0
 have y1 : w1.cell? ⟨w.heap.size, 1, none⟩ = some (.slice none 0 0) := HK1.out.cell 1
 have y2 : w1.cell? ⟨w.heap.size, 2, none⟩ = some (.slice none 0 0) := HK1.out.cell 2
 have y3 : w1.cell? ⟨w.heap.size, 3, none⟩ = some (.slice none 0 0) := HK1.out.cell 3
 clear hb1
 go_wp2_with fail
 clear y0 y1 y2 y3
 refine (everyTable_nil _ _).mono ?_
 rintro e w2 ⟨rfl, hb2⟩
 have HB2 := Lib.hid (HB1.out.trans (hb2.mono HB1.out.size))
 have HK2 := Lib.hid (HK1.out.all hb2)
 have y0 : w2.cell? ⟨w.heap.size, 0, none⟩ = some (.slice A n c) := HK2.out.cell 0
 have y1 : w2.cell? ⟨w.heap.size, 1, none⟩ = some (.slice none 0 0) := HK2.out.cell 1
 have y2 : w2.cell? ⟨w.heap.size, 2, none⟩ = some (.slice none 0 0) := HK2.out.cell 2
 have y3 : w2.cell? ⟨w.heap.size, 3, none⟩ = some (.slice none 0 0) := HK2.out.cell 3
 clear hb2
 go_wp2_with fail
 clear y0 y1 y2 y3
 refine (everyTax_nil _ _).mono ?_
 rintro e w3 ⟨rfl, hb3⟩
 have HB3 := Lib.hid (HB2.out.trans (hb3.mono HB2.out.size))
 have HK3 := Lib.hid (HK2.out.all hb3)
 have y0 : w3.cell? ⟨w.heap.size, 0, none⟩ = some (.slice A n c) := HK3.out.cell 0
 have y1 : w3.cell? ⟨w.heap.size, 1, none⟩ = some (.slice none 0 0) := HK3.out.cell 1
 have y2 : w3.cell? ⟨w.heap.size, 2, none⟩ = some (.slice none 0 0) := HK3.out.cell 2
 have y3 : w3.cell? ⟨w.heap.size, 3, none⟩ = some (.slice none 0 0) := HK3.out.cell 3
 clear hb3
 go_wp2
 clear y0 y1 y2 y3
 go_ret
 exact ⟨rfl, HB3.out⟩
set_option maxRecDepth 100000 in
set_option maxHeartbeats 4000000 in
theorem namesFit_any (A : Option Addr) (n c : Nat) (is : List Itm) (w : World) (HI : Hid (ItAt w A n c is)) (HO : Hid (CatOk is)) (HL : Hid (KL w)) : Calls Tryz.prog 64 #[catA A n c] w fun e w' => e = .returned (.bool true) ∧ Below w.heap.size w w' := by
 unfold catA
 have hb0 := (Below.refl w.heap.size w).alloc (Nat.le_refl _) (.cells #[.slice A n c, .slice none 0 0, .slice none 0 0, .slice none 0 0] 28)
 have hk0 := Blk.new w 28 #[.slice A n c, .slice none 0 0, .slice none 0 0, .slice none 0 0]
 have HB0 := Lib.hid hb0
 have HK0 := Lib.hid hk0
 have HI0 := Lib.hid (HI.out.all hb0)
 have hn : n ≤ 1000000 := by have := HO.out.len; have := HI.out.1; omega
 have HL0 := Lib.hid (HL.out.all hb0)
 clear hb0 hk0
 go_enter Tryz.func64, Tryz.ntmps64
 go_wp2_with fail
 refine (everyItem_any KL _ A n c is _ HL0 (Lib.hid stays_KL) (Lib.hid (fun i hi w hK => namesFit1_any i w (Lib.hid (HO.out.word i hi)) (Lib.hid hK))) HI0 hn (Lib.hid runs_namesFit1)).mono ?_
 rintro e w1 ⟨rfl, hb1⟩
 have HB1 := Lib.hid (HB0.out.trans (hb1.mono HB0.out.size))
 have HK1 := Lib.hid (HK0.out.all hb1)
 have y0 : w1.cell? ⟨w.heap.size, 0, none⟩ = some (.slice A n c) := HK1.out.cell 0
 have y1 : w1.cell? ⟨w.heap.size, 1, none⟩ = some (.slice none 0 0) := HK1.out.cell 1
 have y2 : w1.cell? ⟨w.heap.size, 2, none⟩ = some (.slice none 0 0) := HK1.out.cell 2
 have y3 : w1.cell? ⟨w.heap.size, 3, none⟩ = some (.slice none 0 0) := HK1.out.cell 3
 clear hb1
 go_wp2_with fail
 clear y0 y1 y2 y3
 refine (everyRule_nil _ _).mono ?_
 rintro e w2 ⟨rfl, hb2⟩
 have HB2 := Lib.hid (HB1.out.trans (hb2.mono HB1.out.size))
 have HK2 := Lib.hid (HK1.out.all hb2)
 have y0 : w2.cell? ⟨w.heap.size, 0, none⟩ = some (.slice A n c) := HK2.out.cell 0
 have y1 : w2.cell? ⟨w.heap.size, 1, none⟩ = some (.slice none 0 0) := HK2.out.cell 1
 have y2 : w2.cell? ⟨w.heap.size, 2, none⟩ = some (.slice none 0 0) := HK2.out.cell 2
 have y3 : w2.cell? ⟨w.heap.size, 3, none⟩ = some (.slice none 0 0) := HK2.out.cell 3
 clear hb2
 go_wp2_with fail
 clear y0 y1 y2 y3
 refine (everyTable_nil _ _).mono ?_
 rintro e w3 ⟨rfl, hb3⟩
 have HB3 := Lib.hid (HB2.out.trans (hb3.mono HB2.out.size))
 have HK3 := Lib.hid (HK2.out.all hb3)
 have y0 : w3.cell? ⟨w.heap.size, 0, none⟩ = some (.slice A n c) := HK3.out.cell 0
 have y1 : w3.cell? ⟨w.heap.size, 1, none⟩ = some (.slice none 0 0) := HK3.out.cell 1
 have y2 : w3.cell? ⟨w.heap.size, 2, none⟩ = some (.slice none 0 0) := HK3.out.cell 2
 have y3 : w3.cell? ⟨w.heap.size, 3, none⟩ = some (.slice none 0 0) := HK3.out.cell 3
 clear hb3
 go_wp2_with fail
 clear y0 y1 y2 y3
 refine (everyTax_nil _ _).mono ?_
 rintro e w4 ⟨rfl, hb4⟩
 have HB4 := Lib.hid (HB3.out.trans (hb4.mono HB3.out.size))
 have HK4 := Lib.hid (HK3.out.all hb4)
 have y0 : w4.cell? ⟨w.heap.size, 0, none⟩ = some (.slice A n c) := HK4.out.cell 0
 have y1 : w4.cell? ⟨w.heap.size, 1, none⟩ = some (.slice none 0 0) := HK4.out.cell 1
 have y2 : w4.cell? ⟨w.heap.size, 2, none⟩ = some (.slice none 0 0) := HK4.out.cell 2
 have y3 : w4.cell? ⟨w.heap.size, 3, none⟩ = some (.slice none 0 0) := HK4.out.cell 3
 clear hb4
 go_wp2
 clear y0 y1 y2 y3
 go_ret
 exact ⟨rfl, HB4.out⟩
set_option maxRecDepth 100000 in
set_option maxHeartbeats 4000000 in
theorem namesDiffer_any (A : Option Addr) (n c : Nat) (is : List Itm) (w : World) (HI : Hid (ItAt w A n c is)) (HO : Hid (CatOk is)) : Calls Tryz.prog 65 #[catA A n c] w fun e w' => e = .returned (.bool true) ∧ Below w.heap.size w w' := by
 unfold catA
 have hb0 := (Below.refl w.heap.size w).alloc (Nat.le_refl _) (.cells #[.slice A n c, .slice none 0 0, .slice none 0 0, .slice none 0 0] 28)
 have hk0 := Blk.new w 28 #[.slice A n c, .slice none 0 0, .slice none 0 0, .slice none 0 0]
 have HB0 := Lib.hid hb0
 have HK0 := Lib.hid hk0
 have HI0 := Lib.hid (HI.out.all hb0)
 have hn : n ≤ 1000000 := by have := HO.out.len; have := HI.out.1; omega
 clear hb0 hk0
 go_enter Tryz.func65, Tryz.ntmps65
 go_wp2_with fail
 refine (differItem_any _ A n c is _ (Lib.hid (fun i hi w _ => itemName_any i w)) HI0 hn (Lib.hid runs_itemName) (Lib.hid HO.out.nd) (Lib.hid HO.out.small)).mono ?_
 rintro e w1 ⟨rfl, hb1⟩
 have HB1 := Lib.hid (HB0.out.trans (hb1.mono HB0.out.size))
 have HK1 := Lib.hid (HK0.out.all hb1)
 have y0 : w1.cell? ⟨w.heap.size, 0, none⟩ = some (.slice A n c) := HK1.out.cell 0
 have y1 : w1.cell? ⟨w.heap.size, 1, none⟩ = some (.slice none 0 0) := HK1.out.cell 1
 have y2 : w1.cell? ⟨w.heap.size, 2, none⟩ = some (.slice none 0 0) := HK1.out.cell 2
 have y3 : w1.cell? ⟨w.heap.size, 3, none⟩ = some (.slice none 0 0) := HK1.out.cell 3
 clear hb1
 go_wp2_with fail
 clear y0 y1 y2 y3
 refine (differRule_nil _ _).mono ?_
 rintro e w2 ⟨rfl, hb2⟩
 have HB2 := Lib.hid (HB1.out.trans (hb2.mono HB1.out.size))
 have HK2 := Lib.hid (HK1.out.all hb2)
 have y0 : w2.cell? ⟨w.heap.size, 0, none⟩ = some (.slice A n c) := HK2.out.cell 0
 have y1 : w2.cell? ⟨w.heap.size, 1, none⟩ = some (.slice none 0 0) := HK2.out.cell 1
 have y2 : w2.cell? ⟨w.heap.size, 2, none⟩ = some (.slice none 0 0) := HK2.out.cell 2
 have y3 : w2.cell? ⟨w.heap.size, 3, none⟩ = some (.slice none 0 0) := HK2.out.cell 3
 clear hb2
 go_wp2_with fail
 clear y0 y1 y2 y3
 refine (differTable_nil _ _).mono ?_
 rintro e w3 ⟨rfl, hb3⟩
 have HB3 := Lib.hid (HB2.out.trans (hb3.mono HB2.out.size))
 have HK3 := Lib.hid (HK2.out.all hb3)
 have y0 : w3.cell? ⟨w.heap.size, 0, none⟩ = some (.slice A n c) := HK3.out.cell 0
 have y1 : w3.cell? ⟨w.heap.size, 1, none⟩ = some (.slice none 0 0) := HK3.out.cell 1
 have y2 : w3.cell? ⟨w.heap.size, 2, none⟩ = some (.slice none 0 0) := HK3.out.cell 2
 have y3 : w3.cell? ⟨w.heap.size, 3, none⟩ = some (.slice none 0 0) := HK3.out.cell 3
 clear hb3
 go_wp2_with fail
 clear y0 y1 y2 y3
 refine (differTax_nil _ _).mono ?_
 rintro e w4 ⟨rfl, hb4⟩
 have HB4 := Lib.hid (HB3.out.trans (hb4.mono HB3.out.size))
 have HK4 := Lib.hid (HK3.out.all hb4)
 have y0 : w4.cell? ⟨w.heap.size, 0, none⟩ = some (.slice A n c) := HK4.out.cell 0
 have y1 : w4.cell? ⟨w.heap.size, 1, none⟩ = some (.slice none 0 0) := HK4.out.cell 1
 have y2 : w4.cell? ⟨w.heap.size, 2, none⟩ = some (.slice none 0 0) := HK4.out.cell 2
 have y3 : w4.cell? ⟨w.heap.size, 3, none⟩ = some (.slice none 0 0) := HK4.out.cell 3
 clear hb4
 go_wp2
 clear y0 y1 y2 y3
 go_ret
 exact ⟨rfl, HB4.out⟩
set_option maxRecDepth 100000 in
set_option maxHeartbeats 4000000 in
theorem inRange_any (A : Option Addr) (n c : Nat) (is : List Itm) (w : World) (HI : Hid (ItAt w A n c is)) (HO : Hid (CatOk is)) : Calls Tryz.prog 67 #[catA A n c] w fun e w' => e = .returned (.bool true) ∧ Below w.heap.size w w' := by
 unfold catA
 have hb0 := (Below.refl w.heap.size w).alloc (Nat.le_refl _) (.cells #[.slice A n c, .slice none 0 0, .slice none 0 0, .slice none 0 0] 28)
 have hk0 := Blk.new w 28 #[.slice A n c, .slice none 0 0, .slice none 0 0, .slice none 0 0]
 replace hb0 := hb0.alloc (by rw [World.size_alloc]; omega) (.cells #[.func (.func 140) #[] #[]] 217)
 replace hk0 := hk0.alloc (.cells #[.func (.func 140) #[] #[]] 217)
 have HB0 := Lib.hid hb0
 have HK0 := Lib.hid hk0
 have HI0 := Lib.hid (HI.out.all hb0)
 have hn : n ≤ 1000000 := by have := HO.out.len; have := HI.out.1; omega
 clear hb0 hk0
 go_enter Tryz.func67, Tryz.ntmps67
 go_wp2_with fail
 refine (everyItem_any (fun _ => True) _ A n c is _ (Lib.hid trivial) (Lib.hid stays_true) (Lib.hid (fun i hi w _ => itemInRange_any i w)) HI0 hn (Lib.hid runs_itemInRange)).mono ?_
 rintro e w1 ⟨rfl, hb1⟩
 have HB1 := Lib.hid (HB0.out.trans (hb1.mono HB0.out.size))
 have HK1 := Lib.hid (HK0.out.all hb1)
 have y0 : w1.cell? ⟨w.heap.size, 0, none⟩ = some (.slice A n c) := HK1.out.cell 0
 have y1 : w1.cell? ⟨w.heap.size, 1, none⟩ = some (.slice none 0 0) := HK1.out.cell 1
 have y2 : w1.cell? ⟨w.heap.size, 2, none⟩ = some (.slice none 0 0) := HK1.out.cell 2
 have y3 : w1.cell? ⟨w.heap.size, 3, none⟩ = some (.slice none 0 0) := HK1.out.cell 3
 clear hb1
 go_wp2_with fail
 clear y0 y1 y2 y3
 refine (everyRule_nil _ _).mono ?_
 rintro e w2 ⟨rfl, hb2⟩
 have HB2 := Lib.hid (HB1.out.trans (hb2.mono HB1.out.size))
 have HK2 := Lib.hid (HK1.out.all hb2)
 have y0 : w2.cell? ⟨w.heap.size, 0, none⟩ = some (.slice A n c) := HK2.out.cell 0
 have y1 : w2.cell? ⟨w.heap.size, 1, none⟩ = some (.slice none 0 0) := HK2.out.cell 1
 have y2 : w2.cell? ⟨w.heap.size, 2, none⟩ = some (.slice none 0 0) := HK2.out.cell 2
 have y3 : w2.cell? ⟨w.heap.size, 3, none⟩ = some (.slice none 0 0) := HK2.out.cell 3
 clear hb2
 go_wp2_with fail
 clear y0 y1 y2 y3
 refine (everyTable_nil _ _).mono ?_
 rintro e w3 ⟨rfl, hb3⟩
 have HB3 := Lib.hid (HB2.out.trans (hb3.mono HB2.out.size))
 have HK3 := Lib.hid (HK2.out.all hb3)
 have y0 : w3.cell? ⟨w.heap.size, 0, none⟩ = some (.slice A n c) := HK3.out.cell 0
 have y1 : w3.cell? ⟨w.heap.size, 1, none⟩ = some (.slice none 0 0) := HK3.out.cell 1
 have y2 : w3.cell? ⟨w.heap.size, 2, none⟩ = some (.slice none 0 0) := HK3.out.cell 2
 have y3 : w3.cell? ⟨w.heap.size, 3, none⟩ = some (.slice none 0 0) := HK3.out.cell 3
 clear hb3
 go_wp2_with fail
 clear y0 y1 y2 y3
 refine (everyTax_nil _ _).mono ?_
 rintro e w4 ⟨rfl, hb4⟩
 have HB4 := Lib.hid (HB3.out.trans (hb4.mono HB3.out.size))
 have HK4 := Lib.hid (HK3.out.all hb4)
 have y0 : w4.cell? ⟨w.heap.size, 0, none⟩ = some (.slice A n c) := HK4.out.cell 0
 have y1 : w4.cell? ⟨w.heap.size, 1, none⟩ = some (.slice none 0 0) := HK4.out.cell 1
 have y2 : w4.cell? ⟨w.heap.size, 2, none⟩ = some (.slice none 0 0) := HK4.out.cell 2
 have y3 : w4.cell? ⟨w.heap.size, 3, none⟩ = some (.slice none 0 0) := HK4.out.cell 3
 clear hb4
 go_wp2
 clear y0 y1 y2 y3
 go_ret
 exact ⟨rfl, HB4.out⟩
set_option maxRecDepth 100000 in
set_option maxHeartbeats 4000000 in
theorem wellFormed_any (A : Option Addr) (n c : Nat) (is : List Itm) (w : World) (HI : Hid (ItAt w A n c is)) (HO : Hid (CatOk is)) : Calls Tryz.prog 66 #[catA A n c] w fun e w' => e = .returned (.bool true) ∧ Below w.heap.size w w' := by
 unfold catA
 have hb0 := (Below.refl w.heap.size w).alloc (Nat.le_refl _) (.cells #[.slice A n c, .slice none 0 0, .slice none 0 0, .slice none 0 0] 28)
 have hk0 := Blk.new w 28 #[.slice A n c, .slice none 0 0, .slice none 0 0, .slice none 0 0]
 replace hb0 := hb0.alloc (by rw [World.size_alloc]; omega) (.cells #[.func (.func 135) #[] #[.pointer (some ⟨w.heap.size, 0, none⟩)]] 217)
 replace hk0 := hk0.alloc (.cells #[.func (.func 135) #[] #[.pointer (some ⟨w.heap.size, 0, none⟩)]] 217)
 have HB0 := Lib.hid hb0
 have HK0 := Lib.hid hk0
 have HI0 := Lib.hid (HI.out.all hb0)
 have hn : n ≤ 1000000 := by have := HO.out.len; have := HI.out.1; omega
 clear hb0 hk0
 go_enter Tryz.func66, Tryz.ntmps66
 go_wp2_with fail
 refine (everyItem_any (fun _ => True) _ A n c is _ (Lib.hid trivial) (Lib.hid stays_true) (Lib.hid (fun i hi w _ => itemFormed_any i w)) HI0 hn (Lib.hid runs_itemFormed)).mono ?_
 rintro e w1 ⟨rfl, hb1⟩
 have HB1 := Lib.hid (HB0.out.trans (hb1.mono HB0.out.size))
 have HK1 := Lib.hid (HK0.out.all hb1)
 have y0 : w1.cell? ⟨w.heap.size, 0, none⟩ = some (.slice A n c) := HK1.out.cell 0
 have y1 : w1.cell? ⟨w.heap.size, 1, none⟩ = some (.slice none 0 0) := HK1.out.cell 1
 have y2 : w1.cell? ⟨w.heap.size, 2, none⟩ = some (.slice none 0 0) := HK1.out.cell 2
 have y3 : w1.cell? ⟨w.heap.size, 3, none⟩ = some (.slice none 0 0) := HK1.out.cell 3
 clear hb1
 go_wp2_with fail
 clear y0 y1 y2 y3
 refine (everyRule_nil _ _).mono ?_
 rintro e w2 ⟨rfl, hb2⟩
 have HB2 := Lib.hid (HB1.out.trans (hb2.mono HB1.out.size))
 have HK2 := Lib.hid (HK1.out.all hb2)
 have y0 : w2.cell? ⟨w.heap.size, 0, none⟩ = some (.slice A n c) := HK2.out.cell 0
 have y1 : w2.cell? ⟨w.heap.size, 1, none⟩ = some (.slice none 0 0) := HK2.out.cell 1
 have y2 : w2.cell? ⟨w.heap.size, 2, none⟩ = some (.slice none 0 0) := HK2.out.cell 2
 have y3 : w2.cell? ⟨w.heap.size, 3, none⟩ = some (.slice none 0 0) := HK2.out.cell 3
 clear hb2
 go_wp2_with fail
 clear y0 y1 y2 y3
 refine (everyTable_nil _ _).mono ?_
 rintro e w3 ⟨rfl, hb3⟩
 have HB3 := Lib.hid (HB2.out.trans (hb3.mono HB2.out.size))
 have HK3 := Lib.hid (HK2.out.all hb3)
 have y0 : w3.cell? ⟨w.heap.size, 0, none⟩ = some (.slice A n c) := HK3.out.cell 0
 have y1 : w3.cell? ⟨w.heap.size, 1, none⟩ = some (.slice none 0 0) := HK3.out.cell 1
 have y2 : w3.cell? ⟨w.heap.size, 2, none⟩ = some (.slice none 0 0) := HK3.out.cell 2
 have y3 : w3.cell? ⟨w.heap.size, 3, none⟩ = some (.slice none 0 0) := HK3.out.cell 3
 clear hb3
 go_wp2_with fail
 clear y0 y1 y2 y3
 refine (everyTax_nil _ _).mono ?_
 rintro e w4 ⟨rfl, hb4⟩
 have HB4 := Lib.hid (HB3.out.trans (hb4.mono HB3.out.size))
 have HK4 := Lib.hid (HK3.out.all hb4)
 have y0 : w4.cell? ⟨w.heap.size, 0, none⟩ = some (.slice A n c) := HK4.out.cell 0
 have y1 : w4.cell? ⟨w.heap.size, 1, none⟩ = some (.slice none 0 0) := HK4.out.cell 1
 have y2 : w4.cell? ⟨w.heap.size, 2, none⟩ = some (.slice none 0 0) := HK4.out.cell 2
 have y3 : w4.cell? ⟨w.heap.size, 3, none⟩ = some (.slice none 0 0) := HK4.out.cell 3
 clear hb4
 go_wp2
 clear y0 y1 y2 y3
 go_ret
 exact ⟨rfl, HB4.out⟩
set_option maxRecDepth 100000 in
set_option maxHeartbeats 4000000 in
theorem Valid_any (A : Option Addr) (n c : Nat) (is : List Itm) (w : World) (HI : Hid (ItAt w A n c is)) (HO : Hid (CatOk is)) (HL : Hid (KL w)) : Calls Tryz.prog 24 #[catA A n c] w fun e w' => e = .returned (.int .i64 0) ∧ Below w.heap.size w w' := by
 unfold catA
 have hb0 := (Below.refl w.heap.size w).alloc (Nat.le_refl _) (.cells #[.slice A n c, .slice none 0 0, .slice none 0 0, .slice none 0 0] 28)
 have hk0 := Blk.new w 28 #[.slice A n c, .slice none 0 0, .slice none 0 0, .slice none 0 0]
 have HB0 := Lib.hid hb0
 have HK0 := Lib.hid hk0
 have HI0 := Lib.hid (HI.out.all hb0)
 have hn : n ≤ 1000000 := by have := HO.out.len; have := HI.out.1; omega
 have HL0 := Lib.hid (HL.out.all hb0)
 have hn6 : n ≤ 64 := by have := HO.out.len; have := HI.out.1; omega
 clear hb0 hk0
 go_enter Tryz.func24, Tryz.ntmps24
 go_wp2_with fail
 refine (withinLimits_any A n c _ hn6).mono ?_
 rintro e w1 ⟨rfl, hb1⟩
 have HB1 := Lib.hid (HB0.out.trans (hb1.mono HB0.out.size))
 have HK1 := Lib.hid (HK0.out.all hb1)
 have y0 : w1.cell? ⟨w.heap.size, 0, none⟩ = some (.slice A n c) := HK1.out.cell 0
 have y1 : w1.cell? ⟨w.heap.size, 1, none⟩ = some (.slice none 0 0) := HK1.out.cell 1
 have y2 : w1.cell? ⟨w.heap.size, 2, none⟩ = some (.slice none 0 0) := HK1.out.cell 2
 have y3 : w1.cell? ⟨w.heap.size, 3, none⟩ = some (.slice none 0 0) := HK1.out.cell 3
 have HI1 := Lib.hid (HI0.out.all hb1)
 have HL1 := Lib.hid (HL0.out.all hb1)
 clear hb1
 go_wp2_with fail
 clear y0 y1 y2 y3
 refine (namesFit_any A n c is _ HI1 HO HL1).mono ?_
 rintro e w2 ⟨rfl, hb2⟩
 have HB2 := Lib.hid (HB1.out.trans (hb2.mono HB1.out.size))
 have HK2 := Lib.hid (HK1.out.all hb2)
 have y0 : w2.cell? ⟨w.heap.size, 0, none⟩ = some (.slice A n c) := HK2.out.cell 0
 have y1 : w2.cell? ⟨w.heap.size, 1, none⟩ = some (.slice none 0 0) := HK2.out.cell 1
 have y2 : w2.cell? ⟨w.heap.size, 2, none⟩ = some (.slice none 0 0) := HK2.out.cell 2
 have y3 : w2.cell? ⟨w.heap.size, 3, none⟩ = some (.slice none 0 0) := HK2.out.cell 3
 have HI2 := Lib.hid (HI1.out.all hb2)
 have HL2 := Lib.hid (HL1.out.all hb2)
 clear hb2
 go_wp2_with fail
 clear y0 y1 y2 y3
 refine (namesDiffer_any A n c is _ HI2 HO).mono ?_
 rintro e w3 ⟨rfl, hb3⟩
 have HB3 := Lib.hid (HB2.out.trans (hb3.mono HB2.out.size))
 have HK3 := Lib.hid (HK2.out.all hb3)
 have y0 : w3.cell? ⟨w.heap.size, 0, none⟩ = some (.slice A n c) := HK3.out.cell 0
 have y1 : w3.cell? ⟨w.heap.size, 1, none⟩ = some (.slice none 0 0) := HK3.out.cell 1
 have y2 : w3.cell? ⟨w.heap.size, 2, none⟩ = some (.slice none 0 0) := HK3.out.cell 2
 have y3 : w3.cell? ⟨w.heap.size, 3, none⟩ = some (.slice none 0 0) := HK3.out.cell 3
 have HI3 := Lib.hid (HI2.out.all hb3)
 have HL3 := Lib.hid (HL2.out.all hb3)
 clear hb3
 go_wp2_with fail
 clear y0 y1 y2 y3
 refine (wellFormed_any A n c is _ HI3 HO).mono ?_
 rintro e w4 ⟨rfl, hb4⟩
 have HB4 := Lib.hid (HB3.out.trans (hb4.mono HB3.out.size))
 have HK4 := Lib.hid (HK3.out.all hb4)
 have y0 : w4.cell? ⟨w.heap.size, 0, none⟩ = some (.slice A n c) := HK4.out.cell 0
 have y1 : w4.cell? ⟨w.heap.size, 1, none⟩ = some (.slice none 0 0) := HK4.out.cell 1
 have y2 : w4.cell? ⟨w.heap.size, 2, none⟩ = some (.slice none 0 0) := HK4.out.cell 2
 have y3 : w4.cell? ⟨w.heap.size, 3, none⟩ = some (.slice none 0 0) := HK4.out.cell 3
 have HI4 := Lib.hid (HI3.out.all hb4)
 have HL4 := Lib.hid (HL3.out.all hb4)
 clear hb4
 go_wp2_with fail
 clear y0 y1 y2 y3
 refine (inRange_any A n c is _ HI4 HO).mono ?_
 rintro e w5 ⟨rfl, hb5⟩
 have HB5 := Lib.hid (HB4.out.trans (hb5.mono HB4.out.size))
 have HK5 := Lib.hid (HK4.out.all hb5)
 have y0 : w5.cell? ⟨w.heap.size, 0, none⟩ = some (.slice A n c) := HK5.out.cell 0
 have y1 : w5.cell? ⟨w.heap.size, 1, none⟩ = some (.slice none 0 0) := HK5.out.cell 1
 have y2 : w5.cell? ⟨w.heap.size, 2, none⟩ = some (.slice none 0 0) := HK5.out.cell 2
 have y3 : w5.cell? ⟨w.heap.size, 3, none⟩ = some (.slice none 0 0) := HK5.out.cell 3
 have HI5 := Lib.hid (HI4.out.all hb5)
 have HL5 := Lib.hid (HL4.out.all hb5)
 clear hb5
 go_wp2
 clear y0 y1 y2 y3
 go_ret
 exact ⟨rfl, HB5.out⟩
end Go.Proofs.YtlcalajehnaenaaGreatDoor
