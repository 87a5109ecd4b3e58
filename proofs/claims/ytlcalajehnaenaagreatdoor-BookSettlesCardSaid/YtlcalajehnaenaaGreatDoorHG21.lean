/- ledger: move, of moves without parts. -/
import Derived.Test.YtlcalajehnaenaaGreatDoorHLdMvA
import Derived.Test.YtlcalajehnaenaaGreatDoorHLdMvB
import Derived.Test.YtlcalajehnaenaaGreatDoorHLdMvC
import Derived.Test.YtlcalajehnaenaaGreatDoorHLdMvD
import Derived.Test.YtlcalajehnaenaaGreatDoorHLdValid
import Derived.Test.YtlcalajehnaenaaGreatDoorHG3
import Derived.StillTailTactics
import Derived.Test.YtlcalajehnaenaaGreatDoorHG1
import Derived.Test.YtlcalajehnaenaaGreatDoorHG10
import Derived.Shelf.SlGeneric
import Derived.Shelf.Slices.Cells
import Derived.Shelf.Slices.Clone
import Derived.Shelf.SlicesE.Clone
import Derived.Shelf.Spec.SlicesInsertGrow
import Derived.Shelf.Spec.SlicesInsert
import Derived.Ground.Names2Prog
import Derived.Shelf.SortM.Plain
import Derived.Shelf.SortM.SortNone
import Derived.Shelf.Spec.SlicesGrow
import Derived.Ground.SlgnProg
import Derived.Ground.SlgmProg
import Derived.Ground.Names8Prog
import Derived.Test.YtlcalajehnaenaaGreatDoorProg
import Derived.Test.YtlcalajehnaenaaGreatDoorHG0
import Derived.Deep.RegionHeld3
namespace Go.Proofs.YtlcalajehnaenaaGreatDoor
open Go.RowKit
theorem move_any {mx : Int → Bool} {K : Int} {L : Led} {S0 S : LSt} {C : Chg} (m : Mv) (w0 w : World) (HC : Hid (ChAt w0.heap.size w L S0 S C)) (HL : Hid (LedAt mx w0 L S0)) (HB : Hid (Below w0.heap.size w0 w)) (HO : Hid (LOk mx K S)) (HM : Hid (MvOk L.it.2.1 m)) (hK : K ≤ 1073741824) (hgl : L.it.2.1 ≤ 64) (hkd : C.kind = 0 ∨ C.kind = 2) (hnf : S.nf < 1000000) :
 Calls Tryz.prog 77 #[.pointer (some ⟨C.gc, 0, none⟩), mvA m] w (MovePost mx w0 w L S0 S C m) := by
 have h0 := HM.out.f0
 rcases Int.lt_or_le m.frm 1 with hz | hz
 ·have hz : m.frm = 0 := by omega
  cases hl : C.ts.lookup m.item with
  | some v => exact moveA m w0 w HC HL HB HO HM hK hgl hkd hnf hz (Lib.hid ⟨v, hl⟩)
  | none => exact moveB m w0 w HC HL HB HO HM hK hgl hkd hnf hz (Lib.hid hl)
 ·cases hl : C.ts.lookup m.item with
  | some v => exact moveC m w0 w HC HL HB HO HM hK hgl hkd hnf hz (Lib.hid ⟨v, hl⟩)
  | none => exact moveD m w0 w HC HL HB HO HM hK hgl hkd hnf hz (Lib.hid hl)
end Go.Proofs.YtlcalajehnaenaaGreatDoor
namespace Go.Proofs.YtlcalajehnaenaaGreatDoor
open Go.RowKit
theorem slT_item : SlT Tryz.prog 23 141 7 48 := SlT.of Tryz.underlying23 (by kernel_rfl) (by decide)
theorem ItAt.news {w : World} {A : Option Addr} {n c : Nat} {is : List Itm} (h : ItAt w A n c is) : ∀ ad, A = some ad → ∀ j u, (is.flatMap itV)[j]? = some u → w.cell? (ad.add j) = some u := by
 intro ad e j u hu
 have hj : j < (is.flatMap itV).length := (List.getElem?_eq_some_iff.1 hu).1
 obtain ⟨b, off, e2, -, -, hc⟩ := h.2.2.2.cells (by omega)
 rw [e] at e2
 injection e2 with e2
 subst e2
 have e3 : (⟨b, off, none⟩ : Addr).add j = ⟨b, off + j, none⟩ := by simp [Addr.add]
 rw [e3, hc j hj, hu]
theorem items_one (is : List Itm) : ∀ u ∈ is.flatMap itV, u.oneCell' = true := by
 intro u hu
 rw [List.mem_flatMap] at hu
 obtain ⟨l, -, hu⟩ := hu
 simp only [itV, List.mem_cons, List.not_mem_nil, or_false] at hu
 rcases hu with rfl | rfl | rfl | rfl | rfl | rfl | rfl <;> rfl
theorem ItAt.of_own {w : World} {B n c : Nat} {A : Option Addr} {is : List Itm} (h : w.ownsRow B 141 7 (.slice A n c) n (is.flatMap itV)) (hl : is.length = n) : ItAt w A n c is := by
 refine ⟨hl, ?_, ?_, RowT.of_own h⟩
 all_goals
  rcases h.2 with ⟨h2, hn⟩ | ⟨g, cap, cur, h2, _, hh, hnc, hm, hcs, htk⟩
  ·injection h2 with _ e1 e2
   omega
  ·injection h2 with _ e1 e2
   first | omega | (have := hm; omega) | (unfold maxLen at *; omega)
set_option maxRecDepth 100000 in
theorem cloneI_any (ad : Addr) (n c : Nat) (is : List Itm) (w : World) (HL : Hid (ItAt w (some ad) n c is)) (hn : n ≤ 1000000) :
 Calls Tryz.prog 68 #[.slice (some ad) n c] w fun e w' => ∃ A' c', e = .returned (.slice A' n c') ∧ ItAt w' A' n c' is ∧ Below w.heap.size w w' := by
 have hB := (Below.refl w.heap.size w).alloc (Nat.le_refl _) (.cells #[] 141)
 obtain ⟨A', c', w', hap, hown, hb⟩ := app_cells (w := w.alloc (.cells #[] 141)) (base := w.heap.size) (ty := 23) slT_item (World.ownsRow_made w #[] 0 (Nat.le_refl _) (by decide) rfl) (some ad) n c (is.flatMap itV) (by rw [flatT_length itV 7 itV_len, HL.out.1]) (by intro h; cases h) (HL.out.all hB).news (items_one is) (by omega) (by decide) (by simp)
 simp only [Nat.zero_add, List.nil_append] at hap hown
 have HA := Lib.hid hap
 have HO := Lib.hid hown
 have HB : Hid (Below w.heap.size w w') := Lib.hid (hB.trans hb)
 clear hap hown hb hB
 have hq := Lib.run_eql_slice_nil (P := Tryz.prog) w 23 141 (some ad) n c 0 0 Tryz.underlying23
 go_enter Tryz.func68, Tryz.ntmps68
 go_wp2_with (at_builtin; refine wpList_append_run HA.out rfl rfl rfl rfl ?_)
 go_ret
 exact ⟨A', c', rfl, ItAt.of_own HO.out HL.out.1, HB.out⟩
end Go.Proofs.YtlcalajehnaenaaGreatDoor
namespace Go.Proofs.YtlcalajehnaenaaGreatDoor
open Go.RowKit
set_option maxRecDepth 100000 in
set_option maxHeartbeats 4000000 in
theorem copyCat_any (ad : Addr) (n c : Nat) (is : List Itm) (w : World) (HI : Hid (ItAt w (some ad) n c is)) (hn : n ≤ 1000000) :
 Calls Tryz.prog 25 #[catA (some ad) n c] w fun e w' => ∃ A' c', e = .returned (catA A' n c') ∧ ItAt w' A' n c' is ∧ Below w.heap.size w w' := by
 unfold catA
 have hb := ((Below.refl w.heap.size w).alloc (Nat.le_refl _) (.cells #[.slice (some ad) n c, .slice none 0 0, .slice none 0 0, .slice none 0 0] 28)).alloc (by simp) (.cells #[.slice none 0 0, .slice none 0 0, .slice none 0 0, .slice none 0 0] 28)
 have k1 := Blk.alloc (Blk.new w 28 #[.slice (some ad) n c, .slice none 0 0, .slice none 0 0, .slice none 0 0]) (.cells #[.slice none 0 0, .slice none 0 0, .slice none 0 0, .slice none 0 0] 28)
 have k2 : Blk ((w.alloc (.cells #[.slice (some ad) n c, .slice none 0 0, .slice none 0 0, .slice none 0 0] 28)).alloc (.cells #[.slice none 0 0, .slice none 0 0, .slice none 0 0, .slice none 0 0] 28)) (w.heap.size + 1) 28 #[.slice none 0 0, .slice none 0 0, .slice none 0 0, .slice none 0 0] := Blk.new0 (g := w.heap.size + 1) _ _ _ (by simp)
 go_enter Tryz.func25, Tryz.ntmps25
 go_wp2_with fail
 obtain ⟨w2, hw2⟩ : ∃ w2, ((w.alloc (.cells #[.slice (some ad) n c, .slice none 0 0, .slice none 0 0, .slice none 0 0] 28)).alloc (.cells #[.slice none 0 0, .slice none 0 0, .slice none 0 0, .slice none 0 0] 28)) = w2 := ⟨_, rfl⟩
 obtain ⟨b, hbb⟩ : ∃ b, w.heap.size = b := ⟨_, rfl⟩
 rw [hw2] at hb k1 k2 ⊢
 rw [hbb] at k1 k2 ⊢
 have HBB := Lib.hid hbb
 have lb := k1.lt
 have hkeep : ∀ y, Below w2.heap.size w2.drew y → (fun y => y.cell? ⟨b, 0, none⟩ = some (.slice (some ad) n c) ∧ y.cell? ⟨b, 1, none⟩ = some (.slice none 0 0) ∧ y.cell? ⟨b, 2, none⟩ = some (.slice none 0 0) ∧ y.cell? ⟨b, 3, none⟩ = some (.slice none 0 0)) y := fun y hy => ⟨(hy.cell (p := ⟨b, 0, none⟩) lb).trans (k1.cell 0), (hy.cell (p := ⟨b, 1, none⟩) lb).trans (k1.cell 1), (hy.cell (p := ⟨b, 2, none⟩) lb).trans (k1.cell 2), (hy.cell (p := ⟨b, 3, none⟩) lb).trans (k1.cell 3)⟩
 have hS : (fun y => y.cell? ⟨b, 0, none⟩ = some (.slice (some ad) n c) ∧ y.cell? ⟨b, 1, none⟩ = some (.slice none 0 0) ∧ y.cell? ⟨b, 2, none⟩ = some (.slice none 0 0) ∧ y.cell? ⟨b, 3, none⟩ = some (.slice none 0 0)) w2.drew := hkeep _ (Below.refl w2.heap.size w2.drew)
 have HI2 : Hid (ItAt w2.drew (some ad) n c is) := Lib.hid (HI.out.all hb.drew)
 have HB2 := Lib.hid hb
 have HK2 : Hid (Blk w2.drew (b + 1) 28 #[.slice none 0 0, .slice none 0 0, .slice none 0 0, .slice none 0 0]) := Lib.hid k2
 clear hw2 hbb k1 k2 lb hb
 refine beginG (S := (fun y => y.cell? ⟨b, 0, none⟩ = some (.slice (some ad) n c) ∧ y.cell? ⟨b, 1, none⟩ = some (.slice none 0 0) ∧ y.cell? ⟨b, 2, none⟩ = some (.slice none 0 0) ∧ y.cell? ⟨b, 3, none⟩ = some (.slice none 0 0))) 13 (by kernel_rfl) hS (fun hHeld => ?_)
 refine takeG 0 (some 3) (v := ?_) (by rfl) (by rfl) (by kernel_rfl) (by kernel_rfl) (by decide) (by kernel_rfl) (by kernel_rfl) (fun _ _ _ h => h) ?_ (by assumption) ?_
 rotate_left
 ·(intro o ho w hSw; obtain ⟨z0, z1, z2, z3⟩ := hSw; cases ho; go_simp; try with_reducible rfl)
 try simp only [Act.put, pB, pC, pD]
 refine takeG 1 (some 4) (v := ?_) (by rfl) (by rfl) (by kernel_rfl) (by kernel_rfl) (by decide) (by kernel_rfl) (by kernel_rfl) (fun _ _ _ h => h) ?_ (by assumption) ?_
 rotate_left
 ·(intro o ho w hSw; obtain ⟨z0, z1, z2, z3⟩ := hSw; cases ho; go_simp; try with_reducible rfl)
 try simp only [Act.put, pB, pC, pD]
 refine takeG 3 (some 6) (v := ?_) (by rfl) (by rfl) (by kernel_rfl) (by kernel_rfl) (by decide) (by kernel_rfl) (by kernel_rfl) (fun _ _ _ h => h) ?_ (by assumption) ?_
 rotate_left
 ·(intro o ho w hSw; obtain ⟨z0, z1, z2, z3⟩ := hSw; cases ho; go_simp; try with_reducible rfl)
 try simp only [Act.put, pB, pC, pD]
 refine takeG 4 (some 7) (v := ?_) (by rfl) (by rfl) (by kernel_rfl) (by kernel_rfl) (by decide) (by kernel_rfl) (by kernel_rfl) (fun _ _ _ h => h) ?_ (by assumption) ?_
 rotate_left
 ·(intro o ho w hSw; obtain ⟨z0, z1, z2, z3⟩ := hSw; cases ho; go_simp; try with_reducible rfl)
 try simp only [Act.put, pB, pC, pD]
 refine takeG 6 (some 9) (v := ?_) (by rfl) (by rfl) (by kernel_rfl) (by kernel_rfl) (by decide) (by kernel_rfl) (by kernel_rfl) (fun _ _ _ h => h) ?_ (by assumption) ?_
 rotate_left
 ·(intro o ho w hSw; obtain ⟨z0, z1, z2, z3⟩ := hSw; cases ho; go_simp; try with_reducible rfl)
 try simp only [Act.put, pB, pC, pD]
 refine takeG 7 (some 10) (v := ?_) (by rfl) (by rfl) (by kernel_rfl) (by kernel_rfl) (by decide) (by kernel_rfl) (by kernel_rfl) (fun _ _ _ h => h) ?_ (by assumption) ?_
 rotate_left
 ·(intro o ho w hSw; obtain ⟨z0, z1, z2, z3⟩ := hSw; cases ho; go_simp; try with_reducible rfl)
 try simp only [Act.put, pB, pC, pD]
 refine takeG 9 (some 12) (v := ?_) (by rfl) (by rfl) (by kernel_rfl) (by kernel_rfl) (by decide) (by kernel_rfl) (by kernel_rfl) (fun _ _ _ h => h) ?_ (by assumption) ?_
 rotate_left
 ·(intro o ho w hSw; obtain ⟨z0, z1, z2, z3⟩ := hSw; cases ho; go_simp; try with_reducible rfl)
 try simp only [Act.put, pB, pC, pD]
 refine takeG 10 (some 13) (v := ?_) (by rfl) (by rfl) (by kernel_rfl) (by kernel_rfl) (by decide) (by kernel_rfl) (by kernel_rfl) (fun _ _ _ h => h) ?_ (by assumption) ?_
 rotate_left
 ·(intro o ho w hSw; obtain ⟨z0, z1, z2, z3⟩ := hSw; cases ho; go_simp; try with_reducible rfl)
 try simp only [Act.put, pB, pC, pD]
 refine readyG (i := 2) (by kernel_rfl) rfl (fun K hK => ?_)
 go_simp
 go_at_call 68
 (refine (cloneI_any ad n c is _ HI2 hn).mono ?_)
 rintro e w3 ⟨A', c', rfl, hI3, hb3⟩
 have HI3 := Lib.hid hI3
 have HB3 := Lib.hid hb3
 have k4 := HK2.out.all hb3
 have r0 := k4.cell 0
 have r1 := k4.cell 1
 have r2 := k4.cell 2
 have r3 := k4.cell 3
 have f0 := k4.frozen 0
 have f1 := k4.frozen 1
 have f2 := k4.frozen 2
 have f3 := k4.frozen 3
 simp at r0 r1 r2 r3
 have HK4 := Lib.hid k4
 have hS3 := hkeep _ hb3
 clear hI3 hb3 k4
 go_wp2
 refine hK.out _ _ ?_ (fun hH2 => ?_)
 ·exact hS3
 clear hK K
 try simp only [Act.put, pB, pC, pD]
 refine readyG (i := 5) (by kernel_rfl) rfl (fun K hK => ?_)
 go_simp
 go_at_call 69
 (refine (eachRule_nil _ _).mono ?_)
 rintro e w4 ⟨rfl, hw4⟩
 rw [hw4]
 clear hw4
 go_wp2
 refine hK.out _ _ ?_ (fun hH5 => ?_)
 ·exact hS3
 clear hK K
 try simp only [Act.put, pB, pC, pD]
 refine readyG (i := 8) (by kernel_rfl) rfl (fun K hK => ?_)
 go_simp
 go_at_call 71
 (refine (eachTable_nil _ _).mono ?_)
 rintro e w4 ⟨rfl, hw4⟩
 rw [hw4]
 clear hw4
 go_wp2
 refine hK.out _ _ ?_ (fun hH8 => ?_)
 ·exact hS3
 clear hK K
 try simp only [Act.put, pB, pC, pD]
 refine readyG (i := 11) (by kernel_rfl) rfl (fun K hK => ?_)
 go_simp
 go_at_call 73
 (refine (eachTax_nil _ _).mono ?_)
 rintro e w4 ⟨rfl, hw4⟩
 rw [hw4]
 clear hw4
 go_wp2
 refine hK.out _ _ ?_ (fun hH11 => ?_)
 ·exact hS3
 clear hK K
 try simp only [Act.put, pB, pC, pD]
 refine takeG 12 (some 15) (v := ?_) (by rfl) (by rfl) (by kernel_rfl) (by kernel_rfl) (by decide) (by kernel_rfl) (by kernel_rfl) (fun _ _ _ h => h) ?_ (by assumption) ?_
 rotate_left
 ·(intro o ho w hSw; obtain ⟨z0, z1, z2, z3⟩ := hSw; cases ho; go_simp; try with_reducible rfl)
 try simp only [Act.put, pB, pC, pD]
 refine lastG (by kernel_rfl) rfl (fun K hK => ?_)
 go_simp
 refine hK.out _ _ ?_
 clear hK K
 (try simp only [Act.put]); (try simp only [pB]); (try simp only [pD]); (try simp only [pC])
 refine doneG (by kernel_rfl) ?_ _
 go_wp2
 have hk := (((HK4.out.set_ 0 (.slice A' n c')).set_ 1 (.slice none 0 0)).set_ 2 (.slice none 0 0)).set_ 3 (.slice none 0 0)
 simp only [List.setIfInBounds_toArray, List.set_cons_zero, List.set_cons_succ] at hk
 have hm : Mod (fun q => q = b + 1) w3 ((((w3.setCell ⟨b + 1, 0, none⟩ (.slice A' n c')).setCell ⟨b + 1, 1, none⟩ (.slice none 0 0)).setCell ⟨b + 1, 2, none⟩ (.slice none 0 0)).setCell ⟨b + 1, 3, none⟩ (.slice none 0 0)) := ((((Mod.refl (fun q => q = b + 1) w3).set (p := ⟨b + 1, 0, none⟩) (.inl rfl) _).set (p := ⟨b + 1, 1, none⟩) (.inl rfl) _).set (p := ⟨b + 1, 2, none⟩) (.inl rfl) _).set (p := ⟨b + 1, 3, none⟩) (.inl rfl) _
 have hI := HI3.out.mod hm (fun q hq => by subst hq; exact fun h => absurd (Ty.unique HK4.out.ty h) (by decide))
 have hb3 : Below w.heap.size w w3 := HB2.out.drew.trans (HB3.out.mono HB2.out.drew.size)
 have hbw := hm.below hb3 hb3.size (fun q hq => by subst hq; rw [HBB.out]; exact Nat.le_succ _)
 generalize ((((w3.setCell ⟨b + 1, 0, none⟩ (.slice A' n c')).setCell ⟨b + 1, 1, none⟩ (.slice none 0 0)).setCell ⟨b + 1, 2, none⟩ (.slice none 0 0)).setCell ⟨b + 1, 3, none⟩ (.slice none 0 0)) = w5 at hk hI hbw ⊢
 have c0 := hk.cell 0
 have c1 := hk.cell 1
 have c2 := hk.cell 2
 have c3 := hk.cell 3
 simp at c0 c1 c2 c3
 refine bodyPost_ret (v := .agg #[.slice A' n c', .slice none 0 0, .slice none 0 0, .slice none 0 0]) (by simp [results, Tryz.results25, go_sem, c0, c1, c2, c3]) rfl ⟨A', c', rfl, hI, hbw⟩
end Go.Proofs.YtlcalajehnaenaaGreatDoor
namespace Go.Proofs.YtlcalajehnaenaaGreatDoor
open Go.RowKit
def mxOf (is : List Itm) (i : Int) : Bool := match is[i.toNat]? with | some x => x.mx | none => false
theorem ItAt.items {w : World} {A : Option Addr} {n c : Nat} {is : List Itm} (h : ItAt w A n c is) : ItemsAt w (A, n, c) (mxOf is) := by
 refine ⟨is.flatMap itV, by rw [flatT_length itV 7 itV_len, h.1], h.2.2.2, fun i hi => ?_⟩
 have hi : i < is.length := by rw [h.1]; exact hi
 rw [flatT_at itV 7 itV_len is i 2 hi (by decide)]
 unfold mxOf
 rw [show (i : Int).toNat = i from rfl, List.getElem?_eq_getElem hi]
 rfl
def lst0 (sh : Nat) : LSt := ⟨fun _ => [], fun _ => 0, sh, 0, 0, 0⟩
def LNewPost (mx : Int → Bool) (sh n : Nat) (w : World) (e : Ending) (w' : World) : Prop := ∃ L : Led, e = .returned (.tuple #[.pointer (some ⟨L.gl, 0, none⟩), .int .i64 0]) ∧ LedAt mx w' L (lst0 sh) ∧ L.it.2.1 = n ∧ L.es = [] ∧ (∀ b, LedF L b → w.heap.size ≤ b) ∧ Below w.heap.size w w'
def newLW (w3 : World) (sh n c : Nat) (A : Option Addr) : World :=
 ((((w3.alloc (.map #[] 0)).alloc (.map #[] 0)).alloc (.map #[] 0)).alloc (.map #[] 0)).alloc (.cells #[.int .i64 (sh : Int), .slice A n c, .slice none 0 0, .slice none 0 0, .slice none 0 0, .map (some w3.heap.size), .map (some (w3.heap.size + 1)), .slice none 0 0, .slice none 0 0, .map (some (w3.heap.size + 1 + 1)), .map (some (w3.heap.size + 1 + 1 + 1))] 94)
def newLed (w3 : World) (n c : Nat) (A : Option Addr) : Led := ⟨w3.heap.size + 1 + 1 + 1 + 1, w3.heap.size, w3.heap.size + 1, w3.heap.size + 1 + 1, w3.heap.size + 1 + 1 + 1, (A, n, c), .slice none 0 0, .slice none 0 0, .slice none 0 0, (none, 0, 0), (none, 0, 0), [], []⟩
theorem LedAt.new {w3 : World} {sh n c : Nat} {A : Option Addr} {is : List Itm} (hI : ItAt w3 A n c is) : LedAt (mxOf is) (newLW w3 sh n c A) (newLed w3 n c A) (lst0 sh) ∧ Below w3.heap.size w3 (newLW w3 sh n c A) ∧ ∀ b, LedF (newLed w3 n c A) b → w3.heap.size ≤ b := by
 obtain ⟨M, hM⟩ : ∃ M : Obj, M = .map #[] 0 := ⟨_, rfl⟩
 unfold newLW
 rw [← hM]
 obtain ⟨p, hp⟩ : ∃ p, w3.heap.size = p := ⟨_, rfl⟩
 have s1 : (w3.alloc M).heap.size = p + 1 := by simp [hp]
 have s2 : ((w3.alloc M).alloc M).heap.size = p + 1 + 1 := by simp [hp]
 have s3 : (((w3.alloc M).alloc M).alloc M).heap.size = p + 1 + 1 + 1 := by simp [hp]
 have s4 : ((((w3.alloc M).alloc M).alloc M).alloc M).heap.size = p + 1 + 1 + 1 + 1 := by simp [hp]
 have g1 := GMap.new kEnc w3
 have g2 := IMap.new (w3.alloc M)
 have g3 := IMap.new ((w3.alloc M).alloc M)
 have g4 := IMap.new (((w3.alloc M).alloc M).alloc M)
 rw [← hM] at g1 g2 g3 g4
 rw [hp] at g1
 rw [s1] at g2
 rw [s2] at g3
 rw [s3] at g4
 have al : ∀ (x : World) (o : Obj), Below x.heap.size x (x.alloc o) := fun x o => (Below.refl _ x).alloc (Nat.le_refl _) o
 have hc := Blk.new ((((w3.alloc M).alloc M).alloc M).alloc M) 94 #[.int .i64 (sh : Int), .slice A n c, .slice none 0 0, .slice none 0 0, .slice none 0 0, .map (some w3.heap.size), .map (some (w3.heap.size + 1)), .slice none 0 0, .slice none 0 0, .map (some (w3.heap.size + 1 + 1)), .map (some (w3.heap.size + 1 + 1 + 1))]
 rw [s4] at hc
 have hb : Below w3.heap.size w3 (((((w3.alloc M).alloc M).alloc M).alloc M).alloc (.cells #[.int .i64 (sh : Int), .slice A n c, .slice none 0 0, .slice none 0 0, .slice none 0 0, .map (some w3.heap.size), .map (some (w3.heap.size + 1)), .slice none 0 0, .slice none 0 0, .map (some (w3.heap.size + 1 + 1)), .map (some (w3.heap.size + 1 + 1 + 1))] 94)) := bt (bt (bt (bt (al _ _) (al _ _)) (al _ _)) (al _ _)) (al _ _)
 have G1 := (((g1.all (al _ M)).all (al _ M)).all (al _ M)).all (al _ (.cells #[.int .i64 (sh : Int), .slice A n c, .slice none 0 0, .slice none 0 0, .slice none 0 0, .map (some w3.heap.size), .map (some (w3.heap.size + 1)), .slice none 0 0, .slice none 0 0, .map (some (w3.heap.size + 1 + 1)), .map (some (w3.heap.size + 1 + 1 + 1))] 94))
 have G2 := ((g2.all (al _ M)).all (al _ M)).all (al _ (.cells #[.int .i64 (sh : Int), .slice A n c, .slice none 0 0, .slice none 0 0, .slice none 0 0, .map (some w3.heap.size), .map (some (w3.heap.size + 1)), .slice none 0 0, .slice none 0 0, .map (some (w3.heap.size + 1 + 1)), .map (some (w3.heap.size + 1 + 1 + 1))] 94))
 have G3 := (g3.all (al _ M)).all (al _ (.cells #[.int .i64 (sh : Int), .slice A n c, .slice none 0 0, .slice none 0 0, .slice none 0 0, .map (some w3.heap.size), .map (some (w3.heap.size + 1)), .slice none 0 0, .slice none 0 0, .map (some (w3.heap.size + 1 + 1)), .map (some (w3.heap.size + 1 + 1 + 1))] 94))
 have G4 := g4.all (al _ (.cells #[.int .i64 (sh : Int), .slice A n c, .slice none 0 0, .slice none 0 0, .slice none 0 0, .map (some w3.heap.size), .map (some (w3.heap.size + 1)), .slice none 0 0, .slice none 0 0, .map (some (w3.heap.size + 1 + 1)), .map (some (w3.heap.size + 1 + 1 + 1))] 94))
 have hI5 := (hI.all hb).items
 unfold newLed
 rw [hp] at hb hc G1 G2 G3 G4 hI5 ⊢
 refine ⟨⟨hc, G1, G2, G3, G4, hI5, fun k => ⟨(none, 0, 0), rfl, LotsAt.nil _⟩, fun k _ => rfl, fun i => rfl, ⟨[], World.ownsRow_nil _ _ _ _⟩, ⟨[], World.ownsRow_nil _ _ _ _, fun _ => rfl, fun k hk => by cases hk⟩, by simp only [ne_eq]; omega⟩, hb, ?_⟩
 intro b hbf
 rcases hbf with h | h | h | h | h | h | h
 ·rw [h]; show p ≤ p + 1 + 1 + 1 + 1; omega
 ·rw [h]; exact Nat.le_refl _
 ·rw [h]; show p ≤ p + 1; omega
 ·rw [h]; show p ≤ p + 1 + 1; omega
 ·rw [h]; show p ≤ p + 1 + 1 + 1; omega
 ·cases h
 ·cases h
set_option maxRecDepth 100000 in
set_option maxHeartbeats 4000000 in
theorem newL_any (sh : Nat) (ad : Addr) (n c : Nat) (is : List Itm) (w : World) (hsh : sh < 12) (HI : Hid (ItAt w (some ad) n c is)) (HO : Hid (CatOk is)) (HL : Hid (KL w)) :
 Calls Tryz.prog 5 #[.int .i64 (sh : Int), catA (some ad) n c] w (LNewPost (mxOf is) sh n w) := by
 have hm := @run_makeMap Tryz.prog
 have hs1 : ¬ ((sh : Int) < 0) := by omega
 have hs2 : ¬ ((12 : Int) ≤ (sh : Int)) := by omega
 have hn : n ≤ 1000000 := by have := HO.out.len; have := HI.out.1; omega
 unfold catA
 have hb := (Below.refl w.heap.size w).alloc (Nat.le_refl _) (.cells #[.slice (some ad) n c, .slice none 0 0, .slice none 0 0, .slice none 0 0] 28)
 have hk := Blk.new w 28 #[.slice (some ad) n c, .slice none 0 0, .slice none 0 0, .slice none 0 0]
 have HB1 := Lib.hid hb
 have HK1 := Lib.hid hk
 have HI1 := Lib.hid (HI.out.all hb)
 have HL1 := Lib.hid (HL.out.all hb)
 clear hb hk
 go_enter Tryz.func5, Tryz.ntmps5
 go_wp2_with fail
 refine (Valid_any (some ad) n c is _ HI1 HO HL1).mono ?_
 rintro e w2 ⟨rfl, hb2⟩
 have HB2 := Lib.hid (HB1.out.trans (hb2.mono HB1.out.size))
 have HI2 := Lib.hid (HI1.out.all hb2)
 have hk2 := HK1.out.all hb2
 have y0 : w2.cell? ⟨w.heap.size, 0, none⟩ = some (.slice (some ad) n c) := hk2.cell 0
 have y1 : w2.cell? ⟨w.heap.size, 1, none⟩ = some (.slice none 0 0) := hk2.cell 1
 have y2 : w2.cell? ⟨w.heap.size, 2, none⟩ = some (.slice none 0 0) := hk2.cell 2
 have y3 : w2.cell? ⟨w.heap.size, 3, none⟩ = some (.slice none 0 0) := hk2.cell 3
 clear hb2 hk2
 go_wp2_with fail
 refine (copyCat_any ad n c is w2 HI2 hn).mono ?_
 rintro e w3 ⟨A', c', rfl, hI3, hb3⟩
 have HB3 := Lib.hid (HB2.out.trans (hb3.mono HB2.out.size))
 have HI3 := Lib.hid hI3
 unfold catA
 clear y0 y1 y2 y3 hb3 hI3 HB2 HI2 HB1 HK1 HI1 HL1
 go_wp2
 clear hm
 obtain ⟨h1, h2, h3⟩ := LedAt.new (sh := sh) HI3.out
 refine bodyPost_ret (v := .tuple #[.pointer (some ⟨w3.heap.size + 1 + 1 + 1 + 1, 0, none⟩), .int .i64 0]) (by simp [results, Tryz.results5, go_sem]) rfl ?_
 change LNewPost (mxOf is) sh n w _ (newLW w3 sh n c' A')
 exact ⟨newLed w3 n c' A', rfl, h1, rfl, rfl, fun b hb => Nat.le_trans HB3.out.size (h3 b hb), HB3.out.trans (h2.mono HB3.out.size)⟩
end Go.Proofs.YtlcalajehnaenaaGreatDoor
namespace Go.Proofs.YtlcalajehnaenaaGreatDoor
open Go.RowKit
def bsM (f d i n : Int) : Mv := ⟨f, d, i, n⟩
structure LgS (mx : Int → Bool) (j : Nat) (S : LSt) : Prop where
 ok : LOk mx 0 S
 len : ∀ k, (S.st k).length ≤ 2 * j
 bal : ∀ a i : Int, 1 ≤ a → a ≤ 4 → 0 ≤ i → i ≤ 1 → totL (S.st (kOf a i)) = if a ≤ (j : Int) then 1000000 else 0
 tot : ∀ i : Int, 0 ≤ i → i ≤ 1 → S.tot i = 1000000 * (j : Int)
 ns : S.ns = j
 nf : S.nf = 2 * j
 now : S.now = 0
theorem LgS.zero {mx : Int → Bool} : LgS mx 0 (lst0 0) where
 ok := ⟨fun k l hl => (nomatch hl), fun k => (by show 0 ≤ 4096; decide), fun k _ => (by show totL [] ≤ 0; decide), fun i => ⟨Int.le_refl _, (by show (0 : Int) ≤ MaxU; decide)⟩, (by show 0 ≤ 1000; decide), (by show 0 ≤ 1000000; decide), (by show 0 ≤ 60000; decide)⟩
 len := fun k => Nat.le_refl _
 bal := fun a i h1 _ _ _ => by rw [if_neg (by omega)]; rfl
 tot := fun i _ _ => rfl
 ns := rfl
 nf := rfl
 now := rfl
structure LgB (mx : Int → Bool) (T : Nat) (g r : Int → Int) (t : Int) (S : LSt) : Prop where
 ok : LOk mx 0 S
 len : ∀ k, (S.st k).length ≤ 8 + 2 * T
 gold : ∀ a : Int, 1 ≤ a → a ≤ 4 → totL (S.st (kOf a 0)) = 1000000 + g a
 iron : ∀ a : Int, 1 ≤ a → a ≤ 4 → totL (S.st (kOf a 1)) = 1000000 + r a
 tot0 : S.tot 0 = 4000000
 tot1 : S.tot 1 = 4000000
 ns : S.ns = 4 + T
 nf : S.nf = 8 + 2 * T
 now : S.now ≤ t
theorem LgS.done {mx : Int → Bool} {S : LSt} (h : LgS mx 4 S) : LgB mx 0 (fun _ => 0) (fun _ => 0) 0 S where
 ok := h.ok
 len := h.len
 gold := fun a h1 h2 => by rw [h.bal a 0 h1 h2 (by decide) (by decide), if_pos (by omega)]; rfl
 iron := fun a h1 h2 => by rw [h.bal a 1 h1 h2 (by decide) (by decide), if_pos (by omega)]; rfl
 tot0 := h.tot 0 (by decide) (by decide)
 tot1 := h.tot 1 (by decide) (by decide)
 ns := h.ns
 nf := h.nf
 now := by rw [h.now]; exact Int.le_refl _
theorem mv_bal {mx : Int → Bool} {K : Int} {S : LSt} {f d i n : Int} (hk : LOk mx K S) (hn : 1 ≤ n) (hN : n ≤ MaxU) (hf : 0 ≤ f ∧ f ≤ 4) (hd : 0 ≤ d ∧ d ≤ 4) (hi : 0 ≤ i ∧ i ≤ 1) (hs : f ≠ 0 → n ≤ totL (S.st (kOf f i))) (hl : ∀ k, (S.st k).length < 4096) (ht : S.tot i + (if f = 0 then n else 0) ≤ MaxU) (hnf : S.nf < 1000000) :
 ∃ S', moveP mx S (bsM f d i n) = .ok S' ∧ LOk mx (K + n) S' ∧ S'.nf = S.nf + 1 ∧ S'.ns = S.ns ∧ S'.now = S.now ∧ (∀ k, (S'.st k).length ≤ (S.st k).length + 1) ∧ (∀ a j : Int, 0 ≤ a → a ≤ 4 → 0 ≤ j → j ≤ 1 → totL (S'.st (kOf a j)) = totL (S.st (kOf a j)) - (if f ≠ 0 ∧ a = f ∧ j = i then n else 0) + (if a = d ∧ j = i then n else 0)) ∧ ∀ j, S'.tot j = if j = i then S.tot i + (if f = 0 then n else 0) else S.tot j := by
 obtain ⟨S', h1, h2, h3, h4⟩ := moveP_go (m := bsM f d i n) hk hn hs hl ht
 obtain ⟨k1, k2, k3, k4, k5⟩ := moveP_ok hk (show 1 ≤ (bsM f d i n).n from hn) hN hnf h1
 refine ⟨S', h1, k1, k2, k4, k5, h3, fun a j ha1 ha2 hj1 hj2 => ?_, h4⟩
 rw [h2, fromD_ne ⟨ha1, by omega⟩ ⟨hj1, by omega⟩ ⟨hf.1, by show f < _; omega⟩ ⟨hi.1, by show i < _; omega⟩, toD_ne ⟨ha1, by omega⟩ ⟨hj1, by omega⟩ ⟨hd.1, by show d < _; omega⟩ ⟨hi.1, by show i < _; omega⟩]
 rfl
theorem LgS.next {mx : Int → Bool} (hm : ∀ i, mx i = false) {j : Nat} {S : LSt} (h : LgS mx j S) (hj : j < 4) : ∃ S2, mvsP mx S [bsM 0 ((j : Int) + 1) 0 1000000, bsM 0 ((j : Int) + 1) 1 1000000] = .ok S2 ∧ LgS mx (j + 1) { S2 with ns := S.ns + 1, now := 0 } := by
 have hl := h.len
 have hM : MaxU = 1099511627776 := rfl
 have t0 := h.tot 0 (by decide) (by decide)
 have t1 := h.tot 1 (by decide) (by decide)
 obtain ⟨S1, a1, a2, a3, a4, a5, a6, a7, a8⟩ := mv_bal (f := 0) (d := (j : Int) + 1) (i := 0) (n := 1000000) h.ok (by decide) (by decide) (by decide) (by omega) (by decide) (fun e => absurd rfl e) (fun k => by have := hl k; omega) (by rw [if_pos rfl]; omega) (by have := h.nf; omega)
 obtain ⟨S2, b1, b2, b3, b4, b5, b6, b7, b8⟩ := mv_bal (f := 0) (d := (j : Int) + 1) (i := 1) (n := 1000000) a2 (by decide) (by decide) (by decide) (by omega) (by decide) (fun e => absurd rfl e) (fun k => by have := hl k; have := a6 k; omega) (by rw [if_pos rfl, a8 1, if_neg (by decide)]; omega) (by have := h.nf; omega)
 have b2' := b2.free (K' := 0) hm
 have hns := h.ns
 refine ⟨S2, mvsP_two a1 b1, ⟨b2'.ok, b2'.len, b2'.mix, b2'.tot, b2'.sh, b2'.nf, by show S.ns + 1 ≤ 60000; omega⟩, fun k => ?_, fun a i h1 h2 h3 h4 => ?_, fun i h3 h4 => ?_, ?_, ?_, rfl⟩
 ·have := hl k
  have := a6 k
  have := b6 k
  show (S2.st k).length ≤ 2 * (j + 1)
  omega
 ·show totL (S2.st (kOf a i)) = _
  rw [b7 a i (by omega) h2 h3 h4, a7 a i (by omega) h2 h3 h4, h.bal a i h1 h2 h3 h4]
  have f0 : ∀ x y : Int, (if (0 : Int) ≠ 0 ∧ a = 0 ∧ x = y then (1000000 : Int) else 0) = 0 := fun x y => if_neg (fun e => e.1 rfl)
  have g0 : (if a ≤ ((j + 1 : Nat) : Int) then (1000000 : Int) else 0) = (if a ≤ (j : Int) then 1000000 else 0) + if a = (j : Int) + 1 then 1000000 else 0 := by
   by_cases e : a = (j : Int) + 1
   ·rw [if_pos (show a ≤ ((j + 1 : Nat) : Int) by omega), if_neg (show ¬ a ≤ (j : Int) by omega), if_pos e]
    rfl
   ·rw [if_neg e]
    by_cases e2 : a ≤ (j : Int)
    ·rw [if_pos e2, if_pos (show a ≤ ((j + 1 : Nat) : Int) by omega)]
     rfl
    ·rw [if_neg e2, if_neg (show ¬ a ≤ ((j + 1 : Nat) : Int) by omega)]
     rfl
  rw [f0, f0, g0]
  rcases (show i = 0 ∨ i = 1 by omega) with rfl | rfl
  ·rw [if_neg (show ¬ (a = (j : Int) + 1 ∧ (0 : Int) = 1) from fun e => absurd e.2 (by decide))]
   have g1 : (if a = (j : Int) + 1 ∧ (0 : Int) = 0 then (1000000 : Int) else 0) = if a = (j : Int) + 1 then 1000000 else 0 := by
    by_cases e : a = (j : Int) + 1
    ·rw [if_pos ⟨e, rfl⟩, if_pos e]
    ·rw [if_neg (fun x => e x.1), if_neg e]
   rw [g1]
   omega
  ·rw [if_neg (show ¬ (a = (j : Int) + 1 ∧ (1 : Int) = 0) from fun e => absurd e.2 (by decide))]
   have g1 : (if a = (j : Int) + 1 ∧ (1 : Int) = 1 then (1000000 : Int) else 0) = if a = (j : Int) + 1 then 1000000 else 0 := by
    by_cases e : a = (j : Int) + 1
    ·rw [if_pos ⟨e, rfl⟩, if_pos e]
    ·rw [if_neg (fun x => e x.1), if_neg e]
   rw [g1]
   omega
 ·show S2.tot i = _
  rw [b8, if_pos rfl]
  rcases (show i = 0 ∨ i = 1 by omega) with rfl | rfl
  ·rw [if_neg (by decide), a8, if_pos rfl, if_pos rfl, t0]
   omega
  ·rw [if_pos rfl, a8, if_neg (by decide), t1]
   omega
 ·show S.ns + 1 = _
  omega
 ·show S2.nf = _
  have := h.nf
  omega
def subAt (g : Int → Int) (a n : Int) : Int → Int := fun x => if x = a then g x - n else g x
def addAt (g : Int → Int) (a n : Int) : Int → Int := fun x => if x = a then g x + n else g x
theorem LgB.trade {mx : Int → Bool} (hm : ∀ i, mx i = false) {T : Nat} {g r : Int → Int} {t t' : Int} {S : LSt} (h : LgB mx T g r t S) (hT : T ≤ 2000) {b s n p : Int} (hb : 1 ≤ b ∧ b ≤ 4) (hs : 1 ≤ s ∧ s ≤ 4) (hne : b ≠ s) (hn : 1 ≤ n) (hp : 1 ≤ p) (h1 : p ≤ 1000000 + g b) (h2 : n ≤ 1000000 + r s) (hn2 : n ≤ MaxU) (hp2 : p ≤ MaxU) :
 ∃ S2, mvsP mx S [bsM b s 0 p, bsM s b 1 n] = .ok S2 ∧ LgB mx (T + 1) (addAt (subAt g b p) s p) (subAt (addAt r b n) s n) t' { S2 with ns := S.ns + 1, now := t' } := by
 have hl := h.len
 have hM : MaxU = 1099511627776 := rfl
 obtain ⟨S1, a1, a2, a3, a4, a5, a6, a7, a8⟩ := mv_bal (f := b) (d := s) (i := 0) (n := p) h.ok hp hp2 (by omega) (by omega) (by decide) (fun _ => by rw [h.gold b hb.1 hb.2]; exact h1) (fun k => by have := hl k; omega) (by rw [if_neg (by omega), h.tot0]; omega) (by have := h.nf; omega)
 obtain ⟨S2, b1, b2, b3, b4, b5, b6, b7, b8⟩ := mv_bal (f := s) (d := b) (i := 1) (n := n) a2 hn hn2 (by omega) (by omega) (by decide) (fun _ => by
  rw [a7 s 1 (by omega) (by omega) (by decide) (by decide), if_neg (fun e => absurd e.2.2 (by decide)), if_neg (fun e => absurd e.2 (by decide)), h.iron s hs.1 hs.2]
  omega) (fun k => by have := hl k; have := a6 k; omega) (by rw [if_neg (by omega), a8, if_neg (by decide), h.tot1]; omega) (by have := h.nf; omega)
 have b2' := b2.free (K' := 0) hm
 have hns := h.ns
 have hnf := h.nf
 refine ⟨S2, mvsP_two a1 b1, ⟨b2'.ok, b2'.len, b2'.mix, b2'.tot, b2'.sh, b2'.nf, by show S.ns + 1 ≤ 60000; omega⟩, fun k => ?_, fun a c1 c2 => ?_, fun a c1 c2 => ?_, ?_, ?_, ?_, ?_, Int.le_refl _⟩
 ·have := hl k
  have := a6 k
  have := b6 k
  show (S2.st k).length ≤ 8 + 2 * (T + 1)
  omega
 ·show totL (S2.st (kOf a 0)) = _
  rw [b7 a 0 (by omega) c2 (by decide) (by decide), a7 a 0 (by omega) c2 (by decide) (by decide), h.gold a c1 c2, if_neg (show ¬ (s ≠ 0 ∧ a = s ∧ (0 : Int) = 1) from fun e => absurd e.2.2 (by decide)), if_neg (show ¬ (a = b ∧ (0 : Int) = 1) from fun e => absurd e.2 (by decide))]
  unfold addAt subAt
  by_cases e1 : a = b
  ·rw [if_pos ⟨by omega, e1, rfl⟩, if_neg (show ¬ (a = s ∧ (0 : Int) = 0) from fun e => hne (e1.symm.trans e.1)), if_neg (fun e => hne (e1.symm.trans e)), if_pos e1]
   omega
  ·by_cases e2 : a = s
   ·rw [if_neg (fun e => e1 e.2.1), if_pos ⟨e2, rfl⟩, if_pos e2, if_neg e1]
    omega
   ·rw [if_neg (fun e => e1 e.2.1), if_neg (fun e => e2 e.1), if_neg e2, if_neg e1]
    omega
 ·show totL (S2.st (kOf a 1)) = _
  rw [b7 a 1 (by omega) c2 (by decide) (by decide), a7 a 1 (by omega) c2 (by decide) (by decide), h.iron a c1 c2, if_neg (show ¬ (b ≠ 0 ∧ a = b ∧ (1 : Int) = 0) from fun e => absurd e.2.2 (by decide)), if_neg (show ¬ (a = s ∧ (1 : Int) = 0) from fun e => absurd e.2 (by decide))]
  unfold addAt subAt
  dsimp only
  by_cases e1 : a = b
  ·rw [if_neg (show ¬ (s ≠ 0 ∧ a = s ∧ (1 : Int) = 1) from fun e => hne (e1.symm.trans e.2.1)), if_pos ⟨e1, rfl⟩, if_neg (fun e => hne (e1.symm.trans e)), if_pos e1]
   omega
  ·by_cases e2 : a = s
   ·rw [if_pos ⟨by omega, e2, rfl⟩, if_neg (fun e => e1 e.1), if_pos e2, if_neg e1]
    omega
   ·rw [if_neg (fun e => e2 e.2.1), if_neg (fun e => e1 e.1), if_neg e2, if_neg e1]
    omega
 ·show S2.tot 0 = _
  rw [b8, if_neg (by decide), a8, if_pos rfl, if_neg (by omega), h.tot0]
  rfl
 ·show S2.tot 1 = _
  rw [b8, if_pos rfl, if_neg (by omega), a8, if_neg (by decide), h.tot1]
  rfl
 ·show S.ns + 1 = _
  omega
 ·show S2.nf = _
  omega
end Go.Proofs.YtlcalajehnaenaaGreatDoor
namespace Go.Proofs
open Go.Shelf
def Tryz.insertA_ren : Go.Shelf.Ren := ⟨fun | 21 => 78 | 27 => 159 | 28 => 160 | 35 => 194 | 39 => 218 | n => n, fun | 22 => 22 | 3 => 3 | 4 => 4 | 0 => 0 | n => n, fun | n => n⟩
theorem Tryz.insertA : Go.Proofs.Lays2.n21 Tryz.prog Tryz.insertA_ren := {
 mixed := by kernel_rfl
 f21 := Tryz.func78.trans (congrArg some (by kernel_rfl))
 f27 := Tryz.func159.trans (congrArg some (by kernel_rfl))
 f28 := Tryz.func160.trans (congrArg some (by kernel_rfl))
 f35 := Tryz.func194.trans (congrArg some (by kernel_rfl))
 f39 := Tryz.func218.trans (congrArg some (by kernel_rfl))
 t0 := Tryz.underlying0
 a0 := Tryz.isAgg0
 z0 := Tryz.sizeOf0
 v0 := Tryz.zeroValue0
 t3 := Tryz.underlying3
 a3 := Tryz.isAgg3
 z3 := Tryz.sizeOf3
 v3 := Tryz.zeroValue3
 t4 := Tryz.underlying4
 a4 := Tryz.isAgg4
 z4 := Tryz.sizeOf4
 v4 := Tryz.zeroValue4
 t22 := Tryz.underlying22
 a22 := Tryz.isAgg22
 z22 := Tryz.sizeOf22
 v22 := Tryz.zeroValue22
 i3 := by kernel_rfl }
def Tryz.sortA_ren : Go.Shelf.Ren := ⟨fun | 5 => 82 | 8 => 59 | 7 => 164 | 19 => 112 | 20 => 113 | 10 => 195 | 11 => 196 | 12 => 197 | 13 => 198 | 14 => 199 | 15 => 200 | 16 => 201 | 17 => 202 | 18 => 203 | 30 => 219 | 31 => 175 | 32 => 176 | 33 => 220 | 34 => 221 | 35 => 60 | 40 => 233 | n => n, fun | 23 => 22 | 25 => 3 | 3 => 3 | 32 => 136 | 22 => 22 | 0 => 0 | 44 => 199 | 46 => 201 | 4 => 4 | 36 => 192 | 35 => 191 | 41 => 196 | 5 => 5 | 9 => 9 | 53 => 256 | 57 => 260 | 63 => 275 | 64 => 276 | n => n, fun | n => n⟩
theorem Tryz.sortA : Go.Proofs.SlLaysM.n5 Tryz.prog Tryz.sortA_ren := {
 mixed := by kernel_rfl
 f5 := ⟨Tryz.f82.name, by decide, Tryz.func82.trans (congrArg some (by kernel_rfl))⟩
 f7 := ⟨Tryz.f164.name, by decide, Tryz.func164.trans (congrArg some (by kernel_rfl))⟩
 f8 := Tryz.func59.trans (congrArg some (by kernel_rfl))
 f10 := ⟨Tryz.f195.name, by decide, Tryz.func195.trans (congrArg some (by kernel_rfl))⟩
 f11 := ⟨Tryz.f196.name, by decide, Tryz.func196.trans (congrArg some (by kernel_rfl))⟩
 f12 := ⟨Tryz.f197.name, by decide, Tryz.func197.trans (congrArg some (by kernel_rfl))⟩
 f13 := ⟨Tryz.f198.name, by decide, Tryz.func198.trans (congrArg some (by kernel_rfl))⟩
 f14 := ⟨Tryz.f199.name, by decide, Tryz.func199.trans (congrArg some (by kernel_rfl))⟩
 f15 := ⟨Tryz.f200.name, by decide, Tryz.func200.trans (congrArg some (by kernel_rfl))⟩
 f16 := ⟨Tryz.f201.name, by decide, Tryz.func201.trans (congrArg some (by kernel_rfl))⟩
 f17 := ⟨Tryz.f202.name, by decide, Tryz.func202.trans (congrArg some (by kernel_rfl))⟩
 f18 := ⟨Tryz.f203.name, by decide, Tryz.func203.trans (congrArg some (by kernel_rfl))⟩
 f19 := Tryz.func112.trans (congrArg some (by kernel_rfl))
 f20 := Tryz.func113.trans (congrArg some (by kernel_rfl))
 f30 := ⟨Tryz.f219.name, by decide, Tryz.func219.trans (congrArg some (by kernel_rfl))⟩
 f31 := Tryz.func175.trans (congrArg some (by kernel_rfl))
 f32 := Tryz.func176.trans (congrArg some (by kernel_rfl))
 f33 := ⟨Tryz.f220.name, by decide, Tryz.func220.trans (congrArg some (by kernel_rfl))⟩
 f34 := ⟨Tryz.f221.name, by decide, Tryz.func221.trans (congrArg some (by kernel_rfl))⟩
 f35 := ⟨Tryz.f60.name, by decide, Tryz.func60.trans (congrArg some (by kernel_rfl))⟩
 f40 := ⟨Tryz.f233.name, by decide, Tryz.func233.trans (congrArg some (by kernel_rfl))⟩
 t0 := Tryz.underlying0
 a0 := Tryz.isAgg0
 z0 := Tryz.sizeOf0
 v0 := Tryz.zeroValue0
 t3 := Tryz.underlying3
 a3 := Tryz.isAgg3
 z3 := Tryz.sizeOf3
 v3 := Tryz.zeroValue3
 t4 := Tryz.underlying4
 a4 := Tryz.isAgg4
 z4 := Tryz.sizeOf4
 v4 := Tryz.zeroValue4
 t5 := Tryz.underlying5
 a5 := Tryz.isAgg5
 z5 := Tryz.sizeOf5
 v5 := Tryz.zeroValue5
 t9 := Tryz.underlying9
 a9 := Tryz.isAgg9
 z9 := Tryz.sizeOf9
 v9 := Tryz.zeroValue9
 t22 := Tryz.underlying22
 a22 := Tryz.isAgg22
 z22 := Tryz.sizeOf22
 v22 := Tryz.zeroValue22
 t23 := Tryz.underlying22
 a23 := Tryz.isAgg22
 z23 := Tryz.sizeOf22
 v23 := Tryz.zeroValue22
 t25 := Tryz.underlying3
 a25 := Tryz.isAgg3
 z25 := Tryz.sizeOf3
 v25 := Tryz.zeroValue3
 t32 := Tryz.underlying136
 a32 := Tryz.isAgg136
 z32 := Tryz.sizeOf136
 v32 := Tryz.zeroValue136
 t35 := Tryz.underlying191
 a35 := Tryz.isAgg191
 z35 := Tryz.sizeOf191
 v35 := Tryz.zeroValue191
 t36 := Tryz.underlying192
 a36 := Tryz.isAgg192
 z36 := Tryz.sizeOf192
 v36 := Tryz.zeroValue192
 t41 := Tryz.underlying196
 a41 := Tryz.isAgg196
 z41 := Tryz.sizeOf196
 v41 := Tryz.zeroValue196
 t44 := Tryz.underlying199
 a44 := Tryz.isAgg199
 z44 := Tryz.sizeOf199
 v44 := Tryz.zeroValue199
 t46 := Tryz.underlying201
 a46 := Tryz.isAgg201
 z46 := Tryz.sizeOf201
 v46 := Tryz.zeroValue201
 t53 := Tryz.underlying256
 a53 := Tryz.isAgg256
 z53 := Tryz.sizeOf256
 v53 := Tryz.zeroValue256
 t57 := Tryz.underlying260
 a57 := Tryz.isAgg260
 z57 := Tryz.sizeOf260
 v57 := Tryz.zeroValue260
 t63 := Tryz.underlying275
 a63 := Tryz.isAgg275
 z63 := Tryz.sizeOf275
 v63 := Tryz.zeroValue275
 t64 := Tryz.underlying276
 a64 := Tryz.isAgg276
 z64 := Tryz.sizeOf276
 v64 := Tryz.zeroValue276 }
def Tryz.growA_ren : Go.Shelf.Ren := ⟨fun | 4 => 163 | n => n, fun | 22 => 22 | 25 => 3 | 3 => 3 | 4 => 4 | 9 => 9 | 20 => 20 | 0 => 0 | n => n, fun | n => n⟩
theorem Tryz.growA : Go.Proofs.Lays8.n4 Tryz.prog Tryz.growA_ren := {
 mixed := by kernel_rfl
 f4 := ⟨Tryz.f163.name, by decide, Tryz.func163.trans (congrArg some (by kernel_rfl))⟩
 t0 := Tryz.underlying0
 a0 := Tryz.isAgg0
 z0 := Tryz.sizeOf0
 v0 := Tryz.zeroValue0
 t3 := Tryz.underlying3
 a3 := Tryz.isAgg3
 z3 := Tryz.sizeOf3
 v3 := Tryz.zeroValue3
 t4 := Tryz.underlying4
 a4 := Tryz.isAgg4
 z4 := Tryz.sizeOf4
 v4 := Tryz.zeroValue4
 t9 := Tryz.underlying9
 a9 := Tryz.isAgg9
 z9 := Tryz.sizeOf9
 v9 := Tryz.zeroValue9
 t20 := Tryz.underlying20
 a20 := Tryz.isAgg20
 z20 := Tryz.sizeOf20
 v20 := Tryz.zeroValue20
 t22 := Tryz.underlying22
 a22 := Tryz.isAgg22
 z22 := Tryz.sizeOf22
 v22 := Tryz.zeroValue22 }
end Go.Proofs
namespace Go.Proofs.YtlcalajehnaenaaGreatDoor
open Go.RowKit
section
variable {w w' : World} {s : Sl} {xs : List Int} {F : Nat → Prop}
end
theorem own_ty {w : World} {B e size n g : Nat} {v : Value} {xs : List Value} (h : w.ownsRow B e size v n xs) (hg : v.ownBlock = some g) : Ty w g e := by
 rcases h.2 with ⟨rfl, _⟩ | ⟨g', cap, cur, rfl, _, hh, _⟩
 ·simp [Value.ownBlock] at hg
 ·obtain rfl : g' = g := by simpa [Value.ownBlock] using hg
  exact ⟨_, _, hh⟩
theorem own_ge {w : World} {B e size n g : Nat} {v : Value} {xs : List Value} (h : w.ownsRow B e size v n xs) (hg : v.ownBlock = some g) : B ≤ g ∧ g < w.heap.size := h.lt g hg
theorem app_elem2 {P : Program} {w : World} {B t e size bytes n c : Nat} {A : Option Addr} {xs : List Value} (ty : TypeId) (hT : SlT P t e size bytes) (h : w.ownsRow B e size (.slice A n c) n xs) (cs : Array Value) (hcs : cs.size = size) (h1 : ∀ u ∈ cs.toList, u.oneCell' = true) (hn : n ≤ 1000000) (hby : bytes ≤ 64) (hB : B ≤ w.heap.size) :
 ∃ A' c' w', (Builtin.append_ #[t, t] ty #[.slice A n c, .slice (some ⟨w.heap.size, 0, none⟩) 1 1]).run P (w.alloc (.cells cs e)) = .ok (.slice A' (n + 1) c') w' ∧ w'.ownsRow B e size (.slice A' (n + 1) c') (n + 1) (xs ++ cs.toList) ∧ Below B w w' ∧ Mod (fun b => (Value.slice A n c).ownBlock = some b) w w' ∧ (∀ g, (Value.slice A' (n + 1) c').ownBlock = some g → (Value.slice A n c).ownBlock = some g ∨ w.heap.size ≤ g) := by
 have hg0 : w.grownBy (w.alloc (.cells cs e)) (Value.slice A n c).ownBlock := World.grownBy_alloc w _ _
 obtain ⟨g, cap, w', hrun, h2, h3, h4⟩ := run_append1 (ty := ty) (w := w.alloc (.cells cs e)) hT (h.alloc _) (Blk.new w e cs) hcs h1 (by omega) hby (by simp; omega)
 refine ⟨_, _, w', hrun, h2, own_below h (hg0.trans h3) hB, Mod.of_grown (hg0.trans h3) (fun g hg => .inl hg), fun g' hg' => ?_⟩
 obtain rfl : g = g' := by simpa [Value.ownBlock] using hg'
 rcases h4 with h4 | h4
 ·exact .inl h4.symm
 ·simp at h4
  exact .inr (by omega)
theorem OwnI.len {w : World} {B n c : Nat} {A : Option Addr} {xs : List Int} (h : OwnI w B A n c xs) : xs.length = n := by
 have := h.1
 simpa using this
theorem Blk.new' {g : Nat} (w : World) (t : TypeId) (cs : Array Value) (h : g = w.heap.size) : Blk (w.alloc (.cells cs t)) g t cs := by rw [h]; exact Blk.new _ _ _
end Go.Proofs.YtlcalajehnaenaaGreatDoor
namespace Go.Proofs.YtlcalajehnaenaaGreatDoor
open Go.RowKit
structure Ord where
 id : Int
 acc : Int
 buy : Bool
 price : Int
 n : Int
 left : Int
def Ord.cells (x : Ord) : List Value := [.int .i64 x.id, .int .i64 x.acc, .bool x.buy, .int .i64 x.price, .int .i64 x.n, .int .i64 x.left]
theorem Ord.cells_length (x : Ord) : x.cells.length = 6 := rfl
def ord0 : Ord := ⟨0, 0, false, 0, 0, 0⟩
def ordAt (os : List Ord) (i : Nat) : Ord := (os[i]?).getD ord0
theorem ordAt_eq {os : List Ord} {i : Nat} (h : i < os.length) : ordAt os i = os[i] := by unfold ordAt; rw [List.getElem?_eq_getElem h]; rfl
structure Trd where
 buy : Int
 sell : Int
 price : Int
 n : Int
def Trd.cells (x : Trd) : List Value := [.int .i64 x.buy, .int .i64 x.sell, .int .i64 x.price, .int .i64 x.n]
theorem Trd.cells_length (x : Trd) : x.cells.length = 4 := rfl
def betterB (buy : Bool) (x y : Ord) : Bool := if buy then decide (y.price < x.price) || (decide (x.price = y.price) && decide (x.id < y.id)) else decide (x.price < y.price) || (decide (x.price = y.price) && decide (x.id < y.id))
def acceptsB (x y : Ord) : Bool := if x.buy then decide (y.price ≤ x.price) else decide (x.price ≤ y.price)
def placeN (os : List Ord) (l : List Nat) (o : Ord) : Nat := l.findIdx fun id => !betterB o.buy (ordAt os id) o
def SortedB (os : List Ord) (buy : Bool) (l : List Nat) : Prop := l.Pairwise fun a b => betterB buy (ordAt os a) (ordAt os b) = true
def Ord.less (x : Ord) (m : Int) : Ord := ⟨x.id, x.acc, x.buy, x.price, x.n, x.left - m⟩
def trdOf (o y : Ord) (m : Int) : Trd := if o.buy then ⟨o.id, y.id, y.price, m⟩ else ⟨y.id, o.id, y.price, m⟩
def matchP : List Ord → Ord → List Nat → List Trd × Ord × List Ord × List Nat
 | os, o, [] => ([], o, os, [])
 | os, o, id :: t =>
   if 0 < o.left ∧ acceptsB o (ordAt os id) = true then
    if (ordAt os id).acc = o.acc then matchP os o t
    else if (ordAt os id).left - min o.left (ordAt os id).left = 0 then
     (trdOf o (ordAt os id) (min o.left (ordAt os id).left) :: (matchP (os.set id ((ordAt os id).less (min o.left (ordAt os id).left))) (o.less (min o.left (ordAt os id).left)) t).1, (matchP (os.set id ((ordAt os id).less (min o.left (ordAt os id).left))) (o.less (min o.left (ordAt os id).left)) t).2)
    else ([trdOf o (ordAt os id) (min o.left (ordAt os id).left)], o.less (min o.left (ordAt os id).left), os.set id ((ordAt os id).less (min o.left (ordAt os id).left)), id :: t)
   else ([], o, os, id :: t)
structure BkS where
 os : List Ord
 bs : List Nat
 ss : List Nat
def BkS.side (b : BkS) (buy : Bool) : List Nat := if buy then b.bs else b.ss
def BkS.put (b : BkS) (buy : Bool) (l : List Nat) : BkS := if buy then ⟨b.os, l, b.ss⟩ else ⟨b.os, b.bs, l⟩
def BkS.setOs (b : BkS) (os : List Ord) : BkS := ⟨os, b.bs, b.ss⟩
def inR (n : Int) : Bool := decide (1 ≤ n) && decide (n ≤ 1099511627776)
def placeErr (b : BkS) (acc price n : Int) : Int :=
 if acc < 1 ∨ 1073741824 < acc then 1
 else if inR price = false ∨ inR n = false ∨ (1099511627776 : Int).tdiv n < price then 5
 else if 4096 ≤ b.bs.length + b.ss.length then 4 else 0
def BkS.opened (b : BkS) (o : Ord) : BkS := b.put o.buy ((b.side o.buy).take (placeN b.os (b.side o.buy) o) ++ [o.id.toNat] ++ (b.side o.buy).drop (placeN b.os (b.side o.buy) o))
def placeS (b : BkS) (acc : Int) (buy : Bool) (price n : Int) : List Trd × BkS :=
 let r := matchP b.os ⟨b.os.length, acc, buy, price, n, n⟩ (b.side !buy)
 let c : BkS := (b.put (!buy) r.2.2.2).setOs (r.2.2.1 ++ [r.2.1])
 (r.1, if 0 < r.2.1.left then c.opened r.2.1 else c)
structure BkS.Ok (b : BkS) : Prop where
 ids : ∀ k : Nat, k < b.os.length → (ordAt b.os k).id = (k : Int)
 rng : ∀ k : Nat, k < b.os.length → 1 ≤ (ordAt b.os k).price ∧ (ordAt b.os k).price ≤ 1099511627776 ∧ 1 ≤ (ordAt b.os k).n ∧ (ordAt b.os k).n ≤ 1099511627776 ∧ 0 ≤ (ordAt b.os k).left ∧ (ordAt b.os k).left ≤ (ordAt b.os k).n ∧ 1 ≤ (ordAt b.os k).acc ∧ (ordAt b.os k).acc ≤ 1073741824 ∧ (ordAt b.os k).price * (ordAt b.os k).n ≤ 1099511627776
 mem : ∀ (buy : Bool) (k : Nat), k ∈ b.side buy → k < b.os.length ∧ (ordAt b.os k).buy = buy ∧ 0 < (ordAt b.os k).left
 sorted : ∀ buy : Bool, SortedB b.os buy (b.side buy)
 few : b.bs.length + b.ss.length ≤ 4096
end Go.Proofs.YtlcalajehnaenaaGreatDoor
