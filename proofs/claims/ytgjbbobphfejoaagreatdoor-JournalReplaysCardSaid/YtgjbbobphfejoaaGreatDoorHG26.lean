/- ledger: move, of moves without parts. -/
import Derived.Test.YtgjbbobphfejoaaGreatDoorHLdMvA
import Derived.Test.YtgjbbobphfejoaaGreatDoorHLdMvB
import Derived.Test.YtgjbbobphfejoaaGreatDoorHLdMvC
import Derived.Test.YtgjbbobphfejoaaGreatDoorHLdMvD
import Derived.Test.YtgjbbobphfejoaaGreatDoorHLdValid
import Derived.Test.YtgjbbobphfejoaaGreatDoorHG6
import Derived.StillTailTactics
import Derived.Test.YtgjbbobphfejoaaGreatDoorHG2
import Derived.Test.YtgjbbobphfejoaaGreatDoorHG15
import Derived.Test.YtgjbbobphfejoaaGreatDoorHG7
import Derived.BigRegion
import Derived.RegionTactic

namespace Go.Proofs.YtgjbbobphfejoaaGreatDoor
open Go.RowKit

theorem move_any {mx : Int → Bool} {K : Int} {L : Led} {S0 S : LSt} {C : Chg} (m : Mv) (w0 w : World) (HC : Hid (ChAt w0.heap.size w L S0 S C)) (HL : Hid (LedAt mx w0 L S0)) (HB : Hid (Below w0.heap.size w0 w)) (HO : Hid (LOk mx K S)) (HM : Hid (MvOk L.it.2.1 m)) (hK : K ≤ 1073741824) (hgl : L.it.2.1 ≤ 64) (hkd : C.kind = 0 ∨ C.kind = 2) (hnf : S.nf < 1000000) :
    Calls Tryz.prog 73 #[.pointer (some ⟨C.gc, 0, none⟩), mvA m] w (MovePost mx w0 w L S0 S C m) := by
  have h0 := HM.out.f0
  rcases Int.lt_or_le m.frm 1 with hz | hz
  · have hz : m.frm = 0 := by omega
    cases hl : C.ts.lookup m.item with
    | some v => exact moveA m w0 w HC HL HB HO HM hK hgl hkd hnf hz (Lib.hid ⟨v, hl⟩)
    | none => exact moveB m w0 w HC HL HB HO HM hK hgl hkd hnf hz (Lib.hid hl)
  · cases hl : C.ts.lookup m.item with
    | some v => exact moveC m w0 w HC HL HB HO HM hK hgl hkd hnf hz (Lib.hid ⟨v, hl⟩)
    | none => exact moveD m w0 w HC HL HB HO HM hK hgl hkd hnf hz (Lib.hid hl)
end Go.Proofs.YtgjbbobphfejoaaGreatDoor

/- slices.Clone of items, copies.Catalog, worldmintref22.Catalog. -/
namespace Go.Proofs.YtgjbbobphfejoaaGreatDoor
open Go.RowKit

theorem slT_item : SlT Tryz.prog 33 90 7 48 := SlT.of Tryz.underlying33 (by kernel_rfl) (by decide)
theorem ItAt.news {w : World} {A : Option Addr} {n c : Nat} {is : List Itm} (h : ItAt w A n c is) : ∀ ad, A = some ad → ∀ j u, (is.flatMap itV)[j]? = some u → w.cell? (ad.add j) = some u := by
  intro ad e j u hu
  have hj : j < (is.flatMap itV).length := (List.getElem?_eq_some_iff.1 hu).1
  obtain ⟨b, off, e2, -, -, hc⟩ := h.2.2.2.cells (by omega)
  rw [e] at e2
  injection e2 with e2
  subst e2
  have e3 : (⟨b, off, none⟩ : Addr).add j = ⟨b, off + j, none⟩ := by simp [Addr.add]
  rw [e3, hc j hj, hu]
theorem items_one (is : List Itm) : ∀ u ∈ is.flatMap itV, u.oneCell' = true := by
  intro u hu
  rw [List.mem_flatMap] at hu
  obtain ⟨l, -, hu⟩ := hu
  simp only [itV, List.mem_cons, List.not_mem_nil, or_false] at hu
  rcases hu with rfl | rfl | rfl | rfl | rfl | rfl | rfl <;> rfl
theorem ItAt.of_own {w : World} {B n c : Nat} {A : Option Addr} {is : List Itm} (h : w.ownsRow B 90 7 (.slice A n c) n (is.flatMap itV)) (hl : is.length = n) : ItAt w A n c is := by
  refine ⟨hl, ?_, ?_, RowT.of_own h⟩
  all_goals
    rcases h.2 with ⟨h2, hn⟩ | ⟨g, cap, cur, h2, _, hh, hnc, hm, hcs, htk⟩
    · injection h2 with _ e1 e2
      omega
    · injection h2 with _ e1 e2
      first | omega | (have := hm; omega) | (unfold maxLen at *; omega)
set_option maxRecDepth 100000 in
theorem cloneI_any (ad : Addr) (n c : Nat) (is : List Itm) (w : World) (HL : Hid (ItAt w (some ad) n c is)) (hn : n ≤ 1000000) :
    Calls Tryz.prog 61 #[.slice (some ad) n c] w fun e w' => ∃ A' c', e = .returned (.slice A' n c') ∧ ItAt w' A' n c' is ∧ Below w.heap.size w w' := by
  have hB := (Below.refl w.heap.size w).alloc (Nat.le_refl _) (.cells #[] 90)
  obtain ⟨A', c', w', hap, hown, hb⟩ := app_cells (w := w.alloc (.cells #[] 90)) (base := w.heap.size) (ty := 33) slT_item (World.ownsRow_made w #[] 0 (Nat.le_refl _) (by decide) rfl) (some ad) n c (is.flatMap itV) (by rw [flatT_length itV 7 itV_len, HL.out.1]) (by intro h; cases h) (HL.out.all hB).news (items_one is) (by omega) (by decide) (by simp)
  simp only [Nat.zero_add, List.nil_append] at hap hown
  have HA := Lib.hid hap
  have HO := Lib.hid hown
  have HB : Hid (Below w.heap.size w w') := Lib.hid (hB.trans hb)
  clear hap hown hb hB
  have hq := Lib.run_eql_slice_nil (P := Tryz.prog) w 33 90 (some ad) n c 0 0 Tryz.underlying33
  go_enter Tryz.func61, Tryz.ntmps61
  go_wp2_with (at_builtin; refine wpList_append_run HA.out rfl rfl rfl rfl ?_)
  go_ret
  exact ⟨A', c', rfl, ItAt.of_own HO.out HL.out.1, HB.out⟩
def refItems : List Itm := [⟨⟨#[103, 111, 108, 100]⟩, false, true⟩, ⟨⟨#[111, 114, 101]⟩, false, false⟩, ⟨⟨#[100, 117, 115, 116]⟩, true, false⟩, ⟨⟨#[103, 101, 109]⟩, false, false⟩]
theorem refItems_ok : CatOk refItems where
  word := by
    intro i hi
    simp only [refItems, List.mem_cons, List.not_mem_nil, or_false] at hi
    rcases hi with rfl | rfl | rfl | rfl
    all_goals exact ⟨by decide, by decide, by decide⟩
  nd := by decide
  len := by decide
set_option maxRecDepth 100000 in
theorem refCat_any (w : World) : Calls Tryz.prog 7 #[] w fun e w' => ∃ ad, e = .returned (catA (some ad) 4 4) ∧ ItAt w' (some ad) 4 4 refItems ∧ Below w.heap.size w w' := by
  unfold catA
  go_enter Tryz.func7, Tryz.ntmps7
  go_wp2
  have hb := ((Below.refl w.heap.size w).alloc (Nat.le_refl _) (.cells #[.slice (some ⟨w.heap.size + 1, 0, none⟩) 4 4, .slice none 0 0, .slice none 0 0, .slice none 0 0] 38)).alloc (by simp) (.cells #[.string ⟨#[103, 111, 108, 100]⟩, .bool false, .bool false, .bool true, .int .i64 0, .int .i64 0, .int .i64 0, .string ⟨#[111, 114, 101]⟩, .bool false, .bool false, .bool false, .int .i64 0, .int .i64 0, .int .i64 0, .string ⟨#[100, 117, 115, 116]⟩, .bool false, .bool true, .bool false, .int .i64 0, .int .i64 0, .int .i64 0, .string ⟨#[103, 101, 109]⟩, .bool false, .bool false, .bool false, .int .i64 0, .int .i64 0, .int .i64 0] 90)
  have k1 := Blk.alloc (Blk.new w 38 #[.slice (some ⟨w.heap.size + 1, 0, none⟩) 4 4, .slice none 0 0, .slice none 0 0, .slice none 0 0]) (.cells #[.string ⟨#[103, 111, 108, 100]⟩, .bool false, .bool false, .bool true, .int .i64 0, .int .i64 0, .int .i64 0, .string ⟨#[111, 114, 101]⟩, .bool false, .bool false, .bool false, .int .i64 0, .int .i64 0, .int .i64 0, .string ⟨#[100, 117, 115, 116]⟩, .bool false, .bool true, .bool false, .int .i64 0, .int .i64 0, .int .i64 0, .string ⟨#[103, 101, 109]⟩, .bool false, .bool false, .bool false, .int .i64 0, .int .i64 0, .int .i64 0] 90)
  have k2 : Blk ((w.alloc (.cells #[.slice (some ⟨w.heap.size + 1, 0, none⟩) 4 4, .slice none 0 0, .slice none 0 0, .slice none 0 0] 38)).alloc (.cells #[.string ⟨#[103, 111, 108, 100]⟩, .bool false, .bool false, .bool true, .int .i64 0, .int .i64 0, .int .i64 0, .string ⟨#[111, 114, 101]⟩, .bool false, .bool false, .bool false, .int .i64 0, .int .i64 0, .int .i64 0, .string ⟨#[100, 117, 115, 116]⟩, .bool false, .bool true, .bool false, .int .i64 0, .int .i64 0, .int .i64 0, .string ⟨#[103, 101, 109]⟩, .bool false, .bool false, .bool false, .int .i64 0, .int .i64 0, .int .i64 0] 90)) (w.heap.size + 1) 90 (refItems.flatMap itV).toArray := Blk.new0 (g := w.heap.size + 1) (w.alloc (.cells #[.slice (some ⟨w.heap.size + 1, 0, none⟩) 4 4, .slice none 0 0, .slice none 0 0, .slice none 0 0] 38)) 90 #[.string ⟨#[103, 111, 108, 100]⟩, .bool false, .bool false, .bool true, .int .i64 0, .int .i64 0, .int .i64 0, .string ⟨#[111, 114, 101]⟩, .bool false, .bool false, .bool false, .int .i64 0, .int .i64 0, .int .i64 0, .string ⟨#[100, 117, 115, 116]⟩, .bool false, .bool true, .bool false, .int .i64 0, .int .i64 0, .int .i64 0, .string ⟨#[103, 101, 109]⟩, .bool false, .bool false, .bool false, .int .i64 0, .int .i64 0, .int .i64 0] (by simp)
  obtain ⟨w2, hw2⟩ : ∃ w2, ((w.alloc (.cells #[.slice (some ⟨w.heap.size + 1, 0, none⟩) 4 4, .slice none 0 0, .slice none 0 0, .slice none 0 0] 38)).alloc (.cells #[.string ⟨#[103, 111, 108, 100]⟩, .bool false, .bool false, .bool true, .int .i64 0, .int .i64 0, .int .i64 0, .string ⟨#[111, 114, 101]⟩, .bool false, .bool false, .bool false, .int .i64 0, .int .i64 0, .int .i64 0, .string ⟨#[100, 117, 115, 116]⟩, .bool false, .bool true, .bool false, .int .i64 0, .int .i64 0, .int .i64 0, .string ⟨#[103, 101, 109]⟩, .bool false, .bool false, .bool false, .int .i64 0, .int .i64 0, .int .i64 0] 90)) = w2 := ⟨_, rfl⟩
  rw [hw2] at hb k1 k2 ⊢
  clear hw2
  have hI : ItAt w2 (some ⟨w.heap.size + 1, 0, none⟩) 4 4 refItems := ⟨rfl, by decide, by decide, fun _ => ⟨_, 0, _, _, rfl, k2, fun j _ => by rw [Nat.zero_add, List.getElem?_toArray]⟩⟩
  have c0 := k1.cell 0
  have c1 := k1.cell 1
  have c2 := k1.cell 2
  have c3 := k1.cell 3
  simp at c0 c1 c2 c3
  refine bodyPost_ret (v := .agg #[.slice (some ⟨w.heap.size + 1, 0, none⟩) 4 4, .slice none 0 0, .slice none 0 0, .slice none 0 0]) (by simp [results, Tryz.results7, go_sem, c0, c1, c2, c3]) rfl ⟨_, rfl, hI, hb⟩
end Go.Proofs.YtgjbbobphfejoaaGreatDoor

/- copies.Catalog, of a catalog with items alone. -/
namespace Go.Proofs.YtgjbbobphfejoaaGreatDoor
open Go.RowKit

set_option maxRecDepth 100000 in
set_option maxHeartbeats 4000000 in
theorem copyCat_any (ad : Addr) (n c : Nat) (is : List Itm) (w : World) (HI : Hid (ItAt w (some ad) n c is)) (hn : n ≤ 1000000) :
    Calls Tryz.prog 29 #[catA (some ad) n c] w fun e w' => ∃ A' c', e = .returned (catA A' n c') ∧ ItAt w' A' n c' is ∧ Below w.heap.size w w' := by
  unfold catA
  have hb := ((Below.refl w.heap.size w).alloc (Nat.le_refl _) (.cells #[.slice (some ad) n c, .slice none 0 0, .slice none 0 0, .slice none 0 0] 38)).alloc (by simp) (.cells #[.slice none 0 0, .slice none 0 0, .slice none 0 0, .slice none 0 0] 38)
  have k1 := Blk.alloc (Blk.new w 38 #[.slice (some ad) n c, .slice none 0 0, .slice none 0 0, .slice none 0 0]) (.cells #[.slice none 0 0, .slice none 0 0, .slice none 0 0, .slice none 0 0] 38)
  have k2 : Blk ((w.alloc (.cells #[.slice (some ad) n c, .slice none 0 0, .slice none 0 0, .slice none 0 0] 38)).alloc (.cells #[.slice none 0 0, .slice none 0 0, .slice none 0 0, .slice none 0 0] 38)) (w.heap.size + 1) 38 #[.slice none 0 0, .slice none 0 0, .slice none 0 0, .slice none 0 0] := Blk.new0 (g := w.heap.size + 1) _ _ _ (by simp)
  go_enter Tryz.func29, Tryz.ntmps29
  go_wp2_with fail
  obtain ⟨w2, hw2⟩ : ∃ w2, ((w.alloc (.cells #[.slice (some ad) n c, .slice none 0 0, .slice none 0 0, .slice none 0 0] 38)).alloc (.cells #[.slice none 0 0, .slice none 0 0, .slice none 0 0, .slice none 0 0] 38)) = w2 := ⟨_, rfl⟩
  obtain ⟨b, hbb⟩ : ∃ b, w.heap.size = b := ⟨_, rfl⟩
  rw [hw2] at hb k1 k2 ⊢
  rw [hbb] at k1 k2 ⊢
  have HBB := Lib.hid hbb
  have lb := k1.lt
  have hkeep : ∀ y, Below w2.heap.size w2.drew y → (fun y => y.cell? ⟨b, 0, none⟩ = some (.slice (some ad) n c) ∧ y.cell? ⟨b, 1, none⟩ = some (.slice none 0 0) ∧ y.cell? ⟨b, 2, none⟩ = some (.slice none 0 0) ∧ y.cell? ⟨b, 3, none⟩ = some (.slice none 0 0)) y := fun y hy => ⟨(hy.cell (p := ⟨b, 0, none⟩) lb).trans (k1.cell 0), (hy.cell (p := ⟨b, 1, none⟩) lb).trans (k1.cell 1), (hy.cell (p := ⟨b, 2, none⟩) lb).trans (k1.cell 2), (hy.cell (p := ⟨b, 3, none⟩) lb).trans (k1.cell 3)⟩
  have hS : (fun y => y.cell? ⟨b, 0, none⟩ = some (.slice (some ad) n c) ∧ y.cell? ⟨b, 1, none⟩ = some (.slice none 0 0) ∧ y.cell? ⟨b, 2, none⟩ = some (.slice none 0 0) ∧ y.cell? ⟨b, 3, none⟩ = some (.slice none 0 0)) w2.drew := hkeep _ (Below.refl w2.heap.size w2.drew)
  have HI2 : Hid (ItAt w2.drew (some ad) n c is) := Lib.hid (HI.out.all hb.drew)
  have HB2 := Lib.hid hb
  have HK2 : Hid (Blk w2.drew (b + 1) 38 #[.slice none 0 0, .slice none 0 0, .slice none 0 0, .slice none 0 0]) := Lib.hid k2
  clear hw2 hbb k1 k2 lb hb
  refine beginG (S := (fun y => y.cell? ⟨b, 0, none⟩ = some (.slice (some ad) n c) ∧ y.cell? ⟨b, 1, none⟩ = some (.slice none 0 0) ∧ y.cell? ⟨b, 2, none⟩ = some (.slice none 0 0) ∧ y.cell? ⟨b, 3, none⟩ = some (.slice none 0 0))) 13 (by kernel_rfl) hS (fun hHeld => ?_)
  refine takeG 0 (some 3) (v := ?_) (by rfl) (by rfl) (by kernel_rfl) (by kernel_rfl) (by decide) (by kernel_rfl) (by kernel_rfl) (fun _ _ _ h => h) ?_ (by assumption) ?_
  rotate_left
  · (intro o ho w hSw; obtain ⟨z0, z1, z2, z3⟩ := hSw; cases ho; go_simp; try with_reducible rfl)
  try simp only [Act.put, pB, pC, pD]
  refine takeG 1 (some 4) (v := ?_) (by rfl) (by rfl) (by kernel_rfl) (by kernel_rfl) (by decide) (by kernel_rfl) (by kernel_rfl) (fun _ _ _ h => h) ?_ (by assumption) ?_
  rotate_left
  · (intro o ho w hSw; obtain ⟨z0, z1, z2, z3⟩ := hSw; cases ho; go_simp; try with_reducible rfl)
  try simp only [Act.put, pB, pC, pD]
  refine takeG 3 (some 6) (v := ?_) (by rfl) (by rfl) (by kernel_rfl) (by kernel_rfl) (by decide) (by kernel_rfl) (by kernel_rfl) (fun _ _ _ h => h) ?_ (by assumption) ?_
  rotate_left
  · (intro o ho w hSw; obtain ⟨z0, z1, z2, z3⟩ := hSw; cases ho; go_simp; try with_reducible rfl)
  try simp only [Act.put, pB, pC, pD]
  refine takeG 4 (some 7) (v := ?_) (by rfl) (by rfl) (by kernel_rfl) (by kernel_rfl) (by decide) (by kernel_rfl) (by kernel_rfl) (fun _ _ _ h => h) ?_ (by assumption) ?_
  rotate_left
  · (intro o ho w hSw; obtain ⟨z0, z1, z2, z3⟩ := hSw; cases ho; go_simp; try with_reducible rfl)
  try simp only [Act.put, pB, pC, pD]
  refine takeG 6 (some 9) (v := ?_) (by rfl) (by rfl) (by kernel_rfl) (by kernel_rfl) (by decide) (by kernel_rfl) (by kernel_rfl) (fun _ _ _ h => h) ?_ (by assumption) ?_
  rotate_left
  · (intro o ho w hSw; obtain ⟨z0, z1, z2, z3⟩ := hSw; cases ho; go_simp; try with_reducible rfl)
  try simp only [Act.put, pB, pC, pD]
  refine takeG 7 (some 10) (v := ?_) (by rfl) (by rfl) (by kernel_rfl) (by kernel_rfl) (by decide) (by kernel_rfl) (by kernel_rfl) (fun _ _ _ h => h) ?_ (by assumption) ?_
  rotate_left
  · (intro o ho w hSw; obtain ⟨z0, z1, z2, z3⟩ := hSw; cases ho; go_simp; try with_reducible rfl)
  try simp only [Act.put, pB, pC, pD]
  refine takeG 9 (some 12) (v := ?_) (by rfl) (by rfl) (by kernel_rfl) (by kernel_rfl) (by decide) (by kernel_rfl) (by kernel_rfl) (fun _ _ _ h => h) ?_ (by assumption) ?_
  rotate_left
  · (intro o ho w hSw; obtain ⟨z0, z1, z2, z3⟩ := hSw; cases ho; go_simp; try with_reducible rfl)
  try simp only [Act.put, pB, pC, pD]
  refine takeG 10 (some 13) (v := ?_) (by rfl) (by rfl) (by kernel_rfl) (by kernel_rfl) (by decide) (by kernel_rfl) (by kernel_rfl) (fun _ _ _ h => h) ?_ (by assumption) ?_
  rotate_left
  · (intro o ho w hSw; obtain ⟨z0, z1, z2, z3⟩ := hSw; cases ho; go_simp; try with_reducible rfl)
  try simp only [Act.put, pB, pC, pD]
  refine readyG (i := 2) (by kernel_rfl) rfl (fun K hK => ?_)
  go_simp
  go_at_call 61
  (refine (cloneI_any ad n c is _ HI2 hn).mono ?_)
  rintro e w3 ⟨A', c', rfl, hI3, hb3⟩
  have HI3 := Lib.hid hI3
  have HB3 := Lib.hid hb3
  have k4 := HK2.out.all hb3
  have r0 := k4.cell 0
  have r1 := k4.cell 1
  have r2 := k4.cell 2
  have r3 := k4.cell 3
  have f0 := k4.frozen 0
  have f1 := k4.frozen 1
  have f2 := k4.frozen 2
  have f3 := k4.frozen 3
  simp at r0 r1 r2 r3
  have HK4 := Lib.hid k4
  have hS3 := hkeep _ hb3
  clear hI3 hb3 k4
  go_wp2
  refine hK.out _ _ ?_ (fun hH2 => ?_)
  · exact hS3
  clear hK K
  try simp only [Act.put, pB, pC, pD]
  refine readyG (i := 5) (by kernel_rfl) rfl (fun K hK => ?_)
  go_simp
  go_at_call 62
  (refine (eachRule_nil _ _).mono ?_)
  rintro e w4 ⟨rfl, hw4⟩
  rw [hw4]
  clear hw4
  go_wp2
  refine hK.out _ _ ?_ (fun hH5 => ?_)
  · exact hS3
  clear hK K
  try simp only [Act.put, pB, pC, pD]
  refine readyG (i := 8) (by kernel_rfl) rfl (fun K hK => ?_)
  go_simp
  go_at_call 64
  (refine (eachTable_nil _ _).mono ?_)
  rintro e w4 ⟨rfl, hw4⟩
  rw [hw4]
  clear hw4
  go_wp2
  refine hK.out _ _ ?_ (fun hH8 => ?_)
  · exact hS3
  clear hK K
  try simp only [Act.put, pB, pC, pD]
  refine readyG (i := 11) (by kernel_rfl) rfl (fun K hK => ?_)
  go_simp
  go_at_call 66
  (refine (eachTax_nil _ _).mono ?_)
  rintro e w4 ⟨rfl, hw4⟩
  rw [hw4]
  clear hw4
  go_wp2
  refine hK.out _ _ ?_ (fun hH11 => ?_)
  · exact hS3
  clear hK K
  try simp only [Act.put, pB, pC, pD]
  refine takeG 12 (some 15) (v := ?_) (by rfl) (by rfl) (by kernel_rfl) (by kernel_rfl) (by decide) (by kernel_rfl) (by kernel_rfl) (fun _ _ _ h => h) ?_ (by assumption) ?_
  rotate_left
  · (intro o ho w hSw; obtain ⟨z0, z1, z2, z3⟩ := hSw; cases ho; go_simp; try with_reducible rfl)
  try simp only [Act.put, pB, pC, pD]
  refine lastG (by kernel_rfl) rfl (fun K hK => ?_)
  go_simp
  refine hK.out _ _ ?_
  clear hK K
  (try simp only [Act.put]); (try simp only [pB]); (try simp only [pD]); (try simp only [pC])
  refine doneG (by kernel_rfl) ?_ _
  go_wp2
  have hk := (((HK4.out.set_ 0 (.slice A' n c')).set_ 1 (.slice none 0 0)).set_ 2 (.slice none 0 0)).set_ 3 (.slice none 0 0)
  simp only [List.setIfInBounds_toArray, List.set_cons_zero, List.set_cons_succ] at hk
  have hm : Mod (fun q => q = b + 1) w3 ((((w3.setCell ⟨b + 1, 0, none⟩ (.slice A' n c')).setCell ⟨b + 1, 1, none⟩ (.slice none 0 0)).setCell ⟨b + 1, 2, none⟩ (.slice none 0 0)).setCell ⟨b + 1, 3, none⟩ (.slice none 0 0)) := ((((Mod.refl (fun q => q = b + 1) w3).set (p := ⟨b + 1, 0, none⟩) (.inl rfl) _).set (p := ⟨b + 1, 1, none⟩) (.inl rfl) _).set (p := ⟨b + 1, 2, none⟩) (.inl rfl) _).set (p := ⟨b + 1, 3, none⟩) (.inl rfl) _
  have hI := HI3.out.mod hm (fun q hq => by subst hq; exact fun h => absurd (Ty.unique HK4.out.ty h) (by decide))
  have hb3 : Below w.heap.size w w3 := HB2.out.drew.trans (HB3.out.mono HB2.out.drew.size)
  have hbw := hm.below hb3 hb3.size (fun q hq => by subst hq; rw [HBB.out]; exact Nat.le_succ _)
  generalize ((((w3.setCell ⟨b + 1, 0, none⟩ (.slice A' n c')).setCell ⟨b + 1, 1, none⟩ (.slice none 0 0)).setCell ⟨b + 1, 2, none⟩ (.slice none 0 0)).setCell ⟨b + 1, 3, none⟩ (.slice none 0 0)) = w5 at hk hI hbw ⊢
  have c0 := hk.cell 0
  have c1 := hk.cell 1
  have c2 := hk.cell 2
  have c3 := hk.cell 3
  simp at c0 c1 c2 c3
  refine bodyPost_ret (v := .agg #[.slice A' n c', .slice none 0 0, .slice none 0 0, .slice none 0 0]) (by simp [results, Tryz.results29, go_sem, c0, c1, c2, c3]) rfl ⟨A', c', rfl, hI, hbw⟩
end Go.Proofs.YtgjbbobphfejoaaGreatDoor

/- ledger.New. -/
namespace Go.Proofs.YtgjbbobphfejoaaGreatDoor
open Go.RowKit

def mxOf (is : List Itm) (i : Int) : Bool := match is[i.toNat]? with | some x => x.mx | none => false
theorem ItAt.items {w : World} {A : Option Addr} {n c : Nat} {is : List Itm} (h : ItAt w A n c is) : ItemsAt w (A, n, c) (mxOf is) := by
  refine ⟨is.flatMap itV, by rw [flatT_length itV 7 itV_len, h.1], h.2.2.2, fun i hi => ?_⟩
  have hi : i < is.length := by rw [h.1]; exact hi
  rw [flatT_at itV 7 itV_len is i 2 hi (by decide)]
  unfold mxOf
  rw [show (i : Int).toNat = i from rfl, List.getElem?_eq_getElem hi]
  rfl
def lst0 (sh : Nat) : LSt := ⟨fun _ => [], fun _ => 0, sh, 0, 0, 0⟩
def LNewPost (mx : Int → Bool) (sh n : Nat) (w : World) (e : Ending) (w' : World) : Prop := ∃ L : Led, e = .returned (.tuple #[.pointer (some ⟨L.gl, 0, none⟩), .int .i64 0]) ∧ LedAt mx w' L (lst0 sh) ∧ L.it.2.1 = n ∧ L.es = [] ∧ (∀ b, LedF L b → w.heap.size ≤ b) ∧ Below w.heap.size w w'
def newLW (w3 : World) (sh n c : Nat) (A : Option Addr) : World :=
  ((((w3.alloc (.map #[] 0)).alloc (.map #[] 0)).alloc (.map #[] 0)).alloc (.map #[] 0)).alloc (.cells #[.int .i64 (sh : Int), .slice A n c, .slice none 0 0, .slice none 0 0, .slice none 0 0, .map (some w3.heap.size), .map (some (w3.heap.size + 1)), .slice none 0 0, .slice none 0 0, .map (some (w3.heap.size + 1 + 1)), .map (some (w3.heap.size + 1 + 1 + 1))] 88)
def newLed (w3 : World) (n c : Nat) (A : Option Addr) : Led := ⟨w3.heap.size + 1 + 1 + 1 + 1, w3.heap.size, w3.heap.size + 1, w3.heap.size + 1 + 1, w3.heap.size + 1 + 1 + 1, (A, n, c), .slice none 0 0, .slice none 0 0, .slice none 0 0, (none, 0, 0), (none, 0, 0), [], []⟩
theorem LedAt.new {w3 : World} {sh n c : Nat} {A : Option Addr} {is : List Itm} (hI : ItAt w3 A n c is) : LedAt (mxOf is) (newLW w3 sh n c A) (newLed w3 n c A) (lst0 sh) ∧ Below w3.heap.size w3 (newLW w3 sh n c A) ∧ ∀ b, LedF (newLed w3 n c A) b → w3.heap.size ≤ b := by
  obtain ⟨M, hM⟩ : ∃ M : Obj, M = .map #[] 0 := ⟨_, rfl⟩
  unfold newLW
  rw [← hM]
  obtain ⟨p, hp⟩ : ∃ p, w3.heap.size = p := ⟨_, rfl⟩
  have s1 : (w3.alloc M).heap.size = p + 1 := by simp [hp]
  have s2 : ((w3.alloc M).alloc M).heap.size = p + 1 + 1 := by simp [hp]
  have s3 : (((w3.alloc M).alloc M).alloc M).heap.size = p + 1 + 1 + 1 := by simp [hp]
  have s4 : ((((w3.alloc M).alloc M).alloc M).alloc M).heap.size = p + 1 + 1 + 1 + 1 := by simp [hp]
  have g1 := GMap.new kEnc w3
  have g2 := IMap.new (w3.alloc M)
  have g3 := IMap.new ((w3.alloc M).alloc M)
  have g4 := IMap.new (((w3.alloc M).alloc M).alloc M)
  rw [← hM] at g1 g2 g3 g4
  rw [hp] at g1
  rw [s1] at g2
  rw [s2] at g3
  rw [s3] at g4
  have al : ∀ (x : World) (o : Obj), Below x.heap.size x (x.alloc o) := fun x o => (Below.refl _ x).alloc (Nat.le_refl _) o
  have hc := Blk.new ((((w3.alloc M).alloc M).alloc M).alloc M) 88 #[.int .i64 (sh : Int), .slice A n c, .slice none 0 0, .slice none 0 0, .slice none 0 0, .map (some w3.heap.size), .map (some (w3.heap.size + 1)), .slice none 0 0, .slice none 0 0, .map (some (w3.heap.size + 1 + 1)), .map (some (w3.heap.size + 1 + 1 + 1))]
  rw [s4] at hc
  have hb : Below w3.heap.size w3 (((((w3.alloc M).alloc M).alloc M).alloc M).alloc (.cells #[.int .i64 (sh : Int), .slice A n c, .slice none 0 0, .slice none 0 0, .slice none 0 0, .map (some w3.heap.size), .map (some (w3.heap.size + 1)), .slice none 0 0, .slice none 0 0, .map (some (w3.heap.size + 1 + 1)), .map (some (w3.heap.size + 1 + 1 + 1))] 88)) := bt (bt (bt (bt (al _ _) (al _ _)) (al _ _)) (al _ _)) (al _ _)
  have G1 := (((g1.all (al _ M)).all (al _ M)).all (al _ M)).all (al _ (.cells #[.int .i64 (sh : Int), .slice A n c, .slice none 0 0, .slice none 0 0, .slice none 0 0, .map (some w3.heap.size), .map (some (w3.heap.size + 1)), .slice none 0 0, .slice none 0 0, .map (some (w3.heap.size + 1 + 1)), .map (some (w3.heap.size + 1 + 1 + 1))] 88))
  have G2 := ((g2.all (al _ M)).all (al _ M)).all (al _ (.cells #[.int .i64 (sh : Int), .slice A n c, .slice none 0 0, .slice none 0 0, .slice none 0 0, .map (some w3.heap.size), .map (some (w3.heap.size + 1)), .slice none 0 0, .slice none 0 0, .map (some (w3.heap.size + 1 + 1)), .map (some (w3.heap.size + 1 + 1 + 1))] 88))
  have G3 := (g3.all (al _ M)).all (al _ (.cells #[.int .i64 (sh : Int), .slice A n c, .slice none 0 0, .slice none 0 0, .slice none 0 0, .map (some w3.heap.size), .map (some (w3.heap.size + 1)), .slice none 0 0, .slice none 0 0, .map (some (w3.heap.size + 1 + 1)), .map (some (w3.heap.size + 1 + 1 + 1))] 88))
  have G4 := g4.all (al _ (.cells #[.int .i64 (sh : Int), .slice A n c, .slice none 0 0, .slice none 0 0, .slice none 0 0, .map (some w3.heap.size), .map (some (w3.heap.size + 1)), .slice none 0 0, .slice none 0 0, .map (some (w3.heap.size + 1 + 1)), .map (some (w3.heap.size + 1 + 1 + 1))] 88))
  have hI5 := (hI.all hb).items
  unfold newLed
  rw [hp] at hb hc G1 G2 G3 G4 hI5 ⊢
  refine ⟨⟨hc, G1, G2, G3, G4, hI5, fun k => ⟨(none, 0, 0), rfl, LotsAt.nil _⟩, fun k _ => rfl, fun i => rfl, ⟨[], World.ownsRow_nil _ _ _ _⟩, ⟨[], World.ownsRow_nil _ _ _ _, fun _ => rfl, fun k hk => by cases hk⟩, by simp only [ne_eq]; omega⟩, hb, ?_⟩
  intro b hbf
  rcases hbf with h | h | h | h | h | h | h
  · rw [h]; show p ≤ p + 1 + 1 + 1 + 1; omega
  · rw [h]; exact Nat.le_refl _
  · rw [h]; show p ≤ p + 1; omega
  · rw [h]; show p ≤ p + 1 + 1; omega
  · rw [h]; show p ≤ p + 1 + 1 + 1; omega
  · cases h
  · cases h
set_option maxRecDepth 100000 in
set_option maxHeartbeats 4000000 in
theorem newL_any (sh : Nat) (ad : Addr) (n c : Nat) (is : List Itm) (w : World) (hsh : sh < 12) (HI : Hid (ItAt w (some ad) n c is)) (HO : Hid (CatOk is)) (HL : Hid (KL w)) :
    Calls Tryz.prog 6 #[.int .i64 (sh : Int), catA (some ad) n c] w (LNewPost (mxOf is) sh n w) := by
  have hm := @run_makeMap Tryz.prog
  have hs1 : ¬ ((sh : Int) < 0) := by omega
  have hs2 : ¬ ((12 : Int) ≤ (sh : Int)) := by omega
  have hn : n ≤ 1000000 := by have := HO.out.len; have := HI.out.1; omega
  unfold catA
  have hb := (Below.refl w.heap.size w).alloc (Nat.le_refl _) (.cells #[.slice (some ad) n c, .slice none 0 0, .slice none 0 0, .slice none 0 0] 38)
  have hk := Blk.new w 38 #[.slice (some ad) n c, .slice none 0 0, .slice none 0 0, .slice none 0 0]
  have HB1 := Lib.hid hb
  have HK1 := Lib.hid hk
  have HI1 := Lib.hid (HI.out.all hb)
  have HL1 := Lib.hid (HL.out.all hb)
  clear hb hk
  go_enter Tryz.func6, Tryz.ntmps6
  go_wp2_with fail
  refine (Valid_any (some ad) n c is _ HI1 HO HL1).mono ?_
  rintro e w2 ⟨rfl, hb2⟩
  have HB2 := Lib.hid (HB1.out.trans (hb2.mono HB1.out.size))
  have HI2 := Lib.hid (HI1.out.all hb2)
  have hk2 := HK1.out.all hb2
  have y0 : w2.cell? ⟨w.heap.size, 0, none⟩ = some (.slice (some ad) n c) := hk2.cell 0
  have y1 : w2.cell? ⟨w.heap.size, 1, none⟩ = some (.slice none 0 0) := hk2.cell 1
  have y2 : w2.cell? ⟨w.heap.size, 2, none⟩ = some (.slice none 0 0) := hk2.cell 2
  have y3 : w2.cell? ⟨w.heap.size, 3, none⟩ = some (.slice none 0 0) := hk2.cell 3
  clear hb2 hk2
  go_wp2_with fail
  refine (copyCat_any ad n c is w2 HI2 hn).mono ?_
  rintro e w3 ⟨A', c', rfl, hI3, hb3⟩
  have HB3 := Lib.hid (HB2.out.trans (hb3.mono HB2.out.size))
  have HI3 := Lib.hid hI3
  unfold catA
  clear y0 y1 y2 y3 hb3 hI3 HB2 HI2 HB1 HK1 HI1 HL1
  go_wp2
  clear hm
  obtain ⟨h1, h2, h3⟩ := LedAt.new (sh := sh) HI3.out
  refine bodyPost_ret (v := .tuple #[.pointer (some ⟨w3.heap.size + 1 + 1 + 1 + 1, 0, none⟩), .int .i64 0]) (by simp [results, Tryz.results6, go_sem]) rfl ?_
  change LNewPost (mxOf is) sh n w _ (newLW w3 sh n c' A')
  exact ⟨newLed w3 n c' A', rfl, h1, rfl, rfl, fun b hb => Nat.le_trans HB3.out.size (h3 b hb), HB3.out.trans (h2.mono HB3.out.size)⟩
end Go.Proofs.YtgjbbobphfejoaaGreatDoor

/- ledger: Now. -/
namespace Go.Proofs.YtgjbbobphfejoaaGreatDoor
open Go.RowKit

set_option maxRecDepth 100000 in
theorem now0_any (gl c : Nat) (A : Option Addr) (w : World) (c4 : w.cell? ⟨gl, 7, none⟩ = some (.slice A 0 c)) :
    Calls Tryz.prog 138 #[.pointer (some ⟨gl, 0, none⟩)] w fun e w' => e = .returned (.int .i64 0) ∧ Drew w w' := by
  go_enter Tryz.func138, Tryz.ntmps138
  go_wp2
  go_ret
  exact ⟨rfl, 0, rfl⟩
set_option maxRecDepth 100000 in
theorem now1_any (gl g n c : Nat) (t : Int) (w : World) (c4 : w.cell? ⟨gl, 7, none⟩ = some (.slice (some ⟨g, 0, none⟩) n c)) (hn : 1 ≤ n) (hn2 : n ≤ 1000000) (ct : w.cell? ⟨g, (n - 1) * 7 + 3, none⟩ = some (.int .i64 t)) :
    Calls Tryz.prog 138 #[.pointer (some ⟨gl, 0, none⟩)] w fun e w' => e = .returned (.int .i64 t) ∧ Drew w w' := by
  have h1 : ¬ (n : Int) = 0 := by omega
  obtain ⟨k, rfl⟩ : ∃ k, n = k + 1 := ⟨n - 1, by omega⟩
  have e1 : (((k + 1 : Nat) : Int) - 1) = (k : Int) := by omega
  have e2 : IntKind.i64.wrap (k : Int) = (k : Int) := IntWalk.i64_in _ (by omega)
  have hk : (k : Int) < ((k + 1 : Nat) : Int) := by omega
  rw [Nat.add_sub_cancel] at ct
  go_enter Tryz.func138, Tryz.ntmps138
  go_wp2
  go_region
  go_wp2
  go_ret
  exact ⟨rfl, 1, rfl⟩
theorem now_any {mx : Int → Bool} {w : World} {L : Led} {S : LSt} (h : LedAt mx w L S) (hn : S.ns ≤ 60000) :
    Calls Tryz.prog 138 #[.pointer (some ⟨L.gl, 0, none⟩)] w fun e w' => e = .returned (.int .i64 S.now) ∧ Drew w w' := by
  have hc : w.cell? ⟨L.gl, 7, none⟩ = some (slV L.sp) := h.c.cell 7
  obtain ⟨xs, ho, h0, h1⟩ := h.sp
  obtain ⟨A, n, c, hs⟩ : ∃ A n c, L.sp = (A, n, c) := ⟨_, _, _, rfl⟩
  rw [hs] at hc ho
  obtain ⟨A', c', he⟩ := own_split ho
  simp only [slV, Value.slice.injEq] at he
  obtain ⟨rfl, hn', rfl⟩ := he
  cases hk : S.ns with
  | zero =>
    rw [hk] at hn'
    rw [h0 hk]
    exact now0_any L.gl _ _ w (by rw [hc, ← hn']; rfl)
  | succ k =>
    rw [hk] at ho hn' hn
    obtain ⟨g, cap, hg⟩ := ownsRow_succ ho
    rw [hg] at ho hc
    have hx := h1 k hk
    refine now1_any L.gl g (k + 1) cap S.now w hc (by omega) (by omega) ?_
    rw [Nat.add_sub_cancel]
    obtain ⟨b, off, e, hb, -, hcs⟩ := (RowT.of_own ho).cells (by have := (List.getElem?_eq_some_iff.1 hx).1; omega)
    injection e with e
    injection e with e1 e2 _
    subst e1 e2
    have := hcs (k * 7 + 3) (List.getElem?_eq_some_iff.1 hx).1
    rw [Nat.zero_add, hx] at this
    exact this
end Go.Proofs.YtgjbbobphfejoaaGreatDoor
