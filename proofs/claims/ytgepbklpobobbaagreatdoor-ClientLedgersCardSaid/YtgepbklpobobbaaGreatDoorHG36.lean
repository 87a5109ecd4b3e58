/- copies.Catalog, of a catalog with items alone. -/
import Derived.Test.YtgepbklpobobbaaGreatDoorHG33
import Derived.Test.YtgepbklpobobbaaGreatDoorHG2
import Derived.Test.YtgepbklpobobbaaGreatDoorHG16
import Derived.Test.YtgepbklpobobbaaGreatDoorHLdCpC
import Derived.Test.YtgepbklpobobbaaGreatDoorHG15
import Derived.Test.YtgepbklpobobbaaGreatDoorHG6
import Derived.BigRegion
import Derived.RegionTactic

namespace Go.Proofs.YtgepbklpobobbaaGreatDoor
open Go.RowKit

set_option maxRecDepth 100000 in
set_option maxHeartbeats 4000000 in
theorem copyCat_any (ad : Addr) (n c : Nat) (is : List Itm) (w : World) (HI : Hid (ItAt w (some ad) n c is)) (hn : n ≤ 1000000) :
    Calls Tryz.prog 33 #[catA (some ad) n c] w fun e w' => ∃ A' c', e = .returned (catA A' n c') ∧ ItAt w' A' n c' is ∧ Below w.heap.size w w' := by
  unfold catA
  have hb := ((Below.refl w.heap.size w).alloc (Nat.le_refl _) (.cells #[.slice (some ad) n c, .slice none 0 0, .slice none 0 0, .slice none 0 0] 28)).alloc (by simp) (.cells #[.slice none 0 0, .slice none 0 0, .slice none 0 0, .slice none 0 0] 28)
  have k1 := Blk.alloc (Blk.new w 28 #[.slice (some ad) n c, .slice none 0 0, .slice none 0 0, .slice none 0 0]) (.cells #[.slice none 0 0, .slice none 0 0, .slice none 0 0, .slice none 0 0] 28)
  have k2 : Blk ((w.alloc (.cells #[.slice (some ad) n c, .slice none 0 0, .slice none 0 0, .slice none 0 0] 28)).alloc (.cells #[.slice none 0 0, .slice none 0 0, .slice none 0 0, .slice none 0 0] 28)) (w.heap.size + 1) 28 #[.slice none 0 0, .slice none 0 0, .slice none 0 0, .slice none 0 0] := Blk.new0 (g := w.heap.size + 1) _ _ _ (by simp)
  go_enter Tryz.func33, Tryz.ntmps33
  go_wp2_with fail
  obtain ⟨w2, hw2⟩ : ∃ w2, ((w.alloc (.cells #[.slice (some ad) n c, .slice none 0 0, .slice none 0 0, .slice none 0 0] 28)).alloc (.cells #[.slice none 0 0, .slice none 0 0, .slice none 0 0, .slice none 0 0] 28)) = w2 := ⟨_, rfl⟩
  obtain ⟨b, hbb⟩ : ∃ b, w.heap.size = b := ⟨_, rfl⟩
  rw [hw2] at hb k1 k2 ⊢
  rw [hbb] at k1 k2 ⊢
  have HBB := Lib.hid hbb
  have lb := k1.lt
  have hkeep : ∀ y, Below w2.heap.size w2.drew y → (fun y => y.cell? ⟨b, 0, none⟩ = some (.slice (some ad) n c) ∧ y.cell? ⟨b, 1, none⟩ = some (.slice none 0 0) ∧ y.cell? ⟨b, 2, none⟩ = some (.slice none 0 0) ∧ y.cell? ⟨b, 3, none⟩ = some (.slice none 0 0)) y := fun y hy => ⟨(hy.cell (p := ⟨b, 0, none⟩) lb).trans (k1.cell 0), (hy.cell (p := ⟨b, 1, none⟩) lb).trans (k1.cell 1), (hy.cell (p := ⟨b, 2, none⟩) lb).trans (k1.cell 2), (hy.cell (p := ⟨b, 3, none⟩) lb).trans (k1.cell 3)⟩
  have hS : (fun y => y.cell? ⟨b, 0, none⟩ = some (.slice (some ad) n c) ∧ y.cell? ⟨b, 1, none⟩ = some (.slice none 0 0) ∧ y.cell? ⟨b, 2, none⟩ = some (.slice none 0 0) ∧ y.cell? ⟨b, 3, none⟩ = some (.slice none 0 0)) w2.drew := hkeep _ (Below.refl w2.heap.size w2.drew)
  have HI2 : Hid (ItAt w2.drew (some ad) n c is) := Lib.hid (HI.out.all hb.drew)
  have HB2 := Lib.hid hb
  have HK2 : Hid (Blk w2.drew (b + 1) 28 #[.slice none 0 0, .slice none 0 0, .slice none 0 0, .slice none 0 0]) := Lib.hid k2
  clear hw2 hbb k1 k2 lb hb
  refine beginG (S := (fun y => y.cell? ⟨b, 0, none⟩ = some (.slice (some ad) n c) ∧ y.cell? ⟨b, 1, none⟩ = some (.slice none 0 0) ∧ y.cell? ⟨b, 2, none⟩ = some (.slice none 0 0) ∧ y.cell? ⟨b, 3, none⟩ = some (.slice none 0 0))) 13 (by kernel_rfl) hS (fun hHeld => ?_)
  refine takeG 0 (some 3) (v := ?_) (by rfl) (by rfl) (by kernel_rfl) (by kernel_rfl) (by decide) (by kernel_rfl) (by kernel_rfl) (fun _ _ _ h => h) ?_ (by assumption) ?_
  rotate_left
  · (intro o ho w hSw; obtain ⟨z0, z1, z2, z3⟩ := hSw; cases ho; go_simp; try with_reducible rfl)
  try simp only [Act.put, pB, pC, pD]
  refine takeG 1 (some 4) (v := ?_) (by rfl) (by rfl) (by kernel_rfl) (by kernel_rfl) (by decide) (by kernel_rfl) (by kernel_rfl) (fun _ _ _ h => h) ?_ (by assumption) ?_
  rotate_left
  · (intro o ho w hSw; obtain ⟨z0, z1, z2, z3⟩ := hSw; cases ho; go_simp; try with_reducible rfl)
  try simp only [Act.put, pB, pC, pD]
  refine takeG 3 (some 6) (v := ?_) (by rfl) (by rfl) (by kernel_rfl) (by kernel_rfl) (by decide) (by kernel_rfl) (by kernel_rfl) (fun _ _ _ h => h) ?_ (by assumption) ?_
  rotate_left
  · (intro o ho w hSw; obtain ⟨z0, z1, z2, z3⟩ := hSw; cases ho; go_simp; try with_reducible rfl)
  try simp only [Act.put, pB, pC, pD]
  refine takeG 4 (some 7) (v := ?_) (by rfl) (by rfl) (by kernel_rfl) (by kernel_rfl) (by decide) (by kernel_rfl) (by kernel_rfl) (fun _ _ _ h => h) ?_ (by assumption) ?_
  rotate_left
  · (intro o ho w hSw; obtain ⟨z0, z1, z2, z3⟩ := hSw; cases ho; go_simp; try with_reducible rfl)
  try simp only [Act.put, pB, pC, pD]
  refine takeG 6 (some 9) (v := ?_) (by rfl) (by rfl) (by kernel_rfl) (by kernel_rfl) (by decide) (by kernel_rfl) (by kernel_rfl) (fun _ _ _ h => h) ?_ (by assumption) ?_
  rotate_left
  · (intro o ho w hSw; obtain ⟨z0, z1, z2, z3⟩ := hSw; cases ho; go_simp; try with_reducible rfl)
  try simp only [Act.put, pB, pC, pD]
  refine takeG 7 (some 10) (v := ?_) (by rfl) (by rfl) (by kernel_rfl) (by kernel_rfl) (by decide) (by kernel_rfl) (by kernel_rfl) (fun _ _ _ h => h) ?_ (by assumption) ?_
  rotate_left
  · (intro o ho w hSw; obtain ⟨z0, z1, z2, z3⟩ := hSw; cases ho; go_simp; try with_reducible rfl)
  try simp only [Act.put, pB, pC, pD]
  refine takeG 9 (some 12) (v := ?_) (by rfl) (by rfl) (by kernel_rfl) (by kernel_rfl) (by decide) (by kernel_rfl) (by kernel_rfl) (fun _ _ _ h => h) ?_ (by assumption) ?_
  rotate_left
  · (intro o ho w hSw; obtain ⟨z0, z1, z2, z3⟩ := hSw; cases ho; go_simp; try with_reducible rfl)
  try simp only [Act.put, pB, pC, pD]
  refine takeG 10 (some 13) (v := ?_) (by rfl) (by rfl) (by kernel_rfl) (by kernel_rfl) (by decide) (by kernel_rfl) (by kernel_rfl) (fun _ _ _ h => h) ?_ (by assumption) ?_
  rotate_left
  · (intro o ho w hSw; obtain ⟨z0, z1, z2, z3⟩ := hSw; cases ho; go_simp; try with_reducible rfl)
  try simp only [Act.put, pB, pC, pD]
  refine readyG (i := 2) (by kernel_rfl) rfl (fun K hK => ?_)
  go_simp
  go_at_call 81
  (refine (cloneI_any ad n c is _ HI2 hn).mono ?_)
  rintro e w3 ⟨A', c', rfl, hI3, hb3⟩
  have HI3 := Lib.hid hI3
  have HB3 := Lib.hid hb3
  have k4 := HK2.out.all hb3
  have r0 := k4.cell 0
  have r1 := k4.cell 1
  have r2 := k4.cell 2
  have r3 := k4.cell 3
  have f0 := k4.frozen 0
  have f1 := k4.frozen 1
  have f2 := k4.frozen 2
  have f3 := k4.frozen 3
  simp at r0 r1 r2 r3
  have HK4 := Lib.hid k4
  have hS3 := hkeep _ hb3
  clear hI3 hb3 k4
  go_wp2
  refine hK.out _ _ ?_ (fun hH2 => ?_)
  · exact hS3
  clear hK K
  try simp only [Act.put, pB, pC, pD]
  refine readyG (i := 5) (by kernel_rfl) rfl (fun K hK => ?_)
  go_simp
  go_at_call 82
  (refine (eachRule_nil _ _).mono ?_)
  rintro e w4 ⟨rfl, hw4⟩
  rw [hw4]
  clear hw4
  go_wp2
  refine hK.out _ _ ?_ (fun hH5 => ?_)
  · exact hS3
  clear hK K
  try simp only [Act.put, pB, pC, pD]
  refine readyG (i := 8) (by kernel_rfl) rfl (fun K hK => ?_)
  go_simp
  go_at_call 84
  (refine (eachTable_nil _ _).mono ?_)
  rintro e w4 ⟨rfl, hw4⟩
  rw [hw4]
  clear hw4
  go_wp2
  refine hK.out _ _ ?_ (fun hH8 => ?_)
  · exact hS3
  clear hK K
  try simp only [Act.put, pB, pC, pD]
  refine readyG (i := 11) (by kernel_rfl) rfl (fun K hK => ?_)
  go_simp
  go_at_call 86
  (refine (eachTax_nil _ _).mono ?_)
  rintro e w4 ⟨rfl, hw4⟩
  rw [hw4]
  clear hw4
  go_wp2
  refine hK.out _ _ ?_ (fun hH11 => ?_)
  · exact hS3
  clear hK K
  try simp only [Act.put, pB, pC, pD]
  refine takeG 12 (some 15) (v := ?_) (by rfl) (by rfl) (by kernel_rfl) (by kernel_rfl) (by decide) (by kernel_rfl) (by kernel_rfl) (fun _ _ _ h => h) ?_ (by assumption) ?_
  rotate_left
  · (intro o ho w hSw; obtain ⟨z0, z1, z2, z3⟩ := hSw; cases ho; go_simp; try with_reducible rfl)
  try simp only [Act.put, pB, pC, pD]
  refine lastG (by kernel_rfl) rfl (fun K hK => ?_)
  go_simp
  refine hK.out _ _ ?_
  clear hK K
  (try simp only [Act.put]); (try simp only [pB]); (try simp only [pD]); (try simp only [pC])
  refine doneG (by kernel_rfl) ?_ _
  go_wp2
  have hk := (((HK4.out.set_ 0 (.slice A' n c')).set_ 1 (.slice none 0 0)).set_ 2 (.slice none 0 0)).set_ 3 (.slice none 0 0)
  simp only [List.setIfInBounds_toArray, List.set_cons_zero, List.set_cons_succ] at hk
  have hm : Mod (fun q => q = b + 1) w3 ((((w3.setCell ⟨b + 1, 0, none⟩ (.slice A' n c')).setCell ⟨b + 1, 1, none⟩ (.slice none 0 0)).setCell ⟨b + 1, 2, none⟩ (.slice none 0 0)).setCell ⟨b + 1, 3, none⟩ (.slice none 0 0)) := ((((Mod.refl (fun q => q = b + 1) w3).set (p := ⟨b + 1, 0, none⟩) (.inl rfl) _).set (p := ⟨b + 1, 1, none⟩) (.inl rfl) _).set (p := ⟨b + 1, 2, none⟩) (.inl rfl) _).set (p := ⟨b + 1, 3, none⟩) (.inl rfl) _
  have hI := HI3.out.mod hm (fun q hq => by subst hq; exact fun h => absurd (Ty.unique HK4.out.ty h) (by decide))
  have hb3 : Below w.heap.size w w3 := HB2.out.drew.trans (HB3.out.mono HB2.out.drew.size)
  have hbw := hm.below hb3 hb3.size (fun q hq => by subst hq; rw [HBB.out]; exact Nat.le_succ _)
  generalize ((((w3.setCell ⟨b + 1, 0, none⟩ (.slice A' n c')).setCell ⟨b + 1, 1, none⟩ (.slice none 0 0)).setCell ⟨b + 1, 2, none⟩ (.slice none 0 0)).setCell ⟨b + 1, 3, none⟩ (.slice none 0 0)) = w5 at hk hI hbw ⊢
  have c0 := hk.cell 0
  have c1 := hk.cell 1
  have c2 := hk.cell 2
  have c3 := hk.cell 3
  simp at c0 c1 c2 c3
  refine bodyPost_ret (v := .agg #[.slice A' n c', .slice none 0 0, .slice none 0 0, .slice none 0 0]) (by simp [results, Tryz.results33, go_sem, c0, c1, c2, c3]) rfl ⟨A', c', rfl, hI, hbw⟩
end Go.Proofs.YtgepbklpobobbaaGreatDoor

/- ledger.New. -/
namespace Go.Proofs.YtgepbklpobobbaaGreatDoor
open Go.RowKit

def mxOf (is : List Itm) (i : Int) : Bool := match is[i.toNat]? with | some x => x.mx | none => false
theorem ItAt.items {w : World} {A : Option Addr} {n c : Nat} {is : List Itm} (h : ItAt w A n c is) : ItemsAt w (A, n, c) (mxOf is) := by
  refine ⟨is.flatMap itV, by rw [flatT_length itV 7 itV_len, h.1], h.2.2.2, fun i hi => ?_⟩
  have hi : i < is.length := by rw [h.1]; exact hi
  rw [flatT_at itV 7 itV_len is i 2 hi (by decide)]
  unfold mxOf
  rw [show (i : Int).toNat = i from rfl, List.getElem?_eq_getElem hi]
  rfl
def lst0 (sh : Nat) : LSt := ⟨fun _ => [], fun _ => 0, sh, 0, 0, 0⟩
def LNewPost (mx : Int → Bool) (sh n : Nat) (w : World) (e : Ending) (w' : World) : Prop := ∃ L : Led, e = .returned (.tuple #[.pointer (some ⟨L.gl, 0, none⟩), .int .i64 0]) ∧ LedAt mx w' L (lst0 sh) ∧ L.it.2.1 = n ∧ L.es = [] ∧ (∀ b, LedF L b → w.heap.size ≤ b) ∧ Below w.heap.size w w'
def newLW (w3 : World) (sh n c : Nat) (A : Option Addr) : World :=
  ((((w3.alloc (.map #[] 0)).alloc (.map #[] 0)).alloc (.map #[] 0)).alloc (.map #[] 0)).alloc (.cells #[.int .i64 (sh : Int), .slice A n c, .slice none 0 0, .slice none 0 0, .slice none 0 0, .map (some w3.heap.size), .map (some (w3.heap.size + 1)), .slice none 0 0, .slice none 0 0, .map (some (w3.heap.size + 1 + 1)), .map (some (w3.heap.size + 1 + 1 + 1))] 101)
def newLed (w3 : World) (n c : Nat) (A : Option Addr) : Led := ⟨w3.heap.size + 1 + 1 + 1 + 1, w3.heap.size, w3.heap.size + 1, w3.heap.size + 1 + 1, w3.heap.size + 1 + 1 + 1, (A, n, c), .slice none 0 0, .slice none 0 0, .slice none 0 0, (none, 0, 0), (none, 0, 0), [], []⟩
theorem LedAt.new {w3 : World} {sh n c : Nat} {A : Option Addr} {is : List Itm} (hI : ItAt w3 A n c is) : LedAt (mxOf is) (newLW w3 sh n c A) (newLed w3 n c A) (lst0 sh) ∧ Below w3.heap.size w3 (newLW w3 sh n c A) ∧ ∀ b, LedF (newLed w3 n c A) b → w3.heap.size ≤ b := by
  obtain ⟨M, hM⟩ : ∃ M : Obj, M = .map #[] 0 := ⟨_, rfl⟩
  unfold newLW
  rw [← hM]
  obtain ⟨p, hp⟩ : ∃ p, w3.heap.size = p := ⟨_, rfl⟩
  have s1 : (w3.alloc M).heap.size = p + 1 := by simp [hp]
  have s2 : ((w3.alloc M).alloc M).heap.size = p + 1 + 1 := by simp [hp]
  have s3 : (((w3.alloc M).alloc M).alloc M).heap.size = p + 1 + 1 + 1 := by simp [hp]
  have s4 : ((((w3.alloc M).alloc M).alloc M).alloc M).heap.size = p + 1 + 1 + 1 + 1 := by simp [hp]
  have g1 := GMap.new kEnc w3
  have g2 := IMap.new (w3.alloc M)
  have g3 := IMap.new ((w3.alloc M).alloc M)
  have g4 := IMap.new (((w3.alloc M).alloc M).alloc M)
  rw [← hM] at g1 g2 g3 g4
  rw [hp] at g1
  rw [s1] at g2
  rw [s2] at g3
  rw [s3] at g4
  have al : ∀ (x : World) (o : Obj), Below x.heap.size x (x.alloc o) := fun x o => (Below.refl _ x).alloc (Nat.le_refl _) o
  have hc := Blk.new ((((w3.alloc M).alloc M).alloc M).alloc M) 101 #[.int .i64 (sh : Int), .slice A n c, .slice none 0 0, .slice none 0 0, .slice none 0 0, .map (some w3.heap.size), .map (some (w3.heap.size + 1)), .slice none 0 0, .slice none 0 0, .map (some (w3.heap.size + 1 + 1)), .map (some (w3.heap.size + 1 + 1 + 1))]
  rw [s4] at hc
  have hb : Below w3.heap.size w3 (((((w3.alloc M).alloc M).alloc M).alloc M).alloc (.cells #[.int .i64 (sh : Int), .slice A n c, .slice none 0 0, .slice none 0 0, .slice none 0 0, .map (some w3.heap.size), .map (some (w3.heap.size + 1)), .slice none 0 0, .slice none 0 0, .map (some (w3.heap.size + 1 + 1)), .map (some (w3.heap.size + 1 + 1 + 1))] 101)) := bt (bt (bt (bt (al _ _) (al _ _)) (al _ _)) (al _ _)) (al _ _)
  have G1 := (((g1.all (al _ M)).all (al _ M)).all (al _ M)).all (al _ (.cells #[.int .i64 (sh : Int), .slice A n c, .slice none 0 0, .slice none 0 0, .slice none 0 0, .map (some w3.heap.size), .map (some (w3.heap.size + 1)), .slice none 0 0, .slice none 0 0, .map (some (w3.heap.size + 1 + 1)), .map (some (w3.heap.size + 1 + 1 + 1))] 101))
  have G2 := ((g2.all (al _ M)).all (al _ M)).all (al _ (.cells #[.int .i64 (sh : Int), .slice A n c, .slice none 0 0, .slice none 0 0, .slice none 0 0, .map (some w3.heap.size), .map (some (w3.heap.size + 1)), .slice none 0 0, .slice none 0 0, .map (some (w3.heap.size + 1 + 1)), .map (some (w3.heap.size + 1 + 1 + 1))] 101))
  have G3 := (g3.all (al _ M)).all (al _ (.cells #[.int .i64 (sh : Int), .slice A n c, .slice none 0 0, .slice none 0 0, .slice none 0 0, .map (some w3.heap.size), .map (some (w3.heap.size + 1)), .slice none 0 0, .slice none 0 0, .map (some (w3.heap.size + 1 + 1)), .map (some (w3.heap.size + 1 + 1 + 1))] 101))
  have G4 := g4.all (al _ (.cells #[.int .i64 (sh : Int), .slice A n c, .slice none 0 0, .slice none 0 0, .slice none 0 0, .map (some w3.heap.size), .map (some (w3.heap.size + 1)), .slice none 0 0, .slice none 0 0, .map (some (w3.heap.size + 1 + 1)), .map (some (w3.heap.size + 1 + 1 + 1))] 101))
  have hI5 := (hI.all hb).items
  unfold newLed
  rw [hp] at hb hc G1 G2 G3 G4 hI5 ⊢
  refine ⟨⟨hc, G1, G2, G3, G4, hI5, fun k => ⟨(none, 0, 0), rfl, LotsAt.nil _⟩, fun k _ => rfl, fun i => rfl, ⟨[], World.ownsRow_nil _ _ _ _⟩, ⟨[], World.ownsRow_nil _ _ _ _, fun _ => rfl, fun k hk => by cases hk⟩, by simp only [ne_eq]; omega⟩, hb, ?_⟩
  intro b hbf
  rcases hbf with h | h | h | h | h | h | h
  · rw [h]; show p ≤ p + 1 + 1 + 1 + 1; omega
  · rw [h]; exact Nat.le_refl _
  · rw [h]; show p ≤ p + 1; omega
  · rw [h]; show p ≤ p + 1 + 1; omega
  · rw [h]; show p ≤ p + 1 + 1 + 1; omega
  · cases h
  · cases h
set_option maxRecDepth 100000 in
set_option maxHeartbeats 4000000 in
theorem newL_any (sh : Nat) (ad : Addr) (n c : Nat) (is : List Itm) (w : World) (hsh : sh < 12) (HI : Hid (ItAt w (some ad) n c is)) (HO : Hid (CatOk is)) (HL : Hid (KL w)) :
    Calls Tryz.prog 5 #[.int .i64 (sh : Int), catA (some ad) n c] w (LNewPost (mxOf is) sh n w) := by
  have hm := @run_makeMap Tryz.prog
  have hs1 : ¬ ((sh : Int) < 0) := by omega
  have hs2 : ¬ ((12 : Int) ≤ (sh : Int)) := by omega
  have hn : n ≤ 1000000 := by have := HO.out.len; have := HI.out.1; omega
  unfold catA
  have hb := (Below.refl w.heap.size w).alloc (Nat.le_refl _) (.cells #[.slice (some ad) n c, .slice none 0 0, .slice none 0 0, .slice none 0 0] 28)
  have hk := Blk.new w 28 #[.slice (some ad) n c, .slice none 0 0, .slice none 0 0, .slice none 0 0]
  have HB1 := Lib.hid hb
  have HK1 := Lib.hid hk
  have HI1 := Lib.hid (HI.out.all hb)
  have HL1 := Lib.hid (HL.out.all hb)
  clear hb hk
  go_enter Tryz.func5, Tryz.ntmps5
  go_wp2_with fail
  refine (Valid_any (some ad) n c is _ HI1 HO HL1).mono ?_
  rintro e w2 ⟨rfl, hb2⟩
  have HB2 := Lib.hid (HB1.out.trans (hb2.mono HB1.out.size))
  have HI2 := Lib.hid (HI1.out.all hb2)
  have hk2 := HK1.out.all hb2
  have y0 : w2.cell? ⟨w.heap.size, 0, none⟩ = some (.slice (some ad) n c) := hk2.cell 0
  have y1 : w2.cell? ⟨w.heap.size, 1, none⟩ = some (.slice none 0 0) := hk2.cell 1
  have y2 : w2.cell? ⟨w.heap.size, 2, none⟩ = some (.slice none 0 0) := hk2.cell 2
  have y3 : w2.cell? ⟨w.heap.size, 3, none⟩ = some (.slice none 0 0) := hk2.cell 3
  clear hb2 hk2
  go_wp2_with fail
  refine (copyCat_any ad n c is w2 HI2 hn).mono ?_
  rintro e w3 ⟨A', c', rfl, hI3, hb3⟩
  have HB3 := Lib.hid (HB2.out.trans (hb3.mono HB2.out.size))
  have HI3 := Lib.hid hI3
  unfold catA
  clear y0 y1 y2 y3 hb3 hI3 HB2 HI2 HB1 HK1 HI1 HL1
  go_wp2
  clear hm
  obtain ⟨h1, h2, h3⟩ := LedAt.new (sh := sh) HI3.out
  refine bodyPost_ret (v := .tuple #[.pointer (some ⟨w3.heap.size + 1 + 1 + 1 + 1, 0, none⟩), .int .i64 0]) (by simp [results, Tryz.results5, go_sem]) rfl ?_
  change LNewPost (mxOf is) sh n w _ (newLW w3 sh n c' A')
  exact ⟨newLed w3 n c' A', rfl, h1, rfl, rfl, fun b hb => Nat.le_trans HB3.out.size (h3 b hb), HB3.out.trans (h2.mono HB3.out.size)⟩
end Go.Proofs.YtgepbklpobobbaaGreatDoor

/- package lexer: the tokens of a told text, found by closed facts; the texts of the laws. -/
namespace Go.Proofs.YtgepbklpobobbaaGreatDoor
open Go.RowKit

def kAtB (s : ByteArray) (j : Nat) : Option Int := if h : j < s.size then kd s[j].toNat else if j = s.size then some 0 else none
theorem kAt_of {s : ByteArray} {j : Nat} {k : Int} (h : kAtB s j = some k) : KAt s j k := by
  unfold kAtB at h
  split at h
  · rename_i hj
    exact .inr ⟨hj, h⟩
  · split at h
    · rename_i hj
      injection h with h
      exact .inl ⟨hj, h.symm⟩
    · cases h
def allB (s : ByteArray) (k : Int) (p q : Nat) : Bool := (List.range q).all fun j => decide (j < p) || decide (kAtB s j = some k)
theorem allB_at {s : ByteArray} {k : Int} {p q : Nat} (h : allB s k p q = true) : ∀ j, p ≤ j → j < q → KAt s j k := fun j h1 h2 => by
  have h3 := List.all_eq_true.1 h j (List.mem_range.2 h2)
  simp only [Bool.or_eq_true, decide_eq_true_eq] at h3
  rcases h3 with h3 | h3
  · omega
  · exact kAt_of h3
theorem lxs_of {s : ByteArray} (a p : Nat) (k : Int) (hap : a ≤ p) (hss : s.size ≤ 100000) (hb : allB s 1 a p = true) (he : kAtB s p = some k) (h1 : k ≠ 1) (h2 : k ≠ 2) : LxS s (a : Int) (p : Int) := fun w hK => by
  refine (skip_at s a p w hap (kAt_of he).le hss (Lib.hid (allB_at hb)) k (Lib.hid (kAt_of he)) h1 h2 (Lib.hid hK)).mono ?_
  rintro e w' ⟨h, rfl⟩
  exact ⟨h, Below.refl _ _⟩
/-- A word, from p to q, then blanks up to p'. -/
theorem lxp_word {s : ByteArray} {ts : List Tk} (p q p' : Nat) (txt : ByteArray) (k k' : Int) (hpq : p < q) (hl : q ≤ p + 16) (hss : s.size ≤ 100000) (hw : allB s 3 p q = true) (he : kAtB s q = some k) (hk3 : k ≠ 3) (hk4 : k ≠ 4) (hk5 : k ≠ 5) (ht : s.extract p q = txt) (hz : txt.size = q - p)
    (hqp : q ≤ p') (hb : allB s 1 q p' = true) (he' : kAtB s p' = some k') (h1 : k' ≠ 1) (h2 : k' ≠ 2) (hr : LxP s (p' : Int) ts) : LxP s (p : Int) (⟨0, txt, 0, (p : Int)⟩ :: ts) := by
  have hq := (kAt_of he).le
  have e : (p : Int) + (txt.size : Int) = (q : Int) := by omega
  refine ⟨by omega, fun w hK => nextW_any s p q txt k w hpq (by omega) hl (Lib.hid (allB_at hw)) (Lib.hid (kAt_of he)) hk3 hk4 hk5 (Lib.hid ht) (Lib.hid hK), by rw [e]; exact IntWalk.i64_in _ (by omega), (p' : Int), ?_, hr⟩
  show LxS s ((p : Int) + (txt.size : Int)) (p' : Int)
  rw [e]
  exact lxs_of q p' k' hqp hss hb he' h1 h2
/-- A ';' at p, then blanks up to p'. -/
theorem lxp_semi {s : ByteArray} {ts : List Tk} (p p' : Nat) (k' : Int) (hss : s.size ≤ 100000) (he : kAtB s p = some 7) (ht : s.extract p (p + 1) = semiS)
    (hqp : p + 1 ≤ p') (hb : allB s 1 (p + 1) p' = true) (he' : kAtB s p' = some k') (h1 : k' ≠ 1) (h2 : k' ≠ 2) (hr : LxP s (p' : Int) ts) : LxP s (p : Int) (⟨2, semiS, 0, (p : Int)⟩ :: ts) := by
  have hq := (kAt_of he).lt (by decide)
  have e : (p : Int) + (semiS.size : Int) = ((p + 1 : Nat) : Int) := rfl
  refine ⟨by omega, fun w hK => nextS_any s p semiS w (by omega) (Lib.hid (kAt_of he)) (Lib.hid ht) (Lib.hid hK), by show IntKind.i64.wrap ((p : Int) + (semiS.size : Int)) = (p : Int) + (semiS.size : Int); rw [e]; exact IntWalk.i64_in _ (by omega), (p' : Int), ?_, hr⟩
  show LxS s ((p : Int) + (semiS.size : Int)) (p' : Int)
  rw [e]
  exact lxs_of (p + 1) p' k' hqp hss hb he' h1 h2
def goldS : ByteArray := ⟨#[103, 111, 108, 100]⟩
/-- "item gold coin;" -/
def textG : ByteArray := ⟨#[105, 116, 101, 109, 32, 103, 111, 108, 100, 32, 99, 111, 105, 110, 59]⟩
def toksG : List Tk := [⟨0, itemS, 0, 0⟩, ⟨0, goldS, 0, 5⟩, ⟨0, coinS, 0, 10⟩, ⟨2, semiS, 0, 14⟩]
theorem textG_skip : LxS textG 0 0 := lxs_of 0 0 3 (by decide) (by decide) (by kernel_rfl) (by kernel_rfl) (by decide) (by decide)
theorem textG_toks : LxP textG 0 toksG :=
  lxp_word 0 4 5 itemS 1 3 (by decide) (by decide) (by decide) (by kernel_rfl) (by kernel_rfl) (by decide) (by decide) (by decide) (by kernel_rfl) (by kernel_rfl) (by decide) (by kernel_rfl) (by kernel_rfl) (by decide) (by decide)
  (lxp_word 5 9 10 goldS 1 3 (by decide) (by decide) (by decide) (by kernel_rfl) (by kernel_rfl) (by decide) (by decide) (by decide) (by kernel_rfl) (by kernel_rfl) (by decide) (by kernel_rfl) (by kernel_rfl) (by decide) (by decide)
  (lxp_word 10 14 14 coinS 7 7 (by decide) (by decide) (by decide) (by kernel_rfl) (by kernel_rfl) (by decide) (by decide) (by decide) (by kernel_rfl) (by kernel_rfl) (by decide) (by kernel_rfl) (by kernel_rfl) (by decide) (by decide)
  (lxp_semi 14 15 0 (by decide) (by kernel_rfl) (by kernel_rfl) (by decide) (by kernel_rfl) (by kernel_rfl) (by decide) (by decide) (show ((15 : Nat) : Int) = (textG.size : Int) from rfl))))
def dclG : List Dcl := [⟨goldS, true, 5⟩]
theorem dclG_toks : DTk dclG toksG := ⟨⟨0, itemS, 0, 0⟩, ⟨0, goldS, 0, 5⟩, ⟨0, coinS, 0, 10⟩, ⟨2, semiS, 0, 14⟩, [], rfl, rfl, rfl, rfl, rfl, rfl, rfl, rfl, rfl, rfl, rfl⟩
def itemsG : List Itm := [⟨goldS, false, true⟩]
theorem compileG_any (w : World) (HK : Hid (KL w)) : Calls Tryz.prog 4 #[.string textG] w (CompPost itemsG w) :=
  compile_any textG dclG toksG 0 w HK (Lib.hid textG_skip) (Lib.hid textG_toks) (by decide) (by decide) (Lib.hid dclG_toks) (by decide) (Lib.hid (by simp [dclG])) (Lib.hid (by
    intro i hi
    simp only [dclG, List.map_cons, List.map_nil, List.mem_singleton] at hi
    subst hi
    decide))
theorem itemsG_ok : CatOk itemsG where
  word := by
    intro i hi
    simp only [itemsG, List.mem_singleton] at hi
    subst hi
    exact ⟨by decide, by decide, by decide⟩
  nd := by decide
  len := by decide
end Go.Proofs.YtgepbklpobobbaaGreatDoor

/- The ledger: Balance, Total. -/
namespace Go.Proofs.YtgepbklpobobbaaGreatDoor
open Go.RowKit

set_option maxRecDepth 100000 in
theorem balance_any {mx : Int → Bool} (L : Led) (S : LSt) (a i : Int) (w : World) (HL : Hid (LedAt mx w L S)) (ha : 0 ≤ a ∧ a < 2147483648) (hi : 0 ≤ i ∧ i < 2147483648) (HO : Hid (LotsOk (S.st (kOf a i)))) (hn : Hid ((S.st (kOf a i)).length ≤ 1000000)) :
    Calls Tryz.prog 19 #[.pointer (some ⟨L.gl, 0, none⟩), .int .i64 a, .int .i64 i] w fun e w' => e = .returned (.int .i64 (totL (S.st (kOf a i)))) ∧ Below w.heap.size w w' := by
  obtain ⟨V, hv, hls⟩ := HL.out.st (kOf a i)
  obtain ⟨j, hj, hz⟩ := infoLots
  have hlk := HL.out.s.look kEncOk Tryz.underlying95 hj hz (kOf a i)
  rw [hv, kOf_enc ha hi] at hlk
  have hlk : (Instr.lookup 95 (.map (some L.lS)) (.agg #[.int .i64 a, .int .i64 i]) false).run Tryz.prog w = .ok (slV V) w := hlk
  have c2 : w.cell? ⟨L.gl, 5, none⟩ = some (.map (some L.lS)) := HL.out.c.cell 5
  obtain ⟨A, n, c⟩ := V
  have HLS := Lib.hid hls
  unfold slV at hlk
  have hnn : n ≤ 1000000 := by
    have h1 : (S.st (kOf a i)).length = n := hls.len
    have h2 := hn.out
    omega
  clear hls hv hj hz
  go_enter Tryz.func19, Tryz.ntmps19
  go_wp2_with fail
  refine (total_any A n c _ w HLS HO hnn).mono ?_
  rintro e w2 ⟨rfl, hb2⟩
  have HB := Lib.hid hb2
  clear hb2
  go_wp2
  go_ret
  exact ⟨rfl, HB.out⟩
end Go.Proofs.YtgepbklpobobbaaGreatDoor

/- ledger: Now. -/
namespace Go.Proofs.YtgepbklpobobbaaGreatDoor
open Go.RowKit

set_option maxRecDepth 100000 in
theorem now0_any (gl c : Nat) (A : Option Addr) (w : World) (c4 : w.cell? ⟨gl, 7, none⟩ = some (.slice A 0 c)) :
    Calls Tryz.prog 164 #[.pointer (some ⟨gl, 0, none⟩)] w fun e w' => e = .returned (.int .i64 0) ∧ Drew w w' := by
  go_enter Tryz.func164, Tryz.ntmps164
  go_wp2
  go_ret
  exact ⟨rfl, 0, rfl⟩
set_option maxRecDepth 100000 in
theorem now1_any (gl g n c : Nat) (t : Int) (w : World) (c4 : w.cell? ⟨gl, 7, none⟩ = some (.slice (some ⟨g, 0, none⟩) n c)) (hn : 1 ≤ n) (hn2 : n ≤ 1000000) (ct : w.cell? ⟨g, (n - 1) * 7 + 3, none⟩ = some (.int .i64 t)) :
    Calls Tryz.prog 164 #[.pointer (some ⟨gl, 0, none⟩)] w fun e w' => e = .returned (.int .i64 t) ∧ Drew w w' := by
  have h1 : ¬ (n : Int) = 0 := by omega
  obtain ⟨k, rfl⟩ : ∃ k, n = k + 1 := ⟨n - 1, by omega⟩
  have e1 : (((k + 1 : Nat) : Int) - 1) = (k : Int) := by omega
  have e2 : IntKind.i64.wrap (k : Int) = (k : Int) := IntWalk.i64_in _ (by omega)
  have hk : (k : Int) < ((k + 1 : Nat) : Int) := by omega
  rw [Nat.add_sub_cancel] at ct
  go_enter Tryz.func164, Tryz.ntmps164
  go_wp2
  go_region
  go_wp2
  go_ret
  exact ⟨rfl, 1, rfl⟩
theorem now_any {mx : Int → Bool} {w : World} {L : Led} {S : LSt} (h : LedAt mx w L S) (hn : S.ns ≤ 60000) :
    Calls Tryz.prog 164 #[.pointer (some ⟨L.gl, 0, none⟩)] w fun e w' => e = .returned (.int .i64 S.now) ∧ Drew w w' := by
  have hc : w.cell? ⟨L.gl, 7, none⟩ = some (slV L.sp) := h.c.cell 7
  obtain ⟨xs, ho, h0, h1⟩ := h.sp
  obtain ⟨A, n, c, hs⟩ : ∃ A n c, L.sp = (A, n, c) := ⟨_, _, _, rfl⟩
  rw [hs] at hc ho
  obtain ⟨A', c', he⟩ := own_split ho
  simp only [slV, Value.slice.injEq] at he
  obtain ⟨rfl, hn', rfl⟩ := he
  cases hk : S.ns with
  | zero =>
    rw [hk] at hn'
    rw [h0 hk]
    exact now0_any L.gl _ _ w (by rw [hc, ← hn']; rfl)
  | succ k =>
    rw [hk] at ho hn' hn
    obtain ⟨g, cap, hg⟩ := ownsRow_succ ho
    rw [hg] at ho hc
    have hx := h1 k hk
    refine now1_any L.gl g (k + 1) cap S.now w hc (by omega) (by omega) ?_
    rw [Nat.add_sub_cancel]
    obtain ⟨b, off, e, hb, -, hcs⟩ := (RowT.of_own ho).cells (by have := (List.getElem?_eq_some_iff.1 hx).1; omega)
    injection e with e
    injection e with e1 e2 _
    subst e1 e2
    have := hcs (k * 7 + 3) (List.getElem?_eq_some_iff.1 hx).1
    rw [Nat.zero_add, hx] at this
    exact this
end Go.Proofs.YtgepbklpobobbaaGreatDoor
