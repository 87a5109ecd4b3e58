/- cmp.Compare, cmp.Or; the comparison of share.Split. -/
import Derived.Test.YtgepbklpobobbaaGreatDoorHG6
import Derived.Test.YtgepbklpobobbaaGreatDoorHG2
import Derived.Deep.DeepCutAuto
import Derived.Sort.Grow
import Derived.Lib.Small
import Derived.Shelf.SlSortCmp.NoneTotal

namespace Go.Proofs.YtgepbklpobobbaaGreatDoor
open Go.RowKit

theorem cmpI_any (x y : Int) (w : World) : Calls Tryz.prog 28 #[.int .i64 x, .int .i64 y] w fun e w' => e = .returned (.int .i64 (Lib.compareInt x y)) ∧ w' = w := by
  have hn : ∀ (z : Int) (W : World), Calls Tryz.prog 73 #[.int .i64 z] W fun e w' => e = .returned (.bool false) ∧ w' = W := fun z W => by
    go_enter Tryz.func73, Tryz.ntmps73
    go_wp2
    go_ret
    exact ⟨by simp, rfl⟩
  go_enter Tryz.func28, Tryz.ntmps28
  go_wp2_with (go_at_call 73; refine (hn _ _).mono ?_; rintro e w' ⟨rfl, hw⟩; rw [hw])
  all_goals (go_ret; refine ⟨?_, rfl⟩; unfold Lib.compareInt; (repeat' split) <;> first | rfl | (exfalso; omega))
theorem cmpU_any (x y : Int) (w : World) : Calls Tryz.prog 242 #[.int .u64 x, .int .u64 y] w fun e w' => e = .returned (.int .i64 (Lib.compareInt x y)) ∧ w' = w := by
  have hn : ∀ (z : Int) (W : World), Calls Tryz.prog 255 #[.int .u64 z] W fun e w' => e = .returned (.bool false) ∧ w' = W := fun z W => by
    go_enter Tryz.func255, Tryz.ntmps255
    go_wp2
    go_ret
    exact ⟨by simp, rfl⟩
  go_enter Tryz.func242, Tryz.ntmps242
  go_wp2_with (go_at_call 255; refine (hn _ _).mono ?_; rintro e w' ⟨rfl, hw⟩; rw [hw])
  all_goals (go_ret; refine ⟨?_, rfl⟩; unfold Lib.compareInt; (repeat' split) <;> first | rfl | (exfalso; omega))
/-- cmp.Or of two. -/
def orI (a b : Int) : Int := if a = 0 then b else a
theorem or_any (g : Nat) (a b : Int) (w : World) (hb : Blk w g 3 #[.int .i64 a, .int .i64 b]) (hg : g < w.heap.size) :
    Calls Tryz.prog 27 #[.slice (some ⟨g, 0, none⟩) 2 2] w fun e w' => e = .returned (.int .i64 (orI a b)) ∧ w' = w := by
  have c0 : w.cell? ⟨g, 0, none⟩ = some (.int .i64 a) := hb.cell 0
  have c1 : w.cell? ⟨g, 1, none⟩ = some (.int .i64 b) := hb.cell 1
  have c0' : w.cell? ⟨g, 0 + 0 * 1, none⟩ = some (.int .i64 a) := hb.cell 0
  have c1' : w.cell? ⟨g, 0 + 1 * 1, none⟩ = some (.int .i64 b) := hb.cell 1
  clear hb
  go_enter Tryz.func27, Tryz.ntmps27
  go_wp2
  go_loopg [5, 8] 2 (fun gk sv iv wr => wr = w ∧ ((gk = 2 ∧ iv = .int .i64 0) ∨ (gk = 1 ∧ iv = .int .i64 1 ∧ a = 0) ∨ (gk = 0 ∧ iv = .int .i64 2 ∧ a = 0 ∧ b = 0)))
  case atStart => exact ⟨rfl, .inl ⟨rfl, rfl⟩⟩
  case round =>
    obtain ⟨rfl, ⟨rfl, rfl⟩ | ⟨rfl, rfl, h0⟩ | ⟨rfl, rfl, h0, h1⟩⟩ := hrel
    · by_cases h0 : a = 0
      · subst h0
        go_wp2
        go_roundg 1
        case measure => omega
        case rel => exact ⟨rfl, .inr (.inl ⟨rfl, rfl, trivial⟩)⟩
      · go_wp2
        go_ret
        exact ⟨by simp [orI, h0], rfl⟩
    · by_cases h1 : b = 0
      · subst h1
        go_wp2
        go_roundg 0
        case measure => omega
        case rel => exact ⟨rfl, .inr (.inr ⟨rfl, rfl, h0, trivial⟩)⟩
      · go_wp2
        go_ret
        exact ⟨by simp [orI, h0], rfl⟩
    · go_wp2
      go_ret
      exact ⟨by simp [orI, h0, h1], rfl⟩
theorem grow_one (w : World) (o : Obj) : (w.alloc o).drew = Sort.grow (w.drewN 1) #[o] := by
  unfold Sort.grow World.alloc World.drew World.drewN
  simp
set_option maxRecDepth 100000 in
set_option maxHeartbeats 1000000 in
theorem split1_any (bx bR n i j : Nat) (ri rj : Int) (w : World) (h0 : w.cell? ⟨bx, 0, none⟩ = some (.slice (some ⟨bR, 0, none⟩) n n)) (hi : w.cell? ⟨bR, i, none⟩ = some (.int .u64 ri)) (hj : w.cell? ⟨bR, j, none⟩ = some (.int .u64 rj)) (hin : i < n) (hjn : j < n) :
    Calls Tryz.prog 241 #[.int .i64 i, .int .i64 j, .pointer (some ⟨bx, 0, none⟩)] w fun e w' => e = .returned (.int .i64 (orI (Lib.compareInt rj ri) (Lib.compareInt i j))) ∧ ∃ q os, w' = Sort.grow (w.drewN q) os := by
  have i1 : (i : Int) < (n : Int) := by omega
  have j1 : (j : Int) < (n : Int) := by omega
  have i0 : (0 : Int) ≤ (i : Int) := by omega
  have j0 : (0 : Int) ≤ (j : Int) := by omega
  have hal : ∀ (W : World) (o : Obj) (a : Addr) (v : Value), W.cell? a = some v → (W.alloc o).cell? a = some v := fun W o a v h => (World.cell?_alloc_some W a o (by rw [h]; rfl)).trans h
  have hA : ∀ (W : World) (o : Obj), W.heap = w.heap → (W.alloc o).cell? ⟨bx, 0, none⟩ = some (.slice (some ⟨bR, 0, none⟩) n n) ∧ (W.alloc o).cell? ⟨bR, i, none⟩ = some (.int .u64 ri) ∧ (W.alloc o).cell? ⟨bR, j, none⟩ = some (.int .u64 rj) := fun W o e => by
    have e2 : ∀ a, W.cell? a = w.cell? a := fun a => by simp only [World.cell?, e]
    exact ⟨hal _ _ _ _ ((e2 _).trans h0), hal _ _ _ _ ((e2 _).trans hi), hal _ _ _ _ ((e2 _).trans hj)⟩
  go_enter Tryz.func241, Tryz.ntmps241
  go_wp2_with fail
  refine wp_region_held_drew (S := (fun y => y.cell? ⟨bx, 0, none⟩ = some (.slice (some ⟨bR, 0, none⟩) n n) ∧ y.cell? ⟨bR, i, none⟩ = some (.int .u64 ri) ∧ y.cell? ⟨bR, j, none⟩ = some (.int .u64 rj))) (by kernel_rfl) ⟨h0, hi, hj⟩ (fun hHeld => ?_)
  refine takeI 0 (some 6) (v := ?_) ?_ ?_
  rotate_left
  · (intro o ho w hSw; obtain ⟨z0, z1, z2⟩ := hSw; cases ho; go_simp; try with_reducible rfl)
  try simp only [Act.put, pB, pC, pD]
  refine takeI 1 (some 7) (v := ?_) ?_ ?_
  rotate_left
  · (intro o ho w hSw; obtain ⟨z0, z1, z2⟩ := hSw; cases ho; go_simp; try with_reducible rfl)
  try simp only [Act.put, pB, pC, pD]
  refine takeI 2 (some 8) (v := .pointer (some ⟨bR, j, none⟩)) ?_ ?_
  skip
  · (intro o ho w hSw; obtain ⟨z0, z1, z2⟩ := hSw; cases ho; go_simp; (try simp [Addr.add]); try with_reducible rfl)
  try simp only [Act.put, pB, pC, pD]
  refine takeI 3 (some 9) (v := ?_) ?_ ?_
  rotate_left
  · (intro o ho w hSw; obtain ⟨z0, z1, z2⟩ := hSw; cases ho; go_simp; try with_reducible rfl)
  try simp only [Act.put, pB, pC, pD]
  refine takeI 4 (some 10) (v := ?_) ?_ ?_
  rotate_left
  · (intro o ho w hSw; obtain ⟨z0, z1, z2⟩ := hSw; cases ho; go_simp; try with_reducible rfl)
  try simp only [Act.put, pB, pC, pD]
  refine takeI 5 (some 11) (v := ?_) ?_ ?_
  rotate_left
  · (intro o ho w hSw; obtain ⟨z0, z1, z2⟩ := hSw; cases ho; go_simp; try with_reducible rfl)
  try simp only [Act.put, pB, pC, pD]
  refine takeI 6 (some 12) (v := .pointer (some ⟨bR, i, none⟩)) ?_ ?_
  skip
  · (intro o ho w hSw; obtain ⟨z0, z1, z2⟩ := hSw; cases ho; go_simp; (try simp [Addr.add]); try with_reducible rfl)
  try simp only [Act.put, pB, pC, pD]
  refine takeI 7 (some 13) (v := ?_) ?_ ?_
  rotate_left
  · (intro o ho w hSw; obtain ⟨z0, z1, z2⟩ := hSw; cases ho; go_simp; try with_reducible rfl)
  try simp only [Act.put, pB, pC, pD]
  refine takeI 9 (some 15) (v := ?_) ?_ ?_
  rotate_left
  · (intro o ho w hSw; obtain ⟨z0, z1, z2⟩ := hSw; cases ho; go_simp; try with_reducible rfl)
  try simp only [Act.put, pB, pC, pD]
  refine takeI 10 (some 16) (v := ?_) ?_ ?_
  rotate_left
  · (intro o ho w hSw; obtain ⟨z0, z1, z2⟩ := hSw; cases ho; go_simp; try with_reducible rfl)
  try simp only [Act.put, pB, pC, pD]
  refine wpAnyH_ready (rs := [8]) (by kernel_rfl) (by simp) ?_
  refine AllReadyH.cons rfl (fun K hK => ?_) AllReadyH.nil
  go_simp
  go_at_call 242
  (refine (cmpU_any rj ri _).mono ?_)
  rintro e w3 ⟨rfl, rfl⟩
  go_wp2
  refine hK.out _ _ ?_ (fun hH8 => ?_)
  · exact ⟨h0, hi, hj⟩
  clear hK K
  try simp only [Act.put, pB, pC, pD]
  refine wpAnyH_ready (rs := [11]) (by kernel_rfl) (by simp) ?_
  refine AllReadyH.cons rfl (fun K hK => ?_) AllReadyH.nil
  go_simp
  go_at_call 28
  (refine (cmpI_any i j _).mono ?_)
  rintro e w3 ⟨rfl, rfl⟩
  go_wp2
  refine hK.out _ _ ?_ (fun hH11 => ?_)
  · exact ⟨h0, hi, hj⟩
  clear hK K
  try simp only [Act.put, pB, pC, pD]
  refine wpAnyH_ready (rs := [12]) (by kernel_rfl) (by simp) ?_
  refine AllReadyH.cons rfl (fun K hK => ?_) AllReadyH.nil
  go_simp
  refine hK.out _ _ ?_ (fun hH12 => ?_)
  · exact (hA _ _ rfl)
  clear hK K
  try simp only [Act.put, pB, pC, pD]
  refine wpAnyH_ready (rs := [13]) (by kernel_rfl) (by simp) ?_
  refine AllReadyH.cons rfl (fun K hK => ?_) AllReadyH.nil
  go_simp
  go_at_call 27
  (refine (or_any w.heap.size _ _ ((w.alloc (.cells #[.int .i64 (Lib.compareInt rj ri), .int .i64 (Lib.compareInt i j)] 3)).drew) (show Blk (w.alloc (.cells #[.int .i64 (Lib.compareInt rj ri), .int .i64 (Lib.compareInt i j)] 3)) w.heap.size 3 _ from Blk.new w _ _) (show w.heap.size < (w.alloc (.cells #[.int .i64 (Lib.compareInt rj ri), .int .i64 (Lib.compareInt i j)] 3)).heap.size by simp)).mono ?_)
  rintro e w3 ⟨rfl, rfl⟩
  go_wp2
  refine hK.out _ _ ?_ (fun hH13 => ?_)
  · exact (hA _ _ rfl)
  clear hK K
  try simp only [Act.put, pB, pC, pD]
  refine takeI 14 (some 5) (v := ?_) ?_ ?_
  rotate_left
  · (intro o ho w hSw; obtain ⟨z0, z1, z2⟩ := hSw; cases ho; go_simp; try with_reducible rfl)
  try simp only [Act.put, pB, pC, pD]
  refine wpAnyH_done (by kernel_rfl) ?_ _
  go_wp2
  go_ret
  exact ⟨rfl, 1, #[_], grow_one w _⟩
end Go.Proofs.YtgepbklpobobbaaGreatDoor

/- slices.SortFunc at ints: the library's contract at this program (laid by the kit's tool, in plain words). -/
namespace Go.Proofs
open Go.Shelf
def Tryz.sortFL_ren : Go.Shelf.Ren := ⟨fun | 6 => 240 | 15 => 72 | 14 => 254 | 28 => 123 | 29 => 124 | 20 => 259 | 21 => 260 | 22 => 261 | 23 => 262 | 24 => 263 | 25 => 264 | 26 => 265 | 27 => 266 | 46 => 267 | 47 => 182 | 48 => 183 | 49 => 268 | 50 => 269 | 57 => 270 | n => n, fun | 22 => 22 | 24 => 3 | 25 => 43 | 3 => 3 | 39 => 157 | 0 => 0 | 53 => 217 | 55 => 40 | 4 => 4 | 46 => 210 | 45 => 209 | 50 => 214 | 5 => 5 | 9 => 9 | 66 => 271 | 70 => 274 | 76 => 284 | 77 => 285 | n => n, fun | n => n⟩
theorem Tryz.sortFL : Go.Proofs.SlLaysF.n6 Tryz.prog Tryz.sortFL_ren := {
  mixed := by kernel_rfl
  f6 := ⟨Tryz.f240.name, by decide, Tryz.func240.trans (congrArg some (by kernel_rfl))⟩
  f14 := ⟨Tryz.f254.name, by decide, Tryz.func254.trans (congrArg some (by kernel_rfl))⟩
  f15 := Tryz.func72.trans (congrArg some (by kernel_rfl))
  f20 := ⟨Tryz.f259.name, by decide, Tryz.func259.trans (congrArg some (by kernel_rfl))⟩
  f21 := ⟨Tryz.f260.name, by decide, Tryz.func260.trans (congrArg some (by kernel_rfl))⟩
  f22 := ⟨Tryz.f261.name, by decide, Tryz.func261.trans (congrArg some (by kernel_rfl))⟩
  f23 := ⟨Tryz.f262.name, by decide, Tryz.func262.trans (congrArg some (by kernel_rfl))⟩
  f24 := ⟨Tryz.f263.name, by decide, Tryz.func263.trans (congrArg some (by kernel_rfl))⟩
  f25 := ⟨Tryz.f264.name, by decide, Tryz.func264.trans (congrArg some (by kernel_rfl))⟩
  f26 := ⟨Tryz.f265.name, by decide, Tryz.func265.trans (congrArg some (by kernel_rfl))⟩
  f27 := ⟨Tryz.f266.name, by decide, Tryz.func266.trans (congrArg some (by kernel_rfl))⟩
  f28 := Tryz.func123.trans (congrArg some (by kernel_rfl))
  f29 := Tryz.func124.trans (congrArg some (by kernel_rfl))
  f46 := ⟨Tryz.f267.name, by decide, Tryz.func267.trans (congrArg some (by kernel_rfl))⟩
  f47 := Tryz.func182.trans (congrArg some (by kernel_rfl))
  f48 := Tryz.func183.trans (congrArg some (by kernel_rfl))
  f49 := ⟨Tryz.f268.name, by decide, Tryz.func268.trans (congrArg some (by kernel_rfl))⟩
  f50 := ⟨Tryz.f269.name, by decide, Tryz.func269.trans (congrArg some (by kernel_rfl))⟩
  f57 := ⟨Tryz.f270.name, by decide, Tryz.func270.trans (congrArg some (by kernel_rfl))⟩
  t0 := Tryz.underlying0
  a0 := Tryz.isAgg0
  z0 := Tryz.sizeOf0
  v0 := Tryz.zeroValue0
  t3 := Tryz.underlying3
  a3 := Tryz.isAgg3
  z3 := Tryz.sizeOf3
  v3 := Tryz.zeroValue3
  t4 := Tryz.underlying4
  a4 := Tryz.isAgg4
  z4 := Tryz.sizeOf4
  v4 := Tryz.zeroValue4
  t5 := Tryz.underlying5
  a5 := Tryz.isAgg5
  z5 := Tryz.sizeOf5
  v5 := Tryz.zeroValue5
  t9 := Tryz.underlying9
  a9 := Tryz.isAgg9
  z9 := Tryz.sizeOf9
  v9 := Tryz.zeroValue9
  t22 := Tryz.underlying22
  a22 := Tryz.isAgg22
  z22 := Tryz.sizeOf22
  v22 := Tryz.zeroValue22
  a24 := Tryz.isAgg3
  z24 := Tryz.sizeOf3
  t25 := Tryz.underlying43
  a25 := Tryz.isAgg43
  z25 := Tryz.sizeOf43
  v25 := Tryz.zeroValue43
  t39 := Tryz.underlying157
  a39 := Tryz.isAgg157
  z39 := Tryz.sizeOf157
  v39 := Tryz.zeroValue157
  t45 := Tryz.underlying209
  a45 := Tryz.isAgg209
  z45 := Tryz.sizeOf209
  v45 := Tryz.zeroValue209
  t46 := Tryz.underlying210
  a46 := Tryz.isAgg210
  z46 := Tryz.sizeOf210
  v46 := Tryz.zeroValue210
  t50 := Tryz.underlying214
  a50 := Tryz.isAgg214
  z50 := Tryz.sizeOf214
  v50 := Tryz.zeroValue214
  t53 := Tryz.underlying217
  a53 := Tryz.isAgg217
  z53 := Tryz.sizeOf217
  v53 := Tryz.zeroValue217
  t55 := Tryz.underlying40
  a55 := Tryz.isAgg40
  z55 := Tryz.sizeOf40
  v55 := Tryz.zeroValue40
  t66 := Tryz.underlying271
  a66 := Tryz.isAgg271
  z66 := Tryz.sizeOf271
  v66 := Tryz.zeroValue271
  t70 := Tryz.underlying274
  a70 := Tryz.isAgg274
  z70 := Tryz.sizeOf274
  v70 := Tryz.zeroValue274
  t76 := Tryz.underlying284
  a76 := Tryz.isAgg284
  z76 := Tryz.sizeOf284
  v76 := Tryz.zeroValue284
  t77 := Tryz.underlying285
  a77 := Tryz.isAgg285
  z77 := Tryz.sizeOf285
  v77 := Tryz.zeroValue285 }
end Go.Proofs
