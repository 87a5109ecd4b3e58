/- book: the law's comparisons. -/
import Derived.Test.YtkandhpnenmleaaHBrOrd
import Derived.Test.YtkandhpnenmleaaHBkVoid

namespace Go.Proofs.Ytkandhpnenmleaa
open Go.RowKit

theorem lorder_any (o : Ord) (w : World) : Calls Try.prog 45 #[.agg #[.int .i64 o.id, .int .i64 o.acc, .bool o.buy, .int .i64 o.price, .int .i64 o.n, .int .i64 o.left]] w fun e w' => e = .returned (.agg #[.int .i64 o.id, .int .i64 o.acc, .bool o.buy, .int .i64 o.price, .int .i64 o.n, .int .i64 o.left, .bool false]) ∧ Below w.heap.size w w' := by
  go_enter Try.func45, Try.ntmps45
  go_wp2
  refine bodyPost_ret (v := .agg #[.int .i64 o.id, .int .i64 o.acc, .bool o.buy, .int .i64 o.price, .int .i64 o.n, .int .i64 o.left, .bool false]) (by simp [results, Try.results45, go_sem]) rfl ⟨rfl, ?_⟩
  exact ((Below.refl _ _).alloc (Nat.le_refl _) _).alloc (by simp) _
set_option maxRecDepth 100000 in
theorem rsame_any (o : Ord) (x y : Bool) (w : World) : Calls Try.prog 44 #[.agg #[.int .i64 o.id, .int .i64 o.acc, .bool o.buy, .int .i64 o.price, .int .i64 o.n, .int .i64 o.left, .bool x], .agg #[.int .i64 o.id, .int .i64 o.acc, .bool o.buy, .int .i64 o.price, .int .i64 o.n, .int .i64 o.left, .bool y]] w fun e w' => e = .returned (.bool true) ∧ Below w.heap.size w w' := by
  go_enter Try.func44, Try.ntmps44
  go_wp2
  go_ret
  exact ⟨rfl, bel2 w _ _⟩
theorem rordRow {W : World} {B n c : Nat} {A : Option Addr} {os : List ROrd} (h : W.ownsRow B 85 7 (.slice A n c) n (os.flatMap ROrd.cells)) (hl : os.length = n) {k : Nat} (hk : k < n) : ∃ g, A = some ⟨g, 0, none⟩ ∧ B ≤ g ∧ g < W.heap.size ∧ W.cell? ⟨g, k * 7, none⟩ = some (.int .i64 (rAt os k).o.id) ∧ W.cell? ⟨g, k * 7 + 1, none⟩ = some (.int .i64 (rAt os k).o.acc) ∧ W.cell? ⟨g, k * 7 + 2, none⟩ = some (.bool (rAt os k).o.buy) ∧ W.cell? ⟨g, k * 7 + 3, none⟩ = some (.int .i64 (rAt os k).o.price) ∧ W.cell? ⟨g, k * 7 + 4, none⟩ = some (.int .i64 (rAt os k).o.n) ∧ W.cell? ⟨g, k * 7 + 5, none⟩ = some (.int .i64 (rAt os k).o.left) ∧ W.cell? ⟨g, k * 7 + 6, none⟩ = some (.bool (rAt os k).e) := by
  have hk2 : k < os.length := by omega
  obtain ⟨g, cur, h2, h3, h4, h5, h6, h7, -, -⟩ := rown_ge h (by omega)
  have hc : ∀ i, i < 7 → W.cell? ⟨g, k * 7 + i, none⟩ = (ROrd.cells (rAt os k))[i]? := by
    intro i hi
    rw [rAt_eq hk2, ← flatT_at ROrd.cells 7 ROrd.cells_length os k i hk2 hi, ← h7, List.getElem?_take_of_lt (by omega)]
    simp [World.cell?, h6]
  refine ⟨g, h2, h4, h5, ?_, hc 1 (by omega), hc 2 (by omega), hc 3 (by omega), hc 4 (by omega), hc 5 (by omega), hc 6 (by omega)⟩
  exact hc 0 (by omega)

def trdAt (ts : List Trd) (k : Nat) : Trd := (ts[k]?).getD ⟨0, 0, 0, 0⟩
theorem trdAt_eq {ts : List Trd} {k : Nat} (h : k < ts.length) : trdAt ts k = ts[k] := by unfold trdAt; rw [List.getElem?_eq_getElem h]; rfl
theorem trdRow {W : World} {B n c : Nat} {A : Option Addr} {os : List Trd} (h : W.ownsRow B 46 4 (.slice A n c) n (os.flatMap Trd.cells)) (hl : os.length = n) {k : Nat} (hk : k < n) : ∃ g, A = some ⟨g, 0, none⟩ ∧ B ≤ g ∧ g < W.heap.size ∧ W.cell? ⟨g, k * 4, none⟩ = some (.int .i64 (trdAt os k).buy) ∧ W.cell? ⟨g, k * 4 + 1, none⟩ = some (.int .i64 (trdAt os k).sell) ∧ W.cell? ⟨g, k * 4 + 2, none⟩ = some (.int .i64 (trdAt os k).price) ∧ W.cell? ⟨g, k * 4 + 3, none⟩ = some (.int .i64 (trdAt os k).n) := by
  have hk2 : k < os.length := by omega
  obtain ⟨g, cur, h2, h3, h4, h5, h6, h7, -, -⟩ := rown_ge h (by omega)
  have hc : ∀ i, i < 4 → W.cell? ⟨g, k * 4 + i, none⟩ = (Trd.cells (trdAt os k))[i]? := by
    intro i hi
    rw [trdAt_eq hk2, ← flatT_at Trd.cells 4 Trd.cells_length os k i hk2 hi, ← h7, List.getElem?_take_of_lt (by omega)]
    simp [World.cell?, h6]
  refine ⟨g, h2, h4, h5, ?_, hc 1 (by omega), hc 2 (by omega), hc 3 (by omega)⟩
  exact hc 0 (by omega)

theorem rtrdRow {W : World} {B n c : Nat} {A : Option Addr} {os : List Trd} (h : W.ownsRow B 105 4 (.slice A n c) n (os.flatMap Trd.cells)) (hl : os.length = n) {k : Nat} (hk : k < n) : ∃ g, A = some ⟨g, 0, none⟩ ∧ B ≤ g ∧ g < W.heap.size ∧ W.cell? ⟨g, k * 4, none⟩ = some (.int .i64 (trdAt os k).buy) ∧ W.cell? ⟨g, k * 4 + 1, none⟩ = some (.int .i64 (trdAt os k).sell) ∧ W.cell? ⟨g, k * 4 + 2, none⟩ = some (.int .i64 (trdAt os k).price) ∧ W.cell? ⟨g, k * 4 + 3, none⟩ = some (.int .i64 (trdAt os k).n) := by
  have hk2 : k < os.length := by omega
  obtain ⟨g, cur, h2, h3, h4, h5, h6, h7, -, -⟩ := rown_ge h (by omega)
  have hc : ∀ i, i < 4 → W.cell? ⟨g, k * 4 + i, none⟩ = (Trd.cells (trdAt os k))[i]? := by
    intro i hi
    rw [trdAt_eq hk2, ← flatT_at Trd.cells 4 Trd.cells_length os k i hk2 hi, ← h7, List.getElem?_take_of_lt (by omega)]
    simp [World.cell?, h6]
  refine ⟨g, h2, h4, h5, ?_, hc 1 (by omega), hc 2 (by omega), hc 3 (by omega)⟩
  exact hc 0 (by omega)

set_option maxRecDepth 100000 in
set_option maxHeartbeats 4000000 in
theorem lsame_any (A1 A2 : Option Addr) (n c1 c2 B1 B2 : Nat) (os : List Ord) (rl : List ROrd) (w : World) (H1 : Hid (w.ownsRow B1 42 6 (.slice A1 n c1) n (os.flatMap Ord.cells))) (H2 : Hid (w.ownsRow B2 85 7 (.slice A2 n c2) n (rl.flatMap ROrd.cells))) (hl : Hid (os.length = n)) (he : Hid (rl.map ROrd.o = os)) (hn : n ≤ 100000) :
    Calls Try.prog 46 #[.slice A1 n c1, .slice A2 n c2] w fun e w' => e = .returned (.bool true) ∧ Below w.heap.size w w' := by
  go_enter Try.func46, Try.ntmps46
  go_wp2
  go_loopw [5] (fun iv wr => ∃ k : Nat, k ≤ n ∧ iv = .int .i64 (k : Int) ∧ Hid (Below w.heap.size w wr)) (fun iv _ => n - (intOf iv).toNat)
  case atStart => exact ⟨0, Nat.zero_le _, rfl, Lib.hid (Below.refl _ _)⟩
  case round =>
    obtain ⟨k, hk, rfl, HB⟩ := hrel
    rcases Nat.lt_or_ge k n with hlt | hge
    · have hii : (k : Int) < (n : Int) := by omega
      obtain ⟨ga, hA1, -, hga, a0, a1, a2, a3, a4, a5⟩ := ordRow (own_keep H1.out HB.out) hl.out hlt
      obtain ⟨gr, hA2, -, hgr, b0, b1, b2, b3, b4, b5, b6⟩ := rordRow (own_keep H2.out HB.out) (by rw [← he.out, List.length_map] at hl; exact hl.out) hlt
      have hxo : (rAt rl k).o = ordAt os k := by
        unfold rAt ordAt
        rw [← he.out, List.getElem?_map]
        cases rl[k]? <;> rfl
      subst hA1 hA2
      obtain ⟨y, hy⟩ : ∃ y, (rAt rl k).e = y := ⟨_, rfl⟩
      rw [hxo] at b0 b1 b2 b3 b4 b5
      rw [hy] at b6
      obtain ⟨o, ho⟩ : ∃ o, ordAt os k = o := ⟨_, rfl⟩
      rw [ho] at a0 a1 a2 a3 a4 a5 b0 b1 b2 b3 b4 b5
      have HS : Hid (∀ w', Below wr.heap.size wr w' → (fun w' => w'.cell? ⟨ga, k * 6, none⟩ = some (.int .i64 o.id) ∧ w'.cell? ⟨ga, k * 6 + 1, none⟩ = some (.int .i64 o.acc) ∧ w'.cell? ⟨ga, k * 6 + 2, none⟩ = some (.bool o.buy) ∧ w'.cell? ⟨ga, k * 6 + 3, none⟩ = some (.int .i64 o.price) ∧ w'.cell? ⟨ga, k * 6 + 4, none⟩ = some (.int .i64 o.n) ∧ w'.cell? ⟨ga, k * 6 + 5, none⟩ = some (.int .i64 o.left) ∧ w'.cell? ⟨gr, k * 7, none⟩ = some (.int .i64 o.id) ∧ w'.cell? ⟨gr, k * 7 + 1, none⟩ = some (.int .i64 o.acc) ∧ w'.cell? ⟨gr, k * 7 + 2, none⟩ = some (.bool o.buy) ∧ w'.cell? ⟨gr, k * 7 + 3, none⟩ = some (.int .i64 o.price) ∧ w'.cell? ⟨gr, k * 7 + 4, none⟩ = some (.int .i64 o.n) ∧ w'.cell? ⟨gr, k * 7 + 5, none⟩ = some (.int .i64 o.left) ∧ w'.cell? ⟨gr, k * 7 + 6, none⟩ = some (.bool y)) w') := Lib.hid (fun w' hb => by
        have ea : ∀ j, w'.cell? ⟨ga, j, none⟩ = wr.cell? ⟨ga, j, none⟩ := fun j => hb.cell (p := ⟨ga, j, none⟩) hga
        have eb : ∀ j, w'.cell? ⟨gr, j, none⟩ = wr.cell? ⟨gr, j, none⟩ := fun j => hb.cell (p := ⟨gr, j, none⟩) hgr
        simp only [ea, eb]
        exact ⟨a0, a1, a2, a3, a4, a5, b0, b1, b2, b3, b4, b5, b6⟩)
      have hP1 : Below wr.heap.size wr wr.drew := below_drewN (Below.refl _ _) 1
      clear hxo hy ho
      go_wp2
      refine wp_region_held_drew (S := (fun w' => w'.cell? ⟨ga, k * 6, none⟩ = some (.int .i64 o.id) ∧ w'.cell? ⟨ga, k * 6 + 1, none⟩ = some (.int .i64 o.acc) ∧ w'.cell? ⟨ga, k * 6 + 2, none⟩ = some (.bool o.buy) ∧ w'.cell? ⟨ga, k * 6 + 3, none⟩ = some (.int .i64 o.price) ∧ w'.cell? ⟨ga, k * 6 + 4, none⟩ = some (.int .i64 o.n) ∧ w'.cell? ⟨ga, k * 6 + 5, none⟩ = some (.int .i64 o.left) ∧ w'.cell? ⟨gr, k * 7, none⟩ = some (.int .i64 o.id) ∧ w'.cell? ⟨gr, k * 7 + 1, none⟩ = some (.int .i64 o.acc) ∧ w'.cell? ⟨gr, k * 7 + 2, none⟩ = some (.bool o.buy) ∧ w'.cell? ⟨gr, k * 7 + 3, none⟩ = some (.int .i64 o.price) ∧ w'.cell? ⟨gr, k * 7 + 4, none⟩ = some (.int .i64 o.n) ∧ w'.cell? ⟨gr, k * 7 + 5, none⟩ = some (.int .i64 o.left) ∧ w'.cell? ⟨gr, k * 7 + 6, none⟩ = some (.bool y))) (by kernel_rfl) (HS.out _ hP1) (fun hHeld => ?_)
      refine takeH 0 (some 17) (v := ?_) (by rfl) (by rfl) (by kernel_rfl) (by kernel_rfl) (by kernel_rfl) (fun _ _ _ h => h) ?_ (by assumption) ?_
      rotate_left
      · (intro o ho w hSw; obtain ⟨x0, x1, x2, x3, x4, x5, y0, y1, y2, y3, y4, y5, y6⟩ := hSw; cases ho; go_simp; try with_reducible rfl)
      try simp only [Act.put, List.setIfInBounds_toArray, List.set_cons_zero, List.set_cons_succ]
      refine takeH 1 (some 18) (v := ?_) (by rfl) (by rfl) (by kernel_rfl) (by kernel_rfl) (by kernel_rfl) (fun _ _ _ h => h) ?_ (by assumption) ?_
      rotate_left
      · (intro o ho w hSw; obtain ⟨x0, x1, x2, x3, x4, x5, y0, y1, y2, y3, y4, y5, y6⟩ := hSw; cases ho; go_simp; try with_reducible rfl)
      try simp only [Act.put, List.setIfInBounds_toArray, List.set_cons_zero, List.set_cons_succ]
      refine takeH 2 (some 19) (v := ?_) (by rfl) (by rfl) (by kernel_rfl) (by kernel_rfl) (by kernel_rfl) (fun _ _ _ h => h) ?_ (by assumption) ?_
      rotate_left
      · (intro o ho w hSw; obtain ⟨x0, x1, x2, x3, x4, x5, y0, y1, y2, y3, y4, y5, y6⟩ := hSw; cases ho; go_simp; try with_reducible rfl)
      try simp only [Act.put, List.setIfInBounds_toArray, List.set_cons_zero, List.set_cons_succ]
      refine takeH 3 (some 20) (v := ?_) (by rfl) (by rfl) (by kernel_rfl) (by kernel_rfl) (by kernel_rfl) (fun _ _ _ h => h) ?_ (by assumption) ?_
      rotate_left
      · (intro o ho w hSw; obtain ⟨x0, x1, x2, x3, x4, x5, y0, y1, y2, y3, y4, y5, y6⟩ := hSw; cases ho; go_simp; try with_reducible rfl)
      try simp only [Act.put, List.setIfInBounds_toArray, List.set_cons_zero, List.set_cons_succ]
      refine takeH 5 (some 22) (v := ?_) (by rfl) (by rfl) (by kernel_rfl) (by kernel_rfl) (by kernel_rfl) (fun _ _ _ h => h) ?_ (by assumption) ?_
      rotate_left
      · (intro o ho w hSw; obtain ⟨x0, x1, x2, x3, x4, x5, y0, y1, y2, y3, y4, y5, y6⟩ := hSw; cases ho; go_simp; try with_reducible rfl)
      try simp only [Act.put, List.setIfInBounds_toArray, List.set_cons_zero, List.set_cons_succ]
      refine takeH 6 (some 23) (v := ?_) (by rfl) (by rfl) (by kernel_rfl) (by kernel_rfl) (by kernel_rfl) (fun _ _ _ h => h) ?_ (by assumption) ?_
      rotate_left
      · (intro o ho w hSw; obtain ⟨x0, x1, x2, x3, x4, x5, y0, y1, y2, y3, y4, y5, y6⟩ := hSw; cases ho; go_simp; try with_reducible rfl)
      try simp only [Act.put, List.setIfInBounds_toArray, List.set_cons_zero, List.set_cons_succ]
      refine takeH 7 (some 24) (v := ?_) (by rfl) (by rfl) (by kernel_rfl) (by kernel_rfl) (by kernel_rfl) (fun _ _ _ h => h) ?_ (by assumption) ?_
      rotate_left
      · (intro o ho w hSw; obtain ⟨x0, x1, x2, x3, x4, x5, y0, y1, y2, y3, y4, y5, y6⟩ := hSw; cases ho; go_simp; try with_reducible rfl)
      try simp only [Act.put, List.setIfInBounds_toArray, List.set_cons_zero, List.set_cons_succ]
      refine takeH 8 (some 25) (v := ?_) (by rfl) (by rfl) (by kernel_rfl) (by kernel_rfl) (by kernel_rfl) (fun _ _ _ h => h) ?_ (by assumption) ?_
      rotate_left
      · (intro o ho w hSw; obtain ⟨x0, x1, x2, x3, x4, x5, y0, y1, y2, y3, y4, y5, y6⟩ := hSw; cases ho; go_simp; try with_reducible rfl)
      try simp only [Act.put, List.setIfInBounds_toArray, List.set_cons_zero, List.set_cons_succ]
      refine wpAnyH_ready (rs := [4]) (by kernel_rfl) (by simp) ?_
      refine AllReadyH.cons rfl (fun K hK => ?_) AllReadyH.nil
      go_simp
      go_at_call 45
      (with_reducible refine (lorder_any o _).mono ?_)
      rintro e w5 ⟨rfl, hb5⟩
      have hP5 := bt hP1 hb5
      go_wp2
      refine hK.out _ _ ?_ (fun hH5 => ?_)
      · exact (HS.out _ hP5)
      clear hK K
      try simp only [Act.put, List.setIfInBounds_toArray, List.set_cons_zero, List.set_cons_succ]
      refine wpAnyH_ready (rs := [9]) (by kernel_rfl) (by simp) ?_
      refine AllReadyH.cons rfl (fun K hK => ?_) AllReadyH.nil
      go_simp
      go_at_call 44
      (with_reducible refine (rsame_any o false y _).mono ?_)
      rintro e w6 ⟨rfl, hb6⟩
      have hP6 := bt hP5 hb6
      go_wp2
      refine hK.out _ _ ?_ (fun hH6 => ?_)
      · exact (HS.out _ hP6)
      clear hK K
      try simp only [Act.put, List.setIfInBounds_toArray, List.set_cons_zero, List.set_cons_succ]
      refine takeH 10 (some 27) (v := ?_) (by rfl) (by rfl) (by kernel_rfl) (by kernel_rfl) (by kernel_rfl) (fun _ _ _ h => h) ?_ (by assumption) ?_
      rotate_left
      · (intro o ho w hSw; obtain ⟨x0, x1, x2, x3, x4, x5, y0, y1, y2, y3, y4, y5, y6⟩ := hSw; cases ho; go_simp; try with_reducible rfl)
      try simp only [Act.put, List.setIfInBounds_toArray, List.set_cons_zero, List.set_cons_succ]
      refine wpAnyH_done (by kernel_rfl) ?_ _
      go_wp2
      exact ⟨⟨k + 1, by omega, by go_num, Lib.hid (bt HB.out hP6)⟩, by simp [intOf]; omega⟩
    · obtain rfl : k = n := by omega
      go_wp2
      go_ret
      exact ⟨rfl, HB.out⟩
set_option maxRecDepth 100000 in
set_option maxHeartbeats 4000000 in
theorem ltrades_any (A1 A2 : Option Addr) (n c1 c2 B1 B2 : Nat) (ts : List Trd) (w : World) (H1 : Hid (w.ownsRow B1 46 4 (.slice A1 n c1) n (ts.flatMap Trd.cells))) (H2 : Hid (w.ownsRow B2 105 4 (.slice A2 n c2) n (ts.flatMap Trd.cells))) (hl : Hid (ts.length = n)) (hn : n ≤ 100000) :
    Calls Try.prog 41 #[.slice A1 n c1, .slice A2 n c2] w fun e w' => e = .returned (.bool true) ∧ Below w.heap.size w w' := by
  go_enter Try.func41, Try.ntmps41
  go_wp2
  go_loopw [5] (fun iv wr => ∃ k : Nat, k ≤ n ∧ iv = .int .i64 (k : Int) ∧ Hid (Below w.heap.size w wr)) (fun iv _ => n - (intOf iv).toNat)
  case atStart => exact ⟨0, Nat.zero_le _, rfl, Lib.hid (Below.refl _ _)⟩
  case round =>
    obtain ⟨k, hk, rfl, HB⟩ := hrel
    rcases Nat.lt_or_ge k n with hlt | hge
    · have hii : (k : Int) < (n : Int) := by omega
      obtain ⟨ga, hA1, -, hga, a0, a1, a2, a3⟩ := trdRow (own_keep H1.out HB.out) hl.out hlt
      obtain ⟨gr, hA2, -, hgr, b0, b1, b2, b3⟩ := rtrdRow (own_keep H2.out HB.out) hl.out hlt
      subst hA1 hA2
      obtain ⟨t, ht⟩ : ∃ t, trdAt ts k = t := ⟨_, rfl⟩
      rw [ht] at a0 a1 a2 a3 b0 b1 b2 b3
      have HS : Hid (∀ w', Below wr.heap.size wr w' → (fun w' => w'.cell? ⟨ga, k * 4, none⟩ = some (.int .i64 t.buy) ∧ w'.cell? ⟨ga, k * 4 + 1, none⟩ = some (.int .i64 t.sell) ∧ w'.cell? ⟨ga, k * 4 + 2, none⟩ = some (.int .i64 t.price) ∧ w'.cell? ⟨ga, k * 4 + 3, none⟩ = some (.int .i64 t.n) ∧ w'.cell? ⟨gr, k * 4, none⟩ = some (.int .i64 t.buy) ∧ w'.cell? ⟨gr, k * 4 + 1, none⟩ = some (.int .i64 t.sell) ∧ w'.cell? ⟨gr, k * 4 + 2, none⟩ = some (.int .i64 t.price) ∧ w'.cell? ⟨gr, k * 4 + 3, none⟩ = some (.int .i64 t.n)) w') := Lib.hid (fun w' hb => by
        have ea : ∀ j, w'.cell? ⟨ga, j, none⟩ = wr.cell? ⟨ga, j, none⟩ := fun j => hb.cell (p := ⟨ga, j, none⟩) hga
        have eb : ∀ j, w'.cell? ⟨gr, j, none⟩ = wr.cell? ⟨gr, j, none⟩ := fun j => hb.cell (p := ⟨gr, j, none⟩) hgr
        simp only [ea, eb]
        exact ⟨a0, a1, a2, a3, b0, b1, b2, b3⟩)
      have hP1 : Below wr.heap.size wr wr.drew := below_drewN (Below.refl _ _) 1
      clear ht
      go_wp2
      refine wp_region_held_drew (S := (fun w' => w'.cell? ⟨ga, k * 4, none⟩ = some (.int .i64 t.buy) ∧ w'.cell? ⟨ga, k * 4 + 1, none⟩ = some (.int .i64 t.sell) ∧ w'.cell? ⟨ga, k * 4 + 2, none⟩ = some (.int .i64 t.price) ∧ w'.cell? ⟨ga, k * 4 + 3, none⟩ = some (.int .i64 t.n) ∧ w'.cell? ⟨gr, k * 4, none⟩ = some (.int .i64 t.buy) ∧ w'.cell? ⟨gr, k * 4 + 1, none⟩ = some (.int .i64 t.sell) ∧ w'.cell? ⟨gr, k * 4 + 2, none⟩ = some (.int .i64 t.price) ∧ w'.cell? ⟨gr, k * 4 + 3, none⟩ = some (.int .i64 t.n))) (by kernel_rfl) (HS.out _ hP1) (fun hHeld => ?_)
      refine takeH 0 (some 17) (v := ?_) (by rfl) (by rfl) (by kernel_rfl) (by kernel_rfl) (by kernel_rfl) (fun _ _ _ h => h) ?_ (by assumption) ?_
      rotate_left
      · (intro o ho w hSw; obtain ⟨x0, x1, x2, x3, y0, y1, y2, y3⟩ := hSw; cases ho; go_simp; try with_reducible rfl)
      try simp only [Act.put, List.setIfInBounds_toArray, List.set_cons_zero, List.set_cons_succ]
      refine takeH 1 (some 18) (v := ?_) (by rfl) (by rfl) (by kernel_rfl) (by kernel_rfl) (by kernel_rfl) (fun _ _ _ h => h) ?_ (by assumption) ?_
      rotate_left
      · (intro o ho w hSw; obtain ⟨x0, x1, x2, x3, y0, y1, y2, y3⟩ := hSw; cases ho; go_simp; try with_reducible rfl)
      try simp only [Act.put, List.setIfInBounds_toArray, List.set_cons_zero, List.set_cons_succ]
      refine takeH 2 (some 19) (v := ?_) (by rfl) (by rfl) (by kernel_rfl) (by kernel_rfl) (by kernel_rfl) (fun _ _ _ h => h) ?_ (by assumption) ?_
      rotate_left
      · (intro o ho w hSw; obtain ⟨x0, x1, x2, x3, y0, y1, y2, y3⟩ := hSw; cases ho; go_simp; try with_reducible rfl)
      try simp only [Act.put, List.setIfInBounds_toArray, List.set_cons_zero, List.set_cons_succ]
      refine takeH 3 (some 20) (v := ?_) (by rfl) (by rfl) (by kernel_rfl) (by kernel_rfl) (by kernel_rfl) (fun _ _ _ h => h) ?_ (by assumption) ?_
      rotate_left
      · (intro o ho w hSw; obtain ⟨x0, x1, x2, x3, y0, y1, y2, y3⟩ := hSw; cases ho; go_simp; try with_reducible rfl)
      try simp only [Act.put, List.setIfInBounds_toArray, List.set_cons_zero, List.set_cons_succ]
      refine takeH 4 (some 21) (v := ?_) (by rfl) (by rfl) (by kernel_rfl) (by kernel_rfl) (by kernel_rfl) (fun _ _ _ h => h) ?_ (by assumption) ?_
      rotate_left
      · (intro o ho w hSw; obtain ⟨x0, x1, x2, x3, y0, y1, y2, y3⟩ := hSw; cases ho; go_simp; try with_reducible rfl)
      try simp only [Act.put, List.setIfInBounds_toArray, List.set_cons_zero, List.set_cons_succ]
      refine takeH 5 (some 22) (v := ?_) (by rfl) (by rfl) (by kernel_rfl) (by kernel_rfl) (by kernel_rfl) (fun _ _ _ h => h) ?_ (by assumption) ?_
      rotate_left
      · (intro o ho w hSw; obtain ⟨x0, x1, x2, x3, y0, y1, y2, y3⟩ := hSw; cases ho; go_simp; try with_reducible rfl)
      try simp only [Act.put, List.setIfInBounds_toArray, List.set_cons_zero, List.set_cons_succ]
      refine takeH 6 (some 23) (v := ?_) (by rfl) (by rfl) (by kernel_rfl) (by kernel_rfl) (by kernel_rfl) (fun _ _ _ h => h) ?_ (by assumption) ?_
      rotate_left
      · (intro o ho w hSw; obtain ⟨x0, x1, x2, x3, y0, y1, y2, y3⟩ := hSw; cases ho; go_simp; try with_reducible rfl)
      try simp only [Act.put, List.setIfInBounds_toArray, List.set_cons_zero, List.set_cons_succ]
      refine takeH 7 (some 24) (v := ?_) (by rfl) (by rfl) (by kernel_rfl) (by kernel_rfl) (by kernel_rfl) (fun _ _ _ h => h) ?_ (by assumption) ?_
      rotate_left
      · (intro o ho w hSw; obtain ⟨x0, x1, x2, x3, y0, y1, y2, y3⟩ := hSw; cases ho; go_simp; try with_reducible rfl)
      try simp only [Act.put, List.setIfInBounds_toArray, List.set_cons_zero, List.set_cons_succ]
      refine takeH 8 (some 25) (v := ?_) (by rfl) (by rfl) (by kernel_rfl) (by kernel_rfl) (by kernel_rfl) (fun _ _ _ h => h) ?_ (by assumption) ?_
      rotate_left
      · (intro o ho w hSw; obtain ⟨x0, x1, x2, x3, y0, y1, y2, y3⟩ := hSw; cases ho; go_simp; try with_reducible rfl)
      try simp only [Act.put, List.setIfInBounds_toArray, List.set_cons_zero, List.set_cons_succ]
      refine takeH 9 (some 26) (v := ?_) (by rfl) (by rfl) (by kernel_rfl) (by kernel_rfl) (by kernel_rfl) (fun _ _ _ h => h) ?_ (by assumption) ?_
      rotate_left
      · (intro o ho w hSw; obtain ⟨x0, x1, x2, x3, y0, y1, y2, y3⟩ := hSw; cases ho; go_simp; try with_reducible rfl)
      try simp only [Act.put, List.setIfInBounds_toArray, List.set_cons_zero, List.set_cons_succ]
      refine takeH 10 (some 27) (v := ?_) (by rfl) (by rfl) (by kernel_rfl) (by kernel_rfl) (by kernel_rfl) (fun _ _ _ h => h) ?_ (by assumption) ?_
      rotate_left
      · (intro o ho w hSw; obtain ⟨x0, x1, x2, x3, y0, y1, y2, y3⟩ := hSw; cases ho; go_simp; try with_reducible rfl)
      try simp only [Act.put, List.setIfInBounds_toArray, List.set_cons_zero, List.set_cons_succ]
      refine takeH 11 (some 28) (v := ?_) (by rfl) (by rfl) (by kernel_rfl) (by kernel_rfl) (by kernel_rfl) (fun _ _ _ h => h) ?_ (by assumption) ?_
      rotate_left
      · (intro o ho w hSw; obtain ⟨x0, x1, x2, x3, y0, y1, y2, y3⟩ := hSw; cases ho; go_simp; try with_reducible rfl)
      try simp only [Act.put, List.setIfInBounds_toArray, List.set_cons_zero, List.set_cons_succ]
      first
      | refine skipH 12 (some 29) (by rfl) (by rfl) (by kernel_rfl) (by kernel_rfl) (by kernel_rfl) (fun _ _ _ h => h) (by assumption) ?_
      | refine takeH 12 (some 29) (v := ?_) (by rfl) (by rfl) (by kernel_rfl) (by kernel_rfl) (by kernel_rfl) (fun _ _ _ h => h) ?_ (by assumption) ?_
        rotate_left
        · (intro o ho w hSw; obtain ⟨x0, x1, x2, x3, y0, y1, y2, y3⟩ := hSw; cases ho; go_simp; try with_reducible rfl)
      try simp only [Act.put, List.setIfInBounds_toArray, List.set_cons_zero, List.set_cons_succ]
      first
      | refine skipH 13 (some 30) (by rfl) (by rfl) (by kernel_rfl) (by kernel_rfl) (by kernel_rfl) (fun _ _ _ h => h) (by assumption) ?_
      | refine takeH 13 (some 30) (v := ?_) (by rfl) (by rfl) (by kernel_rfl) (by kernel_rfl) (by kernel_rfl) (fun _ _ _ h => h) ?_ (by assumption) ?_
        rotate_left
        · (intro o ho w hSw; obtain ⟨x0, x1, x2, x3, y0, y1, y2, y3⟩ := hSw; cases ho; go_simp; try with_reducible rfl)
      try simp only [Act.put, List.setIfInBounds_toArray, List.set_cons_zero, List.set_cons_succ]
      first
      | refine skipH 14 (some 31) (by rfl) (by rfl) (by kernel_rfl) (by kernel_rfl) (by kernel_rfl) (fun _ _ _ h => h) (by assumption) ?_
      | refine takeH 14 (some 31) (v := ?_) (by rfl) (by rfl) (by kernel_rfl) (by kernel_rfl) (by kernel_rfl) (fun _ _ _ h => h) ?_ (by assumption) ?_
        rotate_left
        · (intro o ho w hSw; obtain ⟨x0, x1, x2, x3, y0, y1, y2, y3⟩ := hSw; cases ho; go_simp; try with_reducible rfl)
      try simp only [Act.put, List.setIfInBounds_toArray, List.set_cons_zero, List.set_cons_succ]
      first
      | refine skipH 15 (some 32) (by rfl) (by rfl) (by kernel_rfl) (by kernel_rfl) (by kernel_rfl) (fun _ _ _ h => h) (by assumption) ?_
      | refine takeH 15 (some 32) (v := ?_) (by rfl) (by rfl) (by kernel_rfl) (by kernel_rfl) (by kernel_rfl) (fun _ _ _ h => h) ?_ (by assumption) ?_
        rotate_left
        · (intro o ho w hSw; obtain ⟨x0, x1, x2, x3, y0, y1, y2, y3⟩ := hSw; cases ho; go_simp; try with_reducible rfl)
      try simp only [Act.put, List.setIfInBounds_toArray, List.set_cons_zero, List.set_cons_succ]
      first
      | refine skipH 16 (some 33) (by rfl) (by rfl) (by kernel_rfl) (by kernel_rfl) (by kernel_rfl) (fun _ _ _ h => h) (by assumption) ?_
      | refine takeH 16 (some 33) (v := ?_) (by rfl) (by rfl) (by kernel_rfl) (by kernel_rfl) (by kernel_rfl) (fun _ _ _ h => h) ?_ (by assumption) ?_
        rotate_left
        · (intro o ho w hSw; obtain ⟨x0, x1, x2, x3, y0, y1, y2, y3⟩ := hSw; cases ho; go_simp; try with_reducible rfl)
      try simp only [Act.put, List.setIfInBounds_toArray, List.set_cons_zero, List.set_cons_succ]
      first
      | refine skipH 17 (some 34) (by rfl) (by rfl) (by kernel_rfl) (by kernel_rfl) (by kernel_rfl) (fun _ _ _ h => h) (by assumption) ?_
      | refine takeH 17 (some 34) (v := ?_) (by rfl) (by rfl) (by kernel_rfl) (by kernel_rfl) (by kernel_rfl) (fun _ _ _ h => h) ?_ (by assumption) ?_
        rotate_left
        · (intro o ho w hSw; obtain ⟨x0, x1, x2, x3, y0, y1, y2, y3⟩ := hSw; cases ho; go_simp; try with_reducible rfl)
      try simp only [Act.put, List.setIfInBounds_toArray, List.set_cons_zero, List.set_cons_succ]
      first
      | refine skipH 18 (some 35) (by rfl) (by rfl) (by kernel_rfl) (by kernel_rfl) (by kernel_rfl) (fun _ _ _ h => h) (by assumption) ?_
      | refine takeH 18 (some 35) (v := ?_) (by rfl) (by rfl) (by kernel_rfl) (by kernel_rfl) (by kernel_rfl) (fun _ _ _ h => h) ?_ (by assumption) ?_
        rotate_left
        · (intro o ho w hSw; obtain ⟨x0, x1, x2, x3, y0, y1, y2, y3⟩ := hSw; cases ho; go_simp; try with_reducible rfl)
      try simp only [Act.put, List.setIfInBounds_toArray, List.set_cons_zero, List.set_cons_succ]
      first
      | refine skipH 19 (some 36) (by rfl) (by rfl) (by kernel_rfl) (by kernel_rfl) (by kernel_rfl) (fun _ _ _ h => h) (by assumption) ?_
      | refine takeH 19 (some 36) (v := ?_) (by rfl) (by rfl) (by kernel_rfl) (by kernel_rfl) (by kernel_rfl) (fun _ _ _ h => h) ?_ (by assumption) ?_
        rotate_left
        · (intro o ho w hSw; obtain ⟨x0, x1, x2, x3, y0, y1, y2, y3⟩ := hSw; cases ho; go_simp; try with_reducible rfl)
      try simp only [Act.put, List.setIfInBounds_toArray, List.set_cons_zero, List.set_cons_succ]
      first
      | refine skipH 20 (some 37) (by rfl) (by rfl) (by kernel_rfl) (by kernel_rfl) (by kernel_rfl) (fun _ _ _ h => h) (by assumption) ?_
      | refine takeH 20 (some 37) (v := ?_) (by rfl) (by rfl) (by kernel_rfl) (by kernel_rfl) (by kernel_rfl) (fun _ _ _ h => h) ?_ (by assumption) ?_
        rotate_left
        · (intro o ho w hSw; obtain ⟨x0, x1, x2, x3, y0, y1, y2, y3⟩ := hSw; cases ho; go_simp; try with_reducible rfl)
      try simp only [Act.put, List.setIfInBounds_toArray, List.set_cons_zero, List.set_cons_succ]
      first
      | refine skipH 21 (some 38) (by rfl) (by rfl) (by kernel_rfl) (by kernel_rfl) (by kernel_rfl) (fun _ _ _ h => h) (by assumption) ?_
      | refine takeH 21 (some 38) (v := ?_) (by rfl) (by rfl) (by kernel_rfl) (by kernel_rfl) (by kernel_rfl) (fun _ _ _ h => h) ?_ (by assumption) ?_
        rotate_left
        · (intro o ho w hSw; obtain ⟨x0, x1, x2, x3, y0, y1, y2, y3⟩ := hSw; cases ho; go_simp; try with_reducible rfl)
      try simp only [Act.put, List.setIfInBounds_toArray, List.set_cons_zero, List.set_cons_succ]
      first
      | refine skipH 22 (some 39) (by rfl) (by rfl) (by kernel_rfl) (by kernel_rfl) (by kernel_rfl) (fun _ _ _ h => h) (by assumption) ?_
      | refine takeH 22 (some 39) (v := ?_) (by rfl) (by rfl) (by kernel_rfl) (by kernel_rfl) (by kernel_rfl) (fun _ _ _ h => h) ?_ (by assumption) ?_
        rotate_left
        · (intro o ho w hSw; obtain ⟨x0, x1, x2, x3, y0, y1, y2, y3⟩ := hSw; cases ho; go_simp; try with_reducible rfl)
      try simp only [Act.put, List.setIfInBounds_toArray, List.set_cons_zero, List.set_cons_succ]
      refine takeH 23 (some 40) (v := ?_) (by rfl) (by rfl) (by kernel_rfl) (by kernel_rfl) (by kernel_rfl) (fun _ _ _ h => h) ?_ (by assumption) ?_
      rotate_left
      · (intro o ho w hSw; obtain ⟨x0, x1, x2, x3, y0, y1, y2, y3⟩ := hSw; cases ho; go_simp; try with_reducible rfl)
      try simp only [Act.put, List.setIfInBounds_toArray, List.set_cons_zero, List.set_cons_succ]
      refine takeH 24 (some 41) (v := ?_) (by rfl) (by rfl) (by kernel_rfl) (by kernel_rfl) (by kernel_rfl) (fun _ _ _ h => h) ?_ (by assumption) ?_
      rotate_left
      · (intro o ho w hSw; obtain ⟨x0, x1, x2, x3, y0, y1, y2, y3⟩ := hSw; cases ho; go_simp; try with_reducible rfl)
      try simp only [Act.put, List.setIfInBounds_toArray, List.set_cons_zero, List.set_cons_succ]
      first
      | refine skipH 25 (some 42) (by rfl) (by rfl) (by kernel_rfl) (by kernel_rfl) (by kernel_rfl) (fun _ _ _ h => h) (by assumption) ?_
      | refine takeH 25 (some 42) (v := ?_) (by rfl) (by rfl) (by kernel_rfl) (by kernel_rfl) (by kernel_rfl) (fun _ _ _ h => h) ?_ (by assumption) ?_
        rotate_left
        · (intro o ho w hSw; obtain ⟨x0, x1, x2, x3, y0, y1, y2, y3⟩ := hSw; cases ho; go_simp; try with_reducible rfl)
      try simp only [Act.put, List.setIfInBounds_toArray, List.set_cons_zero, List.set_cons_succ]
      first
      | refine skipH 26 (some 43) (by rfl) (by rfl) (by kernel_rfl) (by kernel_rfl) (by kernel_rfl) (fun _ _ _ h => h) (by assumption) ?_
      | refine takeH 26 (some 43) (v := ?_) (by rfl) (by rfl) (by kernel_rfl) (by kernel_rfl) (by kernel_rfl) (fun _ _ _ h => h) ?_ (by assumption) ?_
        rotate_left
        · (intro o ho w hSw; obtain ⟨x0, x1, x2, x3, y0, y1, y2, y3⟩ := hSw; cases ho; go_simp; try with_reducible rfl)
      try simp only [Act.put, List.setIfInBounds_toArray, List.set_cons_zero, List.set_cons_succ]
      first
      | refine skipH 27 (some 44) (by rfl) (by rfl) (by kernel_rfl) (by kernel_rfl) (by kernel_rfl) (fun _ _ _ h => h) (by assumption) ?_
      | refine takeH 27 (some 44) (v := ?_) (by rfl) (by rfl) (by kernel_rfl) (by kernel_rfl) (by kernel_rfl) (fun _ _ _ h => h) ?_ (by assumption) ?_
        rotate_left
        · (intro o ho w hSw; obtain ⟨x0, x1, x2, x3, y0, y1, y2, y3⟩ := hSw; cases ho; go_simp; try with_reducible rfl)
      try simp only [Act.put, List.setIfInBounds_toArray, List.set_cons_zero, List.set_cons_succ]
      first
      | refine skipH 28 (some 45) (by rfl) (by rfl) (by kernel_rfl) (by kernel_rfl) (by kernel_rfl) (fun _ _ _ h => h) (by assumption) ?_
      | refine takeH 28 (some 45) (v := ?_) (by rfl) (by rfl) (by kernel_rfl) (by kernel_rfl) (by kernel_rfl) (fun _ _ _ h => h) ?_ (by assumption) ?_
        rotate_left
        · (intro o ho w hSw; obtain ⟨x0, x1, x2, x3, y0, y1, y2, y3⟩ := hSw; cases ho; go_simp; try with_reducible rfl)
      try simp only [Act.put, List.setIfInBounds_toArray, List.set_cons_zero, List.set_cons_succ]
      first
      | refine skipH 29 (some 46) (by rfl) (by rfl) (by kernel_rfl) (by kernel_rfl) (by kernel_rfl) (fun _ _ _ h => h) (by assumption) ?_
      | refine takeH 29 (some 46) (v := ?_) (by rfl) (by rfl) (by kernel_rfl) (by kernel_rfl) (by kernel_rfl) (fun _ _ _ h => h) ?_ (by assumption) ?_
        rotate_left
        · (intro o ho w hSw; obtain ⟨x0, x1, x2, x3, y0, y1, y2, y3⟩ := hSw; cases ho; go_simp; try with_reducible rfl)
      try simp only [Act.put, List.setIfInBounds_toArray, List.set_cons_zero, List.set_cons_succ]
      first
      | refine skipH 30 (some 47) (by rfl) (by rfl) (by kernel_rfl) (by kernel_rfl) (by kernel_rfl) (fun _ _ _ h => h) (by assumption) ?_
      | refine takeH 30 (some 47) (v := ?_) (by rfl) (by rfl) (by kernel_rfl) (by kernel_rfl) (by kernel_rfl) (fun _ _ _ h => h) ?_ (by assumption) ?_
        rotate_left
        · (intro o ho w hSw; obtain ⟨x0, x1, x2, x3, y0, y1, y2, y3⟩ := hSw; cases ho; go_simp; try with_reducible rfl)
      try simp only [Act.put, List.setIfInBounds_toArray, List.set_cons_zero, List.set_cons_succ]
      first
      | refine skipH 31 (some 48) (by rfl) (by rfl) (by kernel_rfl) (by kernel_rfl) (by kernel_rfl) (fun _ _ _ h => h) (by assumption) ?_
      | refine takeH 31 (some 48) (v := ?_) (by rfl) (by rfl) (by kernel_rfl) (by kernel_rfl) (by kernel_rfl) (fun _ _ _ h => h) ?_ (by assumption) ?_
        rotate_left
        · (intro o ho w hSw; obtain ⟨x0, x1, x2, x3, y0, y1, y2, y3⟩ := hSw; cases ho; go_simp; try with_reducible rfl)
      try simp only [Act.put, List.setIfInBounds_toArray, List.set_cons_zero, List.set_cons_succ]
      first
      | refine skipH 32 (some 49) (by rfl) (by rfl) (by kernel_rfl) (by kernel_rfl) (by kernel_rfl) (fun _ _ _ h => h) (by assumption) ?_
      | refine takeH 32 (some 49) (v := ?_) (by rfl) (by rfl) (by kernel_rfl) (by kernel_rfl) (by kernel_rfl) (fun _ _ _ h => h) ?_ (by assumption) ?_
        rotate_left
        · (intro o ho w hSw; obtain ⟨x0, x1, x2, x3, y0, y1, y2, y3⟩ := hSw; cases ho; go_simp; try with_reducible rfl)
      try simp only [Act.put, List.setIfInBounds_toArray, List.set_cons_zero, List.set_cons_succ]
      first
      | refine skipH 33 (some 50) (by rfl) (by rfl) (by kernel_rfl) (by kernel_rfl) (by kernel_rfl) (fun _ _ _ h => h) (by assumption) ?_
      | refine takeH 33 (some 50) (v := ?_) (by rfl) (by rfl) (by kernel_rfl) (by kernel_rfl) (by kernel_rfl) (fun _ _ _ h => h) ?_ (by assumption) ?_
        rotate_left
        · (intro o ho w hSw; obtain ⟨x0, x1, x2, x3, y0, y1, y2, y3⟩ := hSw; cases ho; go_simp; try with_reducible rfl)
      try simp only [Act.put, List.setIfInBounds_toArray, List.set_cons_zero, List.set_cons_succ]
      first
      | refine skipH 34 (some 51) (by rfl) (by rfl) (by kernel_rfl) (by kernel_rfl) (by kernel_rfl) (fun _ _ _ h => h) (by assumption) ?_
      | refine takeH 34 (some 51) (v := ?_) (by rfl) (by rfl) (by kernel_rfl) (by kernel_rfl) (by kernel_rfl) (fun _ _ _ h => h) ?_ (by assumption) ?_
        rotate_left
        · (intro o ho w hSw; obtain ⟨x0, x1, x2, x3, y0, y1, y2, y3⟩ := hSw; cases ho; go_simp; try with_reducible rfl)
      try simp only [Act.put, List.setIfInBounds_toArray, List.set_cons_zero, List.set_cons_succ]
      first
      | refine skipH 35 (some 52) (by rfl) (by rfl) (by kernel_rfl) (by kernel_rfl) (by kernel_rfl) (fun _ _ _ h => h) (by assumption) ?_
      | refine takeH 35 (some 52) (v := ?_) (by rfl) (by rfl) (by kernel_rfl) (by kernel_rfl) (by kernel_rfl) (fun _ _ _ h => h) ?_ (by assumption) ?_
        rotate_left
        · (intro o ho w hSw; obtain ⟨x0, x1, x2, x3, y0, y1, y2, y3⟩ := hSw; cases ho; go_simp; try with_reducible rfl)
      try simp only [Act.put, List.setIfInBounds_toArray, List.set_cons_zero, List.set_cons_succ]
      refine takeH 36 (some 53) (v := ?_) (by rfl) (by rfl) (by kernel_rfl) (by kernel_rfl) (by kernel_rfl) (fun _ _ _ h => h) ?_ (by assumption) ?_
      rotate_left
      · (intro o ho w hSw; obtain ⟨x0, x1, x2, x3, y0, y1, y2, y3⟩ := hSw; cases ho; go_simp; try with_reducible rfl)
      try simp only [Act.put, List.setIfInBounds_toArray, List.set_cons_zero, List.set_cons_succ]
      refine takeH 37 (some 54) (v := ?_) (by rfl) (by rfl) (by kernel_rfl) (by kernel_rfl) (by kernel_rfl) (fun _ _ _ h => h) ?_ (by assumption) ?_
      rotate_left
      · (intro o ho w hSw; obtain ⟨x0, x1, x2, x3, y0, y1, y2, y3⟩ := hSw; cases ho; go_simp; try with_reducible rfl)
      try simp only [Act.put, List.setIfInBounds_toArray, List.set_cons_zero, List.set_cons_succ]
      first
      | refine skipH 38 (some 55) (by rfl) (by rfl) (by kernel_rfl) (by kernel_rfl) (by kernel_rfl) (fun _ _ _ h => h) (by assumption) ?_
      | refine takeH 38 (some 55) (v := ?_) (by rfl) (by rfl) (by kernel_rfl) (by kernel_rfl) (by kernel_rfl) (fun _ _ _ h => h) ?_ (by assumption) ?_
        rotate_left
        · (intro o ho w hSw; obtain ⟨x0, x1, x2, x3, y0, y1, y2, y3⟩ := hSw; cases ho; go_simp; try with_reducible rfl)
      try simp only [Act.put, List.setIfInBounds_toArray, List.set_cons_zero, List.set_cons_succ]
      first
      | refine skipH 39 (some 56) (by rfl) (by rfl) (by kernel_rfl) (by kernel_rfl) (by kernel_rfl) (fun _ _ _ h => h) (by assumption) ?_
      | refine takeH 39 (some 56) (v := ?_) (by rfl) (by rfl) (by kernel_rfl) (by kernel_rfl) (by kernel_rfl) (fun _ _ _ h => h) ?_ (by assumption) ?_
        rotate_left
        · (intro o ho w hSw; obtain ⟨x0, x1, x2, x3, y0, y1, y2, y3⟩ := hSw; cases ho; go_simp; try with_reducible rfl)
      try simp only [Act.put, List.setIfInBounds_toArray, List.set_cons_zero, List.set_cons_succ]
      first
      | refine skipH 40 (some 57) (by rfl) (by rfl) (by kernel_rfl) (by kernel_rfl) (by kernel_rfl) (fun _ _ _ h => h) (by assumption) ?_
      | refine takeH 40 (some 57) (v := ?_) (by rfl) (by rfl) (by kernel_rfl) (by kernel_rfl) (by kernel_rfl) (fun _ _ _ h => h) ?_ (by assumption) ?_
        rotate_left
        · (intro o ho w hSw; obtain ⟨x0, x1, x2, x3, y0, y1, y2, y3⟩ := hSw; cases ho; go_simp; try with_reducible rfl)
      try simp only [Act.put, List.setIfInBounds_toArray, List.set_cons_zero, List.set_cons_succ]
      first
      | refine skipH 41 (some 58) (by rfl) (by rfl) (by kernel_rfl) (by kernel_rfl) (by kernel_rfl) (fun _ _ _ h => h) (by assumption) ?_
      | refine takeH 41 (some 58) (v := ?_) (by rfl) (by rfl) (by kernel_rfl) (by kernel_rfl) (by kernel_rfl) (fun _ _ _ h => h) ?_ (by assumption) ?_
        rotate_left
        · (intro o ho w hSw; obtain ⟨x0, x1, x2, x3, y0, y1, y2, y3⟩ := hSw; cases ho; go_simp; try with_reducible rfl)
      try simp only [Act.put, List.setIfInBounds_toArray, List.set_cons_zero, List.set_cons_succ]
      first
      | refine skipH 42 (some 59) (by rfl) (by rfl) (by kernel_rfl) (by kernel_rfl) (by kernel_rfl) (fun _ _ _ h => h) (by assumption) ?_
      | refine takeH 42 (some 59) (v := ?_) (by rfl) (by rfl) (by kernel_rfl) (by kernel_rfl) (by kernel_rfl) (fun _ _ _ h => h) ?_ (by assumption) ?_
        rotate_left
        · (intro o ho w hSw; obtain ⟨x0, x1, x2, x3, y0, y1, y2, y3⟩ := hSw; cases ho; go_simp; try with_reducible rfl)
      try simp only [Act.put, List.setIfInBounds_toArray, List.set_cons_zero, List.set_cons_succ]
      first
      | refine skipH 43 (some 60) (by rfl) (by rfl) (by kernel_rfl) (by kernel_rfl) (by kernel_rfl) (fun _ _ _ h => h) (by assumption) ?_
      | refine takeH 43 (some 60) (v := ?_) (by rfl) (by rfl) (by kernel_rfl) (by kernel_rfl) (by kernel_rfl) (fun _ _ _ h => h) ?_ (by assumption) ?_
        rotate_left
        · (intro o ho w hSw; obtain ⟨x0, x1, x2, x3, y0, y1, y2, y3⟩ := hSw; cases ho; go_simp; try with_reducible rfl)
      try simp only [Act.put, List.setIfInBounds_toArray, List.set_cons_zero, List.set_cons_succ]
      first
      | refine skipH 44 (some 61) (by rfl) (by rfl) (by kernel_rfl) (by kernel_rfl) (by kernel_rfl) (fun _ _ _ h => h) (by assumption) ?_
      | refine takeH 44 (some 61) (v := ?_) (by rfl) (by rfl) (by kernel_rfl) (by kernel_rfl) (by kernel_rfl) (fun _ _ _ h => h) ?_ (by assumption) ?_
        rotate_left
        · (intro o ho w hSw; obtain ⟨x0, x1, x2, x3, y0, y1, y2, y3⟩ := hSw; cases ho; go_simp; try with_reducible rfl)
      try simp only [Act.put, List.setIfInBounds_toArray, List.set_cons_zero, List.set_cons_succ]
      first
      | refine skipH 45 (some 62) (by rfl) (by rfl) (by kernel_rfl) (by kernel_rfl) (by kernel_rfl) (fun _ _ _ h => h) (by assumption) ?_
      | refine takeH 45 (some 62) (v := ?_) (by rfl) (by rfl) (by kernel_rfl) (by kernel_rfl) (by kernel_rfl) (fun _ _ _ h => h) ?_ (by assumption) ?_
        rotate_left
        · (intro o ho w hSw; obtain ⟨x0, x1, x2, x3, y0, y1, y2, y3⟩ := hSw; cases ho; go_simp; try with_reducible rfl)
      try simp only [Act.put, List.setIfInBounds_toArray, List.set_cons_zero, List.set_cons_succ]
      first
      | refine skipH 46 (some 63) (by rfl) (by rfl) (by kernel_rfl) (by kernel_rfl) (by kernel_rfl) (fun _ _ _ h => h) (by assumption) ?_
      | refine takeH 46 (some 63) (v := ?_) (by rfl) (by rfl) (by kernel_rfl) (by kernel_rfl) (by kernel_rfl) (fun _ _ _ h => h) ?_ (by assumption) ?_
        rotate_left
        · (intro o ho w hSw; obtain ⟨x0, x1, x2, x3, y0, y1, y2, y3⟩ := hSw; cases ho; go_simp; try with_reducible rfl)
      try simp only [Act.put, List.setIfInBounds_toArray, List.set_cons_zero, List.set_cons_succ]
      first
      | refine skipH 47 (some 64) (by rfl) (by rfl) (by kernel_rfl) (by kernel_rfl) (by kernel_rfl) (fun _ _ _ h => h) (by assumption) ?_
      | refine takeH 47 (some 64) (v := ?_) (by rfl) (by rfl) (by kernel_rfl) (by kernel_rfl) (by kernel_rfl) (fun _ _ _ h => h) ?_ (by assumption) ?_
        rotate_left
        · (intro o ho w hSw; obtain ⟨x0, x1, x2, x3, y0, y1, y2, y3⟩ := hSw; cases ho; go_simp; try with_reducible rfl)
      try simp only [Act.put, List.setIfInBounds_toArray, List.set_cons_zero, List.set_cons_succ]
      first
      | refine skipH 48 (some 65) (by rfl) (by rfl) (by kernel_rfl) (by kernel_rfl) (by kernel_rfl) (fun _ _ _ h => h) (by assumption) ?_
      | refine takeH 48 (some 65) (v := ?_) (by rfl) (by rfl) (by kernel_rfl) (by kernel_rfl) (by kernel_rfl) (fun _ _ _ h => h) ?_ (by assumption) ?_
        rotate_left
        · (intro o ho w hSw; obtain ⟨x0, x1, x2, x3, y0, y1, y2, y3⟩ := hSw; cases ho; go_simp; try with_reducible rfl)
      try simp only [Act.put, List.setIfInBounds_toArray, List.set_cons_zero, List.set_cons_succ]
      refine takeH 49 (some 66) (v := ?_) (by rfl) (by rfl) (by kernel_rfl) (by kernel_rfl) (by kernel_rfl) (fun _ _ _ h => h) ?_ (by assumption) ?_
      rotate_left
      · (intro o ho w hSw; obtain ⟨x0, x1, x2, x3, y0, y1, y2, y3⟩ := hSw; cases ho; go_simp; try with_reducible rfl)
      try simp only [Act.put, List.setIfInBounds_toArray, List.set_cons_zero, List.set_cons_succ]
      refine wpAnyH_done (by kernel_rfl) ?_ _
      go_wp2
      exact ⟨⟨k + 1, by omega, by go_num, Lib.hid (bt HB.out hP1)⟩, by simp [intOf]; omega⟩
    · obtain rfl : k = n := by omega
      go_wp2
      go_ret
      exact ⟨rfl, HB.out⟩
end Go.Proofs.Ytkandhpnenmleaa
