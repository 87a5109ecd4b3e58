/- book: Copy. -/
import Derived.Test.YtkandhpnenmleaaHBkQuo
import Derived.Test.YtkandhpnenmleaaHRegD
import Derived.Lib.SliceRun

namespace Go.Proofs.Ytkandhpnenmleaa
open Go.RowKit

theorem IRow.more {W : World} {B B' : Nat} {s : Sl} {l : List Nat} (h : IRow W B s l) (hB : B' ≤ B) : IRow W B' s l :=
  ⟨h.1, h.2.1, h.2.2.1, fun hc => by
    obtain ⟨g, off, cur, h1, h2, h3⟩ := h.2.2.2 hc
    exact ⟨g, off, cur, h1, Nat.le_trans hB h2, h3⟩⟩
theorem eql_nil22 (w : World) (a : Option Addr) (n c n' c' : Nat) : (binOp .eql 22 (.slice a n c) (.slice none n' c')).run Try.prog w = .ok (.bool a.isNone) w := Lib.run_eql_slice_nil w _ _ a n c n' c' Try.underlying22
theorem eql_nil29 (w : World) (a : Option Addr) (n c n' c' : Nat) : (binOp .eql 29 (.slice a n c) (.slice none n' c')).run Try.prog w = .ok (.bool a.isNone) w := Lib.run_eql_slice_nil w _ _ a n c n' c' Try.underlying29
set_option maxHeartbeats 1000000 in
theorem cloneI_any (A : Option Addr) (n c B : Nat) (l : List Nat) (w : World) (HI : Hid (IRow w B (A, n, c) l)) (hn : n ≤ 100000) :
    Calls Try.prog 51 #[.slice A n c] w fun e w' => ∃ A' c', e = .returned (.slice A' n c') ∧ IRow w' w.heap.size (A', n, c') l ∧ (∀ g, blkOf (A', n, c') = some g → w.heap.size ≤ g) ∧ Below w.heap.size w w' := by
  have q := eql_nil22
  rcases A with _ | ad
  · obtain rfl : n = 0 := HI.out.nin.none_ rfl
    obtain rfl : l = [] := List.eq_nil_of_length_eq_zero HI.out.len
    go_enter Try.func51, Try.ntmps51
    go_wp2
    go_ret
    exact ⟨none, 0, rfl, IRow.nil _ _, fun g hg => by simp [blkOf] at hg, Below.refl _ _⟩
  · have hnin := HI.out.nin.all ((Below.refl w.heap.size w).alloc (Nat.le_refl _) (.cells #[] 3))
    have hrow := World.ownsRow_made w #[] 0 (base := w.heap.size) (e := 3) (size := 1) (Nat.le_refl _) (Nat.zero_le _) rfl
    obtain ⟨A', c', w', hrun, hown, hb⟩ := app_cells (ty := 22) slT_ints hrow (some ad) n c (idsV l) (by simp [idsV]; exact HI.out.len) (by simp) (by
      have h := hnin.news
      intro a ha j u hu
      refine h a ha j u ?_
      rw [← hu]
      unfold idsV
      rw [List.map_map]
      rfl) (idsV_one l) (by omega) (by decide) (by simp)
    rw [Nat.zero_add] at hrun hown
    have HR := Lib.hid hrun
    have HO := Lib.hid hown
    have HB := Lib.hid (((Below.refl w.heap.size w).alloc (Nat.le_refl _) (.cells #[] 3)).trans hb)
    clear hrun hown hb hnin hrow
    go_enter Try.func51, Try.ntmps51
    go_wp2_with (at_builtin; refine wpList_append_run HR.out (by rfl) (by rfl) (by rfl) (by rfl) ?_)
    go_ret
    have hI : IRow w' w.heap.size (A', n, c') l := IRow.own (by simpa using HO.out)
    exact ⟨A', c', rfl, hI, fun g hg => (hI.at_ hg).2.1, HB.out⟩
theorem ords_news {w : World} {B n c : Nat} {ad : Addr} {xs : List Value} {e size : Nat} (h : w.ownsRow B e size (.slice (some ad) n c) n xs) : ∀ j u, xs[j]? = some u → w.cell? (ad.add j) = some u := by
  intro j u hu
  rcases h.2 with ⟨h1, -⟩ | ⟨g, cap, cur, h1, h2, h3, h4, h5, h6, h7⟩
  · cases h1
  · injection h1 with h1 _ _
    injection h1 with h1
    subst h1
    have hj := (List.getElem?_eq_some_iff.1 hu).1
    rw [← h7, List.length_take] at hj
    rw [← h7, List.getElem?_take_of_lt (by omega), Array.getElem?_toList] at hu
    have ea : (⟨g, 0, none⟩ : Addr).add j = ⟨g, j, none⟩ := by unfold Addr.add; split <;> simp_all
    rw [ea]
    simp [World.cell?, h3, hu]
theorem cells_one (os : List Ord) : ∀ u ∈ os.flatMap Ord.cells, u.oneCell' = true := by
  intro u hu
  obtain ⟨x, -, hx⟩ := List.mem_flatMap.1 hu
  simp [Ord.cells] at hx
  rcases hx with rfl | rfl | rfl | rfl | rfl | rfl <;> rfl
set_option maxHeartbeats 1000000 in
theorem cloneO_any (A : Option Addr) (n c B : Nat) (os : List Ord) (w : World) (HI : Hid (w.ownsRow B 42 6 (.slice A n c) n (os.flatMap Ord.cells))) (hl : Hid (os.length = n)) (hn : n ≤ 100000) :
    Calls Try.prog 50 #[.slice A n c] w fun e w' => ∃ A' c', e = .returned (.slice A' n c') ∧ w'.ownsRow w.heap.size 42 6 (.slice A' n c') n (os.flatMap Ord.cells) ∧ Below w.heap.size w w' := by
  have q := eql_nil29
  rcases A with _ | ad
  · have h0 : n = 0 := by
      rcases HI.out.2 with ⟨-, h⟩ | ⟨g, cap, cur, h1, -⟩
      · exact h
      · cases h1
    subst h0
    obtain rfl : os = [] := List.eq_nil_of_length_eq_zero hl.out
    go_enter Try.func50, Try.ntmps50
    go_wp2
    go_ret
    exact ⟨none, 0, rfl, World.ownsRow_nil _ _ _ 6, Below.refl _ _⟩
  · have hlen : (os.flatMap Ord.cells).length = n * 6 := HI.out.1
    have hnew := ords_news (own_keep HI.out ((Below.refl w.heap.size w).alloc (Nat.le_refl _) (.cells #[] 42)))
    have hrow := World.ownsRow_made w #[] 0 (base := w.heap.size) (e := 42) (size := 6) (Nat.le_refl _) (Nat.zero_le _) rfl
    obtain ⟨A', c', w', hrun, hown, hb⟩ := app_cells (ty := 29) slT_ord hrow (some ad) n c (os.flatMap Ord.cells) hlen (by simp) (by
      intro a ha j u hu
      injection ha with ha
      subst ha
      exact hnew j u hu) (cells_one os) (by omega) (by decide) (by simp)
    rw [Nat.zero_add] at hrun hown
    have HR := Lib.hid hrun
    have HO := Lib.hid hown
    have HB := Lib.hid (((Below.refl w.heap.size w).alloc (Nat.le_refl _) (.cells #[] 42)).trans hb)
    clear hrun hown hb hnew hrow hlen
    go_enter Try.func50, Try.ntmps50
    go_wp2_with (at_builtin; refine wpList_append_run HR.out (by rfl) (by rfl) (by rfl) (by rfl) ?_)
    go_ret
    exact ⟨A', c', rfl, by simpa using HO.out, HB.out⟩
def CopyPost (b : BkS) (w : World) (e : Ending) (w' : World) : Prop := ∃ gc V, e = .returned (.pointer (some ⟨gc, 0, none⟩)) ∧ BkAt w' w.heap.size gc V b ∧ Below w.heap.size w w'
set_option maxRecDepth 100000 in
set_option maxHeartbeats 2000000 in
theorem copy_any (gb B : Nat) (V : BkV) (b : BkS) (w : World) (HK : Hid (BkAt w B gb V b)) :
    Calls Try.prog 25 #[.pointer (some ⟨gb, 0, none⟩)] w (CopyPost b w) := by
  obtain ⟨A1, n1, c1, hV1⟩ : ∃ A n c, V.b = (A, n, c) := ⟨_, _, _, rfl⟩
  obtain ⟨A2, n2, c2, hV2⟩ : ∃ A n c, V.s = (A, n, c) := ⟨_, _, _, rfl⟩
  have hI1 : IRow w B (A1, n1, c1) b.bs := by have := HK.out.bs; rw [hV1] at this; exact this
  have hI2 : IRow w B (A2, n2, c2) b.ss := by have := HK.out.ss; rw [hV2] at this; exact this
  have hl1 := hI1.len
  have hl2 := hI2.len
  dsimp only at hl1 hl2
  have hfew := HK.out.ok.few
  have hn1 : n1 ≤ 4096 := by omega
  have hn2 : n2 ≤ 4096 := by omega
  obtain ⟨oa, hoa⟩ : ∃ oa, V.oA = oa := ⟨_, rfl⟩
  obtain ⟨nn, hnn⟩ : ∃ nn, b.os.length = nn := ⟨_, rfl⟩
  have hnb : nn ≤ 100000 := by rw [← hnn]; exact HK.out.few
  have hrow : w.ownsRow B 42 6 (.slice oa nn V.oc) nn (b.os.flatMap Ord.cells) := by
    have := HK.out.orders
    unfold BkV.os at this
    rw [hoa, hnn] at this
    exact this
  have HS : Hid (∀ w', Below w.heap.size w w' → (fun w' => w'.cell? ⟨gb, 0, none⟩ = some (.slice oa nn V.oc) ∧ w'.cell? ⟨gb, 1, none⟩ = some (.slice A1 n1 c1) ∧ w'.cell? ⟨gb, 2, none⟩ = some bet1 ∧ w'.cell? ⟨gb, 3, none⟩ = some (.slice A2 n2 c2) ∧ w'.cell? ⟨gb, 4, none⟩ = some bet2) w') := Lib.hid (fun w' hb => by
    have q := HK.out.blk.all hb
    have u0 := q.cell 0
    have u1 := q.cell 1
    have u2 := q.cell 2
    have u3 := q.cell 3
    have u4 := q.cell 4
    simp only [List.getElem?_toArray, List.getElem?_cons_zero, List.getElem?_cons_succ] at u0 u1 u2 u3 u4
    unfold slV at u1 u3
    unfold BkV.os at u0
    rw [hoa, hnn] at u0
    rw [hV1] at u1
    rw [hV2] at u3
    exact ⟨u0, u1, u2, u3, u4⟩)
  have HNN := Lib.hid hnn
  have HC : Hid (∀ w', Below w.heap.size w w' → Calls Try.prog 50 #[.slice oa nn V.oc] w' fun e w'' => ∃ A' c', e = .returned (.slice A' nn c') ∧ w''.ownsRow w'.heap.size 42 6 (.slice A' nn c') nn (b.os.flatMap Ord.cells) ∧ Below w'.heap.size w' w'') := Lib.hid (fun w' hb => cloneO_any oa nn V.oc B b.os w' (Lib.hid (own_keep hrow hb)) HNN hnb)
  have HV1 := Lib.hid hV1
  have HV2 := Lib.hid hV2
  have HJ1 := Lib.hid hI1
  have HJ2 := Lib.hid hI2
  have hP : Below w.heap.size w w.drew := below_drewN (Below.refl _ _) 1
  clear hI1 hI2 hl1 hl2 hfew hnn hoa hV1 hV2 hrow
  go_enter Try.func25, Try.ntmps25
  go_wp2
  refine wp_region_held_drew (S := (fun w' => w'.cell? ⟨gb, 0, none⟩ = some (.slice oa nn V.oc) ∧ w'.cell? ⟨gb, 1, none⟩ = some (.slice A1 n1 c1) ∧ w'.cell? ⟨gb, 2, none⟩ = some bet1 ∧ w'.cell? ⟨gb, 3, none⟩ = some (.slice A2 n2 c2) ∧ w'.cell? ⟨gb, 4, none⟩ = some bet2)) (by kernel_rfl) (HS.out _ hP) (fun hHeld => ?_)
  refine takeH 0 (some 5) (v := ?_) (by rfl) (by rfl) (by kernel_rfl) (by kernel_rfl) (by kernel_rfl) (fun _ _ _ h => h) ?_ (by assumption) ?_
  rotate_left
  · (intro o ho w hSw; obtain ⟨z0, z1, z2, z3, z4⟩ := hSw; cases ho; go_simp; try with_reducible rfl)
  try simp only [Act.put, List.setIfInBounds_toArray, List.set_cons_zero, List.set_cons_succ]
  refine takeH 1 (some 6) (v := ?_) (by rfl) (by rfl) (by kernel_rfl) (by kernel_rfl) (by kernel_rfl) (fun _ _ _ h => h) ?_ (by assumption) ?_
  rotate_left
  · (intro o ho w hSw; obtain ⟨z0, z1, z2, z3, z4⟩ := hSw; cases ho; go_simp; try with_reducible rfl)
  try simp only [Act.put, List.setIfInBounds_toArray, List.set_cons_zero, List.set_cons_succ]
  refine takeH 2 (some 7) (v := ?_) (by rfl) (by rfl) (by kernel_rfl) (by kernel_rfl) (by kernel_rfl) (fun _ _ _ h => h) ?_ (by assumption) ?_
  rotate_left
  · (intro o ho w hSw; obtain ⟨z0, z1, z2, z3, z4⟩ := hSw; cases ho; go_simp; try with_reducible rfl)
  try simp only [Act.put, List.setIfInBounds_toArray, List.set_cons_zero, List.set_cons_succ]
  refine takeH 3 (some 8) (v := ?_) (by rfl) (by rfl) (by kernel_rfl) (by kernel_rfl) (by kernel_rfl) (fun _ _ _ h => h) ?_ (by assumption) ?_
  rotate_left
  · (intro o ho w hSw; obtain ⟨z0, z1, z2, z3, z4⟩ := hSw; cases ho; go_simp; try with_reducible rfl)
  try simp only [Act.put, List.setIfInBounds_toArray, List.set_cons_zero, List.set_cons_succ]
  refine takeH 5 (some 10) (v := ?_) (by rfl) (by rfl) (by kernel_rfl) (by kernel_rfl) (by kernel_rfl) (fun _ _ _ h => h) ?_ (by assumption) ?_
  rotate_left
  · (intro o ho w hSw; obtain ⟨z0, z1, z2, z3, z4⟩ := hSw; cases ho; go_simp; try with_reducible rfl)
  try simp only [Act.put, List.setIfInBounds_toArray, List.set_cons_zero, List.set_cons_succ]
  refine takeH 6 (some 11) (v := ?_) (by rfl) (by rfl) (by kernel_rfl) (by kernel_rfl) (by kernel_rfl) (fun _ _ _ h => h) ?_ (by assumption) ?_
  rotate_left
  · (intro o ho w hSw; obtain ⟨z0, z1, z2, z3, z4⟩ := hSw; cases ho; go_simp; try with_reducible rfl)
  try simp only [Act.put, List.setIfInBounds_toArray, List.set_cons_zero, List.set_cons_succ]
  refine takeH 7 (some 12) (v := ?_) (by rfl) (by rfl) (by kernel_rfl) (by kernel_rfl) (by kernel_rfl) (fun _ _ _ h => h) ?_ (by assumption) ?_
  rotate_left
  · (intro o ho w hSw; obtain ⟨z0, z1, z2, z3, z4⟩ := hSw; cases ho; go_simp; try with_reducible rfl)
  try simp only [Act.put, List.setIfInBounds_toArray, List.set_cons_zero, List.set_cons_succ]
  refine takeH 8 (some 13) (v := ?_) (by rfl) (by rfl) (by kernel_rfl) (by kernel_rfl) (by kernel_rfl) (fun _ _ _ h => h) ?_ (by assumption) ?_
  rotate_left
  · (intro o ho w hSw; obtain ⟨z0, z1, z2, z3, z4⟩ := hSw; cases ho; go_simp; try with_reducible rfl)
  try simp only [Act.put, List.setIfInBounds_toArray, List.set_cons_zero, List.set_cons_succ]
  refine wpAnyH_ready (rs := [4]) (by kernel_rfl) (by simp) ?_
  refine AllReadyH.cons rfl (fun K hK => ?_) AllReadyH.nil
  go_simp
  go_at_call 50
  (with_reducible refine (HC.out _ hP).mono ?_)
  rintro e w5 ⟨A5, c5, rfl, ho5, hb5⟩
  have hP5 := bt hP hb5
  go_wp2
  refine hK.out _ _ ?_ (fun hH4 => ?_)
  · exact (HS.out _ hP5)
  clear hK K
  try simp only [Act.put, List.setIfInBounds_toArray, List.set_cons_zero, List.set_cons_succ]
  refine takeH 9 (some 14) (v := ?_) (by rfl) (by rfl) (by kernel_rfl) (by kernel_rfl) (by kernel_rfl) (fun _ _ _ h => h) ?_ (by assumption) ?_
  rotate_left
  · (intro o ho w hSw; obtain ⟨z0, z1, z2, z3, z4⟩ := hSw; cases ho; go_simp; try with_reducible rfl)
  try simp only [Act.put, List.setIfInBounds_toArray, List.set_cons_zero, List.set_cons_succ]
  refine wpAnyH_ready (rs := [10]) (by kernel_rfl) (by simp) ?_
  refine AllReadyH.cons rfl (fun K hK => ?_) AllReadyH.nil
  go_simp
  have hB6 := Blk.new w5 69 #[.slice A5 nn c5, .slice A1 n1 c1, bet1, .slice A2 n2 c2, bet2]
  have hP6 := hP5.alloc hP5.size (.cells #[.slice A5 nn c5, .slice A1 n1 c1, bet1, .slice A2 n2 c2, bet2] 69)
  refine hK.out _ _ ?_ (fun hH10 => ?_)
  · exact (HS.out _ hP6)
  clear hK K
  try simp only [Act.put, List.setIfInBounds_toArray]
  refine takeH 11 (some 3) (v := ?_) (by rfl) (by rfl) (by kernel_rfl) (by kernel_rfl) (by kernel_rfl) (fun _ _ _ h => h) ?_ (by assumption) ?_
  rotate_left
  · (intro o ho w hSw; obtain ⟨z0, z1, z2, z3, z4⟩ := hSw; cases ho; go_simp; try with_reducible rfl)
  (try simp only [Act.put]); (try simp only [List.setIfInBounds_toArray]); (try simp only [List.set_cons_succ]); (try simp only [List.set_cons_zero])
  refine wpAnyH_done (by kernel_rfl) ?_ _
  obtain ⟨gc, hgc⟩ : ∃ gc, w5.heap.size = gc := ⟨_, rfl⟩
  rw [hgc] at hB6 ⊢
  have HGC : Hid (w.heap.size ≤ gc) := Lib.hid (by rw [← hgc]; exact hP5.size)
  have ho6 := own_keep ho5 ((Below.refl w5.heap.size w5).alloc (Nat.le_refl _) (.cells #[.slice A5 nn c5, .slice A1 n1 c1, bet1, .slice A2 n2 c2, bet2] 69))
  have HO6 := Lib.hid ho6
  have HP6 := Lib.hid hP6
  have HB6 := Lib.hid hB6
  clear hgc ho5 hb5 hP5 hP6 hB6 hP ho6 HC HS hH4 hH10
  try clear hHeld
  go_wp2
  go_loopw [16] (fun kv wr => ∃ (k : Nat) (X Y : Sl), k ≤ 2 ∧ kv = .int .i64 (k : Int) ∧ Hid (Blk wr gc 69 #[.slice A5 nn c5, slV X, bet1, slV Y, bet2]) ∧ Hid (wr.ownsRow w.heap.size 42 6 (.slice A5 nn c5) nn (b.os.flatMap Ord.cells)) ∧ Hid (Below w.heap.size w wr) ∧ Hid ((k = 0 → X = V.b ∧ Y = V.s) ∧ (1 ≤ k → IRow wr w.heap.size X b.bs) ∧ (k = 1 → Y = V.s) ∧ (2 ≤ k → IRow wr w.heap.size Y b.ss ∧ ∀ g, blkOf X = some g → blkOf Y ≠ some g))) (fun kv _ => 2 - (intOf kv).toNat)
  case atStart =>
    refine ⟨0, V.b, V.s, by omega, rfl, Lib.hid ?_, HO6, HP6, Lib.hid ⟨fun _ => ⟨rfl, rfl⟩, fun h => absurd h (by omega), fun h => absurd h (by omega), fun h => absurd h (by omega)⟩⟩
    have := HB6.out
    unfold slV
    rw [HV1.out, HV2.out]
    exact this
  case round =>
    clear HB6 HO6 HP6
    obtain ⟨k, X, Y, hk, rfl, HBC, HO, HB, HR⟩ := hrel
    have HI1 : Hid (∀ w', Below wr.heap.size wr w' → Calls Try.prog 51 #[.slice A1 n1 c1] w' fun e w'' => ∃ A' c', e = .returned (.slice A' n1 c') ∧ IRow w'' w'.heap.size (A', n1, c') b.bs ∧ (∀ g, blkOf (A', n1, c') = some g → w'.heap.size ≤ g) ∧ Below w'.heap.size w' w'') := Lib.hid (fun w' hb => cloneI_any A1 n1 c1 B b.bs w' (Lib.hid ((HJ1.out.all HB.out).all hb)) (by omega))
    have HI2 : Hid (∀ w', Below wr.heap.size wr w' → Calls Try.prog 51 #[.slice A2 n2 c2] w' fun e w'' => ∃ A' c', e = .returned (.slice A' n2 c') ∧ IRow w'' w'.heap.size (A', n2, c') b.ss ∧ (∀ g, blkOf (A', n2, c') = some g → w'.heap.size ≤ g) ∧ Below w'.heap.size w' w'') := Lib.hid (fun w' hb => cloneI_any A2 n2 c2 B b.ss w' (Lib.hid ((HJ2.out.all HB.out).all hb)) (by omega))
    rcases Nat.lt_or_ge k 2 with hk2 | hk2
    · rcases Nat.lt_or_ge k 1 with hk1 | hk1
      · obtain rfl : k = 0 := by omega
        have HX : Hid (∀ w', Below wr.heap.size wr w' → (fun w' => w'.cell? ⟨gb, 1, none⟩ = some (.slice A1 n1 c1) ∧ w'.frozen? ⟨gc, 1, none⟩ = false ∧ w'.cell? ⟨gc, 1, none⟩ = some (slV X)) w') := Lib.hid (fun w' hb => ⟨by
          have u := ((HK.out.all HB.out).blk.all hb).cell 1
          simp only [List.getElem?_toArray, List.getElem?_cons_zero, List.getElem?_cons_succ] at u
          unfold slV at u
          rw [HV1.out] at u
          exact u, (HBC.out.all hb).frozen _, by rw [(HBC.out.all hb).cell]; rfl⟩)
        have hP : Below wr.heap.size wr wr.drew := below_drewN (Below.refl _ _) 1
        go_wp2
        refine beginG (S := (fun w' => w'.cell? ⟨gb, 1, none⟩ = some (.slice A1 n1 c1) ∧ w'.frozen? ⟨gc, 1, none⟩ = false ∧ w'.cell? ⟨gc, 1, none⟩ = some (slV X))) 14 (by kernel_rfl) (HX.out _ hP) (fun hHeld => ?_)
        refine takeG 0 (some 19) (v := ?_) (by rfl) (by rfl) (by kernel_rfl) (by kernel_rfl) (by decide) (by kernel_rfl) (by kernel_rfl) (fun _ _ _ h => h) ?_ (by assumption) ?_
        rotate_left
        · (intro o ho w hSw; obtain ⟨z0, z1, z2⟩ := hSw; cases ho; go_simp; try with_reducible rfl)
        try simp only [Act.put, List.setIfInBounds_toArray, List.set_cons_zero, List.set_cons_succ]
        refine takeG 1 (some 20) (v := ?_) (by rfl) (by rfl) (by kernel_rfl) (by kernel_rfl) (by decide) (by kernel_rfl) (by kernel_rfl) (fun _ _ _ h => h) ?_ (by assumption) ?_
        rotate_left
        · (intro o ho w hSw; obtain ⟨z0, z1, z2⟩ := hSw; cases ho; go_simp; try with_reducible rfl)
        try simp only [Act.put, List.setIfInBounds_toArray, List.set_cons_zero, List.set_cons_succ]
        refine takeG 2 (some 21) (v := ?_) (by rfl) (by rfl) (by kernel_rfl) (by kernel_rfl) (by decide) (by kernel_rfl) (by kernel_rfl) (fun _ _ _ h => h) ?_ (by assumption) ?_
        rotate_left
        · (intro o ho w hSw; obtain ⟨z0, z1, z2⟩ := hSw; cases ho; go_simp; try with_reducible rfl)
        try simp only [Act.put, List.setIfInBounds_toArray, List.set_cons_zero, List.set_cons_succ]
        refine takeG 3 (some 22) (v := ?_) (by rfl) (by rfl) (by kernel_rfl) (by kernel_rfl) (by decide) (by kernel_rfl) (by kernel_rfl) (fun _ _ _ h => h) ?_ (by assumption) ?_
        rotate_left
        · (intro o ho w hSw; obtain ⟨z0, z1, z2⟩ := hSw; cases ho; go_simp; try with_reducible rfl)
        try simp only [Act.put, List.setIfInBounds_toArray, List.set_cons_zero, List.set_cons_succ]
        refine takeG 4 (some 23) (v := ?_) (by rfl) (by rfl) (by kernel_rfl) (by kernel_rfl) (by decide) (by kernel_rfl) (by kernel_rfl) (fun _ _ _ h => h) ?_ (by assumption) ?_
        rotate_left
        · (intro o ho w hSw; obtain ⟨z0, z1, z2⟩ := hSw; cases ho; go_simp; try with_reducible rfl)
        try simp only [Act.put, List.setIfInBounds_toArray, List.set_cons_zero, List.set_cons_succ]
        refine takeG 5 (some 24) (v := ?_) (by rfl) (by rfl) (by kernel_rfl) (by kernel_rfl) (by decide) (by kernel_rfl) (by kernel_rfl) (fun _ _ _ h => h) ?_ (by assumption) ?_
        rotate_left
        · (intro o ho w hSw; obtain ⟨z0, z1, z2⟩ := hSw; cases ho; go_simp; try with_reducible rfl)
        try simp only [Act.put, List.setIfInBounds_toArray, List.set_cons_zero, List.set_cons_succ]
        refine takeG 6 (some 25) (v := ?_) (by rfl) (by rfl) (by kernel_rfl) (by kernel_rfl) (by decide) (by kernel_rfl) (by kernel_rfl) (fun _ _ _ h => h) ?_ (by assumption) ?_
        rotate_left
        · (intro o ho w hSw; obtain ⟨z0, z1, z2⟩ := hSw; cases ho; go_simp; try with_reducible rfl)
        try simp only [Act.put, List.setIfInBounds_toArray, List.set_cons_zero, List.set_cons_succ]
        refine takeG 7 (some 26) (v := ?_) (by rfl) (by rfl) (by kernel_rfl) (by kernel_rfl) (by decide) (by kernel_rfl) (by kernel_rfl) (fun _ _ _ h => h) ?_ (by assumption) ?_
        rotate_left
        · (intro o ho w hSw; obtain ⟨z0, z1, z2⟩ := hSw; cases ho; go_simp; try with_reducible rfl)
        try simp only [Act.put, List.setIfInBounds_toArray, List.set_cons_zero, List.set_cons_succ]
        refine takeG 8 (some 27) (v := ?_) (by rfl) (by rfl) (by kernel_rfl) (by kernel_rfl) (by decide) (by kernel_rfl) (by kernel_rfl) (fun _ _ _ h => h) ?_ (by assumption) ?_
        rotate_left
        · (intro o ho w hSw; obtain ⟨z0, z1, z2⟩ := hSw; cases ho; go_simp; try with_reducible rfl)
        try simp only [Act.put, List.setIfInBounds_toArray, List.set_cons_zero, List.set_cons_succ]
        refine takeGD [11, 12, 13, 14] 10 (some 29) (v := ?_) (by rfl) (by rfl) (by kernel_rfl) (by kernel_rfl) (by decide) (by kernel_rfl) (by kernel_rfl) (fun _ _ _ h => h) ?_ (by assumption) ?_
        rotate_left
        · (intro o ho w hSw; obtain ⟨z0, z1, z2⟩ := hSw; cases ho; go_simp; try with_reducible rfl)
        try simp only [Act.put, List.setIfInBounds_toArray, List.set_cons_zero, List.set_cons_succ]
        refine takeGD [12, 13, 14] 11 (some 30) (v := ?_) (by rfl) (by rfl) (by kernel_rfl) (by kernel_rfl) (by decide) (by kernel_rfl) (by kernel_rfl) (fun _ _ _ h => h) ?_ (by assumption) ?_
        rotate_left
        · (intro o ho w hSw; obtain ⟨z0, z1, z2⟩ := hSw; cases ho; go_simp; try with_reducible rfl)
        try simp only [Act.put, List.setIfInBounds_toArray, List.set_cons_zero, List.set_cons_succ]
        refine readyG (i := 9) (by kernel_rfl) rfl (fun K hK => ?_)
        go_simp
        go_at_call 51
        (with_reducible refine (HI1.out _ hP).mono ?_)
        rintro e w7 ⟨A7, c7, rfl, hI7, hB7, hb7⟩
        have hP7 := bt hP hb7
        go_wp2
        refine hK.out _ _ ?_ (fun hH9 => ?_)
        · exact (HX.out _ hP7)
        clear hK K
        try simp only [Act.put, List.setIfInBounds_toArray, List.set_cons_zero, List.set_cons_succ]
        refine readyG (i := 12) (by kernel_rfl) rfl (fun K hK => ?_)
        go_simp
        refine hK.out _ _ ?_ (fun hH12 => ?_)
        · exact (HX.out _ hP7)
        clear hK K
        try simp only [Act.put, List.setIfInBounds_toArray, List.set_cons_zero, List.set_cons_succ]
        refine takeG 13 (some 32) (v := ?_) (by rfl) (by rfl) (by kernel_rfl) (by kernel_rfl) (by decide) (by kernel_rfl) (by kernel_rfl) (fun _ _ _ h => h) ?_ (by assumption) ?_
        rotate_left
        · (intro o ho w hSw; obtain ⟨z0, z1, z2⟩ := hSw; cases ho; go_simp; try with_reducible rfl)
        try simp only [Act.put, List.setIfInBounds_toArray, List.set_cons_zero, List.set_cons_succ]
        refine lastG (by kernel_rfl) rfl (fun K hK => ?_)
        have hL5 := HX.out _ hP7
        obtain ⟨z0, z1, z2⟩ := hL5
        go_simp
        refine hK.out _ _ ?_
        clear hK K
        (try simp only [Act.put]); (try simp only [List.setIfInBounds_toArray]); (try simp only [List.set_cons_succ]); (try simp only [List.set_cons_zero])
        refine doneG (by kernel_rfl) ?_ _
        go_wp2
        have hmb : Mod (fun g => g = gc) w7 (w7.setCell ⟨gc, 1, none⟩ (.slice A7 n1 c7)) := Mod.set (F := fun g => g = gc) (Mod.refl _ w7) (p := ⟨gc, 1, none⟩) (.inl rfl) _
        have hng : ∀ g, blkOf (A7, n1, c7) = some g → ¬ g = gc := fun g hg he => by
          have h1 := hB7 g hg
          have h2 := HBC.out.lt
          have h3 := hP.size
          simp at h1
          omega
        have hI8 := (hI7.mod hmb hng).more (B' := w.heap.size) (by have := HB.out.size; simp; omega)
        have hbc := (HBC.out.all hP7).set_ 1 (.slice A7 n1 c7)
        have ho8 := hmb.own (own_keep HO.out hP7) (fun g hg he => by
          have h1 := Ty.of_own HO.out hg
          rw [he] at h1
          exact absurd (h1.unique HBC.out.ty) (by decide))
        have hbw : Below w.heap.size w (w7.setCell ⟨gc, 1, none⟩ (.slice A7 n1 c7)) := hmb.below (HB.out.trans (hP7.mono HB.out.size)) (by have h1 := HB.out.size; have h2 := hP7.size; omega) (fun g hg => by rw [hg]; exact HGC.out)
        obtain ⟨rfl, rfl⟩ := (HR.out.1 (by simp))
        refine ⟨⟨1, (A7, n1, c7), V.s, by omega, rfl, Lib.hid ?_, Lib.hid ho8, Lib.hid hbw, Lib.hid ⟨fun h => absurd h (by omega), fun _ => hI8, fun _ => rfl, fun h => absurd h (by omega)⟩⟩, by simp [intOf]⟩
        exact hbc
      · obtain rfl : k = 1 := by omega
        have HX : Hid (∀ w', Below wr.heap.size wr w' → (fun w' => w'.cell? ⟨gb, 3, none⟩ = some (.slice A2 n2 c2) ∧ w'.frozen? ⟨gc, 3, none⟩ = false ∧ w'.cell? ⟨gc, 3, none⟩ = some (slV Y)) w') := Lib.hid (fun w' hb => ⟨by
          have u := ((HK.out.all HB.out).blk.all hb).cell 3
          simp only [List.getElem?_toArray, List.getElem?_cons_zero, List.getElem?_cons_succ] at u
          unfold slV at u
          rw [HV2.out] at u
          exact u, (HBC.out.all hb).frozen _, by rw [(HBC.out.all hb).cell]; rfl⟩)
        have hP : Below wr.heap.size wr wr.drew := below_drewN (Below.refl _ _) 1
        go_wp2
        refine beginG (S := (fun w' => w'.cell? ⟨gb, 3, none⟩ = some (.slice A2 n2 c2) ∧ w'.frozen? ⟨gc, 3, none⟩ = false ∧ w'.cell? ⟨gc, 3, none⟩ = some (slV Y))) 14 (by kernel_rfl) (HX.out _ hP) (fun hHeld => ?_)
        refine takeG 0 (some 19) (v := ?_) (by rfl) (by rfl) (by kernel_rfl) (by kernel_rfl) (by decide) (by kernel_rfl) (by kernel_rfl) (fun _ _ _ h => h) ?_ (by assumption) ?_
        rotate_left
        · (intro o ho w hSw; obtain ⟨z0, z1, z2⟩ := hSw; cases ho; go_simp; try with_reducible rfl)
        try simp only [Act.put, List.setIfInBounds_toArray, List.set_cons_zero, List.set_cons_succ]
        refine takeG 1 (some 20) (v := ?_) (by rfl) (by rfl) (by kernel_rfl) (by kernel_rfl) (by decide) (by kernel_rfl) (by kernel_rfl) (fun _ _ _ h => h) ?_ (by assumption) ?_
        rotate_left
        · (intro o ho w hSw; obtain ⟨z0, z1, z2⟩ := hSw; cases ho; go_simp; try with_reducible rfl)
        try simp only [Act.put, List.setIfInBounds_toArray, List.set_cons_zero, List.set_cons_succ]
        refine takeG 2 (some 21) (v := ?_) (by rfl) (by rfl) (by kernel_rfl) (by kernel_rfl) (by decide) (by kernel_rfl) (by kernel_rfl) (fun _ _ _ h => h) ?_ (by assumption) ?_
        rotate_left
        · (intro o ho w hSw; obtain ⟨z0, z1, z2⟩ := hSw; cases ho; go_simp; try with_reducible rfl)
        try simp only [Act.put, List.setIfInBounds_toArray, List.set_cons_zero, List.set_cons_succ]
        refine takeG 3 (some 22) (v := ?_) (by rfl) (by rfl) (by kernel_rfl) (by kernel_rfl) (by decide) (by kernel_rfl) (by kernel_rfl) (fun _ _ _ h => h) ?_ (by assumption) ?_
        rotate_left
        · (intro o ho w hSw; obtain ⟨z0, z1, z2⟩ := hSw; cases ho; go_simp; try with_reducible rfl)
        try simp only [Act.put, List.setIfInBounds_toArray, List.set_cons_zero, List.set_cons_succ]
        refine takeG 4 (some 23) (v := ?_) (by rfl) (by rfl) (by kernel_rfl) (by kernel_rfl) (by decide) (by kernel_rfl) (by kernel_rfl) (fun _ _ _ h => h) ?_ (by assumption) ?_
        rotate_left
        · (intro o ho w hSw; obtain ⟨z0, z1, z2⟩ := hSw; cases ho; go_simp; try with_reducible rfl)
        try simp only [Act.put, List.setIfInBounds_toArray, List.set_cons_zero, List.set_cons_succ]
        refine takeG 5 (some 24) (v := ?_) (by rfl) (by rfl) (by kernel_rfl) (by kernel_rfl) (by decide) (by kernel_rfl) (by kernel_rfl) (fun _ _ _ h => h) ?_ (by assumption) ?_
        rotate_left
        · (intro o ho w hSw; obtain ⟨z0, z1, z2⟩ := hSw; cases ho; go_simp; try with_reducible rfl)
        try simp only [Act.put, List.setIfInBounds_toArray, List.set_cons_zero, List.set_cons_succ]
        refine takeG 6 (some 25) (v := ?_) (by rfl) (by rfl) (by kernel_rfl) (by kernel_rfl) (by decide) (by kernel_rfl) (by kernel_rfl) (fun _ _ _ h => h) ?_ (by assumption) ?_
        rotate_left
        · (intro o ho w hSw; obtain ⟨z0, z1, z2⟩ := hSw; cases ho; go_simp; try with_reducible rfl)
        try simp only [Act.put, List.setIfInBounds_toArray, List.set_cons_zero, List.set_cons_succ]
        refine takeG 7 (some 26) (v := ?_) (by rfl) (by rfl) (by kernel_rfl) (by kernel_rfl) (by decide) (by kernel_rfl) (by kernel_rfl) (fun _ _ _ h => h) ?_ (by assumption) ?_
        rotate_left
        · (intro o ho w hSw; obtain ⟨z0, z1, z2⟩ := hSw; cases ho; go_simp; try with_reducible rfl)
        try simp only [Act.put, List.setIfInBounds_toArray, List.set_cons_zero, List.set_cons_succ]
        refine takeG 8 (some 27) (v := ?_) (by rfl) (by rfl) (by kernel_rfl) (by kernel_rfl) (by decide) (by kernel_rfl) (by kernel_rfl) (fun _ _ _ h => h) ?_ (by assumption) ?_
        rotate_left
        · (intro o ho w hSw; obtain ⟨z0, z1, z2⟩ := hSw; cases ho; go_simp; try with_reducible rfl)
        try simp only [Act.put, List.setIfInBounds_toArray, List.set_cons_zero, List.set_cons_succ]
        refine takeGD [11, 12, 13, 14] 10 (some 29) (v := ?_) (by rfl) (by rfl) (by kernel_rfl) (by kernel_rfl) (by decide) (by kernel_rfl) (by kernel_rfl) (fun _ _ _ h => h) ?_ (by assumption) ?_
        rotate_left
        · (intro o ho w hSw; obtain ⟨z0, z1, z2⟩ := hSw; cases ho; go_simp; try with_reducible rfl)
        try simp only [Act.put, List.setIfInBounds_toArray, List.set_cons_zero, List.set_cons_succ]
        refine takeGD [12, 13, 14] 11 (some 30) (v := ?_) (by rfl) (by rfl) (by kernel_rfl) (by kernel_rfl) (by decide) (by kernel_rfl) (by kernel_rfl) (fun _ _ _ h => h) ?_ (by assumption) ?_
        rotate_left
        · (intro o ho w hSw; obtain ⟨z0, z1, z2⟩ := hSw; cases ho; go_simp; try with_reducible rfl)
        try simp only [Act.put, List.setIfInBounds_toArray, List.set_cons_zero, List.set_cons_succ]
        refine readyG (i := 9) (by kernel_rfl) rfl (fun K hK => ?_)
        go_simp
        go_at_call 51
        (with_reducible refine (HI2.out _ hP).mono ?_)
        rintro e w7 ⟨A7, c7, rfl, hI7, hB7, hb7⟩
        have hP7 := bt hP hb7
        go_wp2
        refine hK.out _ _ ?_ (fun hH9 => ?_)
        · exact (HX.out _ hP7)
        clear hK K
        try simp only [Act.put, List.setIfInBounds_toArray, List.set_cons_zero, List.set_cons_succ]
        refine readyG (i := 12) (by kernel_rfl) rfl (fun K hK => ?_)
        go_simp
        refine hK.out _ _ ?_ (fun hH12 => ?_)
        · exact (HX.out _ hP7)
        clear hK K
        try simp only [Act.put, List.setIfInBounds_toArray, List.set_cons_zero, List.set_cons_succ]
        refine takeG 13 (some 32) (v := ?_) (by rfl) (by rfl) (by kernel_rfl) (by kernel_rfl) (by decide) (by kernel_rfl) (by kernel_rfl) (fun _ _ _ h => h) ?_ (by assumption) ?_
        rotate_left
        · (intro o ho w hSw; obtain ⟨z0, z1, z2⟩ := hSw; cases ho; go_simp; try with_reducible rfl)
        try simp only [Act.put, List.setIfInBounds_toArray, List.set_cons_zero, List.set_cons_succ]
        refine lastG (by kernel_rfl) rfl (fun K hK => ?_)
        have hL5 := HX.out _ hP7
        obtain ⟨z0, z1, z2⟩ := hL5
        go_simp
        refine hK.out _ _ ?_
        clear hK K
        (try simp only [Act.put]); (try simp only [List.setIfInBounds_toArray]); (try simp only [List.set_cons_succ]); (try simp only [List.set_cons_zero])
        refine doneG (by kernel_rfl) ?_ _
        go_wp2
        have hmb : Mod (fun g => g = gc) w7 (w7.setCell ⟨gc, 3, none⟩ (.slice A7 n2 c7)) := Mod.set (F := fun g => g = gc) (Mod.refl _ w7) (p := ⟨gc, 3, none⟩) (.inl rfl) _
        have hng : ∀ g, blkOf (A7, n2, c7) = some g → ¬ g = gc := fun g hg he => by
          have h1 := hB7 g hg
          have h2 := HBC.out.lt
          have h3 := hP.size
          simp at h1
          omega
        have hI8 := (hI7.mod hmb hng).more (B' := w.heap.size) (by have := HB.out.size; simp; omega)
        have hbc := (HBC.out.all hP7).set_ 3 (.slice A7 n2 c7)
        have ho8 := hmb.own (own_keep HO.out hP7) (fun g hg he => by
          have h1 := Ty.of_own HO.out hg
          rw [he] at h1
          exact absurd (h1.unique HBC.out.ty) (by decide))
        have hbw : Below w.heap.size w (w7.setCell ⟨gc, 3, none⟩ (.slice A7 n2 c7)) := hmb.below (HB.out.trans (hP7.mono HB.out.size)) (by have h1 := HB.out.size; have h2 := hP7.size; omega) (fun g hg => by rw [hg]; exact HGC.out)
        have hY := HR.out.2.2.1 (by simp)
        subst hY
        have hX0 := HR.out.2.1 (by omega)
        have hX := (hX0.all hP7).mod hmb (fun g hg he => by
          have h1 := (hX0.at_ hg).1
          rw [he] at h1
          exact absurd (h1.unique HBC.out.ty) (by decide))
        refine ⟨⟨2, X, (A7, n2, c7), by omega, rfl, Lib.hid ?_, Lib.hid ho8, Lib.hid hbw, Lib.hid ⟨fun h => absurd h (by omega), fun _ => hX, fun h => absurd h (by omega), fun _ => ⟨hI8, fun g hg he => ?_⟩⟩⟩, by simp [intOf]⟩
        · exact hbc
        · have h1 := (hX0.at_ hg).2.2
          have h2 := hB7 g he
          simp at h2
          omega
    · obtain rfl : k = 2 := by omega
      have HF : Hid (CopyPost b w (.returned (.pointer (some ⟨gc, 0, none⟩))) wr) := Lib.hid ⟨gc, ⟨A5, c5, X, Y⟩, rfl, ⟨by rw [HNN.out]; exact HBC.out, HGC.out, by rw [HNN.out]; exact HO.out, HR.out.2.1 (by omega), (HR.out.2.2.2 (by omega)).1, (HR.out.2.2.2 (by omega)).2, HK.out.ok, by rw [HNN.out]; exact hnb⟩, HB.out⟩
      clear HI1 HI2
      go_wp2
      go_ret
      exact HF.out
end Go.Proofs.Ytkandhpnenmleaa
