/- book: Orders. -/
import Derived.Test.YtkandhpnenmleaaHBkIns
import Derived.Test.YtkandhpnenmleaaHBkSort

namespace Go.Proofs.Ytkandhpnenmleaa
open Go.RowKit

theorem slT_ord : SlT Try.prog 29 42 6 48 := SlT.of Try.underlying29 (by kernel_rfl) (by decide)
def OrdPost (b : BkS) (w : World) (e : Ending) (w' : World) : Prop := ∃ A c, e = .returned (.slice A b.openOs.length c) ∧ w'.ownsRow w.heap.size 42 6 (.slice A b.openOs.length c) b.openOs.length (b.openOs.flatMap Ord.cells) ∧ Below w.heap.size w w'
theorem one6 (a b : Int) (c : Bool) (d e f : Int) : ∀ u ∈ (#[Value.int .i64 a, .int .i64 b, .bool c, .int .i64 d, .int .i64 e, .int .i64 f] : Array Value).toList, u.oneCell' = true := by
  intro u hu
  simp at hu
  rcases hu with rfl | rfl | rfl | rfl | rfl | rfl <;> rfl
set_option maxRecDepth 100000 in
set_option maxHeartbeats 2000000 in
theorem orders_any (gb B : Nat) (V : BkV) (b : BkS) (w : World) (HK : Hid (BkAt w B gb V b)) :
    Calls Try.prog 12 #[.pointer (some ⟨gb, 0, none⟩)] w (OrdPost b w) := by
  obtain ⟨A1, n1, c1, hV1⟩ : ∃ A n c, V.b = (A, n, c) := ⟨_, _, _, rfl⟩
  obtain ⟨A2, n2, c2, hV2⟩ : ∃ A n c, V.s = (A, n, c) := ⟨_, _, _, rfl⟩
  have hI1 : IRow w B (A1, n1, c1) b.bs := by have := HK.out.bs; rw [hV1] at this; exact this
  have hI2 : IRow w B (A2, n2, c2) b.ss := by have := HK.out.ss; rw [hV2] at this; exact this
  have hl1 := hI1.len
  have hl2 := hI2.len
  dsimp only at hl1 hl2
  have hfew := HK.out.ok.few
  obtain ⟨m, hm⟩ : ∃ m, n1 + n2 = m := ⟨_, rfl⟩
  have hil : b.openIds.length = m := by rw [BkS.openIds_len HK.out.ok, hl1, hl2, hm]
  have hm2 : m ≤ 4096 := by omega
  have HIL := Lib.hid hil
  have HS : Hid (∀ w', Below w.heap.size w w' → (fun w' => w'.cell? ⟨gb, 1, none⟩ = some (.slice A1 n1 c1) ∧ w'.cell? ⟨gb, 3, none⟩ = some (.slice A2 n2 c2)) w') := Lib.hid (fun w' hb => by
    have q := HK.out.blk.all hb
    have u1 := q.cell 1
    have u3 := q.cell 3
    simp only [List.getElem?_toArray, List.getElem?_cons_zero, List.getElem?_cons_succ] at u1 u3
    unfold slV at u1 u3
    rw [hV1] at u1
    rw [hV2] at u3
    exact ⟨u1, u3⟩)
  have HC : Hid (∀ w' vb, Below w.heap.size w w' → Blk w' vb 22 #[.slice A1 n1 c1, .slice A2 n2 c2] → Calls Try.prog 33 #[.slice (some ⟨vb, 0, none⟩) 2 2] w' fun e w'' => ∃ A c, e = .returned (.slice A m c) ∧ OwnI w'' w'.heap.size A m c ((b.bs.map fun (k : Nat) => (k : Int)) ++ (b.ss.map fun (k : Nat) => (k : Int))) ∧ Below w'.heap.size w' w'') := Lib.hid (fun w' vb hb hv => by
    have := cat_any (A1, n1, c1) (A2, n2, c2) (b.bs.map fun (k : Nat) => (k : Int)) (b.ss.map fun (k : Nat) => (k : Int)) vb w' (Lib.hid (hI1.all hb).nin) (Lib.hid (hI2.all hb).nin) hv (by dsimp only; omega) (by dsimp only; omega)
    dsimp only at this
    rw [hm] at this
    exact this)
  have HID : Hid (∀ k, k < m → (b.openIds[k]?).getD 0 < b.os.length) := Lib.hid (fun k hk => by
    rw [← hil] at hk
    rw [List.getElem?_eq_getElem hk]
    have := (BkS.mem_openIds HK.out.ok).1 (List.getElem_mem hk)
    rcases this with h | h
    · exact (HK.out.ok.mem true _ h).1
    · exact (HK.out.ok.mem false _ h).1)
  have HSO := Lib.hid (sorted_ids HK.out.ok)
  obtain ⟨oa, hoa⟩ : ∃ oa, V.oA = oa := ⟨_, rfl⟩
  obtain ⟨nn, hnn⟩ : ∃ nn, b.os.length = nn := ⟨_, rfl⟩
  rw [hnn] at HID
  have HNN := Lib.hid hnn
  have HOA := Lib.hid hoa
  have hP : Below w.heap.size w w.drew := below_drewN (Below.refl _ _) 1
  have hgb := HK.out.blk.lt
  clear hI1 hI2 hl1 hl2 hfew hm hil hnn hoa hV1 hV2
  go_enter Try.func12, Try.ntmps12
  go_wp2
  refine wp_region_held_drew (S := (fun w' => w'.cell? ⟨gb, 1, none⟩ = some (.slice A1 n1 c1) ∧ w'.cell? ⟨gb, 3, none⟩ = some (.slice A2 n2 c2))) (by kernel_rfl) (HS.out _ hP) (fun hHeld => ?_)
  refine takeH 0 (some 7) (v := ?_) (by rfl) (by rfl) (by kernel_rfl) (by kernel_rfl) (by kernel_rfl) (fun _ _ _ h => h) ?_ (by assumption) ?_
  rotate_left
  · (intro o ho w hSw; obtain ⟨z0, z1⟩ := hSw; cases ho; go_simp; try with_reducible rfl)
  try simp only [Act.put, List.setIfInBounds_toArray, List.set_cons_zero, List.set_cons_succ]
  refine takeH 1 (some 8) (v := ?_) (by rfl) (by rfl) (by kernel_rfl) (by kernel_rfl) (by kernel_rfl) (fun _ _ _ h => h) ?_ (by assumption) ?_
  rotate_left
  · (intro o ho w hSw; obtain ⟨z0, z1⟩ := hSw; cases ho; go_simp; try with_reducible rfl)
  try simp only [Act.put, List.setIfInBounds_toArray, List.set_cons_zero, List.set_cons_succ]
  refine takeH 2 (some 9) (v := ?_) (by rfl) (by rfl) (by kernel_rfl) (by kernel_rfl) (by kernel_rfl) (fun _ _ _ h => h) ?_ (by assumption) ?_
  rotate_left
  · (intro o ho w hSw; obtain ⟨z0, z1⟩ := hSw; cases ho; go_simp; try with_reducible rfl)
  try simp only [Act.put, List.setIfInBounds_toArray, List.set_cons_zero, List.set_cons_succ]
  refine takeH 3 (some 10) (v := ?_) (by rfl) (by rfl) (by kernel_rfl) (by kernel_rfl) (by kernel_rfl) (fun _ _ _ h => h) ?_ (by assumption) ?_
  rotate_left
  · (intro o ho w hSw; obtain ⟨z0, z1⟩ := hSw; cases ho; go_simp; try with_reducible rfl)
  try simp only [Act.put, List.setIfInBounds_toArray, List.set_cons_zero, List.set_cons_succ]
  refine takeH 4 (some 11) (v := ?_) (by rfl) (by rfl) (by kernel_rfl) (by kernel_rfl) (by kernel_rfl) (fun _ _ _ h => h) ?_ (by assumption) ?_
  rotate_left
  · (intro o ho w hSw; obtain ⟨z0, z1⟩ := hSw; cases ho; go_simp; try with_reducible rfl)
  try simp only [Act.put, List.setIfInBounds_toArray, List.set_cons_zero, List.set_cons_succ]
  refine takeH 5 (some 12) (v := ?_) (by rfl) (by rfl) (by kernel_rfl) (by kernel_rfl) (by kernel_rfl) (fun _ _ _ h => h) ?_ (by assumption) ?_
  rotate_left
  · (intro o ho w hSw; obtain ⟨z0, z1⟩ := hSw; cases ho; go_simp; try with_reducible rfl)
  try simp only [Act.put, List.setIfInBounds_toArray, List.set_cons_zero, List.set_cons_succ]
  refine takeH 6 (some 13) (v := ?_) (by rfl) (by rfl) (by kernel_rfl) (by kernel_rfl) (by kernel_rfl) (fun _ _ _ h => h) ?_ (by assumption) ?_
  rotate_left
  · (intro o ho w hSw; obtain ⟨z0, z1⟩ := hSw; cases ho; go_simp; try with_reducible rfl)
  try simp only [Act.put, List.setIfInBounds_toArray, List.set_cons_zero, List.set_cons_succ]
  refine takeH 7 (some 14) (v := ?_) (by rfl) (by rfl) (by kernel_rfl) (by kernel_rfl) (by kernel_rfl) (fun _ _ _ h => h) ?_ (by assumption) ?_
  rotate_left
  · (intro o ho w hSw; obtain ⟨z0, z1⟩ := hSw; cases ho; go_simp; try with_reducible rfl)
  try simp only [Act.put, List.setIfInBounds_toArray, List.set_cons_zero, List.set_cons_succ]
  refine takeH 8 (some 15) (v := ?_) (by rfl) (by rfl) (by kernel_rfl) (by kernel_rfl) (by kernel_rfl) (fun _ _ _ h => h) ?_ (by assumption) ?_
  rotate_left
  · (intro o ho w hSw; obtain ⟨z0, z1⟩ := hSw; cases ho; go_simp; try with_reducible rfl)
  try simp only [Act.put, List.setIfInBounds_toArray, List.set_cons_zero, List.set_cons_succ]
  refine takeH 9 (some 16) (v := ?_) (by rfl) (by rfl) (by kernel_rfl) (by kernel_rfl) (by kernel_rfl) (fun _ _ _ h => h) ?_ (by assumption) ?_
  rotate_left
  · (intro o ho w hSw; obtain ⟨z0, z1⟩ := hSw; cases ho; go_simp; try with_reducible rfl)
  try simp only [Act.put, List.setIfInBounds_toArray, List.set_cons_zero, List.set_cons_succ]
  refine takeH 10 (some 17) (v := ?_) (by rfl) (by rfl) (by kernel_rfl) (by kernel_rfl) (by kernel_rfl) (fun _ _ _ h => h) ?_ (by assumption) ?_
  rotate_left
  · (intro o ho w hSw; obtain ⟨z0, z1⟩ := hSw; cases ho; go_simp; try with_reducible rfl)
  try simp only [Act.put, List.setIfInBounds_toArray, List.set_cons_zero, List.set_cons_succ]
  refine takeH 11 (some 18) (v := ?_) (by rfl) (by rfl) (by kernel_rfl) (by kernel_rfl) (by kernel_rfl) (fun _ _ _ h => h) ?_ (by assumption) ?_
  rotate_left
  · (intro o ho w hSw; obtain ⟨z0, z1⟩ := hSw; cases ho; go_simp; try with_reducible rfl)
  try simp only [Act.put, List.setIfInBounds_toArray, List.set_cons_zero, List.set_cons_succ]
  refine wpAnyH_ready (rs := [12]) (by kernel_rfl) (by simp) ?_
  refine AllReadyH.cons rfl (fun K hK => ?_) AllReadyH.nil
  go_simp
  have hVB := blk_of hP 22 #[.slice A1 n1 c1, .slice A2 n2 c2]
  replace hP := hP.alloc hP.size (.cells #[.slice A1 n1 c1, .slice A2 n2 c2] 22)
  refine hK.out _ _ ?_ (fun hH12 => ?_)
  · exact (HS.out _ hP)
  clear hK K
  try simp only [Act.put, List.setIfInBounds_toArray]
  refine wpAnyH_ready (rs := [13]) (by kernel_rfl) (by simp) ?_
  refine AllReadyH.cons rfl (fun K hK => ?_) AllReadyH.nil
  go_simp
  go_at_call 33
  (refine (HC.out _ _ hP hVB).mono ?_)
  rintro e w5 ⟨A5, c5, rfl, ho5, hb5⟩
  have hP5 := bt hP hb5
  go_wp2
  refine hK.out _ _ ?_ (fun hH13 => ?_)
  · exact (HS.out _ hP5)
  clear hK K
  try simp only [Act.put, List.setIfInBounds_toArray, List.set_cons_zero, List.set_cons_succ]
  refine takeH 14 (some 3) (v := ?_) (by rfl) (by rfl) (by kernel_rfl) (by kernel_rfl) (by kernel_rfl) (fun _ _ _ h => h) ?_ (by assumption) ?_
  rotate_left
  · (intro o ho w hSw; obtain ⟨z0, z1⟩ := hSw; cases ho; go_simp; try with_reducible rfl)
  (try simp only [Act.put]); (try simp only [List.setIfInBounds_toArray]); (try simp only [List.set_cons_succ]); (try simp only [List.set_cons_zero])
  refine wpAnyH_done (by kernel_rfl) ?_ _
  have ho6 : OwnI w5 w.heap.size A5 m c5 ((b.bs.map fun (k : Nat) => (k : Int)) ++ (b.ss.map fun (k : Nat) => (k : Int))) := by
    refine ⟨ho5.1, ?_⟩
    rcases ho5.2 with h | ⟨g, cap, cur, h1, h2, h3⟩
    · exact .inl h
    · exact .inr ⟨g, cap, cur, h1, by simp at h2; omega, h3⟩
  have HO6 := Lib.hid ho6
  have HP5 := Lib.hid hP5
  clear ho5 hb5 hP5 hVB hP ho6 HC HS hH12 hH13
  try clear hHeld
  go_wp2_with (go_at_call 34; ((with_reducible refine (sort_any _ _ _ w.heap.size _ _ HO6.out (by omega)).mono ?_); rintro e w6 ⟨rfl, ho7, hm7⟩))
  rw [HSO.out] at ho7
  have hb6 : Below w.heap.size w w6 := hm7.below HP5.out HP5.out.size (fun g hg => (own_ge HO6.out hg).1)
  have HO7 := Lib.hid ho7
  have HB6 := Lib.hid hb6
  clear ho7 hm7 hb6 HO6 HP5 HSO
  go_loopw [4, 25] (fun lv kv w2 => ∃ (k : Nat) (A : Option Addr) (c : Nat), k ≤ m ∧ kv = .int .i64 (k : Int) ∧ lv = .slice A k c ∧ Hid (w2.ownsRow w.heap.size 42 6 (.slice A k c) k (((b.openIds.take k).map (ordAt b.os)).flatMap Ord.cells)) ∧ Hid (OwnI w2 w.heap.size A5 m c5 (b.openIds.map fun (k : Nat) => (k : Int))) ∧ Hid (Below w.heap.size w w2)) (fun _ kv _ => m - (intOf kv).toNat)
  case atStart => exact ⟨0, none, 0, by omega, rfl, rfl, Lib.hid (World.ownsRow_nil _ _ _ 6), HO7, HB6⟩
  case round =>
    clear HO7 HB6
    obtain ⟨k, A, c, hk, rfl, rfl, HO, HI, HB⟩ := hrel
    rcases Nat.lt_or_ge k m with hkm | hkm
    · have hki : (k : Int) < (m : Int) := by omega
      obtain ⟨gi, e1, hge, hgl⟩ := own_some HI.out (show 0 < m by omega)
      subst e1
      have ci := own_int HI.out hkm
      obtain ⟨id, hid⟩ : ∃ id, (b.openIds[k]?).getD 0 = id := ⟨_, rfl⟩
      have hidl := HID.out k hkm
      rw [hid] at hidl
      have hkl : k < b.openIds.length := by rw [HIL.out]; exact hkm
      have hid2 : b.openIds[k] = id := by rw [← hid, List.getElem?_eq_getElem hkl]; rfl
      have hci : wr.cell? ⟨gi, k, none⟩ = some (.int .i64 (id : Int)) := by
        have h9 := ci.1
        simp [hkl, hid2] at h9
        exact h9
      have HT : Hid (((b.openIds.take (k + 1)).map (ordAt b.os)).flatMap Ord.cells = ((b.openIds.take k).map (ordAt b.os)).flatMap Ord.cells ++ #[.int .i64 (ordAt b.os id).id, .int .i64 (ordAt b.os id).acc, .bool (ordAt b.os id).buy, .int .i64 (ordAt b.os id).price, .int .i64 (ordAt b.os id).n, .int .i64 (ordAt b.os id).left].toList) := Lib.hid (by
        rw [← List.take_append_getElem hkl, hid2, List.map_append, List.flatMap_append]
        rfl)
      have hAB := HK.out.all HB.out
      have hidl2 : id < b.os.length := by rw [HNN.out]; exact hidl
      obtain ⟨gr, e2, lgr, -, x0, x1, x2, x3, x4, x5⟩ := hAB.order hidl2
      have c0 := hAB.blk.cell 0
      simp only [List.getElem?_toArray, List.getElem?_cons_zero] at c0
      unfold BkV.os at c0
      rw [e2, HNN.out] at c0
      obtain ⟨x, hx⟩ : ∃ x, ordAt b.os id = x := ⟨_, rfl⟩
      rw [hx] at x0 x1 x2 x3 x4 x5 HT
      obtain ⟨A', c', w3, hrun, hown, hb3, hg3⟩ := app_elem 29 slT_ord HO.out #[.int .i64 x.id, .int .i64 x.acc, .bool x.buy, .int .i64 x.price, .int .i64 x.n, .int .i64 x.left] rfl (one6 _ _ _ _ _ _) (by omega) (by decide) HB.out.size
      have HI3 : Hid (OwnI w3 w.heap.size (some ⟨gi, 0, none⟩) m c5 (b.openIds.map fun (k : Nat) => (k : Int))) := Lib.hid (own_other HI.out HO.out (by decide) hg3)
      have HO3 : Hid (w3.ownsRow w.heap.size 42 6 (.slice A' (k + 1) c') (k + 1) (((b.openIds.take (k + 1)).map (ordAt b.os)).flatMap Ord.cells)) := Lib.hid (by rw [HT.out]; exact hown)
      have HB3 : Hid (Below w.heap.size w w3) := Lib.hid (HB.out.trans hb3)
      have hidn : (id : Int) < (nn : Int) := by omega
      have HR := Lib.hid hrun
      clear hown hb3 hg3 hid hid2 hkl ci hAB e2 hx hidl2 hrun
      go_wp2_with (at_builtin; refine wpList_append_run HR.out (by rfl) (by rfl) (by rfl) (by rfl) ?_)
      exact ⟨⟨k + 1, A', c', by omega, by go_num, rfl, HO3, HI3, HB3⟩, by simp [intOf]; omega⟩
    · obtain rfl : k = m := by omega
      have HL : Hid (b.openOs.length = k) := Lib.hid (by unfold BkS.openOs; rw [List.length_map, HIL.out])
      have HF : Hid (OrdPost b w (.returned (.slice A k c)) wr) := Lib.hid ⟨A, c, by rw [HL.out], by
        have := HO.out
        rw [List.take_of_length_le (by rw [HIL.out]; exact Nat.le_refl _)] at this
        rw [HL.out]
        exact this, HB.out⟩
      go_wp2
      go_ret
      exact HF.out
end Go.Proofs.Ytkandhpnenmleaa
