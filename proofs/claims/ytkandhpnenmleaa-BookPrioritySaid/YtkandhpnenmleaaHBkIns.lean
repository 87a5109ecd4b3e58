/- book: open. -/
import Derived.Test.YtkandhpnenmleaaHBkEnd

namespace Go.Proofs.Ytkandhpnenmleaa
open Go.RowKit

section
variable {P : Program} {ops : Array Oper} {Q : Exit → Act → World → Prop} {md : Region.Mode} {S : World → Prop} {z : Nat}
/-- Two operations may come up, neither the last. -/
theorem readyG2 {i j : Nat} {o p : Oper} {fuel : Nat} {listed : Array Bool} {a : Act} {w : World} (hr : Region.ready md ops listed = [i, j]) (ho : ops[i]? = some o) (hp : ops[j]? = some p)
    (h : ∀ K' : Act → World → Prop, Shut (∀ a w, S w → (S w → wpAnyG P md ops Q S z fuel (listed.setIfInBounds i true) a w) → K' a w) → if Region.wanted o (yielded ops a.tmps) = true then Oper.wp P o a w K' Q else K' (a.put o.dst undef) w)
    (h2 : ∀ K' : Act → World → Prop, Shut (∀ a w, S w → (S w → wpAnyG P md ops Q S z fuel (listed.setIfInBounds j true) a w) → K' a w) → if Region.wanted p (yielded ops a.tmps) = true then Oper.wp P p a w K' Q else K' (a.put p.dst undef) w) : wpAnyG P md ops Q S z (fuel + 1) listed a w :=
  ⟨fun h0 => (by rw [hr] at h0; cases h0), fun k hk => by
    rw [hr] at hk
    rcases List.mem_cons.1 hk with hk | hk
    · subst hk
      exact wpOp_step ho (fun K' hK => h K' (fun a w hS hW => hK a w ⟨fun _ => hS, hW hS⟩))
    · obtain rfl := List.mem_singleton.1 hk
      exact wpOp_step hp (fun K' hK => h2 K' (fun a w hS hW => hK a w ⟨fun _ => hS, hW hS⟩))⟩
end
theorem blk_of {B : Nat} {W w : World} (_ : Below B W w) (t : TypeId) (cs : Array Value) : Blk (w.alloc (.cells cs t)) w.heap.size t cs := Blk.new w t cs
theorem IRow.clip {W : World} {B n c : Nat} {A : Option Addr} {l : List Nat} (h : IRow W B (A, n, c) l) : IRow W B (A, n, n) l := by
  refine ⟨h.1, Nat.le_refl _, Nat.le_trans h.2.1 h.2.2.1, fun hn => ?_⟩
  have h1 := h.2.1
  dsimp only at hn h1
  obtain ⟨g, off, cur, h2, h3, h4, h5, h6⟩ := h.2.2.2 (by dsimp only; omega)
  exact ⟨g, off, cur, h2, h3, h4, by dsimp only at h5 ⊢; omega, h6⟩
set_option maxRecDepth 100000 in
set_option maxHeartbeats 2000000 in
theorem open_any (gb B k : Nat) (V : BkV) (b : BkS) (o : Ord) (w : World) (HK : Hid (BkAt w B gb V b)) (hk : Hid (o.id = (k : Int))) (hok : Hid ((b.opened o).Ok)) :
    Calls Try.prog 32 #[.pointer (some ⟨gb, 0, none⟩), .agg #[.int .i64 o.id, .int .i64 o.acc, .bool o.buy, .int .i64 o.price, .int .i64 o.n, .int .i64 o.left]] w fun e w' => e = .returned (.tuple #[]) ∧ BkPost gb B V b w (b.opened o) w' := by
  obtain ⟨i1, a1, b1, p1, n1, l1⟩ := o
  dsimp only at hk hok ⊢
  cases b1
  ·
    obtain ⟨A, n, c, hV⟩ : ∃ A n c, V.s = (A, n, c) := ⟨_, _, _, rfl⟩
    have hI : IRow w B (A, n, c) (b.side false) := by have := HK.out.ss; rw [hV] at this; exact this
    have HI := Lib.hid hI
    have HNC : Hid (n ≤ c) := Lib.hid hI.2.1
    have HV := Lib.hid hV
    clear hV hI
    obtain ⟨r, hr⟩ : ∃ r, placeN b.os (b.side false) ⟨i1, a1, false, p1, n1, l1⟩ = r := ⟨_, rfl⟩
    have HR := Lib.hid hr
    have HEND : Hid (b.opened ⟨i1, a1, false, p1, n1, l1⟩ = b.put false ((b.side false).take r ++ [k] ++ (b.side false).drop r)) := Lib.hid (by
      unfold BkS.opened
      dsimp only
      rw [hr, hk.out, Int.toNat_natCast])
    have hrn : r ≤ n := by
      have h2 := HI.out.len
      dsimp only at h2
      rw [← hr, ← h2]
      exact List.findIdx_le_length
    have HRN := Lib.hid hrn
    have HN : Hid (n ≤ 4096) := Lib.hid (by
      have h1 := HK.out.ok.few
      have h2 := HI.out.len
      dsimp only at h2
      rw [← h2]
      simp [BkS.side]
      omega)
    clear hrn hr
    go_enter Try.func32, Try.ntmps32
    go_wp2
    go_quiet ((go_at_call 30; exact (side_false _).mono (fun e w'' h => ⟨h.1, _, h.2.symm⟩)))
    all_goals
      obtain ⟨W, hW⟩ : ∃ W, W = ((w.alloc (.cells #[.int .i64 i1, .int .i64 a1, .bool false, .int .i64 p1, .int .i64 n1, .int .i64 l1] 42)).drewN nq) := ⟨_, rfl⟩
      rw [← hW]
      have hbW : Below w.heap.size w W := by rw [hW]; exact below_drewN ((Below.refl _ _).alloc (Nat.le_refl _) _) nq
      have k3 : Blk W w.heap.size 42 #[.int .i64 i1, .int .i64 a1, .bool false, .int .i64 p1, .int .i64 n1, .int .i64 l1] := by rw [hW]; exact blk_drewN nq (Blk.new w _ _)
      have HA := Lib.hid (HK.out.all hbW)
      have HBW := Lib.hid hbW
      clear hW
      obtain ⟨g3, hg3⟩ : ∃ g3, w.heap.size = g3 := ⟨_, rfl⟩
      rw [hg3] at k3 ⊢
      have HS : Hid (∀ w', Below W.heap.size W w' → (fun w' => w'.cell? ⟨gb, 3, none⟩ = some (.slice A n c) ∧ w'.cell? ⟨g3, 0, none⟩ = some (.int .i64 i1) ∧ w'.cell? ⟨g3, 1, none⟩ = some (.int .i64 a1) ∧ w'.cell? ⟨g3, 2, none⟩ = some (.bool false) ∧ w'.cell? ⟨g3, 3, none⟩ = some (.int .i64 p1) ∧ w'.cell? ⟨g3, 4, none⟩ = some (.int .i64 n1) ∧ w'.cell? ⟨g3, 5, none⟩ = some (.int .i64 l1) ∧ w'.frozen? ⟨gb, 3, none⟩ = false) w') := Lib.hid (fun w' hm => by
        have q3 := k3.all hm
        have q1 := HA.out.blk.all hm
        have u1 := q1.cell 3
        simp only [List.getElem?_toArray, List.getElem?_cons_zero, List.getElem?_cons_succ] at u1
        unfold slV at u1
        rw [HV.out] at u1
        exact ⟨u1, by rw [q3.cell]; rfl, by rw [q3.cell]; rfl, by rw [q3.cell]; rfl, by rw [q3.cell]; rfl, by rw [q3.cell]; rfl, by rw [q3.cell]; rfl, q1.frozen _⟩)
      have HP : Hid (∀ w', Below W.heap.size W w' → Calls Try.prog 54 #[.pointer (some ⟨gb, 0, none⟩), .agg #[.int .i64 i1, .int .i64 a1, .bool false, .int .i64 p1, .int .i64 n1, .int .i64 l1]] w' fun e w'' => e = .returned (.int .i64 (r : Int)) ∧ Below w'.heap.size w' w'') := Lib.hid (fun w' hb => by rw [← HR.out]; exact place_any gb B V b ⟨i1, a1, false, p1, n1, l1⟩ w' (Lib.hid (HA.out.all hb)))
      have HD : Hid (∀ w' vb, Below W.heap.size W w' → Blk w' vb 3 #[.int .i64 i1] → Calls Try.prog 52 #[.slice A n n, .int .i64 (r : Int), .slice (some ⟨vb, 0, none⟩) 1 1] w' fun e w'' => ∃ A' c', e = .returned (.slice A' (n + 1) c') ∧ IRow w'' B (A', n + 1, c') ((b.side false).take r ++ [k] ++ (b.side false).drop r) ∧ (∀ g, blkOf (A', n + 1, c') = some g → w'.heap.size ≤ g) ∧ Below w'.heap.size w' w'') := Lib.hid (fun w' vb hb hv => by
        have hI' := (HI.out.all HBW.out).all hb
        rw [hk.out] at hv
        exact ins_any A n r vb k (b.side false) B w' hI'.clip HRN.out (by have := HN.out; omega) hv (Nat.le_trans (Nat.le_trans (Nat.le_of_lt (Nat.lt_of_le_of_lt HK.out.ge HK.out.blk.lt)) HBW.out.size) hb.size))
      have hP : Below W.heap.size W W.drew := below_drewN (Below.refl _ _) 1
      replace hg3 := Lib.hid hg3
      clear hbW k3
      go_wp2
      refine beginG (S := (fun w' => w'.cell? ⟨gb, 3, none⟩ = some (.slice A n c) ∧ w'.cell? ⟨g3, 0, none⟩ = some (.int .i64 i1) ∧ w'.cell? ⟨g3, 1, none⟩ = some (.int .i64 a1) ∧ w'.cell? ⟨g3, 2, none⟩ = some (.bool false) ∧ w'.cell? ⟨g3, 3, none⟩ = some (.int .i64 p1) ∧ w'.cell? ⟨g3, 4, none⟩ = some (.int .i64 n1) ∧ w'.cell? ⟨g3, 5, none⟩ = some (.int .i64 l1) ∧ w'.frozen? ⟨gb, 3, none⟩ = false)) 15 (by kernel_rfl) (HS.out _ hP) (fun hHeld => ?_)
      refine takeG 0 (some 12) (v := ?_) (by rfl) (by rfl) (by kernel_rfl) (by kernel_rfl) (by decide) (by kernel_rfl) (by kernel_rfl) (fun _ _ _ h => h) ?_ (by assumption) ?_
      rotate_left
      · (intro o ho w hSw; obtain ⟨z0, z1, z2, z3, z4, z5, z6, z7⟩ := hSw; cases ho; go_simp; try with_reducible rfl)
      try simp only [Act.put, List.setIfInBounds_toArray, List.set_cons_zero, List.set_cons_succ]
      refine takeG 1 (some 13) (v := ?_) (by rfl) (by rfl) (by kernel_rfl) (by kernel_rfl) (by decide) (by kernel_rfl) (by kernel_rfl) (fun _ _ _ h => h) ?_ (by assumption) ?_
      rotate_left
      · (intro o ho w hSw; obtain ⟨z0, z1, z2, z3, z4, z5, z6, z7⟩ := hSw; cases ho; go_simp; try with_reducible rfl)
      try simp only [Act.put, List.setIfInBounds_toArray, List.set_cons_zero, List.set_cons_succ]
      refine takeG 2 (some 14) (v := ?_) (by rfl) (by rfl) (by kernel_rfl) (by kernel_rfl) (by decide) (by kernel_rfl) (by kernel_rfl) (fun _ _ _ h => h) ?_ (by assumption) ?_
      rotate_left
      · (intro o ho w hSw; obtain ⟨z0, z1, z2, z3, z4, z5, z6, z7⟩ := hSw; cases ho; go_simp; try with_reducible rfl)
      try simp only [Act.put, List.setIfInBounds_toArray, List.set_cons_zero, List.set_cons_succ]
      refine takeG 3 (some 15) (v := ?_) (by rfl) (by rfl) (by kernel_rfl) (by kernel_rfl) (by decide) (by kernel_rfl) (by kernel_rfl) (fun _ _ _ h => h) ?_ (by assumption) ?_
      rotate_left
      · (intro o ho w hSw; obtain ⟨z0, z1, z2, z3, z4, z5, z6, z7⟩ := hSw; cases ho; go_simp; try with_reducible rfl)
      try simp only [Act.put, List.setIfInBounds_toArray, List.set_cons_zero, List.set_cons_succ]
      refine takeG 4 (some 16) (v := ?_) (by rfl) (by rfl) (by kernel_rfl) (by kernel_rfl) (by decide) (by kernel_rfl) (by kernel_rfl) (fun _ _ _ h => h) ?_ (by assumption) ?_
      rotate_left
      · (intro o ho w hSw; obtain ⟨z0, z1, z2, z3, z4, z5, z6, z7⟩ := hSw; cases ho; go_simp; try with_reducible rfl)
      try simp only [Act.put, List.setIfInBounds_toArray, List.set_cons_zero, List.set_cons_succ]
      refine takeG 6 (some 18) (v := ?_) (by rfl) (by rfl) (by kernel_rfl) (by kernel_rfl) (by decide) (by kernel_rfl) (by kernel_rfl) (fun _ _ _ h => h) ?_ (by assumption) ?_
      rotate_left
      · (intro o ho w hSw; obtain ⟨z0, z1, z2, z3, z4, z5, z6, z7⟩ := hSw; cases ho; go_simp; try with_reducible rfl)
      try simp only [Act.put, List.setIfInBounds_toArray, List.set_cons_zero, List.set_cons_succ]
      refine takeG 7 (some 19) (v := ?_) (by rfl) (by rfl) (by kernel_rfl) (by kernel_rfl) (by decide) (by kernel_rfl) (by kernel_rfl) (fun _ _ _ h => h) ?_ (by assumption) ?_
      rotate_left
      · (intro o ho w hSw; obtain ⟨z0, z1, z2, z3, z4, z5, z6, z7⟩ := hSw; cases ho; go_simp; try with_reducible rfl)
      try simp only [Act.put, List.setIfInBounds_toArray, List.set_cons_zero, List.set_cons_succ]
      refine takeG 9 (some 21) (v := ?_) (by rfl) (by rfl) (by kernel_rfl) (by kernel_rfl) (by decide) (by kernel_rfl) (by kernel_rfl) (fun _ _ _ h => h) ?_ (by assumption) ?_
      rotate_left
      · (intro o ho w hSw; obtain ⟨z0, z1, z2, z3, z4, z5, z6, z7⟩ := hSw; cases ho; go_simp; try with_reducible rfl)
      try simp only [Act.put, List.setIfInBounds_toArray, List.set_cons_zero, List.set_cons_succ]
      refine takeG 10 (some 22) (v := ?_) (by rfl) (by rfl) (by kernel_rfl) (by kernel_rfl) (by decide) (by kernel_rfl) (by kernel_rfl) (fun _ _ _ h => h) ?_ (by assumption) ?_
      rotate_left
      · (intro o ho w hSw; obtain ⟨z0, z1, z2, z3, z4, z5, z6, z7⟩ := hSw; cases ho; go_simp; try with_reducible rfl)
      try simp only [Act.put, List.setIfInBounds_toArray, List.set_cons_zero, List.set_cons_succ]
      refine readyG2 (i := 5) (j := 11) (by kernel_rfl) rfl rfl (fun K hK => ?_) (fun K hK => ?_)
      · skip
        go_simp
        go_at_call 53
        (with_reducible refine (clip_any A n c _ HNC.out).mono ?_)
        rintro e w'' ⟨rfl, rfl⟩
        go_wp2
        refine hK.out _ _ ?_ (fun hH5 => ?_)
        · exact (HS.out _ hP)
        clear hK K
        try simp only [Act.put, List.setIfInBounds_toArray, List.set_cons_zero, List.set_cons_succ]
        refine readyG2 (i := 8) (j := 11) (by kernel_rfl) rfl rfl (fun K hK => ?_) (fun K hK => ?_)
        · skip
          go_simp
          go_at_call 54
          (refine (HP.out _ hP).mono ?_)
          rintro e wp ⟨rfl, hb1⟩
          try replace hVB := Blk.all hVB hb1
          replace hP := bt hP hb1
          clear hb1
          go_wp2
          refine hK.out _ _ ?_ (fun hH8 => ?_)
          · exact (HS.out _ hP)
          clear hK K
          try simp only [Act.put, List.setIfInBounds_toArray, List.set_cons_zero, List.set_cons_succ]
          refine readyG (i := 11) (by kernel_rfl) rfl (fun K hK => ?_)
          go_simp
          have hVB := blk_of hP 3 #[.int .i64 i1]
          replace hP := hP.alloc hP.size (.cells #[.int .i64 i1] 3)
          refine hK.out _ _ ?_ (fun hH11 => ?_)
          · exact (HS.out _ hP)
          clear hK K
          (try simp only [Act.put]); (try simp only [List.setIfInBounds_toArray]); (try simp only [List.set_cons_succ]); (try simp only [List.set_cons_zero])
          refine readyG (i := 12) (by kernel_rfl) rfl (fun K hK => ?_)
          go_simp
          go_at_call 52
          (refine (HD.out _ _ hP hVB).mono ?_)
          rintro e w5 ⟨A', c', rfl, hI5, hB5, hb5⟩
          have hP5 := bt hP hb5
          go_wp2
          refine hK.out _ _ ?_ (fun hH12 => ?_)
          · exact (HS.out _ hP5)
          clear hK K
          try simp only [Act.put, List.setIfInBounds_toArray, List.set_cons_zero, List.set_cons_succ]
          refine readyG (i := 13) (by kernel_rfl) rfl (fun K hK => ?_)
          go_simp
          refine hK.out _ _ ?_ (fun hH13 => ?_)
          · exact (HS.out _ hP5)
          clear hK K
          try simp only [Act.put, List.setIfInBounds_toArray, List.set_cons_zero, List.set_cons_succ]
          refine takeG 14 (some 26) (v := ?_) (by rfl) (by rfl) (by kernel_rfl) (by kernel_rfl) (by decide) (by kernel_rfl) (by kernel_rfl) (fun _ _ _ h => h) ?_ (by assumption) ?_
          rotate_left
          · (intro o ho w hSw; obtain ⟨z0, z1, z2, z3, z4, z5, z6, z7⟩ := hSw; cases ho; go_simp; try with_reducible rfl)
          (try simp only [Act.put]); (try simp only [List.setIfInBounds_toArray]); (try simp only [List.set_cons_succ]); (try simp only [List.set_cons_zero])
          refine lastG (by kernel_rfl) rfl (fun K hK => ?_)
          have hL5 := HS.out _ hP5
          obtain ⟨z0, z1, z2, z3, z4, z5, z6, z7⟩ := hL5
          go_simp
          refine hK.out _ _ ?_
          clear hK K
          (try simp only [Act.put]); (try simp only [List.setIfInBounds_toArray]); (try simp only [List.set_cons_succ]); (try simp only [List.set_cons_zero])
          refine doneG (by kernel_rfl) ?_ _
          go_wp2
          refine bodyPost_end (v := .tuple #[]) (by simp [results, Try.results32, go_sem]) rfl ⟨rfl, ?_⟩
          have hb0 := HBW.out
          have hL5 : BkAt W B gb V b := HA.out
          have hM0 : Mod (fun g => blkOf V.s = some g) W w5 := Mod.of_below _ hP5
          obtain ⟨V', hA', hM', hF'⟩ := hL5.put_false hM0 hI5 (fun g hg => .inr (by have := hB5 g hg; have := hP.size; omega)) (by rw [← HEND.out]; exact hok.out)
          rw [HEND.out]
          refine ⟨V', hA', ?_, fun g hg => (hF' g hg).imp id (fun h => Nat.le_trans HBW.out.size h)⟩
          rw [hg3.out] at hb0
          exact (Mod.of_below _ (by rw [hg3.out]; exact hb0)).trans hM' (fun g hg => .inl hg)
        · skip
          go_simp
          have hVB := blk_of hP 3 #[.int .i64 i1]
          replace hP := hP.alloc hP.size (.cells #[.int .i64 i1] 3)
          refine hK.out _ _ ?_ (fun hH11 => ?_)
          · exact (HS.out _ hP)
          clear hK K
          (try simp only [Act.put]); (try simp only [List.setIfInBounds_toArray]); (try simp only [List.set_cons_succ]); (try simp only [List.set_cons_zero])
          refine readyG (i := 8) (by kernel_rfl) rfl (fun K hK => ?_)
          go_simp
          go_at_call 54
          (refine (HP.out _ hP).mono ?_)
          rintro e wp ⟨rfl, hb1⟩
          try replace hVB := Blk.all hVB hb1
          replace hP := bt hP hb1
          clear hb1
          go_wp2
          refine hK.out _ _ ?_ (fun hH8 => ?_)
          · exact (HS.out _ hP)
          clear hK K
          try simp only [Act.put, List.setIfInBounds_toArray, List.set_cons_zero, List.set_cons_succ]
          refine readyG (i := 12) (by kernel_rfl) rfl (fun K hK => ?_)
          go_simp
          go_at_call 52
          (refine (HD.out _ _ hP hVB).mono ?_)
          rintro e w5 ⟨A', c', rfl, hI5, hB5, hb5⟩
          have hP5 := bt hP hb5
          go_wp2
          refine hK.out _ _ ?_ (fun hH12 => ?_)
          · exact (HS.out _ hP5)
          clear hK K
          try simp only [Act.put, List.setIfInBounds_toArray, List.set_cons_zero, List.set_cons_succ]
          refine readyG (i := 13) (by kernel_rfl) rfl (fun K hK => ?_)
          go_simp
          refine hK.out _ _ ?_ (fun hH13 => ?_)
          · exact (HS.out _ hP5)
          clear hK K
          try simp only [Act.put, List.setIfInBounds_toArray, List.set_cons_zero, List.set_cons_succ]
          refine takeG 14 (some 26) (v := ?_) (by rfl) (by rfl) (by kernel_rfl) (by kernel_rfl) (by decide) (by kernel_rfl) (by kernel_rfl) (fun _ _ _ h => h) ?_ (by assumption) ?_
          rotate_left
          · (intro o ho w hSw; obtain ⟨z0, z1, z2, z3, z4, z5, z6, z7⟩ := hSw; cases ho; go_simp; try with_reducible rfl)
          (try simp only [Act.put]); (try simp only [List.setIfInBounds_toArray]); (try simp only [List.set_cons_succ]); (try simp only [List.set_cons_zero])
          refine lastG (by kernel_rfl) rfl (fun K hK => ?_)
          have hL5 := HS.out _ hP5
          obtain ⟨z0, z1, z2, z3, z4, z5, z6, z7⟩ := hL5
          go_simp
          refine hK.out _ _ ?_
          clear hK K
          (try simp only [Act.put]); (try simp only [List.setIfInBounds_toArray]); (try simp only [List.set_cons_succ]); (try simp only [List.set_cons_zero])
          refine doneG (by kernel_rfl) ?_ _
          go_wp2
          refine bodyPost_end (v := .tuple #[]) (by simp [results, Try.results32, go_sem]) rfl ⟨rfl, ?_⟩
          have hb0 := HBW.out
          have hL5 : BkAt W B gb V b := HA.out
          have hM0 : Mod (fun g => blkOf V.s = some g) W w5 := Mod.of_below _ hP5
          obtain ⟨V', hA', hM', hF'⟩ := hL5.put_false hM0 hI5 (fun g hg => .inr (by have := hB5 g hg; have := hP.size; omega)) (by rw [← HEND.out]; exact hok.out)
          rw [HEND.out]
          refine ⟨V', hA', ?_, fun g hg => (hF' g hg).imp id (fun h => Nat.le_trans HBW.out.size h)⟩
          rw [hg3.out] at hb0
          exact (Mod.of_below _ (by rw [hg3.out]; exact hb0)).trans hM' (fun g hg => .inl hg)
      · skip
        go_simp
        have hVB := blk_of hP 3 #[.int .i64 i1]
        replace hP := hP.alloc hP.size (.cells #[.int .i64 i1] 3)
        refine hK.out _ _ ?_ (fun hH11 => ?_)
        · exact (HS.out _ hP)
        clear hK K
        (try simp only [Act.put]); (try simp only [List.setIfInBounds_toArray]); (try simp only [List.set_cons_succ]); (try simp only [List.set_cons_zero])
        refine readyG (i := 5) (by kernel_rfl) rfl (fun K hK => ?_)
        go_simp
        go_at_call 53
        (with_reducible refine (clip_any A n c _ HNC.out).mono ?_)
        rintro e w'' ⟨rfl, rfl⟩
        go_wp2
        refine hK.out _ _ ?_ (fun hH5 => ?_)
        · exact (HS.out _ hP)
        clear hK K
        try simp only [Act.put, List.setIfInBounds_toArray, List.set_cons_zero, List.set_cons_succ]
        refine readyG (i := 8) (by kernel_rfl) rfl (fun K hK => ?_)
        go_simp
        go_at_call 54
        (refine (HP.out _ hP).mono ?_)
        rintro e wp ⟨rfl, hb1⟩
        try replace hVB := Blk.all hVB hb1
        replace hP := bt hP hb1
        clear hb1
        go_wp2
        refine hK.out _ _ ?_ (fun hH8 => ?_)
        · exact (HS.out _ hP)
        clear hK K
        try simp only [Act.put, List.setIfInBounds_toArray, List.set_cons_zero, List.set_cons_succ]
        refine readyG (i := 12) (by kernel_rfl) rfl (fun K hK => ?_)
        go_simp
        go_at_call 52
        (refine (HD.out _ _ hP hVB).mono ?_)
        rintro e w5 ⟨A', c', rfl, hI5, hB5, hb5⟩
        have hP5 := bt hP hb5
        go_wp2
        refine hK.out _ _ ?_ (fun hH12 => ?_)
        · exact (HS.out _ hP5)
        clear hK K
        try simp only [Act.put, List.setIfInBounds_toArray, List.set_cons_zero, List.set_cons_succ]
        refine readyG (i := 13) (by kernel_rfl) rfl (fun K hK => ?_)
        go_simp
        refine hK.out _ _ ?_ (fun hH13 => ?_)
        · exact (HS.out _ hP5)
        clear hK K
        try simp only [Act.put, List.setIfInBounds_toArray, List.set_cons_zero, List.set_cons_succ]
        refine takeG 14 (some 26) (v := ?_) (by rfl) (by rfl) (by kernel_rfl) (by kernel_rfl) (by decide) (by kernel_rfl) (by kernel_rfl) (fun _ _ _ h => h) ?_ (by assumption) ?_
        rotate_left
        · (intro o ho w hSw; obtain ⟨z0, z1, z2, z3, z4, z5, z6, z7⟩ := hSw; cases ho; go_simp; try with_reducible rfl)
        (try simp only [Act.put]); (try simp only [List.setIfInBounds_toArray]); (try simp only [List.set_cons_succ]); (try simp only [List.set_cons_zero])
        refine lastG (by kernel_rfl) rfl (fun K hK => ?_)
        have hL5 := HS.out _ hP5
        obtain ⟨z0, z1, z2, z3, z4, z5, z6, z7⟩ := hL5
        go_simp
        refine hK.out _ _ ?_
        clear hK K
        (try simp only [Act.put]); (try simp only [List.setIfInBounds_toArray]); (try simp only [List.set_cons_succ]); (try simp only [List.set_cons_zero])
        refine doneG (by kernel_rfl) ?_ _
        go_wp2
        refine bodyPost_end (v := .tuple #[]) (by simp [results, Try.results32, go_sem]) rfl ⟨rfl, ?_⟩
        have hb0 := HBW.out
        have hL5 : BkAt W B gb V b := HA.out
        have hM0 : Mod (fun g => blkOf V.s = some g) W w5 := Mod.of_below _ hP5
        obtain ⟨V', hA', hM', hF'⟩ := hL5.put_false hM0 hI5 (fun g hg => .inr (by have := hB5 g hg; have := hP.size; omega)) (by rw [← HEND.out]; exact hok.out)
        rw [HEND.out]
        refine ⟨V', hA', ?_, fun g hg => (hF' g hg).imp id (fun h => Nat.le_trans HBW.out.size h)⟩
        rw [hg3.out] at hb0
        exact (Mod.of_below _ (by rw [hg3.out]; exact hb0)).trans hM' (fun g hg => .inl hg)

  ·
    obtain ⟨A, n, c, hV⟩ : ∃ A n c, V.b = (A, n, c) := ⟨_, _, _, rfl⟩
    have hI : IRow w B (A, n, c) (b.side true) := by have := HK.out.bs; rw [hV] at this; exact this
    have HI := Lib.hid hI
    have HNC : Hid (n ≤ c) := Lib.hid hI.2.1
    have HV := Lib.hid hV
    clear hV hI
    obtain ⟨r, hr⟩ : ∃ r, placeN b.os (b.side true) ⟨i1, a1, true, p1, n1, l1⟩ = r := ⟨_, rfl⟩
    have HR := Lib.hid hr
    have HEND : Hid (b.opened ⟨i1, a1, true, p1, n1, l1⟩ = b.put true ((b.side true).take r ++ [k] ++ (b.side true).drop r)) := Lib.hid (by
      unfold BkS.opened
      dsimp only
      rw [hr, hk.out, Int.toNat_natCast])
    have hrn : r ≤ n := by
      have h2 := HI.out.len
      dsimp only at h2
      rw [← hr, ← h2]
      exact List.findIdx_le_length
    have HRN := Lib.hid hrn
    have HN : Hid (n ≤ 4096) := Lib.hid (by
      have h1 := HK.out.ok.few
      have h2 := HI.out.len
      dsimp only at h2
      rw [← h2]
      simp [BkS.side]
      omega)
    clear hrn hr
    go_enter Try.func32, Try.ntmps32
    go_wp2
    go_quiet ((go_at_call 30; exact (side_true _).mono (fun e w'' h => ⟨h.1, _, h.2.symm⟩)))
    all_goals
      obtain ⟨W, hW⟩ : ∃ W, W = ((w.alloc (.cells #[.int .i64 i1, .int .i64 a1, .bool true, .int .i64 p1, .int .i64 n1, .int .i64 l1] 42)).drewN nq) := ⟨_, rfl⟩
      rw [← hW]
      have hbW : Below w.heap.size w W := by rw [hW]; exact below_drewN ((Below.refl _ _).alloc (Nat.le_refl _) _) nq
      have k3 : Blk W w.heap.size 42 #[.int .i64 i1, .int .i64 a1, .bool true, .int .i64 p1, .int .i64 n1, .int .i64 l1] := by rw [hW]; exact blk_drewN nq (Blk.new w _ _)
      have HA := Lib.hid (HK.out.all hbW)
      have HBW := Lib.hid hbW
      clear hW
      obtain ⟨g3, hg3⟩ : ∃ g3, w.heap.size = g3 := ⟨_, rfl⟩
      rw [hg3] at k3 ⊢
      have HS : Hid (∀ w', Below W.heap.size W w' → (fun w' => w'.cell? ⟨gb, 1, none⟩ = some (.slice A n c) ∧ w'.cell? ⟨g3, 0, none⟩ = some (.int .i64 i1) ∧ w'.cell? ⟨g3, 1, none⟩ = some (.int .i64 a1) ∧ w'.cell? ⟨g3, 2, none⟩ = some (.bool true) ∧ w'.cell? ⟨g3, 3, none⟩ = some (.int .i64 p1) ∧ w'.cell? ⟨g3, 4, none⟩ = some (.int .i64 n1) ∧ w'.cell? ⟨g3, 5, none⟩ = some (.int .i64 l1) ∧ w'.frozen? ⟨gb, 1, none⟩ = false) w') := Lib.hid (fun w' hm => by
        have q3 := k3.all hm
        have q1 := HA.out.blk.all hm
        have u1 := q1.cell 1
        simp only [List.getElem?_toArray, List.getElem?_cons_zero, List.getElem?_cons_succ] at u1
        unfold slV at u1
        rw [HV.out] at u1
        exact ⟨u1, by rw [q3.cell]; rfl, by rw [q3.cell]; rfl, by rw [q3.cell]; rfl, by rw [q3.cell]; rfl, by rw [q3.cell]; rfl, by rw [q3.cell]; rfl, q1.frozen _⟩)
      have HP : Hid (∀ w', Below W.heap.size W w' → Calls Try.prog 54 #[.pointer (some ⟨gb, 0, none⟩), .agg #[.int .i64 i1, .int .i64 a1, .bool true, .int .i64 p1, .int .i64 n1, .int .i64 l1]] w' fun e w'' => e = .returned (.int .i64 (r : Int)) ∧ Below w'.heap.size w' w'') := Lib.hid (fun w' hb => by rw [← HR.out]; exact place_any gb B V b ⟨i1, a1, true, p1, n1, l1⟩ w' (Lib.hid (HA.out.all hb)))
      have HD : Hid (∀ w' vb, Below W.heap.size W w' → Blk w' vb 3 #[.int .i64 i1] → Calls Try.prog 52 #[.slice A n n, .int .i64 (r : Int), .slice (some ⟨vb, 0, none⟩) 1 1] w' fun e w'' => ∃ A' c', e = .returned (.slice A' (n + 1) c') ∧ IRow w'' B (A', n + 1, c') ((b.side true).take r ++ [k] ++ (b.side true).drop r) ∧ (∀ g, blkOf (A', n + 1, c') = some g → w'.heap.size ≤ g) ∧ Below w'.heap.size w' w'') := Lib.hid (fun w' vb hb hv => by
        have hI' := (HI.out.all HBW.out).all hb
        rw [hk.out] at hv
        exact ins_any A n r vb k (b.side true) B w' hI'.clip HRN.out (by have := HN.out; omega) hv (Nat.le_trans (Nat.le_trans (Nat.le_of_lt (Nat.lt_of_le_of_lt HK.out.ge HK.out.blk.lt)) HBW.out.size) hb.size))
      have hP : Below W.heap.size W W.drew := below_drewN (Below.refl _ _) 1
      replace hg3 := Lib.hid hg3
      clear hbW k3
      go_wp2
      refine beginG (S := (fun w' => w'.cell? ⟨gb, 1, none⟩ = some (.slice A n c) ∧ w'.cell? ⟨g3, 0, none⟩ = some (.int .i64 i1) ∧ w'.cell? ⟨g3, 1, none⟩ = some (.int .i64 a1) ∧ w'.cell? ⟨g3, 2, none⟩ = some (.bool true) ∧ w'.cell? ⟨g3, 3, none⟩ = some (.int .i64 p1) ∧ w'.cell? ⟨g3, 4, none⟩ = some (.int .i64 n1) ∧ w'.cell? ⟨g3, 5, none⟩ = some (.int .i64 l1) ∧ w'.frozen? ⟨gb, 1, none⟩ = false)) 15 (by kernel_rfl) (HS.out _ hP) (fun hHeld => ?_)
      refine takeG 0 (some 12) (v := ?_) (by rfl) (by rfl) (by kernel_rfl) (by kernel_rfl) (by decide) (by kernel_rfl) (by kernel_rfl) (fun _ _ _ h => h) ?_ (by assumption) ?_
      rotate_left
      · (intro o ho w hSw; obtain ⟨z0, z1, z2, z3, z4, z5, z6, z7⟩ := hSw; cases ho; go_simp; try with_reducible rfl)
      try simp only [Act.put, List.setIfInBounds_toArray, List.set_cons_zero, List.set_cons_succ]
      refine takeG 1 (some 13) (v := ?_) (by rfl) (by rfl) (by kernel_rfl) (by kernel_rfl) (by decide) (by kernel_rfl) (by kernel_rfl) (fun _ _ _ h => h) ?_ (by assumption) ?_
      rotate_left
      · (intro o ho w hSw; obtain ⟨z0, z1, z2, z3, z4, z5, z6, z7⟩ := hSw; cases ho; go_simp; try with_reducible rfl)
      try simp only [Act.put, List.setIfInBounds_toArray, List.set_cons_zero, List.set_cons_succ]
      refine takeG 2 (some 14) (v := ?_) (by rfl) (by rfl) (by kernel_rfl) (by kernel_rfl) (by decide) (by kernel_rfl) (by kernel_rfl) (fun _ _ _ h => h) ?_ (by assumption) ?_
      rotate_left
      · (intro o ho w hSw; obtain ⟨z0, z1, z2, z3, z4, z5, z6, z7⟩ := hSw; cases ho; go_simp; try with_reducible rfl)
      try simp only [Act.put, List.setIfInBounds_toArray, List.set_cons_zero, List.set_cons_succ]
      refine takeG 3 (some 15) (v := ?_) (by rfl) (by rfl) (by kernel_rfl) (by kernel_rfl) (by decide) (by kernel_rfl) (by kernel_rfl) (fun _ _ _ h => h) ?_ (by assumption) ?_
      rotate_left
      · (intro o ho w hSw; obtain ⟨z0, z1, z2, z3, z4, z5, z6, z7⟩ := hSw; cases ho; go_simp; try with_reducible rfl)
      try simp only [Act.put, List.setIfInBounds_toArray, List.set_cons_zero, List.set_cons_succ]
      refine takeG 4 (some 16) (v := ?_) (by rfl) (by rfl) (by kernel_rfl) (by kernel_rfl) (by decide) (by kernel_rfl) (by kernel_rfl) (fun _ _ _ h => h) ?_ (by assumption) ?_
      rotate_left
      · (intro o ho w hSw; obtain ⟨z0, z1, z2, z3, z4, z5, z6, z7⟩ := hSw; cases ho; go_simp; try with_reducible rfl)
      try simp only [Act.put, List.setIfInBounds_toArray, List.set_cons_zero, List.set_cons_succ]
      refine takeG 6 (some 18) (v := ?_) (by rfl) (by rfl) (by kernel_rfl) (by kernel_rfl) (by decide) (by kernel_rfl) (by kernel_rfl) (fun _ _ _ h => h) ?_ (by assumption) ?_
      rotate_left
      · (intro o ho w hSw; obtain ⟨z0, z1, z2, z3, z4, z5, z6, z7⟩ := hSw; cases ho; go_simp; try with_reducible rfl)
      try simp only [Act.put, List.setIfInBounds_toArray, List.set_cons_zero, List.set_cons_succ]
      refine takeG 7 (some 19) (v := ?_) (by rfl) (by rfl) (by kernel_rfl) (by kernel_rfl) (by decide) (by kernel_rfl) (by kernel_rfl) (fun _ _ _ h => h) ?_ (by assumption) ?_
      rotate_left
      · (intro o ho w hSw; obtain ⟨z0, z1, z2, z3, z4, z5, z6, z7⟩ := hSw; cases ho; go_simp; try with_reducible rfl)
      try simp only [Act.put, List.setIfInBounds_toArray, List.set_cons_zero, List.set_cons_succ]
      refine takeG 9 (some 21) (v := ?_) (by rfl) (by rfl) (by kernel_rfl) (by kernel_rfl) (by decide) (by kernel_rfl) (by kernel_rfl) (fun _ _ _ h => h) ?_ (by assumption) ?_
      rotate_left
      · (intro o ho w hSw; obtain ⟨z0, z1, z2, z3, z4, z5, z6, z7⟩ := hSw; cases ho; go_simp; try with_reducible rfl)
      try simp only [Act.put, List.setIfInBounds_toArray, List.set_cons_zero, List.set_cons_succ]
      refine takeG 10 (some 22) (v := ?_) (by rfl) (by rfl) (by kernel_rfl) (by kernel_rfl) (by decide) (by kernel_rfl) (by kernel_rfl) (fun _ _ _ h => h) ?_ (by assumption) ?_
      rotate_left
      · (intro o ho w hSw; obtain ⟨z0, z1, z2, z3, z4, z5, z6, z7⟩ := hSw; cases ho; go_simp; try with_reducible rfl)
      try simp only [Act.put, List.setIfInBounds_toArray, List.set_cons_zero, List.set_cons_succ]
      refine readyG2 (i := 5) (j := 11) (by kernel_rfl) rfl rfl (fun K hK => ?_) (fun K hK => ?_)
      · skip
        go_simp
        go_at_call 53
        (with_reducible refine (clip_any A n c _ HNC.out).mono ?_)
        rintro e w'' ⟨rfl, rfl⟩
        go_wp2
        refine hK.out _ _ ?_ (fun hH5 => ?_)
        · exact (HS.out _ hP)
        clear hK K
        try simp only [Act.put, List.setIfInBounds_toArray, List.set_cons_zero, List.set_cons_succ]
        refine readyG2 (i := 8) (j := 11) (by kernel_rfl) rfl rfl (fun K hK => ?_) (fun K hK => ?_)
        · skip
          go_simp
          go_at_call 54
          (refine (HP.out _ hP).mono ?_)
          rintro e wp ⟨rfl, hb1⟩
          try replace hVB := Blk.all hVB hb1
          replace hP := bt hP hb1
          clear hb1
          go_wp2
          refine hK.out _ _ ?_ (fun hH8 => ?_)
          · exact (HS.out _ hP)
          clear hK K
          try simp only [Act.put, List.setIfInBounds_toArray, List.set_cons_zero, List.set_cons_succ]
          refine readyG (i := 11) (by kernel_rfl) rfl (fun K hK => ?_)
          go_simp
          have hVB := blk_of hP 3 #[.int .i64 i1]
          replace hP := hP.alloc hP.size (.cells #[.int .i64 i1] 3)
          refine hK.out _ _ ?_ (fun hH11 => ?_)
          · exact (HS.out _ hP)
          clear hK K
          (try simp only [Act.put]); (try simp only [List.setIfInBounds_toArray]); (try simp only [List.set_cons_succ]); (try simp only [List.set_cons_zero])
          refine readyG (i := 12) (by kernel_rfl) rfl (fun K hK => ?_)
          go_simp
          go_at_call 52
          (refine (HD.out _ _ hP hVB).mono ?_)
          rintro e w5 ⟨A', c', rfl, hI5, hB5, hb5⟩
          have hP5 := bt hP hb5
          go_wp2
          refine hK.out _ _ ?_ (fun hH12 => ?_)
          · exact (HS.out _ hP5)
          clear hK K
          try simp only [Act.put, List.setIfInBounds_toArray, List.set_cons_zero, List.set_cons_succ]
          refine readyG (i := 13) (by kernel_rfl) rfl (fun K hK => ?_)
          go_simp
          refine hK.out _ _ ?_ (fun hH13 => ?_)
          · exact (HS.out _ hP5)
          clear hK K
          try simp only [Act.put, List.setIfInBounds_toArray, List.set_cons_zero, List.set_cons_succ]
          refine takeG 14 (some 26) (v := ?_) (by rfl) (by rfl) (by kernel_rfl) (by kernel_rfl) (by decide) (by kernel_rfl) (by kernel_rfl) (fun _ _ _ h => h) ?_ (by assumption) ?_
          rotate_left
          · (intro o ho w hSw; obtain ⟨z0, z1, z2, z3, z4, z5, z6, z7⟩ := hSw; cases ho; go_simp; try with_reducible rfl)
          (try simp only [Act.put]); (try simp only [List.setIfInBounds_toArray]); (try simp only [List.set_cons_succ]); (try simp only [List.set_cons_zero])
          refine lastG (by kernel_rfl) rfl (fun K hK => ?_)
          have hL5 := HS.out _ hP5
          obtain ⟨z0, z1, z2, z3, z4, z5, z6, z7⟩ := hL5
          go_simp
          refine hK.out _ _ ?_
          clear hK K
          (try simp only [Act.put]); (try simp only [List.setIfInBounds_toArray]); (try simp only [List.set_cons_succ]); (try simp only [List.set_cons_zero])
          refine doneG (by kernel_rfl) ?_ _
          go_wp2
          refine bodyPost_end (v := .tuple #[]) (by simp [results, Try.results32, go_sem]) rfl ⟨rfl, ?_⟩
          have hb0 := HBW.out
          have hL5 : BkAt W B gb V b := HA.out
          have hM0 : Mod (fun g => blkOf V.b = some g) W w5 := Mod.of_below _ hP5
          obtain ⟨V', hA', hM', hF'⟩ := hL5.put_true hM0 hI5 (fun g hg => .inr (by have := hB5 g hg; have := hP.size; omega)) (by rw [← HEND.out]; exact hok.out)
          rw [HEND.out]
          refine ⟨V', hA', ?_, fun g hg => (hF' g hg).imp id (fun h => Nat.le_trans HBW.out.size h)⟩
          rw [hg3.out] at hb0
          exact (Mod.of_below _ (by rw [hg3.out]; exact hb0)).trans hM' (fun g hg => .inl hg)
        · skip
          go_simp
          have hVB := blk_of hP 3 #[.int .i64 i1]
          replace hP := hP.alloc hP.size (.cells #[.int .i64 i1] 3)
          refine hK.out _ _ ?_ (fun hH11 => ?_)
          · exact (HS.out _ hP)
          clear hK K
          (try simp only [Act.put]); (try simp only [List.setIfInBounds_toArray]); (try simp only [List.set_cons_succ]); (try simp only [List.set_cons_zero])
          refine readyG (i := 8) (by kernel_rfl) rfl (fun K hK => ?_)
          go_simp
          go_at_call 54
          (refine (HP.out _ hP).mono ?_)
          rintro e wp ⟨rfl, hb1⟩
          try replace hVB := Blk.all hVB hb1
          replace hP := bt hP hb1
          clear hb1
          go_wp2
          refine hK.out _ _ ?_ (fun hH8 => ?_)
          · exact (HS.out _ hP)
          clear hK K
          try simp only [Act.put, List.setIfInBounds_toArray, List.set_cons_zero, List.set_cons_succ]
          refine readyG (i := 12) (by kernel_rfl) rfl (fun K hK => ?_)
          go_simp
          go_at_call 52
          (refine (HD.out _ _ hP hVB).mono ?_)
          rintro e w5 ⟨A', c', rfl, hI5, hB5, hb5⟩
          have hP5 := bt hP hb5
          go_wp2
          refine hK.out _ _ ?_ (fun hH12 => ?_)
          · exact (HS.out _ hP5)
          clear hK K
          try simp only [Act.put, List.setIfInBounds_toArray, List.set_cons_zero, List.set_cons_succ]
          refine readyG (i := 13) (by kernel_rfl) rfl (fun K hK => ?_)
          go_simp
          refine hK.out _ _ ?_ (fun hH13 => ?_)
          · exact (HS.out _ hP5)
          clear hK K
          try simp only [Act.put, List.setIfInBounds_toArray, List.set_cons_zero, List.set_cons_succ]
          refine takeG 14 (some 26) (v := ?_) (by rfl) (by rfl) (by kernel_rfl) (by kernel_rfl) (by decide) (by kernel_rfl) (by kernel_rfl) (fun _ _ _ h => h) ?_ (by assumption) ?_
          rotate_left
          · (intro o ho w hSw; obtain ⟨z0, z1, z2, z3, z4, z5, z6, z7⟩ := hSw; cases ho; go_simp; try with_reducible rfl)
          (try simp only [Act.put]); (try simp only [List.setIfInBounds_toArray]); (try simp only [List.set_cons_succ]); (try simp only [List.set_cons_zero])
          refine lastG (by kernel_rfl) rfl (fun K hK => ?_)
          have hL5 := HS.out _ hP5
          obtain ⟨z0, z1, z2, z3, z4, z5, z6, z7⟩ := hL5
          go_simp
          refine hK.out _ _ ?_
          clear hK K
          (try simp only [Act.put]); (try simp only [List.setIfInBounds_toArray]); (try simp only [List.set_cons_succ]); (try simp only [List.set_cons_zero])
          refine doneG (by kernel_rfl) ?_ _
          go_wp2
          refine bodyPost_end (v := .tuple #[]) (by simp [results, Try.results32, go_sem]) rfl ⟨rfl, ?_⟩
          have hb0 := HBW.out
          have hL5 : BkAt W B gb V b := HA.out
          have hM0 : Mod (fun g => blkOf V.b = some g) W w5 := Mod.of_below _ hP5
          obtain ⟨V', hA', hM', hF'⟩ := hL5.put_true hM0 hI5 (fun g hg => .inr (by have := hB5 g hg; have := hP.size; omega)) (by rw [← HEND.out]; exact hok.out)
          rw [HEND.out]
          refine ⟨V', hA', ?_, fun g hg => (hF' g hg).imp id (fun h => Nat.le_trans HBW.out.size h)⟩
          rw [hg3.out] at hb0
          exact (Mod.of_below _ (by rw [hg3.out]; exact hb0)).trans hM' (fun g hg => .inl hg)
      · skip
        go_simp
        have hVB := blk_of hP 3 #[.int .i64 i1]
        replace hP := hP.alloc hP.size (.cells #[.int .i64 i1] 3)
        refine hK.out _ _ ?_ (fun hH11 => ?_)
        · exact (HS.out _ hP)
        clear hK K
        (try simp only [Act.put]); (try simp only [List.setIfInBounds_toArray]); (try simp only [List.set_cons_succ]); (try simp only [List.set_cons_zero])
        refine readyG (i := 5) (by kernel_rfl) rfl (fun K hK => ?_)
        go_simp
        go_at_call 53
        (with_reducible refine (clip_any A n c _ HNC.out).mono ?_)
        rintro e w'' ⟨rfl, rfl⟩
        go_wp2
        refine hK.out _ _ ?_ (fun hH5 => ?_)
        · exact (HS.out _ hP)
        clear hK K
        try simp only [Act.put, List.setIfInBounds_toArray, List.set_cons_zero, List.set_cons_succ]
        refine readyG (i := 8) (by kernel_rfl) rfl (fun K hK => ?_)
        go_simp
        go_at_call 54
        (refine (HP.out _ hP).mono ?_)
        rintro e wp ⟨rfl, hb1⟩
        try replace hVB := Blk.all hVB hb1
        replace hP := bt hP hb1
        clear hb1
        go_wp2
        refine hK.out _ _ ?_ (fun hH8 => ?_)
        · exact (HS.out _ hP)
        clear hK K
        try simp only [Act.put, List.setIfInBounds_toArray, List.set_cons_zero, List.set_cons_succ]
        refine readyG (i := 12) (by kernel_rfl) rfl (fun K hK => ?_)
        go_simp
        go_at_call 52
        (refine (HD.out _ _ hP hVB).mono ?_)
        rintro e w5 ⟨A', c', rfl, hI5, hB5, hb5⟩
        have hP5 := bt hP hb5
        go_wp2
        refine hK.out _ _ ?_ (fun hH12 => ?_)
        · exact (HS.out _ hP5)
        clear hK K
        try simp only [Act.put, List.setIfInBounds_toArray, List.set_cons_zero, List.set_cons_succ]
        refine readyG (i := 13) (by kernel_rfl) rfl (fun K hK => ?_)
        go_simp
        refine hK.out _ _ ?_ (fun hH13 => ?_)
        · exact (HS.out _ hP5)
        clear hK K
        try simp only [Act.put, List.setIfInBounds_toArray, List.set_cons_zero, List.set_cons_succ]
        refine takeG 14 (some 26) (v := ?_) (by rfl) (by rfl) (by kernel_rfl) (by kernel_rfl) (by decide) (by kernel_rfl) (by kernel_rfl) (fun _ _ _ h => h) ?_ (by assumption) ?_
        rotate_left
        · (intro o ho w hSw; obtain ⟨z0, z1, z2, z3, z4, z5, z6, z7⟩ := hSw; cases ho; go_simp; try with_reducible rfl)
        (try simp only [Act.put]); (try simp only [List.setIfInBounds_toArray]); (try simp only [List.set_cons_succ]); (try simp only [List.set_cons_zero])
        refine lastG (by kernel_rfl) rfl (fun K hK => ?_)
        have hL5 := HS.out _ hP5
        obtain ⟨z0, z1, z2, z3, z4, z5, z6, z7⟩ := hL5
        go_simp
        refine hK.out _ _ ?_
        clear hK K
        (try simp only [Act.put]); (try simp only [List.setIfInBounds_toArray]); (try simp only [List.set_cons_succ]); (try simp only [List.set_cons_zero])
        refine doneG (by kernel_rfl) ?_ _
        go_wp2
        refine bodyPost_end (v := .tuple #[]) (by simp [results, Try.results32, go_sem]) rfl ⟨rfl, ?_⟩
        have hb0 := HBW.out
        have hL5 : BkAt W B gb V b := HA.out
        have hM0 : Mod (fun g => blkOf V.b = some g) W w5 := Mod.of_below _ hP5
        obtain ⟨V', hA', hM', hF'⟩ := hL5.put_true hM0 hI5 (fun g hg => .inr (by have := hB5 g hg; have := hP.size; omega)) (by rw [← HEND.out]; exact hok.out)
        rw [HEND.out]
        refine ⟨V', hA', ?_, fun g hg => (hF' g hg).imp id (fun h => Nat.le_trans HBW.out.size h)⟩
        rw [hg3.out] at hb0
        exact (Mod.of_below _ (by rw [hg3.out]; exact hb0)).trans hM' (fun g hg => .inl hg)

end Go.Proofs.Ytkandhpnenmleaa
