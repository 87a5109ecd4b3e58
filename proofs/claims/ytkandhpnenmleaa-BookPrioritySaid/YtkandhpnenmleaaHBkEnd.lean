/- book: end. -/
import Derived.Test.YtkandhpnenmleaaHBkOpen
import Derived.Test.YtkandhpnenmleaaHRegG

namespace Go.Proofs.Ytkandhpnenmleaa
open Go.RowKit

theorem BkS.Ok.sub {b : BkS} (h : b.Ok) (buy : Bool) {l : List Nat} (hl : l.Sublist (b.side buy)) : (b.put buy l).Ok := by
  have hlen := hl.length_le
  cases buy
  · refine ⟨h.ids, h.rng, fun y k hk => ?_, fun y => ?_, ?_⟩
    · cases y
      · exact h.mem false k (hl.subset hk)
      · exact h.mem true k hk
    · cases y
      · exact (h.sorted false).sublist hl
      · exact h.sorted true
    · have := h.few
      simp only [BkS.put, BkS.side, Bool.false_eq_true, if_false] at hlen ⊢
      omega
  · refine ⟨h.ids, h.rng, fun y k hk => ?_, fun y => ?_, ?_⟩
    · cases y
      · exact h.mem false k hk
      · exact h.mem true k (hl.subset hk)
    · cases y
      · exact h.sorted false
      · exact (h.sorted true).sublist hl
    · have := h.few
      simp only [BkS.put, BkS.side, if_true] at hlen ⊢
      omega
theorem blk_cut {A : Option Addr} {n m c g : Nat} (h : blkOf (A, m, c) = some g) : blkOf (A, n, c) = some g := by
  unfold blkOf slV at *
  dsimp only at *
  split at h
  · rw [if_pos (by assumption)]
    cases A <;> exact h
  · cases h
def BkPost (gb B : Nat) (V : BkV) (b : BkS) (w : World) (b' : BkS) (w' : World) : Prop := ∃ V', BkAt w' B gb V' b' ∧ Mod (BkF gb V b.os.length) w w' ∧ ∀ g, BkF gb V' b'.os.length g → BkF gb V b.os.length g ∨ w.heap.size ≤ g
theorem BkAt.put_true {W W5 : World} {B gb : Nat} {V : BkV} {b : BkS} {s' : Sl} {l' : List Nat} (h : BkAt W B gb V b) (m : Mod (fun g => blkOf V.b = some g) W W5) (hI : IRow W5 B s' l') (hs : ∀ g, blkOf s' = some g → blkOf V.b = some g ∨ W.heap.size ≤ g) (hok : (b.put true l').Ok) : BkPost gb B V b W (b.put true l') (W5.setCell ⟨gb, 1, none⟩ (slV s')) := by
  have hng : ∀ g, Ty W g 3 → g ≠ gb := fun g h1 he => by
    rw [he] at h1
    exact absurd (h1.unique h.blk.ty) (by decide)
  have b5 : Blk W5 gb 69 #[V.os b.os.length, slV V.b, bet1, slV V.s, bet2] := m.blk h.blk (fun hg => hng gb (h.bs.at_ hg).1 rfl)
  have ms : Mod (fun g => g = gb) W5 (W5.setCell ⟨gb, 1, none⟩ (slV s')) := Mod.set (F := fun g => g = gb) (Mod.refl _ _) (p := ⟨gb, 1, none⟩) (.inl rfl) _
  have mT : Mod (fun g => blkOf V.b = some g ∨ g = gb) W (W5.setCell ⟨gb, 1, none⟩ (slV s')) := (m.mono (fun b h => .inl (.inl h))).trans ms (fun b h => .inl (.inr h))
  have hsg : ∀ g, blkOf s' = some g → ¬ g = gb := fun g hg he => by
    have h1 := (hI.at_ hg).1
    rw [he] at h1
    exact absurd (h1.unique b5.ty) (by decide)
  have b6 := b5.set_ 1 (slV s')
  refine ⟨⟨V.oA, V.oc, s', V.s⟩, ⟨b6, h.ge, mT.own h.orders (fun g hg h1 => ?_), hI.mod ms (fun g hg => hsg g hg), h.ss.mod mT (fun g hg h1 => h1.elim (fun h2 => h.apart g h2 hg) (fun h2 => hng g (h.ss.at_ hg).1 h2)), fun g h1 h2 => (hs g h1).elim (fun h3 => h.apart g h3 h2) (fun h3 => by have := (h.ss.at_ h2).2.2; omega), hok, h.few⟩, mT.mono (fun g hg => .inl (hg.elim (fun h1 => .inr (.inr (.inl h1))) .inl)), fun g hg => ?_⟩
  · have ho := own_ty h.orders hg
    rcases h1 with h1 | h1
    · exact absurd (ho.unique (h.bs.at_ h1).1) (by decide)
    · rw [h1] at ho
      exact absurd (ho.unique h.blk.ty) (by decide)
  · rcases hg with hg | hg | hg | hg
    · exact .inl (.inl hg)
    · exact .inl (.inr (.inl hg))
    · exact (hs g hg).imp (fun h1 => .inr (.inr (.inl h1))) id
    · exact .inl (.inr (.inr (.inr hg)))
theorem BkAt.put_false {W W5 : World} {B gb : Nat} {V : BkV} {b : BkS} {s' : Sl} {l' : List Nat} (h : BkAt W B gb V b) (m : Mod (fun g => blkOf V.s = some g) W W5) (hI : IRow W5 B s' l') (hs : ∀ g, blkOf s' = some g → blkOf V.s = some g ∨ W.heap.size ≤ g) (hok : (b.put false l').Ok) : BkPost gb B V b W (b.put false l') (W5.setCell ⟨gb, 3, none⟩ (slV s')) := by
  have hng : ∀ g, Ty W g 3 → g ≠ gb := fun g h1 he => by
    rw [he] at h1
    exact absurd (h1.unique h.blk.ty) (by decide)
  have b5 : Blk W5 gb 69 #[V.os b.os.length, slV V.b, bet1, slV V.s, bet2] := m.blk h.blk (fun hg => hng gb (h.ss.at_ hg).1 rfl)
  have ms : Mod (fun g => g = gb) W5 (W5.setCell ⟨gb, 3, none⟩ (slV s')) := Mod.set (F := fun g => g = gb) (Mod.refl _ _) (p := ⟨gb, 3, none⟩) (.inl rfl) _
  have mT : Mod (fun g => blkOf V.s = some g ∨ g = gb) W (W5.setCell ⟨gb, 3, none⟩ (slV s')) := (m.mono (fun b h => .inl (.inl h))).trans ms (fun b h => .inl (.inr h))
  have hsg : ∀ g, blkOf s' = some g → ¬ g = gb := fun g hg he => by
    have h1 := (hI.at_ hg).1
    rw [he] at h1
    exact absurd (h1.unique b5.ty) (by decide)
  have b6 := b5.set_ 3 (slV s')
  refine ⟨⟨V.oA, V.oc, V.b, s'⟩, ⟨b6, h.ge, mT.own h.orders (fun g hg h1 => ?_), h.bs.mod mT (fun g hg h1 => h1.elim (fun h2 => h.apart g hg h2) (fun h2 => hng g (h.bs.at_ hg).1 h2)), hI.mod ms (fun g hg => hsg g hg), fun g h1 h2 => (hs g h2).elim (fun h3 => h.apart g h1 h3) (fun h3 => by have := (h.bs.at_ h1).2.2; omega), hok, h.few⟩, mT.mono (fun g hg => .inl (hg.elim (fun h1 => .inr (.inr (.inr h1))) .inl)), fun g hg => ?_⟩
  · have ho := own_ty h.orders hg
    rcases h1 with h1 | h1
    · exact absurd (ho.unique (h.ss.at_ h1).1) (by decide)
    · rw [h1] at ho
      exact absurd (ho.unique h.blk.ty) (by decide)
  · rcases hg with hg | hg | hg | hg
    · exact .inl (.inl hg)
    · exact .inl (.inr (.inl hg))
    · exact .inl (.inr (.inr (.inl hg)))
    · exact (hs g hg).imp (fun h1 => .inr (.inr (.inr h1))) id
set_option maxRecDepth 100000 in
set_option maxHeartbeats 1000000 in
theorem end_any (gb B : Nat) (V : BkV) (b : BkS) (o : Ord) (w : World) (HK : Hid (BkAt w B gb V b)) (hop : Hid (isOpenB b o = true)) :
    Calls Try.prog 36 #[.pointer (some ⟨gb, 0, none⟩), .agg #[.int .i64 o.id, .int .i64 o.acc, .bool o.buy, .int .i64 o.price, .int .i64 o.n, .int .i64 o.left]] w fun e w' => e = .returned (.tuple #[]) ∧ BkPost gb B V b w (b.ended o) w' := by
  obtain ⟨i1, a1, b1, p1, n1, l1⟩ := o
  dsimp only
  cases b1
  ·
    obtain ⟨A, n, c, hV⟩ : ∃ A n c, V.s = (A, n, c) := ⟨_, _, _, rfl⟩
    have c1 := HK.out.blk.cell 3
    have f1 := HK.out.blk.frozen 3
    simp only [List.getElem?_toArray, List.getElem?_cons_zero, List.getElem?_cons_succ] at c1
    unfold slV at c1
    rw [hV] at c1
    dsimp only at c1
    have hgb := HK.out.blk.lt
    have hI : IRow w B (A, n, c) (b.side false) := by have := HK.out.ss; rw [hV] at this; exact this
    have HI := Lib.hid hI
    have HV := Lib.hid hV
    have hgi : ∀ g, blkOf (A, n, c) = some g → g ≠ gb := fun g hg he => by
      have h1 := (hI.at_ hg).1
      rw [he] at h1
      exact absurd (h1.unique HK.out.blk.ty) (by decide)
    have HGI := Lib.hid hgi
    clear hV hI hgi
    obtain ⟨r, hr⟩ : ∃ r, placeN b.os (b.side false) ⟨i1, a1, false, p1, n1, l1⟩ = r := ⟨_, rfl⟩
    have HR := Lib.hid hr
    clear hr
    have hrn : r < n := by
      have h1 := hop.out
      unfold isOpenB at h1
      dsimp only at h1
      rw [HR.out] at h1
      have h2 := HI.out.len
      dsimp only at h2
      cases h3 : (b.side false)[r]? with
      | none => rw [h3] at h1; simp at h1
      | some x => have := (List.getElem?_eq_some_iff.1 h3).1; omega
    have HRN := Lib.hid hrn
    have HN : Hid (n ≤ 4096) := Lib.hid (by
      have h1 := HK.out.ok.few
      have h2 := HI.out.len
      dsimp only at h2
      rw [← h2]
      simp [BkS.side]
      omega)
    clear hrn
    go_enter Try.func36, Try.ntmps36
    go_wp2
    go_quiet ((go_at_call 30; exact (side_false _).mono (fun e w'' h => ⟨h.1, _, h.2.symm⟩)))
    all_goals
      obtain ⟨W, hW⟩ : ∃ W, W = ((w.alloc (.cells #[.int .i64 i1, .int .i64 a1, .bool false, .int .i64 p1, .int .i64 n1, .int .i64 l1] 42)).drewN nq) := ⟨_, rfl⟩
      rw [← hW]
      have hbW : Below w.heap.size w W := by rw [hW]; exact below_drewN ((Below.refl _ _).alloc (Nat.le_refl _) _) nq
      have k3 : Blk W w.heap.size 42 #[.int .i64 i1, .int .i64 a1, .bool false, .int .i64 p1, .int .i64 n1, .int .i64 l1] := by rw [hW]; exact blk_drewN nq (Blk.new w _ _)
      have HA := Lib.hid (HK.out.all hbW)
      have HBW := Lib.hid hbW
      clear hW
      obtain ⟨g3, hg3⟩ : ∃ g3, w.heap.size = g3 := ⟨_, rfl⟩
      rw [hg3] at k3 ⊢
      have hS0 : Hid (∀ w', Mod (fun g => blkOf (A, n, c) = some g) W w' → (fun w' => w'.cell? ⟨gb, 3, none⟩ = some (.slice A n c) ∧ w'.cell? ⟨g3, 0, none⟩ = some (.int .i64 i1) ∧ w'.cell? ⟨g3, 1, none⟩ = some (.int .i64 a1) ∧ w'.cell? ⟨g3, 2, none⟩ = some (.bool false) ∧ w'.cell? ⟨g3, 3, none⟩ = some (.int .i64 p1) ∧ w'.cell? ⟨g3, 4, none⟩ = some (.int .i64 n1) ∧ w'.cell? ⟨g3, 5, none⟩ = some (.int .i64 l1) ∧ w'.frozen? ⟨gb, 3, none⟩ = false) w') := Lib.hid (fun w' hm => by
        have q3 := hm.blk k3 (fun h => by have := (HI.out.at_ h).2.2; omega)
        have q1 := hm.blk HA.out.blk (fun h => HGI.out gb h rfl)
        have u1 := q1.cell 3
        simp only [List.getElem?_toArray, List.getElem?_cons_zero, List.getElem?_cons_succ] at u1
        unfold slV at u1
        rw [HV.out] at u1
        exact ⟨u1, by rw [q3.cell]; rfl, by rw [q3.cell]; rfl, by rw [q3.cell]; rfl, by rw [q3.cell]; rfl, by rw [q3.cell]; rfl, by rw [q3.cell]; rfl, q1.frozen _⟩)
      have HS := hS0
      clear hS0
      have HP : Hid (∀ w', Below W.heap.size W w' → Calls Try.prog 54 #[.pointer (some ⟨gb, 0, none⟩), .agg #[.int .i64 i1, .int .i64 a1, .bool false, .int .i64 p1, .int .i64 n1, .int .i64 l1]] w' fun e w'' => e = .returned (.int .i64 (r : Int)) ∧ Below w'.heap.size w' w'') := Lib.hid (fun w' hb => by rw [← HR.out]; exact place_any gb B V b ⟨i1, a1, false, p1, n1, l1⟩ w' (Lib.hid (HA.out.all hb)))
      have HD : Hid (∀ w' (x : Int), Below W.heap.size W w' → x = (r : Int) + 1 → Calls Try.prog 58 #[.slice A n c, .int .i64 (r : Int), .int .i64 x] w' fun e w'' => e = .returned (.slice A (n - 1) c) ∧ IRow w'' B (A, n - 1, c) ((b.side false).eraseIdx r) ∧ Mod (fun g => blkOf (A, n, c) = some g) w' w'') := Lib.hid (fun w' x hb hx => by rw [hx]; exact del_any A n c r (b.side false) B w' ((HI.out.all HBW.out).all hb) HRN.out)
      have hP0 : Below W.heap.size W W.drew := below_drewN (Below.refl _ _) 1
      replace hg3 := Lib.hid hg3
      have K3 := Lib.hid k3
      clear hbW k3 c1 f1 hgb
      go_wp2
      refine beginG (S := (fun w' => w'.cell? ⟨gb, 3, none⟩ = some (.slice A n c) ∧ w'.cell? ⟨g3, 0, none⟩ = some (.int .i64 i1) ∧ w'.cell? ⟨g3, 1, none⟩ = some (.int .i64 a1) ∧ w'.cell? ⟨g3, 2, none⟩ = some (.bool false) ∧ w'.cell? ⟨g3, 3, none⟩ = some (.int .i64 p1) ∧ w'.cell? ⟨g3, 4, none⟩ = some (.int .i64 n1) ∧ w'.cell? ⟨g3, 5, none⟩ = some (.int .i64 l1) ∧ w'.frozen? ⟨gb, 3, none⟩ = false)) 15 (by kernel_rfl) (HS.out _ (Mod.of_below _ hP0)) (fun hHeld => ?_)
      refine takeG 0 (some 12) (v := ?_) (by rfl) (by rfl) (by kernel_rfl) (by kernel_rfl) (by decide) (by kernel_rfl) (by kernel_rfl) (fun _ _ _ h => h) ?_ (by assumption) ?_
      rotate_left
      · (intro o ho w hSw; obtain ⟨z0, z1, z2, z3, z4, z5, z6, z7⟩ := hSw; cases ho; go_simp; try with_reducible rfl)
      try simp only [Act.put, List.setIfInBounds_toArray, List.set_cons_zero, List.set_cons_succ]
      refine takeG 1 (some 13) (v := ?_) (by rfl) (by rfl) (by kernel_rfl) (by kernel_rfl) (by decide) (by kernel_rfl) (by kernel_rfl) (fun _ _ _ h => h) ?_ (by assumption) ?_
      rotate_left
      · (intro o ho w hSw; obtain ⟨z0, z1, z2, z3, z4, z5, z6, z7⟩ := hSw; cases ho; go_simp; try with_reducible rfl)
      try simp only [Act.put, List.setIfInBounds_toArray, List.set_cons_zero, List.set_cons_succ]
      refine takeG 2 (some 14) (v := ?_) (by rfl) (by rfl) (by kernel_rfl) (by kernel_rfl) (by decide) (by kernel_rfl) (by kernel_rfl) (fun _ _ _ h => h) ?_ (by assumption) ?_
      rotate_left
      · (intro o ho w hSw; obtain ⟨z0, z1, z2, z3, z4, z5, z6, z7⟩ := hSw; cases ho; go_simp; try with_reducible rfl)
      try simp only [Act.put, List.setIfInBounds_toArray, List.set_cons_zero, List.set_cons_succ]
      refine takeG 3 (some 15) (v := ?_) (by rfl) (by rfl) (by kernel_rfl) (by kernel_rfl) (by decide) (by kernel_rfl) (by kernel_rfl) (fun _ _ _ h => h) ?_ (by assumption) ?_
      rotate_left
      · (intro o ho w hSw; obtain ⟨z0, z1, z2, z3, z4, z5, z6, z7⟩ := hSw; cases ho; go_simp; try with_reducible rfl)
      try simp only [Act.put, List.setIfInBounds_toArray, List.set_cons_zero, List.set_cons_succ]
      refine takeG 4 (some 16) (v := ?_) (by rfl) (by rfl) (by kernel_rfl) (by kernel_rfl) (by decide) (by kernel_rfl) (by kernel_rfl) (fun _ _ _ h => h) ?_ (by assumption) ?_
      rotate_left
      · (intro o ho w hSw; obtain ⟨z0, z1, z2, z3, z4, z5, z6, z7⟩ := hSw; cases ho; go_simp; try with_reducible rfl)
      try simp only [Act.put, List.setIfInBounds_toArray, List.set_cons_zero, List.set_cons_succ]
      refine takeG 5 (some 17) (v := ?_) (by rfl) (by rfl) (by kernel_rfl) (by kernel_rfl) (by decide) (by kernel_rfl) (by kernel_rfl) (fun _ _ _ h => h) ?_ (by assumption) ?_
      rotate_left
      · (intro o ho w hSw; obtain ⟨z0, z1, z2, z3, z4, z5, z6, z7⟩ := hSw; cases ho; go_simp; try with_reducible rfl)
      try simp only [Act.put, List.setIfInBounds_toArray, List.set_cons_zero, List.set_cons_succ]
      refine takeG 6 (some 18) (v := ?_) (by rfl) (by rfl) (by kernel_rfl) (by kernel_rfl) (by decide) (by kernel_rfl) (by kernel_rfl) (fun _ _ _ h => h) ?_ (by assumption) ?_
      rotate_left
      · (intro o ho w hSw; obtain ⟨z0, z1, z2, z3, z4, z5, z6, z7⟩ := hSw; cases ho; go_simp; try with_reducible rfl)
      try simp only [Act.put, List.setIfInBounds_toArray, List.set_cons_zero, List.set_cons_succ]
      refine takeG 8 (some 20) (v := ?_) (by rfl) (by rfl) (by kernel_rfl) (by kernel_rfl) (by decide) (by kernel_rfl) (by kernel_rfl) (fun _ _ _ h => h) ?_ (by assumption) ?_
      rotate_left
      · (intro o ho w hSw; obtain ⟨z0, z1, z2, z3, z4, z5, z6, z7⟩ := hSw; cases ho; go_simp; try with_reducible rfl)
      try simp only [Act.put, List.setIfInBounds_toArray, List.set_cons_zero, List.set_cons_succ]
      refine takeG 9 (some 21) (v := ?_) (by rfl) (by rfl) (by kernel_rfl) (by kernel_rfl) (by decide) (by kernel_rfl) (by kernel_rfl) (fun _ _ _ h => h) ?_ (by assumption) ?_
      rotate_left
      · (intro o ho w hSw; obtain ⟨z0, z1, z2, z3, z4, z5, z6, z7⟩ := hSw; cases ho; go_simp; try with_reducible rfl)
      try simp only [Act.put, List.setIfInBounds_toArray, List.set_cons_zero, List.set_cons_succ]
      refine readyG (i := 7) (by kernel_rfl) rfl (fun K hK => ?_)
      go_simp
      go_at_call 54
      (with_reducible refine (HP.out _ hP0).mono ?_)
      rintro e wp ⟨rfl, hP10⟩
      have hP1 := bt hP0 hP10
      clear hP10
      go_wp2
      refine hK.out _ _ ?_ (fun hH7 => ?_)
      · exact (HS.out _ (Mod.of_below _ hP1))
      clear hK K
      try simp only [Act.put, List.setIfInBounds_toArray, List.set_cons_zero, List.set_cons_succ]
      refine readyG (i := 10) (by kernel_rfl) rfl (fun K hK => ?_)
      go_simp
      go_at_call 54
      (with_reducible refine (HP.out _ hP1).mono ?_)
      rintro e wp ⟨rfl, hP20⟩
      have hP2 := bt hP1 hP20
      clear hP20
      go_wp2
      refine hK.out _ _ ?_ (fun hH10 => ?_)
      · exact (HS.out _ (Mod.of_below _ hP2))
      clear hK K
      try simp only [Act.put, List.setIfInBounds_toArray, List.set_cons_zero, List.set_cons_succ]
      refine takeG 11 (some 23) (v := ?_) (by rfl) (by rfl) (by kernel_rfl) (by kernel_rfl) (by decide) (by kernel_rfl) (by kernel_rfl) (fun _ _ _ h => h) ?_ (by assumption) ?_
      rotate_left
      · (intro o ho w hSw; obtain ⟨z0, z1, z2, z3, z4, z5, z6, z7⟩ := hSw; cases ho; go_simp; try with_reducible rfl)
      try simp only [Act.put, List.setIfInBounds_toArray, List.set_cons_zero, List.set_cons_succ]
      refine readyG (i := 12) (by kernel_rfl) rfl (fun K hK => ?_)
      go_simp
      go_at_call 58
      (with_reducible refine (HD.out _ _ hP2 (by have := HRN.out; have := HN.out; rw [IntKind.wrap_i64]; omega)).mono ?_)
      rintro e w5 ⟨rfl, hI5, hM5⟩
      have hP5 : Mod (fun g => blkOf (A, n, c) = some g) W w5 := (Mod.of_below _ hP2).trans hM5 (fun b hb => .inl hb)
      go_wp2
      refine hK.out _ _ ?_ (fun hH12 => ?_)
      · exact (HS.out _ hP5)
      clear hK K
      try simp only [Act.put, List.setIfInBounds_toArray, List.set_cons_zero, List.set_cons_succ]
      refine readyG (i := 13) (by kernel_rfl) rfl (fun K hK => ?_)
      go_simp
      refine hK.out _ _ ?_ (fun hH13 => ?_)
      · exact (HS.out _ hP5)
      clear hK K
      try simp only [Act.put, List.setIfInBounds_toArray, List.set_cons_zero, List.set_cons_succ]
      refine takeG 14 (some 26) (v := ?_) (by rfl) (by rfl) (by kernel_rfl) (by kernel_rfl) (by decide) (by kernel_rfl) (by kernel_rfl) (fun _ _ _ h => h) ?_ (by assumption) ?_
      rotate_left
      · (intro o ho w hSw; obtain ⟨z0, z1, z2, z3, z4, z5, z6, z7⟩ := hSw; cases ho; go_simp; try with_reducible rfl)
      try simp only [Act.put, List.setIfInBounds_toArray, List.set_cons_zero, List.set_cons_succ]
      refine lastG (by kernel_rfl) rfl (fun K hK => ?_)
      have hL5 := HS.out _ hP5
      obtain ⟨z0, z1, z2, z3, z4, z5, z6, z7⟩ := hL5
      go_simp
      refine hK.out _ _ ?_
      clear hK K
      (try simp only [Act.put]); (try simp only [List.setIfInBounds_toArray]); (try simp only [List.set_cons_succ]); (try simp only [List.set_cons_zero])
      refine doneG (by kernel_rfl) ?_ _
      go_wp2
      refine bodyPost_end (v := .tuple #[]) (by simp [results, Try.results36, go_sem]) rfl ⟨rfl, ?_⟩
      have hb0 := HBW.out
      have hL5 : BkAt W B gb V b := HA.out
      have hM0 : Mod (fun g => blkOf V.s = some g) W w5 := by rw [HV.out]; exact hP5
      have hI5' : IRow w5 B (A, n - 1, c) ((b.side false).eraseIdx r) := hI5
      obtain ⟨V', hA', hM', hF'⟩ := hL5.put_false hM0 hI5' (fun g hg => .inl (by rw [HV.out]; exact blk_cut hg)) (hL5.ok.sub false (List.eraseIdx_sublist _ _))
      have hend : b.ended ⟨i1, a1, false, p1, n1, l1⟩ = b.put false ((b.side false).eraseIdx r) := by
        unfold BkS.ended
        dsimp only
        rw [HR.out]
      rw [hend]
      refine ⟨V', hA', ?_, fun g hg => (hF' g hg).imp id (fun h => Nat.le_trans HBW.out.size h)⟩
      exact (Mod.of_below _ hb0).trans hM' (fun g hg => .inl hg)

  ·
    obtain ⟨A, n, c, hV⟩ : ∃ A n c, V.b = (A, n, c) := ⟨_, _, _, rfl⟩
    have c1 := HK.out.blk.cell 1
    have f1 := HK.out.blk.frozen 1
    simp only [List.getElem?_toArray, List.getElem?_cons_zero, List.getElem?_cons_succ] at c1
    unfold slV at c1
    rw [hV] at c1
    dsimp only at c1
    have hgb := HK.out.blk.lt
    have hI : IRow w B (A, n, c) (b.side true) := by have := HK.out.bs; rw [hV] at this; exact this
    have HI := Lib.hid hI
    have HV := Lib.hid hV
    have hgi : ∀ g, blkOf (A, n, c) = some g → g ≠ gb := fun g hg he => by
      have h1 := (hI.at_ hg).1
      rw [he] at h1
      exact absurd (h1.unique HK.out.blk.ty) (by decide)
    have HGI := Lib.hid hgi
    clear hV hI hgi
    obtain ⟨r, hr⟩ : ∃ r, placeN b.os (b.side true) ⟨i1, a1, true, p1, n1, l1⟩ = r := ⟨_, rfl⟩
    have HR := Lib.hid hr
    clear hr
    have hrn : r < n := by
      have h1 := hop.out
      unfold isOpenB at h1
      dsimp only at h1
      rw [HR.out] at h1
      have h2 := HI.out.len
      dsimp only at h2
      cases h3 : (b.side true)[r]? with
      | none => rw [h3] at h1; simp at h1
      | some x => have := (List.getElem?_eq_some_iff.1 h3).1; omega
    have HRN := Lib.hid hrn
    have HN : Hid (n ≤ 4096) := Lib.hid (by
      have h1 := HK.out.ok.few
      have h2 := HI.out.len
      dsimp only at h2
      rw [← h2]
      simp [BkS.side]
      omega)
    clear hrn
    go_enter Try.func36, Try.ntmps36
    go_wp2
    go_quiet ((go_at_call 30; exact (side_true _).mono (fun e w'' h => ⟨h.1, _, h.2.symm⟩)))
    all_goals
      obtain ⟨W, hW⟩ : ∃ W, W = ((w.alloc (.cells #[.int .i64 i1, .int .i64 a1, .bool true, .int .i64 p1, .int .i64 n1, .int .i64 l1] 42)).drewN nq) := ⟨_, rfl⟩
      rw [← hW]
      have hbW : Below w.heap.size w W := by rw [hW]; exact below_drewN ((Below.refl _ _).alloc (Nat.le_refl _) _) nq
      have k3 : Blk W w.heap.size 42 #[.int .i64 i1, .int .i64 a1, .bool true, .int .i64 p1, .int .i64 n1, .int .i64 l1] := by rw [hW]; exact blk_drewN nq (Blk.new w _ _)
      have HA := Lib.hid (HK.out.all hbW)
      have HBW := Lib.hid hbW
      clear hW
      obtain ⟨g3, hg3⟩ : ∃ g3, w.heap.size = g3 := ⟨_, rfl⟩
      rw [hg3] at k3 ⊢
      have hS0 : Hid (∀ w', Mod (fun g => blkOf (A, n, c) = some g) W w' → (fun w' => w'.cell? ⟨gb, 1, none⟩ = some (.slice A n c) ∧ w'.cell? ⟨g3, 0, none⟩ = some (.int .i64 i1) ∧ w'.cell? ⟨g3, 1, none⟩ = some (.int .i64 a1) ∧ w'.cell? ⟨g3, 2, none⟩ = some (.bool true) ∧ w'.cell? ⟨g3, 3, none⟩ = some (.int .i64 p1) ∧ w'.cell? ⟨g3, 4, none⟩ = some (.int .i64 n1) ∧ w'.cell? ⟨g3, 5, none⟩ = some (.int .i64 l1) ∧ w'.frozen? ⟨gb, 1, none⟩ = false) w') := Lib.hid (fun w' hm => by
        have q3 := hm.blk k3 (fun h => by have := (HI.out.at_ h).2.2; omega)
        have q1 := hm.blk HA.out.blk (fun h => HGI.out gb h rfl)
        have u1 := q1.cell 1
        simp only [List.getElem?_toArray, List.getElem?_cons_zero, List.getElem?_cons_succ] at u1
        unfold slV at u1
        rw [HV.out] at u1
        exact ⟨u1, by rw [q3.cell]; rfl, by rw [q3.cell]; rfl, by rw [q3.cell]; rfl, by rw [q3.cell]; rfl, by rw [q3.cell]; rfl, by rw [q3.cell]; rfl, q1.frozen _⟩)
      have HS := hS0
      clear hS0
      have HP : Hid (∀ w', Below W.heap.size W w' → Calls Try.prog 54 #[.pointer (some ⟨gb, 0, none⟩), .agg #[.int .i64 i1, .int .i64 a1, .bool true, .int .i64 p1, .int .i64 n1, .int .i64 l1]] w' fun e w'' => e = .returned (.int .i64 (r : Int)) ∧ Below w'.heap.size w' w'') := Lib.hid (fun w' hb => by rw [← HR.out]; exact place_any gb B V b ⟨i1, a1, true, p1, n1, l1⟩ w' (Lib.hid (HA.out.all hb)))
      have HD : Hid (∀ w' (x : Int), Below W.heap.size W w' → x = (r : Int) + 1 → Calls Try.prog 58 #[.slice A n c, .int .i64 (r : Int), .int .i64 x] w' fun e w'' => e = .returned (.slice A (n - 1) c) ∧ IRow w'' B (A, n - 1, c) ((b.side true).eraseIdx r) ∧ Mod (fun g => blkOf (A, n, c) = some g) w' w'') := Lib.hid (fun w' x hb hx => by rw [hx]; exact del_any A n c r (b.side true) B w' ((HI.out.all HBW.out).all hb) HRN.out)
      have hP0 : Below W.heap.size W W.drew := below_drewN (Below.refl _ _) 1
      replace hg3 := Lib.hid hg3
      have K3 := Lib.hid k3
      clear hbW k3 c1 f1 hgb
      go_wp2
      refine beginG (S := (fun w' => w'.cell? ⟨gb, 1, none⟩ = some (.slice A n c) ∧ w'.cell? ⟨g3, 0, none⟩ = some (.int .i64 i1) ∧ w'.cell? ⟨g3, 1, none⟩ = some (.int .i64 a1) ∧ w'.cell? ⟨g3, 2, none⟩ = some (.bool true) ∧ w'.cell? ⟨g3, 3, none⟩ = some (.int .i64 p1) ∧ w'.cell? ⟨g3, 4, none⟩ = some (.int .i64 n1) ∧ w'.cell? ⟨g3, 5, none⟩ = some (.int .i64 l1) ∧ w'.frozen? ⟨gb, 1, none⟩ = false)) 15 (by kernel_rfl) (HS.out _ (Mod.of_below _ hP0)) (fun hHeld => ?_)
      refine takeG 0 (some 12) (v := ?_) (by rfl) (by rfl) (by kernel_rfl) (by kernel_rfl) (by decide) (by kernel_rfl) (by kernel_rfl) (fun _ _ _ h => h) ?_ (by assumption) ?_
      rotate_left
      · (intro o ho w hSw; obtain ⟨z0, z1, z2, z3, z4, z5, z6, z7⟩ := hSw; cases ho; go_simp; try with_reducible rfl)
      try simp only [Act.put, List.setIfInBounds_toArray, List.set_cons_zero, List.set_cons_succ]
      refine takeG 1 (some 13) (v := ?_) (by rfl) (by rfl) (by kernel_rfl) (by kernel_rfl) (by decide) (by kernel_rfl) (by kernel_rfl) (fun _ _ _ h => h) ?_ (by assumption) ?_
      rotate_left
      · (intro o ho w hSw; obtain ⟨z0, z1, z2, z3, z4, z5, z6, z7⟩ := hSw; cases ho; go_simp; try with_reducible rfl)
      try simp only [Act.put, List.setIfInBounds_toArray, List.set_cons_zero, List.set_cons_succ]
      refine takeG 2 (some 14) (v := ?_) (by rfl) (by rfl) (by kernel_rfl) (by kernel_rfl) (by decide) (by kernel_rfl) (by kernel_rfl) (fun _ _ _ h => h) ?_ (by assumption) ?_
      rotate_left
      · (intro o ho w hSw; obtain ⟨z0, z1, z2, z3, z4, z5, z6, z7⟩ := hSw; cases ho; go_simp; try with_reducible rfl)
      try simp only [Act.put, List.setIfInBounds_toArray, List.set_cons_zero, List.set_cons_succ]
      refine takeG 3 (some 15) (v := ?_) (by rfl) (by rfl) (by kernel_rfl) (by kernel_rfl) (by decide) (by kernel_rfl) (by kernel_rfl) (fun _ _ _ h => h) ?_ (by assumption) ?_
      rotate_left
      · (intro o ho w hSw; obtain ⟨z0, z1, z2, z3, z4, z5, z6, z7⟩ := hSw; cases ho; go_simp; try with_reducible rfl)
      try simp only [Act.put, List.setIfInBounds_toArray, List.set_cons_zero, List.set_cons_succ]
      refine takeG 4 (some 16) (v := ?_) (by rfl) (by rfl) (by kernel_rfl) (by kernel_rfl) (by decide) (by kernel_rfl) (by kernel_rfl) (fun _ _ _ h => h) ?_ (by assumption) ?_
      rotate_left
      · (intro o ho w hSw; obtain ⟨z0, z1, z2, z3, z4, z5, z6, z7⟩ := hSw; cases ho; go_simp; try with_reducible rfl)
      try simp only [Act.put, List.setIfInBounds_toArray, List.set_cons_zero, List.set_cons_succ]
      refine takeG 5 (some 17) (v := ?_) (by rfl) (by rfl) (by kernel_rfl) (by kernel_rfl) (by decide) (by kernel_rfl) (by kernel_rfl) (fun _ _ _ h => h) ?_ (by assumption) ?_
      rotate_left
      · (intro o ho w hSw; obtain ⟨z0, z1, z2, z3, z4, z5, z6, z7⟩ := hSw; cases ho; go_simp; try with_reducible rfl)
      try simp only [Act.put, List.setIfInBounds_toArray, List.set_cons_zero, List.set_cons_succ]
      refine takeG 6 (some 18) (v := ?_) (by rfl) (by rfl) (by kernel_rfl) (by kernel_rfl) (by decide) (by kernel_rfl) (by kernel_rfl) (fun _ _ _ h => h) ?_ (by assumption) ?_
      rotate_left
      · (intro o ho w hSw; obtain ⟨z0, z1, z2, z3, z4, z5, z6, z7⟩ := hSw; cases ho; go_simp; try with_reducible rfl)
      try simp only [Act.put, List.setIfInBounds_toArray, List.set_cons_zero, List.set_cons_succ]
      refine takeG 8 (some 20) (v := ?_) (by rfl) (by rfl) (by kernel_rfl) (by kernel_rfl) (by decide) (by kernel_rfl) (by kernel_rfl) (fun _ _ _ h => h) ?_ (by assumption) ?_
      rotate_left
      · (intro o ho w hSw; obtain ⟨z0, z1, z2, z3, z4, z5, z6, z7⟩ := hSw; cases ho; go_simp; try with_reducible rfl)
      try simp only [Act.put, List.setIfInBounds_toArray, List.set_cons_zero, List.set_cons_succ]
      refine takeG 9 (some 21) (v := ?_) (by rfl) (by rfl) (by kernel_rfl) (by kernel_rfl) (by decide) (by kernel_rfl) (by kernel_rfl) (fun _ _ _ h => h) ?_ (by assumption) ?_
      rotate_left
      · (intro o ho w hSw; obtain ⟨z0, z1, z2, z3, z4, z5, z6, z7⟩ := hSw; cases ho; go_simp; try with_reducible rfl)
      try simp only [Act.put, List.setIfInBounds_toArray, List.set_cons_zero, List.set_cons_succ]
      refine readyG (i := 7) (by kernel_rfl) rfl (fun K hK => ?_)
      go_simp
      go_at_call 54
      (with_reducible refine (HP.out _ hP0).mono ?_)
      rintro e wp ⟨rfl, hP10⟩
      have hP1 := bt hP0 hP10
      clear hP10
      go_wp2
      refine hK.out _ _ ?_ (fun hH7 => ?_)
      · exact (HS.out _ (Mod.of_below _ hP1))
      clear hK K
      try simp only [Act.put, List.setIfInBounds_toArray, List.set_cons_zero, List.set_cons_succ]
      refine readyG (i := 10) (by kernel_rfl) rfl (fun K hK => ?_)
      go_simp
      go_at_call 54
      (with_reducible refine (HP.out _ hP1).mono ?_)
      rintro e wp ⟨rfl, hP20⟩
      have hP2 := bt hP1 hP20
      clear hP20
      go_wp2
      refine hK.out _ _ ?_ (fun hH10 => ?_)
      · exact (HS.out _ (Mod.of_below _ hP2))
      clear hK K
      try simp only [Act.put, List.setIfInBounds_toArray, List.set_cons_zero, List.set_cons_succ]
      refine takeG 11 (some 23) (v := ?_) (by rfl) (by rfl) (by kernel_rfl) (by kernel_rfl) (by decide) (by kernel_rfl) (by kernel_rfl) (fun _ _ _ h => h) ?_ (by assumption) ?_
      rotate_left
      · (intro o ho w hSw; obtain ⟨z0, z1, z2, z3, z4, z5, z6, z7⟩ := hSw; cases ho; go_simp; try with_reducible rfl)
      try simp only [Act.put, List.setIfInBounds_toArray, List.set_cons_zero, List.set_cons_succ]
      refine readyG (i := 12) (by kernel_rfl) rfl (fun K hK => ?_)
      go_simp
      go_at_call 58
      (with_reducible refine (HD.out _ _ hP2 (by have := HRN.out; have := HN.out; rw [IntKind.wrap_i64]; omega)).mono ?_)
      rintro e w5 ⟨rfl, hI5, hM5⟩
      have hP5 : Mod (fun g => blkOf (A, n, c) = some g) W w5 := (Mod.of_below _ hP2).trans hM5 (fun b hb => .inl hb)
      go_wp2
      refine hK.out _ _ ?_ (fun hH12 => ?_)
      · exact (HS.out _ hP5)
      clear hK K
      try simp only [Act.put, List.setIfInBounds_toArray, List.set_cons_zero, List.set_cons_succ]
      refine readyG (i := 13) (by kernel_rfl) rfl (fun K hK => ?_)
      go_simp
      refine hK.out _ _ ?_ (fun hH13 => ?_)
      · exact (HS.out _ hP5)
      clear hK K
      try simp only [Act.put, List.setIfInBounds_toArray, List.set_cons_zero, List.set_cons_succ]
      refine takeG 14 (some 26) (v := ?_) (by rfl) (by rfl) (by kernel_rfl) (by kernel_rfl) (by decide) (by kernel_rfl) (by kernel_rfl) (fun _ _ _ h => h) ?_ (by assumption) ?_
      rotate_left
      · (intro o ho w hSw; obtain ⟨z0, z1, z2, z3, z4, z5, z6, z7⟩ := hSw; cases ho; go_simp; try with_reducible rfl)
      try simp only [Act.put, List.setIfInBounds_toArray, List.set_cons_zero, List.set_cons_succ]
      refine lastG (by kernel_rfl) rfl (fun K hK => ?_)
      have hL5 := HS.out _ hP5
      obtain ⟨z0, z1, z2, z3, z4, z5, z6, z7⟩ := hL5
      go_simp
      refine hK.out _ _ ?_
      clear hK K
      (try simp only [Act.put]); (try simp only [List.setIfInBounds_toArray]); (try simp only [List.set_cons_succ]); (try simp only [List.set_cons_zero])
      refine doneG (by kernel_rfl) ?_ _
      go_wp2
      refine bodyPost_end (v := .tuple #[]) (by simp [results, Try.results36, go_sem]) rfl ⟨rfl, ?_⟩
      have hb0 := HBW.out
      have hL5 : BkAt W B gb V b := HA.out
      have hM0 : Mod (fun g => blkOf V.b = some g) W w5 := by rw [HV.out]; exact hP5
      have hI5' : IRow w5 B (A, n - 1, c) ((b.side true).eraseIdx r) := hI5
      obtain ⟨V', hA', hM', hF'⟩ := hL5.put_true hM0 hI5' (fun g hg => .inl (by rw [HV.out]; exact blk_cut hg)) (hL5.ok.sub true (List.eraseIdx_sublist _ _))
      have hend : b.ended ⟨i1, a1, true, p1, n1, l1⟩ = b.put true ((b.side true).eraseIdx r) := by
        unfold BkS.ended
        dsimp only
        rw [HR.out]
      rw [hend]
      refine ⟨V', hA', ?_, fun g hg => (hF' g hg).imp id (fun h => Nat.le_trans HBW.out.size h)⟩
      exact (Mod.of_below _ hb0).trans hM' (fun g hg => .inl hg)

end Go.Proofs.Ytkandhpnenmleaa
