/- Part 8 of the texts that ProofChecks needs: PfRPoss PfR29B PfRVal. -/
import Derived.Test.YtikfcpkobgejmaaGProofChecks7

/- reference: possible. -/
namespace Go.Proofs.Ytikfcpkobgejmaa
open Go.RowKit

set_option maxRecDepth 100000 in
set_option maxHeartbeats 4000000 in
theorem rposs_any (A : Option Addr) (m c : Nat) (Ai : Option Addr) (ni ci : Nat) (Ao : Option Addr) (no co : Nat) (L : List Bd) (inn out : List Int) (i : Nat) (w : World) (HL : Hid (Bds w (A, m, c) L)) (HI : Hid (NIn w w.heap.size (Ai, ni, ci) inn)) (HO : Hid (NIn w w.heap.size (Ao, no, co) out)) (hi : i < m) (hni : ni ≤ 1000000) (hno : no ≤ 1000000) (HR : Hid (∀ x ∈ inn, 0 ≤ x ∧ x < (m : Int))) (HN : Hid (∀ b ∈ L, b.s.2.1 ≤ 1000000)) :
    Calls Try.prog 65 #[.slice A m c, .slice Ai ni ci, .slice Ao no co, .int .i64 (i : Int)] w fun e w' => e = .returned (.bool (rPossB L inn out i)) ∧ Below w.heap.size w w' := by
  have HLL := Lib.hid HL.out.rows.len
  have HIL := Lib.hid HI.out.len
  dsimp only at HLL HIL
  have HH1 := Lib.hid (rhas_nin Ai ni ci inn (i : Int) w HI (by omega))
  have HH2 := Lib.hid (rhas_nin Ao no co out (i : Int) w HO (by omega))
  have HP : Hid (rPossB L inn out i = (!decide ((i : Int) ∈ inn) && !decide ((i : Int) ∈ out) && !confTo L inn i ni)) := Lib.hid (by unfold rPossB; rw [HIL.out])
  have HSC := Lib.hid (fun k => confTo_succ L inn i k)
  obtain ⟨r1, hr1⟩ : ∃ r, decide ((i : Int) ∈ inn) = r := ⟨_, rfl⟩
  obtain ⟨r2, hr2⟩ : ∃ r, decide ((i : Int) ∈ out) = r := ⟨_, rfl⟩
  rw [hr1] at HH1 HP
  rw [hr2] at HH2 HP
  clear hr1 hr2
  cases r1 with
  | true =>
    go_enter Try.func65, Try.ntmps65
    go_wp2_with (go_at_call 34; (with_reducible refine HH1.out.mono ?_); rintro e w2 ⟨rfl, rfl⟩)
    go_ret
    rw [HP.out]
    exact ⟨rfl, Below.refl _ _⟩
  | false =>
  cases r2 with
  | true =>
    go_enter Try.func65, Try.ntmps65
    go_wp2_with (go_at_call 34; first | ((with_reducible refine HH1.out.mono ?_); rintro e w2 ⟨rfl, rfl⟩) | ((with_reducible refine HH2.out.mono ?_); rintro e w2 ⟨rfl, rfl⟩))
    go_ret
    rw [HP.out]
    exact ⟨rfl, Below.refl _ _⟩
  | false =>
    go_enter Try.func65, Try.ntmps65
    go_wp2_with (go_at_call 34; first | ((with_reducible refine HH1.out.mono ?_); rintro e w2 ⟨rfl, rfl⟩) | ((with_reducible refine HH2.out.mono ?_); rintro e w2 ⟨rfl, rfl⟩))
    clear HH1 HH2
    go_loopw [9] (fun i' wr => ∃ k : Nat, k ≤ ni ∧ i' = .int .i64 (k : Int) ∧ Hid (confTo L inn i k = false) ∧ Hid (Below w.heap.size w wr)) (fun i _ => ni - (intOf i).toNat)
    case atStart => exact ⟨0, by omega, rfl, Lib.hid rfl, Lib.hid (Below.refl _ _)⟩
    case round =>
      obtain ⟨k, hk, rfl, HCT, HB⟩ := hrel
      by_cases hlt : k < ni
      · obtain ⟨bi, oi, hAi, hbi, p0⟩ := NIn.cell (NIn.all HI.out HB.out) (k := k) hlt
        dsimp only at hAi
        subst hAi
        have hmem : inn[k]?.getD 0 ∈ inn := by rw [List.getElem?_eq_getElem (by rw [HIL.out]; exact hlt)]; exact List.getElem_mem _
        have hrg := HR.out _ hmem
        obtain ⟨xi, hxi⟩ : ∃ xi : Nat, inn[k]?.getD 0 = (xi : Int) := ⟨(inn[k]?.getD 0).toNat, by omega⟩
        rw [hxi] at hrg p0
        have hxm : xi < m := by omega
        obtain ⟨bA, oA, hAA, hbl, v0, v1, v2, vok⟩ := (HL.out.all HB.out).cell (k := xi) (by rw [HLL.out]; exact hxm)
        dsimp only at hAA
        subst hAA
        obtain ⟨bB, oB, hAA2, -, u0, u1, u2, uok⟩ := (HL.out.all HB.out).cell (k := i) (by rw [HLL.out]; exact hi)
        dsimp only at hAA2
        injection hAA2 with hAA2
        injection hAA2 with hAA2 hAA3 _
        subst hAA2 hAA3
        have HBD : Hid (Below wr.heap.size wr wr.drew) := Lib.hid (below_drewN (Below.refl _ _) 1)
        have e1 := bdAt_eq (L := L) (i := xi) (by rw [HLL.out]; exact hxm)
        have e2 := bdAt_eq (L := L) (i := i) (by rw [HLL.out]; exact hi)
        have HAN1 : Hid ((bdAt L xi).s.2.1 ≤ 1000000) := Lib.hid (HN.out _ (by rw [e1]; exact List.getElem_mem _))
        have HAN2 : Hid ((bdAt L i).s.2.1 ≤ 1000000) := Lib.hid (HN.out _ (by rw [e2]; exact List.getElem_mem _))
        rw [← e1] at v0 v1 v2 vok
        rw [← e2] at u0 u1 u2 uok
        clear e1 e2 hmem
        have HSK : Hid (confTo L inn i (k + 1) = confB (bdAt L xi) (bdAt L i)) := Lib.hid (by rw [HSC.out, HCT.out, hxi]; rfl)
        have HMK : Hid (confTo L inn i (k + 1) = true → rPossB L inn out i = false) := Lib.hid (fun h => by rw [HP.out, confTo_mono h (by omega)]; rfl)
        generalize bdAt L xi = y1 at *
        generalize bdAt L i = y2 at *
        obtain ⟨b1, q1, ⟨s1, n1, c1⟩, l1⟩ := y1
        obtain ⟨b2, q2, ⟨s2, n2, c2⟩, l2⟩ := y2
        unfold slV at u2 v2
        dsimp only [Bd.ok] at u0 u1 u2 uok v0 v1 v2 vok HAN1 HAN2
        have HS : Hid (∀ w', Below wr.heap.size wr w' → (fun w' => w'.cell? ⟨bi, oi + k, none⟩ = some (.int .i64 xi) ∧ w'.cell? ⟨bA, oA + xi * 3, none⟩ = some (.int .i64 b1) ∧ w'.cell? ⟨bA, oA + xi * 3 + 1, none⟩ = some (.int .i64 q1) ∧ w'.cell? ⟨bA, oA + xi * 3 + 2, none⟩ = some (.slice s1 n1 c1) ∧ w'.cell? ⟨bA, oA + i * 3, none⟩ = some (.int .i64 b2) ∧ w'.cell? ⟨bA, oA + i * 3 + 1, none⟩ = some (.int .i64 q2) ∧ w'.cell? ⟨bA, oA + i * 3 + 2, none⟩ = some (.slice s2 n2 c2)) w') := Lib.hid (fun w' hb => ⟨(hb.cell (p := ⟨bi, oi + k, none⟩) hbi).trans p0, (hb.cell (p := ⟨bA, oA + xi * 3, none⟩) hbl).trans v0, (hb.cell (p := ⟨bA, oA + xi * 3 + 1, none⟩) hbl).trans v1, (hb.cell (p := ⟨bA, oA + xi * 3 + 2, none⟩) hbl).trans v2, (hb.cell (p := ⟨bA, oA + i * 3, none⟩) hbl).trans u0, (hb.cell (p := ⟨bA, oA + i * 3 + 1, none⟩) hbl).trans u1, (hb.cell (p := ⟨bA, oA + i * 3 + 2, none⟩) hbl).trans u2⟩)
        have HCC := Lib.hid (rconf_any b1 q1 s1 n1 c1 l1 b2 q2 s2 n2 c2 l2 wr.drew (Lib.hid (NIn.all vok HBD.out)) (Lib.hid (NIn.all uok HBD.out)) HAN1.out HAN2.out)
        obtain ⟨cb, hcb⟩ : ∃ cb, confB ⟨b1, q1, (s1, n1, c1), l1⟩ ⟨b2, q2, (s2, n2, c2), l2⟩ = cb := ⟨_, rfl⟩
        rw [hcb] at HCC HSK
        clear hcb hxi u0 u1 u2 v0 v1 v2 uok vok p0 HCT HAN1 HAN2 HSC
        have hki : (k : Int) < (ni : Int) := by omega
        have hii : (i : Int) < (m : Int) := by omega
        obtain ⟨hrg0, hrg1⟩ := hrg
        go_wp2
        refine wp_region_held_drew (S := (fun w' => w'.cell? ⟨bi, oi + k, none⟩ = some (.int .i64 xi) ∧ w'.cell? ⟨bA, oA + xi * 3, none⟩ = some (.int .i64 b1) ∧ w'.cell? ⟨bA, oA + xi * 3 + 1, none⟩ = some (.int .i64 q1) ∧ w'.cell? ⟨bA, oA + xi * 3 + 2, none⟩ = some (.slice s1 n1 c1) ∧ w'.cell? ⟨bA, oA + i * 3, none⟩ = some (.int .i64 b2) ∧ w'.cell? ⟨bA, oA + i * 3 + 1, none⟩ = some (.int .i64 q2) ∧ w'.cell? ⟨bA, oA + i * 3 + 2, none⟩ = some (.slice s2 n2 c2))) (by kernel_rfl) (HS.out _ HBD.out) (fun hHeld => ?_)
        refine takeH 0 (some 25) (v := ?_) (by rfl) (by rfl) (by kernel_rfl) (by kernel_rfl) (by kernel_rfl) (fun _ _ _ h => h) ?_ (by assumption) ?_
        rotate_left
        · (intro o ho w hSw; obtain ⟨z0, z1, z2, z3, z4, z5, z6⟩ := hSw; cases ho; go_simp; try with_reducible rfl)
        try simp only [Act.put, List.setIfInBounds_toArray, List.set_cons_zero, List.set_cons_succ]
        refine takeH 1 (some 26) (v := ?_) (by rfl) (by rfl) (by kernel_rfl) (by kernel_rfl) (by kernel_rfl) (fun _ _ _ h => h) ?_ (by assumption) ?_
        rotate_left
        · (intro o ho w hSw; obtain ⟨z0, z1, z2, z3, z4, z5, z6⟩ := hSw; cases ho; go_simp; try with_reducible rfl)
        try simp only [Act.put, List.setIfInBounds_toArray, List.set_cons_zero, List.set_cons_succ]
        refine takeH 2 (some 27) (v := ?_) (by rfl) (by rfl) (by kernel_rfl) (by kernel_rfl) (by kernel_rfl) (fun _ _ _ h => h) ?_ (by assumption) ?_
        rotate_left
        · (intro o ho w hSw; obtain ⟨z0, z1, z2, z3, z4, z5, z6⟩ := hSw; cases ho; go_simp; try with_reducible rfl)
        try simp only [Act.put, List.setIfInBounds_toArray, List.set_cons_zero, List.set_cons_succ]
        refine takeH 3 (some 28) (v := ?_) (by rfl) (by rfl) (by kernel_rfl) (by kernel_rfl) (by kernel_rfl) (fun _ _ _ h => h) ?_ (by assumption) ?_
        rotate_left
        · (intro o ho w hSw; obtain ⟨z0, z1, z2, z3, z4, z5, z6⟩ := hSw; cases ho; go_simp; try with_reducible rfl)
        try simp only [Act.put, List.setIfInBounds_toArray, List.set_cons_zero, List.set_cons_succ]
        refine takeH 4 (some 29) (v := ?_) (by rfl) (by rfl) (by kernel_rfl) (by kernel_rfl) (by kernel_rfl) (fun _ _ _ h => h) ?_ (by assumption) ?_
        rotate_left
        · (intro o ho w hSw; obtain ⟨z0, z1, z2, z3, z4, z5, z6⟩ := hSw; cases ho; go_simp; try with_reducible rfl)
        try simp only [Act.put, List.setIfInBounds_toArray, List.set_cons_zero, List.set_cons_succ]
        refine takeH 5 (some 30) (v := ?_) (by rfl) (by rfl) (by kernel_rfl) (by kernel_rfl) (by kernel_rfl) (fun _ _ _ h => h) ?_ (by assumption) ?_
        rotate_left
        · (intro o ho w hSw; obtain ⟨z0, z1, z2, z3, z4, z5, z6⟩ := hSw; cases ho; go_simp; try with_reducible rfl)
        try simp only [Act.put, List.setIfInBounds_toArray, List.set_cons_zero, List.set_cons_succ]
        refine takeH 6 (some 31) (v := ?_) (by rfl) (by rfl) (by kernel_rfl) (by kernel_rfl) (by kernel_rfl) (fun _ _ _ h => h) ?_ (by assumption) ?_
        rotate_left
        · (intro o ho w hSw; obtain ⟨z0, z1, z2, z3, z4, z5, z6⟩ := hSw; cases ho; go_simp; try with_reducible rfl)
        try simp only [Act.put, List.setIfInBounds_toArray, List.set_cons_zero, List.set_cons_succ]
        refine takeH 7 (some 32) (v := ?_) (by rfl) (by rfl) (by kernel_rfl) (by kernel_rfl) (by kernel_rfl) (fun _ _ _ h => h) ?_ (by assumption) ?_
        rotate_left
        · (intro o ho w hSw; obtain ⟨z0, z1, z2, z3, z4, z5, z6⟩ := hSw; cases ho; go_simp; try with_reducible rfl)
        try simp only [Act.put, List.setIfInBounds_toArray, List.set_cons_zero, List.set_cons_succ]
        refine takeH 8 (some 33) (v := ?_) (by rfl) (by rfl) (by kernel_rfl) (by kernel_rfl) (by kernel_rfl) (fun _ _ _ h => h) ?_ (by assumption) ?_
        rotate_left
        · (intro o ho w hSw; obtain ⟨z0, z1, z2, z3, z4, z5, z6⟩ := hSw; cases ho; go_simp; try with_reducible rfl)
        try simp only [Act.put, List.setIfInBounds_toArray, List.set_cons_zero, List.set_cons_succ]
        refine takeH 9 (some 34) (v := ?_) (by rfl) (by rfl) (by kernel_rfl) (by kernel_rfl) (by kernel_rfl) (fun _ _ _ h => h) ?_ (by assumption) ?_
        rotate_left
        · (intro o ho w hSw; obtain ⟨z0, z1, z2, z3, z4, z5, z6⟩ := hSw; cases ho; go_simp; try with_reducible rfl)
        try simp only [Act.put, List.setIfInBounds_toArray, List.set_cons_zero, List.set_cons_succ]
        refine takeH 10 (some 35) (v := ?_) (by rfl) (by rfl) (by kernel_rfl) (by kernel_rfl) (by kernel_rfl) (fun _ _ _ h => h) ?_ (by assumption) ?_
        rotate_left
        · (intro o ho w hSw; obtain ⟨z0, z1, z2, z3, z4, z5, z6⟩ := hSw; cases ho; go_simp; try with_reducible rfl)
        try simp only [Act.put, List.setIfInBounds_toArray, List.set_cons_zero, List.set_cons_succ]
        refine wpAnyH_ready (rs := [11]) (by kernel_rfl) (by simp) ?_
        refine AllReadyH.cons rfl (fun K hK => ?_) AllReadyH.nil
        go_simp
        go_at_call 64
        (with_reducible refine (HCC.out).mono ?_)
        rintro e w5 ⟨rfl, hb5⟩
        go_wp2
        refine hK.out _ _ ?_ (fun hHeld5 => ?_)
        · exact (HS.out _ (bt HBD.out hb5))
        clear hK K
        try simp only [Act.put, List.setIfInBounds_toArray, List.set_cons_zero, List.set_cons_succ]
        refine takeH 12 (some 10) (v := ?_) (by rfl) (by rfl) (by kernel_rfl) (by kernel_rfl) (by kernel_rfl) (fun _ _ _ h => h) ?_ (by assumption) ?_
        rotate_left
        · (intro o ho w hSw; obtain ⟨z0, z1, z2, z3, z4, z5, z6⟩ := hSw; cases ho; go_simp; try with_reducible rfl)
        try simp only [Act.put, List.setIfInBounds_toArray, List.set_cons_zero, List.set_cons_succ]
        refine wpAnyH_done (by kernel_rfl) ?_ _
        clear hHeld5
        cases cb with
        | true =>
          have HT := Lib.hid (HMK.out HSK.out)
          go_wp2
          go_ret
          rw [HT.out]
          exact ⟨rfl, bt HB.out (bt HBD.out hb5)⟩
        | false =>
          have HB6 := Lib.hid (bt HB.out (bt HBD.out hb5))
          clear hb5 HMK
          go_wp2
          exact ⟨⟨k + 1, by omega, by go_num, HSK, HB6⟩, by simp [intOf]; omega⟩
      · obtain rfl : k = ni := by omega
        have HT : Hid (rPossB L inn out i = true) := Lib.hid (by rw [HP.out, HCT.out]; rfl)
        go_wp2
        go_ret
        rw [HT.out]
        exact ⟨rfl, HB.out⟩
end Go.Proofs.Ytikfcpkobgejmaa

/- reference: what Bound of worldmintref29 says, plainly. -/
namespace Go.Proofs.Ytikfcpkobgejmaa
open Go.RowKit

/-- Does none of the first k winners want lot t? -/
def freeTo (L : List Bd) (inn : List Int) (t k : Nat) : Bool := (List.range k).all fun i => !decide ((t : Int) ∈ (bdAt L (inn[i]?.getD 0).toNat).lots)
theorem freeTo_succ (L : List Bd) (inn : List Int) (t k : Nat) : freeTo L inn t (k + 1) = (freeTo L inn t k && !decide ((t : Int) ∈ (bdAt L (inn[k]?.getD 0).toNat).lots)) := by simp [freeTo, List.range_succ]
def rFree (L : List Bd) (inn P : List Int) (k : Nat) : Int := ((List.range k).map fun t => if freeTo L inn t inn.length then P[t]?.getD 0 else 0).sum
theorem rFree_succ (L : List Bd) (inn P : List Int) (k : Nat) : rFree L inn P (k + 1) = rFree L inn P k + if freeTo L inn k inn.length then P[k]?.getD 0 else 0 := by simp [rFree, List.range_succ]
theorem rFree_ok {P : List Int} (h : PriOk P) (L : List Bd) (inn : List Int) : ∀ k : Nat, 0 ≤ rFree L inn P k ∧ rFree L inn P k ≤ 1099511627776 * k := by
  intro k
  induction k with
  | zero => simp [rFree]
  | succ k ih =>
    rw [rFree_succ]
    have := pri_at h k
    split <;> omega
/-- Is no bid among the first k of bid i's bidder? -/
def firstTo (L : List Bd) (i k : Nat) : Bool := (List.range k).all fun t => (bdAt L t).bidder != (bdAt L i).bidder
theorem firstTo_succ (L : List Bd) (i k : Nat) : firstTo L i (k + 1) = (firstTo L i k && ((bdAt L k).bidder != (bdAt L i).bidder)) := by simp [firstTo, List.range_succ]
/-- The greatest surplus of a bidder's possible bids among the first k, or 0. -/
def mostTo (L : List Bd) (ok : Nat → Bool) (P : List Int) (b : Int) : Nat → Int
  | 0 => 0
  | k + 1 => if ok k = true ∧ (bdAt L k).bidder = b ∧ mostTo L ok P b k < ownB (bdAt L k) P then ownB (bdAt L k) P else mostTo L ok P b k
theorem mostTo_ok {n : Nat} {L : List Bd} {P : List Int} (h : BidsOk n L) (hp : PriOk P) (ok : Nat → Bool) (b : Int) : ∀ k : Nat, 0 ≤ mostTo L ok P b k ∧ mostTo L ok P b k ≤ 1099511627776 := by
  intro k
  induction k with
  | zero => simp [mostTo]
  | succ k ih =>
    unfold mostTo
    have := ownB_ok h hp k
    split
    · omega
    · exact ih
def sumFirst (L : List Bd) (f : Int → Int) (k : Nat) : Int := ((List.range k).map fun i => if firstTo L i i then f (bdAt L i).bidder else 0).sum
theorem sumFirst_succ (L : List Bd) (f : Int → Int) (k : Nat) : sumFirst L f (k + 1) = sumFirst L f k + if firstTo L k k then f (bdAt L k).bidder else 0 := by simp [sumFirst, List.range_succ]
theorem sumFirst_ok {f : Int → Int} (h : ∀ x, 0 ≤ f x ∧ f x ≤ 1099511627776) (L : List Bd) : ∀ k : Nat, 0 ≤ sumFirst L f k ∧ sumFirst L f k ≤ 1099511627776 * k := by
  intro k
  induction k with
  | zero => simp [sumFirst]
  | succ k ih =>
    rw [sumFirst_succ]
    have := h (bdAt L k).bidder
    split <;> omega
def rSurF (L : List Bd) (inn out P : List Int) (b : Int) : Int := mostTo L (rPossB L inn out) P b L.length
/-- What Bound returns. -/
def rBoundF (L : List Bd) (inn out P : List Int) : Int := valueB L inn + rFree L inn P P.length + sumFirst L (rSurF L inn out P) L.length
theorem sumFirst_upd (L : List Bd) (f : Int → Int) (b v : Int) (k : Nat) : sumFirst L (fun y => if y = b then v else f y) k = sumFirst L f k + if (List.range k).any (fun i => (bdAt L i).bidder == b) then v - f b else 0 := by
  induction k with
  | zero => simp [sumFirst]
  | succ k ih =>
    rw [sumFirst_succ, sumFirst_succ, ih, List.range_succ, List.any_append]
    by_cases hb : (bdAt L k).bidder = b
    · have hf : firstTo L k k = !((List.range k).any fun i => (bdAt L i).bidder == b) := by
        unfold firstTo
        rw [List.not_any_eq_all_not, hb]
        rfl
      rw [hf]
      have h1 : ([k].any fun i => (bdAt L i).bidder == b) = true := by simp [hb]
      rw [h1, Bool.or_true, if_pos rfl, if_pos hb, hb]
      cases (List.range k).any fun i => (bdAt L i).bidder == b
      · simp
        try omega
      · simp
        try omega
    · have h1 : ([k].any fun i => (bdAt L i).bidder == b) = false := by simp [hb]
      rw [h1, Bool.or_false, if_neg hb]
      omega
theorem mostTo_none {L : List Bd} {ok : Nat → Bool} {P : List Int} {b : Int} {k : Nat} (h : ((List.range k).any fun i => (bdAt L i).bidder == b) = false) : mostTo L ok P b k = 0 := by
  induction k with
  | zero => rfl
  | succ k ih =>
    rw [List.range_succ, List.any_append, Bool.or_eq_false_iff] at h
    have h2 : ¬ (bdAt L k).bidder = b := by simpa using h.2
    unfold mostTo
    rw [if_neg (fun hc => h2 hc.2.1)]
    exact ih h.1
theorem surF_eq (L : List Bd) (D P : List Int) (k : Nat) : (∀ b, (surF L D P k).1 b = mostTo L (fun i => possB L D (i : Int)) P b k) ∧ (surF L D P k).2 = sumFirst L (surF L D P k).1 k := by
  induction k with
  | zero => exact ⟨fun _ => rfl, rfl⟩
  | succ k ih =>
    obtain ⟨ih1, ih2⟩ := ih
    unfold surF
    by_cases hc : possB L D (k : Int) = true ∧ (surF L D P k).1 (bdAt L k).bidder < ownB (bdAt L k) P
    · rw [if_pos hc]
      refine ⟨fun b => ?_, ?_⟩
      · dsimp only
        unfold mostTo
        by_cases hb : b = (bdAt L k).bidder
        · subst hb
          rw [if_pos rfl, if_pos ⟨hc.1, rfl, by rw [← ih1]; exact hc.2⟩]
        · rw [if_neg hb, if_neg (fun h => hb h.2.1.symm), ih1]
      · dsimp only
        rw [sumFirst_succ, sumFirst_upd, if_pos rfl, ih2]
        have hf : firstTo L k k = !((List.range k).any fun i => (bdAt L i).bidder == (bdAt L k).bidder) := by
          unfold firstTo
          rw [List.not_any_eq_all_not]
          rfl
        rw [hf]
        cases ha : (List.range k).any fun i => (bdAt L i).bidder == (bdAt L k).bidder
        · have h0 : (surF L D P k).1 (bdAt L k).bidder = 0 := by rw [ih1, mostTo_none ha]
          rw [h0]
          simp
        · simp
    · rw [if_neg hc]
      refine ⟨fun b => ?_, ?_⟩
      · unfold mostTo
        by_cases hb : b = (bdAt L k).bidder
        · subst hb
          rw [if_neg (fun h => hc ⟨h.1, by rw [ih1]; exact h.2.2⟩), ih1]
        · rw [if_neg (fun h => hb h.2.1.symm), ih1]
      · rw [sumFirst_succ, ih2]
        have hf : firstTo L k k = !((List.range k).any fun i => (bdAt L i).bidder == (bdAt L k).bidder) := by
          unfold firstTo
          rw [List.not_any_eq_all_not]
          rfl
        rw [hf]
        cases ha : (List.range k).any fun i => (bdAt L i).bidder == (bdAt L k).bidder
        · have h0 : (surF L D P k).1 (bdAt L k).bidder = 0 := by rw [ih1, mostTo_none ha]
          rw [h0]
          simp
        · simp
theorem mostTo_congr {L : List Bd} {ok ok' : Nat → Bool} {P : List Int} {b : Int} : ∀ {k : Nat}, (∀ i, i < k → ok i = ok' i) → mostTo L ok P b k = mostTo L ok' P b k
  | 0, _ => rfl
  | k + 1, h => by
    unfold mostTo
    rw [mostTo_congr (fun i hi => h i (by omega)), h k (by omega)]
theorem perm_sum {a b : List Int} (h : a.Perm b) : a.sum = b.sum := by
  induction h with
  | nil => rfl
  | cons x _ ih => simp [ih]
  | swap x y l => simp; omega
  | trans _ _ h1 h2 => rw [h1, h2]
/-- The two ways to tell a leaf's bound agree. -/
theorem sum_inn {m : Nat} {D inn out : List Int} (h : DI m D inn out) (f : Nat → Int) : (inn.map fun x => f x.toNat).sum = ((List.range m).map fun k => if D[k]?.getD 0 = 1 then f k else 0).sum := by
  have hp : inn.Perm (((List.range m).filter fun k => decide (D[k]?.getD 0 = 1)).map fun k : Nat => (k : Int)) := by
    rw [List.perm_ext_iff_of_nodup h.nodup]
    · intro x
      rw [h.fI, List.mem_map]
      constructor
      · rintro ⟨k, hk, rfl, hd⟩
        exact ⟨k, by simp [hk, hd], rfl⟩
      · rintro ⟨k, hk, rfl⟩
        simp only [List.mem_filter, List.mem_range, decide_eq_true_eq] at hk
        exact ⟨k, hk.1, rfl, hk.2⟩
    · rw [List.nodup_iff_pairwise_ne]
      refine List.Pairwise.map (R := fun a b : Nat => a ≠ b) _ (fun a b hab e => hab (by omega)) ?_
      exact List.Pairwise.filter _ (List.nodup_iff_pairwise_ne.1 List.nodup_range)
  have h2 := hp.map (fun x => f x.toNat)
  have h3 : ((((List.range m).filter fun k => decide (D[k]?.getD 0 = 1)).map fun k : Nat => (k : Int)).map fun x => f x.toNat).sum = ((List.range m).map fun k => if D[k]?.getD 0 = 1 then f k else 0).sum := by
    rw [List.map_map]
    generalize List.range m = R
    induction R with
    | nil => rfl
    | cons a t ih =>
      rw [List.filter_cons]
      by_cases hd : D[a]?.getD 0 = 1
      · rw [decide_eq_true hd, if_pos rfl]
        simp only [List.map_cons, List.sum_cons, ih, if_pos hd]
        simp
      · rw [decide_eq_false hd, if_neg (by simp)]
        simp only [List.map_cons, List.sum_cons, ih, if_neg hd]
        omega
  rw [← h3]
  exact perm_sum h2
theorem valueB_win {L : List Bd} {D inn out : List Int} (h : DI L.length D inn out) : valueB L inn = winSum L D L.length := by
  have e : inn.map (priceAt L) = inn.map fun x => (bdAt L x.toNat).price := by
    apply List.map_congr_left
    intro x hx
    obtain ⟨k, hk, rfl, -⟩ := (h.fI x).1 hx
    unfold priceAt
    rw [if_pos (by omega), Int.toNat_natCast, List.getElem?_eq_getElem hk, bdAt_eq hk]
    rfl
  unfold valueB winSum
  rw [e]
  exact sum_inn h fun k => (bdAt L k).price
theorem rFree_win {L : List Bd} {D inn out P : List Int} (h : DI L.length D inn out) (k : Nat) : rFree L inn P k = freeSum P (winLots L D L.length) k := by
  unfold rFree freeSum
  congr 1
  apply List.map_congr_left
  intro t _
  have e : freeTo L inn t inn.length = !decide ((t : Int) ∈ winLots L D L.length) := by
    rw [Bool.eq_iff_iff]
    unfold freeTo winLots
    rw [List.all_eq_true]
    simp only [Bool.not_eq_true', decide_eq_false_iff_not, List.mem_flatMap, not_exists, not_and, List.mem_range]
    constructor
    · intro hf i hi hm
      split at hm
      · rename_i hd
        obtain ⟨j, hj, e⟩ := List.getElem_of_mem ((h.mem1 hi).2 hd)
        have := hf j hj
        rw [List.getElem?_eq_getElem hj, Option.getD_some, e, Int.toNat_natCast] at this
        exact this hm
      · simp at hm
    · intro hf j hj hm
      rw [List.getElem?_eq_getElem hj, Option.getD_some] at hm
      obtain ⟨i, hi, e, hd⟩ := (h.fI _).1 (List.getElem_mem hj)
      rw [e, Int.toNat_natCast] at hm
      exact hf i hi (by rw [if_pos hd]; exact hm)
  rw [e]
  by_cases hm : (t : Int) ∈ winLots L D L.length
  · rw [decide_eq_true hm, if_pos hm]; rfl
  · rw [decide_eq_false hm, if_neg hm]; rfl
theorem rBound_eq {L : List Bd} {D inn out P : List Int} (h : DI L.length D inn out) : rBoundF L inn out P = boundP L D P := by
  unfold rBoundF boundP
  rw [valueB_win h, rFree_win h, (surF_eq L D P L.length).2]
  congr 1
  unfold sumFirst
  congr 1
  apply List.map_congr_left
  intro i _
  have e : rSurF L inn out P (bdAt L i).bidder = (surF L D P L.length).1 (bdAt L i).bidder := by
    rw [(surF_eq L D P L.length).1]
    exact mostTo_congr fun k hk => rPoss_eq h hk
  rw [e]
end Go.Proofs.Ytikfcpkobgejmaa

/- reference: Value. -/
namespace Go.Proofs.Ytikfcpkobgejmaa
open Go.RowKit

set_option maxRecDepth 100000 in
set_option maxHeartbeats 1000000 in
theorem rvalue_any (s sw : Sl) (L : List Bd) (win : List Int) (w : World) (HL : Hid (Bds w s L)) (HW : Hid (NIn w w.heap.size sw win)) (HP : Hid (PricesOk L)) (hn : sw.2.1 ≤ 1000000) :
    Calls Try.prog 13 #[slV s, slV sw] w fun e w' => e = .returned (.int .i64 (valueB L win)) ∧ w = w' := by
  obtain ⟨A, m, c⟩ := s
  obtain ⟨Aw, n, cw⟩ := sw
  unfold slV
  dsimp only at hn ⊢
  have hlen := HL.out.rows.len
  have hwl := HW.out.len
  dsimp only at hlen hwl
  have hm1 : m ≤ 9223372036854775807 := Nat.le_trans HL.out.rows.cap HL.out.rows.max
  have HLEN := Lib.hid hlen
  have HWL := Lib.hid hwl
  clear hlen hwl
  go_enter Try.func13, Try.ntmps13
  go_wp2
  go_loop [5, 6] (fun v i => ∃ k : Nat, k ≤ n ∧ i = .int .i64 (k : Int) ∧ v = .int .i64 (valueTo L win k)) (fun _ i => n - (intOf i).toNat)
  case atStart => exact ⟨0, by omega, rfl, rfl⟩
  case round =>
    obtain ⟨k, hk, rfl, rfl⟩ := hrel
    have hv := valueTo_ok HP.out win k
    by_cases hlt : k < n
    · obtain ⟨b2, o2, hA2, -, hc2⟩ := HW.out.cell (k := k) hlt
      dsimp only at hA2
      subst hA2
      have hs := valueTo_succ (L := L) (win := win) (k := k) (by rw [HWL.out]; exact hlt)
      have hp := priceAt_ok HP.out (win[k]?.getD 0)
      obtain ⟨x, hx⟩ : ∃ x, win[k]?.getD 0 = x := ⟨_, rfl⟩
      rw [hx] at hc2 hs hp
      have HS := Lib.hid hs
      clear hs hx
      obtain ⟨sm, hsm⟩ : ∃ sm, valueTo L win k = sm := ⟨_, rfl⟩
      rw [hsm] at hv HS ⊢
      have hmb : (k : Int) ≤ 1000000 := by omega
      clear hsm
      by_cases h1 : 0 ≤ x ∧ x < (m : Int)
      · obtain ⟨h2, h3⟩ := h1
        obtain ⟨j, rfl⟩ : ∃ j : Nat, x = (j : Int) := ⟨x.toNat, by omega⟩
        have hj : j < L.length := by rw [HLEN.out]; omega
        obtain ⟨b, off, hA, -, q0, q1, q2, -⟩ := HL.out.cell hj
        dsimp only at hA
        subst hA
        have hpr : priceAt L (j : Int) = L[j].price := by
          unfold priceAt
          rw [if_pos ⟨by omega, by omega⟩]
          simp [hj]
        rw [hpr] at HS hp
        generalize L[j].price = pr at *
        have hjm : j < m := by omega
        clear hpr q0 q2 hj
        go_wp2
        exact ⟨⟨k + 1, by omega, by go_num, by rw [HS.out]⟩, by simp [intOf]; omega⟩
      · have hpr : priceAt L x = 0 := by
          unfold priceAt
          rw [if_neg (by rw [HLEN.out]; exact h1)]
        rw [hpr] at HS
        clear hpr hp
        by_cases h2 : 0 ≤ x
        · have h3 : ¬ x < (m : Int) := fun h => h1 ⟨h2, h⟩
          clear h1
          go_wp2
          exact ⟨⟨k + 1, by omega, by go_num, by rw [HS.out]; simp⟩, by simp [intOf]; omega⟩
        · have h2' : decide (0 ≤ x) = false := by simpa using h2
          clear h1
          go_wp2
          exact ⟨⟨k + 1, by omega, by go_num, by rw [HS.out]; simp⟩, by simp [intOf]; omega⟩
    · obtain rfl : k = n := by omega
      go_wp2
      go_ret
      refine ⟨?_, rfl⟩
      unfold valueB valueTo
      rw [List.take_of_length_le (by rw [HWL.out]; exact Nat.le_refl _)]
      rfl
end Go.Proofs.Ytikfcpkobgejmaa
