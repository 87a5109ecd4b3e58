/- Part 13 of the texts that ProofChecks needs: PfR29C PfRChkA PfRChkB PfRRightA PfRRightB PfRRightC. -/
import Derived.Deep.RegionWith
import Derived.Deep.DeepCutAuto
import Derived.Test.YtikfcpkobgejmaaGProofChecks12

/- reference: what right of worldmintref29 says, plainly; the two checks agree. -/
namespace Go.Proofs.Ytikfcpkobgejmaa
open Go.RowKit

/-- Is a node right, and those below it? -/
def rightD (n : Nat) (L : List Bd) (v : Int) (N : List Nd) : Nat → Nat → List Int → Bool
  | 0, _, _ => false
  | f + 1, i, D => if (ndAt N i).bid = -1 then leafB n L D v (ndAt N i) else if 0 < (ndAt N i).prices.length ∨ kidOk N.length i (ndAt N i) = false ∨ possB L D (ndAt N i).bid = false then false else rightD n L v N f (ndAt N i).inn.toNat (D.set (ndAt N i).bid.toNat 1) && rightD n L v N f (ndAt N i).out.toNat (D.set (ndAt N i).bid.toNat 2)
/-- Where all children lie in range the two agree. -/
theorem rightD_holds {n : Nat} {L : List Bd} {v : Int} {N : List Nd} (hk : ∀ t, t < N.length → kidOk N.length t (ndAt N t) = true) : ∀ (f i : Nat) (D : List Int), i < N.length → rightD n L v N f i D = holdsF n L v N f i D
  | 0, _, _, _ => rfl
  | f + 1, i, D, hi => by
    unfold rightD holdsF
    have h1 := hk i hi
    by_cases hb : (ndAt N i).bid = -1
    · rw [if_pos hb, if_pos hb]
    · rw [if_neg hb, if_neg hb]
      simp only [h1, Bool.true_eq_false, false_or]
      by_cases hc : 0 < (ndAt N i).prices.length ∨ possB L D (ndAt N i).bid = false
      · rw [if_pos hc, if_pos hc]
      · rw [if_neg hc, if_neg hc]
        simp only [kidOk, hb, decide_false, Bool.false_or, Bool.and_eq_true, decide_eq_true_eq] at h1
        rw [rightD_holds hk f _ _ (by omega), rightD_holds hk f _ _ (by omega)]
/-- Is each node the child of one node, save the root, that is of none? -/
def cntOk (N : List Nd) : Bool := (List.range N.length).all fun i => decide (cnt N N.length i = ((min i 1 : Nat) : Int))
/-- Do the children come behind their parents? -/
def ordOk (N : List Nd) : Bool := (List.range N.length).all fun i => decide ((ndAt N i).bid = -1) || (decide ((i : Int) < (ndAt N i).inn) && decide ((i : Int) < (ndAt N i).out))
def proofR (n : Nat) (L : List Bd) (win : List Int) (v : Int) (N : List Nd) : Bool := decide (0 < N.length) && decide (v = valueB L win) && cntOk N && ordOk N && rightD n L v N N.length 0 (List.replicate L.length 0)
theorem kid_pos {x : Nd} {j : Int} (h : 0 < kid x j) : x.bid ≠ -1 ∧ (x.inn = j ∨ x.out = j) := by
  unfold kid at h
  split at h
  · omega
  · refine ⟨by assumption, ?_⟩
    by_cases h1 : x.inn = j
    · exact .inl h1
    · right
      by_cases h2 : x.out = j
      · exact h2
      · rw [if_neg h1, if_neg h2] at h
        omega
theorem kid_nonneg (x : Nd) (j : Int) : 0 ≤ kid x j := by
  unfold kid
  split
  · omega
  · split <;> split <;> omega
theorem cnt_pos {N : List Nd} {k j : Nat} (h : 0 < cnt N k j) : ∃ i, i < k ∧ 0 < kid (ndAt N i) (j : Int) := by
  induction k with
  | zero => simp [cnt] at h
  | succ k ih =>
    rw [cnt_succ] at h
    by_cases h2 : 0 < kid (ndAt N k) (j : Int)
    · exact ⟨k, by omega, h2⟩
    · obtain ⟨i, hi, hk⟩ := ih (by have := kid_nonneg (ndAt N k) (j : Int); omega)
      exact ⟨i, by omega, hk⟩
/-- Each node is right with some decisions. -/
theorem right_all {n : Nat} {L : List Bd} {v : Int} {N : List Nd} {D : List Int} (hc : cntOk N = true) (ho : ordOk N = true) (hr : rightD n L v N N.length 0 D = true) : ∀ i, i < N.length → ∃ f D', rightD n L v N f i D' = true := by
  intro i
  induction i using Nat.strongRecOn with
  | _ i ih =>
    intro hi
    rcases Nat.eq_zero_or_pos i with rfl | h0
    · exact ⟨_, _, hr⟩
    · unfold cntOk at hc
      rw [List.all_eq_true] at hc
      have h1 := hc i (List.mem_range.2 hi)
      rw [decide_eq_true_eq] at h1
      obtain ⟨p, hp, hk⟩ := cnt_pos (N := N) (k := N.length) (j := i) (by rw [h1]; omega)
      obtain ⟨hb, hio⟩ := kid_pos hk
      unfold ordOk at ho
      rw [List.all_eq_true] at ho
      have h2 := ho p (List.mem_range.2 hp)
      simp only [hb, decide_false, Bool.false_or, Bool.and_eq_true, decide_eq_true_eq] at h2
      obtain ⟨f, D', hf⟩ := ih p (by omega) hp
      rcases f with _ | f
      · simp [rightD] at hf
      · unfold rightD at hf
        rw [if_neg hb] at hf
        split at hf
        · cases hf
        · rw [Bool.and_eq_true] at hf
          rcases hio with e | e
          · rw [e, Int.toNat_natCast] at hf
            exact ⟨f, _, hf.1⟩
          · rw [e, Int.toNat_natCast] at hf
            exact ⟨f, _, hf.2⟩
theorem right_kids {n : Nat} {L : List Bd} {v : Int} {N : List Nd} {f i : Nat} {D : List Int} (h : rightD n L v N f i D = true) : kidOk N.length i (ndAt N i) = true := by
  rcases f with _ | f
  · simp [rightD] at h
  · unfold rightD at h
    by_cases hb : (ndAt N i).bid = -1
    · simp [kidOk, hb]
    · rw [if_neg hb] at h
      split at h
      · cases h
      · rename_i hn
        cases hk : kidOk N.length i (ndAt N i)
        · exact absurd (Or.inr (Or.inl hk)) hn
        · rfl
/-- The package and the reference say the same of a certificate. -/
theorem proofR_eq (n : Nat) (L : List Bd) (win : List Int) (v : Int) (N : List Nd) : proofR n L win v N = proofB n L win v N := by
  rw [Bool.eq_iff_iff]
  unfold proofR proofB treeB
  constructor
  · intro h
    simp only [Bool.and_eq_true] at h
    obtain ⟨⟨⟨⟨h0, hv⟩, hc⟩, ho⟩, hr⟩ := h
    have hk : ∀ t, t < N.length → kidOk N.length t (ndAt N t) = true := fun t ht => by
      obtain ⟨f, D', hf⟩ := right_all hc ho hr t ht
      exact right_kids hf
    rw [decide_eq_true_eq] at h0
    rw [rightD_holds hk _ _ _ h0] at hr
    simp only [Bool.and_eq_true]
    exact ⟨hv, ⟨⟨List.all_eq_true.2 fun i hi => hk i (List.mem_range.1 hi), hc⟩, by simpa using h0⟩, hr⟩
  · intro h
    simp only [Bool.and_eq_true] at h
    obtain ⟨hv, ⟨⟨hk, hc⟩, h0⟩, hr⟩ := h
    have hk' : ∀ t, t < N.length → kidOk N.length t (ndAt N t) = true := fun t ht => List.all_eq_true.1 hk t (List.mem_range.2 ht)
    rw [decide_eq_true_eq] at h0
    rw [← rightD_holds hk' _ _ _ h0] at hr
    simp only [Bool.and_eq_true]
    refine ⟨⟨⟨⟨by simpa using h0, hv⟩, hc⟩, ?_⟩, hr⟩
    unfold ordOk
    rw [List.all_eq_true]
    intro i hi
    have := hk' i (List.mem_range.1 hi)
    unfold kidOk at this
    by_cases hb : (ndAt N i).bid = -1
    · simp [hb]
    · simp only [hb, decide_false, Bool.false_or, Bool.and_eq_true, decide_eq_true_eq] at this ⊢
      omega
/-- What the reference's Check answers. -/
def checkR (n : Int) (L : List Bd) (win : List Int) (v : Int) (N : List Nd) : Int := if validE n L = 0 then (if feasB L win then (if 2047 < N.length then 4 else if proofR n.toNat L win v N then 0 else 20) else 1) else validE n L
theorem checkR_eq (n : Int) (L : List Bd) (win : List Int) (v : Int) (N : List Nd) : checkR n L win v N = checkE n L win v N := by
  unfold checkR checkE
  rw [proofR_eq]
end Go.Proofs.Ytikfcpkobgejmaa

/- reference: Check, up to its loops. -/
namespace Go.Proofs.Ytikfcpkobgejmaa
open Go.RowKit

set_option maxRecDepth 100000 in
set_option maxHeartbeats 8000000 in
theorem rchk_valid (n : Int) (A : Option Addr) (m c : Nat) (Aw : Option Addr) (nw cw : Nat) (v : Int) (An : Option Addr) (nn cn : Nat) (ve : Int) (w : World) (he : ve ≠ 0) (HVA : Hid (∀ w', Below w.heap.size w w' → Calls Try.prog 31 #[.int .i64 n, .slice A m c] w' fun e w'' => e = .returned (.int .i64 ve) ∧ Below w'.heap.size w' w'')) :
    Calls Try.prog 21 #[.int .i64 n, .slice A m c, .slice Aw nw cw, .agg #[.int .i64 v, .slice An nn cn]] w fun e w' => e = .returned (.int .i64 ve) ∧ Below w.heap.size w w' := by
  have HB1 := Lib.hid ((Below.refl w.heap.size w).alloc (Nat.le_refl _) (.cells #[.int .i64 v, .slice An nn cn] 30))
  have HP1 := Lib.hid (Blk.new w 30 #[.int .i64 v, .slice An nn cn])
  have hq : (ve != 0) = true := by simpa using he
  clear he
  go_enter Try.func21, Try.ntmps21
  go_wp2_with fail
  refine (HVA.out _ HB1.out).mono ?_
  rintro e w2 ⟨rfl, hb2⟩
  have HB2 := Lib.hid (bt HB1.out hb2)
  have HP2 := Lib.hid (HP1.out.all hb2)
  clear hb2 HB1 HP1 HVA
  go_wp2
  go_ret
  exact ⟨rfl, HB2.out⟩
set_option maxRecDepth 100000 in
set_option maxHeartbeats 8000000 in
theorem rchk_feas (n : Int) (A : Option Addr) (m c : Nat) (Aw : Option Addr) (nw cw : Nat) (v : Int) (An : Option Addr) (nn cn : Nat)  (w : World) (HVA : Hid (∀ w', Below w.heap.size w w' → Calls Try.prog 31 #[.int .i64 n, .slice A m c] w' fun e w'' => e = .returned (.int .i64 0) ∧ Below w'.heap.size w' w'')) (HFE : Hid (∀ w', Below w.heap.size w w' → Calls Try.prog 45 #[.slice A m c, .slice Aw nw cw] w' fun e w'' => e = .returned (.bool false) ∧ Below w'.heap.size w' w'')) :
    Calls Try.prog 21 #[.int .i64 n, .slice A m c, .slice Aw nw cw, .agg #[.int .i64 v, .slice An nn cn]] w fun e w' => e = .returned (.int .i64 1) ∧ Below w.heap.size w w' := by
  have HB1 := Lib.hid ((Below.refl w.heap.size w).alloc (Nat.le_refl _) (.cells #[.int .i64 v, .slice An nn cn] 30))
  have HP1 := Lib.hid (Blk.new w 30 #[.int .i64 v, .slice An nn cn])
  go_enter Try.func21, Try.ntmps21
  go_wp2_with fail
  refine (HVA.out _ HB1.out).mono ?_
  rintro e w2 ⟨rfl, hb2⟩
  have HB2 := Lib.hid (bt HB1.out hb2)
  have HP2 := Lib.hid (HP1.out.all hb2)
  clear hb2 HB1 HP1 HVA
  go_wp2_with fail
  refine (HFE.out _ HB2.out).mono ?_
  rintro e w3 ⟨rfl, hb3⟩
  have HB3 := Lib.hid (bt HB2.out hb3)
  have HP3 := Lib.hid (HP2.out.all hb3)
  clear hb3 HB2 HP2 HFE
  obtain ⟨gp, hgp⟩ : ∃ gp, w.heap.size = gp := ⟨_, rfl⟩
  have p0 := HP3.out.cell 0
  have p1 := HP3.out.cell 1
  simp at p0 p1
  rw [hgp] at p0 p1 HP3 ⊢
  clear hgp
  go_wp2
  go_ret
  exact ⟨rfl, HB3.out⟩
set_option maxRecDepth 100000 in
set_option maxHeartbeats 8000000 in
theorem rchk_long (n : Int) (A : Option Addr) (m c : Nat) (Aw : Option Addr) (nw cw : Nat) (v : Int) (An : Option Addr) (nn cn : Nat)  (w : World) (hnn : 2047 < nn) (HVA : Hid (∀ w', Below w.heap.size w w' → Calls Try.prog 31 #[.int .i64 n, .slice A m c] w' fun e w'' => e = .returned (.int .i64 0) ∧ Below w'.heap.size w' w'')) (HFE : Hid (∀ w', Below w.heap.size w w' → Calls Try.prog 45 #[.slice A m c, .slice Aw nw cw] w' fun e w'' => e = .returned (.bool true) ∧ Below w'.heap.size w' w'')) :
    Calls Try.prog 21 #[.int .i64 n, .slice A m c, .slice Aw nw cw, .agg #[.int .i64 v, .slice An nn cn]] w fun e w' => e = .returned (.int .i64 4) ∧ Below w.heap.size w w' := by
  have HB1 := Lib.hid ((Below.refl w.heap.size w).alloc (Nat.le_refl _) (.cells #[.int .i64 v, .slice An nn cn] 30))
  have HP1 := Lib.hid (Blk.new w 30 #[.int .i64 v, .slice An nn cn])
  have hni : (2047 : Int) < (nn : Int) := by omega
  go_enter Try.func21, Try.ntmps21
  go_wp2_with fail
  refine (HVA.out _ HB1.out).mono ?_
  rintro e w2 ⟨rfl, hb2⟩
  have HB2 := Lib.hid (bt HB1.out hb2)
  have HP2 := Lib.hid (HP1.out.all hb2)
  clear hb2 HB1 HP1 HVA
  go_wp2_with fail
  refine (HFE.out _ HB2.out).mono ?_
  rintro e w3 ⟨rfl, hb3⟩
  have HB3 := Lib.hid (bt HB2.out hb3)
  have HP3 := Lib.hid (HP2.out.all hb3)
  clear hb3 HB2 HP2 HFE
  obtain ⟨gp, hgp⟩ : ∃ gp, w.heap.size = gp := ⟨_, rfl⟩
  have p0 := HP3.out.cell 0
  have p1 := HP3.out.cell 1
  simp at p0 p1
  rw [hgp] at p0 p1 HP3 ⊢
  clear hgp
  go_wp2
  go_ret
  exact ⟨rfl, HB3.out⟩
set_option maxRecDepth 100000 in
set_option maxHeartbeats 8000000 in
theorem rchk_none (n : Int) (A : Option Addr) (m c : Nat) (Aw : Option Addr) (nw cw : Nat) (v : Int) (An : Option Addr) (nn cn : Nat)  (w : World) (hnn : nn = 0) (HVA : Hid (∀ w', Below w.heap.size w w' → Calls Try.prog 31 #[.int .i64 n, .slice A m c] w' fun e w'' => e = .returned (.int .i64 0) ∧ Below w'.heap.size w' w'')) (HFE : Hid (∀ w', Below w.heap.size w w' → Calls Try.prog 45 #[.slice A m c, .slice Aw nw cw] w' fun e w'' => e = .returned (.bool true) ∧ Below w'.heap.size w' w'')) :
    Calls Try.prog 21 #[.int .i64 n, .slice A m c, .slice Aw nw cw, .agg #[.int .i64 v, .slice An nn cn]] w fun e w' => e = .returned (.int .i64 20) ∧ Below w.heap.size w w' := by
  have HB1 := Lib.hid ((Below.refl w.heap.size w).alloc (Nat.le_refl _) (.cells #[.int .i64 v, .slice An nn cn] 30))
  have HP1 := Lib.hid (Blk.new w 30 #[.int .i64 v, .slice An nn cn])
  subst hnn
  go_enter Try.func21, Try.ntmps21
  go_wp2_with fail
  refine (HVA.out _ HB1.out).mono ?_
  rintro e w2 ⟨rfl, hb2⟩
  have HB2 := Lib.hid (bt HB1.out hb2)
  have HP2 := Lib.hid (HP1.out.all hb2)
  clear hb2 HB1 HP1 HVA
  go_wp2_with fail
  refine (HFE.out _ HB2.out).mono ?_
  rintro e w3 ⟨rfl, hb3⟩
  have HB3 := Lib.hid (bt HB2.out hb3)
  have HP3 := Lib.hid (HP2.out.all hb3)
  clear hb3 HB2 HP2 HFE
  obtain ⟨gp, hgp⟩ : ∃ gp, w.heap.size = gp := ⟨_, rfl⟩
  have p0 := HP3.out.cell 0
  have p1 := HP3.out.cell 1
  simp at p0 p1
  rw [hgp] at p0 p1 HP3 ⊢
  have HBD : Hid (Below w.heap.size w w3.drew) := Lib.hid (below_drewN HB3.out 1)
  clear hgp
  go_wp2
  refine wp_region_held_drew (S := (fun w' => w'.cell? ⟨gp, 0, none⟩ = some (.int .i64 v) ∧ w'.cell? ⟨gp, 1, none⟩ = some (.slice An 0 cn))) (by kernel_rfl) ⟨p0, p1⟩ (fun hHeld => ?_)
  refine takeH 0 (some 32) (v := ?_) (by rfl) (by rfl) (by kernel_rfl) (by kernel_rfl) (by kernel_rfl) (fun _ _ _ h => h) ?_ (by assumption) ?_
  rotate_left
  · (intro o ho w hSw; obtain ⟨p0, p1⟩ := hSw; cases ho; go_simp; try with_reducible rfl)
  try simp only [Act.put, List.setIfInBounds_toArray, List.set_cons_zero, List.set_cons_succ]
  refine takeH 1 (some 33) (v := ?_) (by rfl) (by rfl) (by kernel_rfl) (by kernel_rfl) (by kernel_rfl) (fun _ _ _ h => h) ?_ (by assumption) ?_
  rotate_left
  · (intro o ho w hSw; obtain ⟨p0, p1⟩ := hSw; cases ho; go_simp; try with_reducible rfl)
  try simp only [Act.put, List.setIfInBounds_toArray, List.set_cons_zero, List.set_cons_succ]
  refine takeH 2 (some 34) (v := ?_) (by rfl) (by rfl) (by kernel_rfl) (by kernel_rfl) (by kernel_rfl) (fun _ _ _ h => h) ?_ (by assumption) ?_
  rotate_left
  · (intro o ho w hSw; obtain ⟨p0, p1⟩ := hSw; cases ho; go_simp; try with_reducible rfl)
  try simp only [Act.put, List.setIfInBounds_toArray, List.set_cons_zero, List.set_cons_succ]
  refine takeH 3 (some 35) (v := .bool true) (by rfl) (by rfl) (by kernel_rfl) (by kernel_rfl) (by kernel_rfl) (fun _ _ _ h => h) ?_ (by assumption) ?_
  skip
  · (intro o ho w hSw; obtain ⟨p0, p1⟩ := hSw; cases ho; go_simp; try with_reducible rfl)
  try simp only [Act.put, List.setIfInBounds_toArray, List.set_cons_zero, List.set_cons_succ]
  refine takeH 4 (some 36) (v := ?_) (by rfl) (by rfl) (by kernel_rfl) (by kernel_rfl) (by kernel_rfl) (fun _ _ _ h => h) ?_ (by assumption) ?_
  rotate_left
  · (intro o ho w hSw; obtain ⟨p0, p1⟩ := hSw; cases ho; go_simp; try with_reducible rfl)
  try simp only [Act.put, List.setIfInBounds_toArray, List.set_cons_zero, List.set_cons_succ]
  first
  | refine skipH 5 (some 37) (by rfl) (by rfl) (by kernel_rfl) (by kernel_rfl) (by kernel_rfl) (fun _ _ _ h => h) (by assumption) ?_
  | refine takeH 5 (some 37) (v := ?_) (by rfl) (by rfl) (by kernel_rfl) (by kernel_rfl) (by kernel_rfl) (fun _ _ _ h => h) ?_ (by assumption) ?_
    rotate_left
    · (intro o ho w hSw; obtain ⟨p0, p1⟩ := hSw; cases ho; go_simp; try with_reducible rfl)
  try simp only [Act.put, List.setIfInBounds_toArray, List.set_cons_zero, List.set_cons_succ]
  first
  | refine skipH 6 (some 38) (by rfl) (by rfl) (by kernel_rfl) (by kernel_rfl) (by kernel_rfl) (fun _ _ _ h => h) (by assumption) ?_
  | refine takeH 6 (some 38) (v := ?_) (by rfl) (by rfl) (by kernel_rfl) (by kernel_rfl) (by kernel_rfl) (fun _ _ _ h => h) ?_ (by assumption) ?_
    rotate_left
    · (intro o ho w hSw; obtain ⟨p0, p1⟩ := hSw; cases ho; go_simp; try with_reducible rfl)
  try simp only [Act.put, List.setIfInBounds_toArray, List.set_cons_zero, List.set_cons_succ]
  first
  | refine skipH 7 (some 39) (by rfl) (by rfl) (by kernel_rfl) (by kernel_rfl) (by kernel_rfl) (fun _ _ _ h => h) (by assumption) ?_
  | refine takeH 7 (some 39) (v := ?_) (by rfl) (by rfl) (by kernel_rfl) (by kernel_rfl) (by kernel_rfl) (fun _ _ _ h => h) ?_ (by assumption) ?_
    rotate_left
    · (intro o ho w hSw; obtain ⟨p0, p1⟩ := hSw; cases ho; go_simp; try with_reducible rfl)
  try simp only [Act.put, List.setIfInBounds_toArray, List.set_cons_zero, List.set_cons_succ]
  first
  | refine skipH 8 (some 40) (by rfl) (by rfl) (by kernel_rfl) (by kernel_rfl) (by kernel_rfl) (fun _ _ _ h => h) (by assumption) ?_
  | refine takeH 8 (some 40) (v := ?_) (by rfl) (by rfl) (by kernel_rfl) (by kernel_rfl) (by kernel_rfl) (fun _ _ _ h => h) ?_ (by assumption) ?_
    rotate_left
    · (intro o ho w hSw; obtain ⟨p0, p1⟩ := hSw; cases ho; go_simp; try with_reducible rfl)
  try simp only [Act.put, List.setIfInBounds_toArray, List.set_cons_zero, List.set_cons_succ]
  first
  | refine skipH 9 (some 41) (by rfl) (by rfl) (by kernel_rfl) (by kernel_rfl) (by kernel_rfl) (fun _ _ _ h => h) (by assumption) ?_
  | refine takeH 9 (some 41) (v := ?_) (by rfl) (by rfl) (by kernel_rfl) (by kernel_rfl) (by kernel_rfl) (fun _ _ _ h => h) ?_ (by assumption) ?_
    rotate_left
    · (intro o ho w hSw; obtain ⟨p0, p1⟩ := hSw; cases ho; go_simp; try with_reducible rfl)
  try simp only [Act.put, List.setIfInBounds_toArray, List.set_cons_zero, List.set_cons_succ]
  first
  | refine skipH 10 (some 42) (by rfl) (by rfl) (by kernel_rfl) (by kernel_rfl) (by kernel_rfl) (fun _ _ _ h => h) (by assumption) ?_
  | refine takeH 10 (some 42) (v := ?_) (by rfl) (by rfl) (by kernel_rfl) (by kernel_rfl) (by kernel_rfl) (fun _ _ _ h => h) ?_ (by assumption) ?_
    rotate_left
    · (intro o ho w hSw; obtain ⟨p0, p1⟩ := hSw; cases ho; go_simp; try with_reducible rfl)
  try simp only [Act.put, List.setIfInBounds_toArray, List.set_cons_zero, List.set_cons_succ]
  refine takeH 11 (some 43) (v := ?_) (by rfl) (by rfl) (by kernel_rfl) (by kernel_rfl) (by kernel_rfl) (fun _ _ _ h => h) ?_ (by assumption) ?_
  rotate_left
  · (intro o ho w hSw; obtain ⟨p0, p1⟩ := hSw; cases ho; go_simp; try with_reducible rfl)
  try simp only [Act.put, List.setIfInBounds_toArray, List.set_cons_zero, List.set_cons_succ]
  refine wpAnyH_done (by kernel_rfl) ?_ _
  go_wp2
  go_ret
  exact ⟨rfl, HBD.out⟩
set_option maxRecDepth 100000 in
set_option maxHeartbeats 8000000 in
theorem rchk_value (n : Int) (A : Option Addr) (m c : Nat) (Aw : Option Addr) (nw cw : Nat) (v : Int) (An : Option Addr) (nn cn : Nat) (x : Int) (w : World) (hnn : nn ≤ 2047) (h0 : 0 < nn) (hv : v ≠ x) (HVA : Hid (∀ w', Below w.heap.size w w' → Calls Try.prog 31 #[.int .i64 n, .slice A m c] w' fun e w'' => e = .returned (.int .i64 0) ∧ Below w'.heap.size w' w'')) (HFE : Hid (∀ w', Below w.heap.size w w' → Calls Try.prog 45 #[.slice A m c, .slice Aw nw cw] w' fun e w'' => e = .returned (.bool true) ∧ Below w'.heap.size w' w'')) (HVL : Hid (∀ w', Below w.heap.size w w' → Calls Try.prog 13 #[.slice A m c, .slice Aw nw cw] w' fun e w'' => e = .returned (.int .i64 x) ∧ w' = w'')) :
    Calls Try.prog 21 #[.int .i64 n, .slice A m c, .slice Aw nw cw, .agg #[.int .i64 v, .slice An nn cn]] w fun e w' => e = .returned (.int .i64 20) ∧ Below w.heap.size w w' := by
  have HB1 := Lib.hid ((Below.refl w.heap.size w).alloc (Nat.le_refl _) (.cells #[.int .i64 v, .slice An nn cn] 30))
  have HP1 := Lib.hid (Blk.new w 30 #[.int .i64 v, .slice An nn cn])
  have hni : ¬ (2047 : Int) < (nn : Int) := by omega
  have hz : ((nn : Int) == 0) = false := by simp; omega
  have hq : (v != x) = true := by simpa using hv
  clear hv hnn
  go_enter Try.func21, Try.ntmps21
  go_wp2_with fail
  refine (HVA.out _ HB1.out).mono ?_
  rintro e w2 ⟨rfl, hb2⟩
  have HB2 := Lib.hid (bt HB1.out hb2)
  have HP2 := Lib.hid (HP1.out.all hb2)
  clear hb2 HB1 HP1 HVA
  go_wp2_with fail
  refine (HFE.out _ HB2.out).mono ?_
  rintro e w3 ⟨rfl, hb3⟩
  have HB3 := Lib.hid (bt HB2.out hb3)
  have HP3 := Lib.hid (HP2.out.all hb3)
  clear hb3 HB2 HP2 HFE
  obtain ⟨gp, hgp⟩ : ∃ gp, w.heap.size = gp := ⟨_, rfl⟩
  have p0 := HP3.out.cell 0
  have p1 := HP3.out.cell 1
  simp at p0 p1
  rw [hgp] at p0 p1 HP3 ⊢
  have HBD : Hid (Below w.heap.size w w3.drew) := Lib.hid (below_drewN HB3.out 1)
  clear hgp
  go_wp2
  refine wp_region_held_drew (S := (fun w' => w'.cell? ⟨gp, 0, none⟩ = some (.int .i64 v) ∧ w'.cell? ⟨gp, 1, none⟩ = some (.slice An nn cn))) (by kernel_rfl) ⟨p0, p1⟩ (fun hHeld => ?_)
  refine takeH 0 (some 32) (v := ?_) (by rfl) (by rfl) (by kernel_rfl) (by kernel_rfl) (by kernel_rfl) (fun _ _ _ h => h) ?_ (by assumption) ?_
  rotate_left
  · (intro o ho w hSw; obtain ⟨p0, p1⟩ := hSw; cases ho; go_simp; try with_reducible rfl)
  try simp only [Act.put, List.setIfInBounds_toArray, List.set_cons_zero, List.set_cons_succ]
  refine takeH 1 (some 33) (v := ?_) (by rfl) (by rfl) (by kernel_rfl) (by kernel_rfl) (by kernel_rfl) (fun _ _ _ h => h) ?_ (by assumption) ?_
  rotate_left
  · (intro o ho w hSw; obtain ⟨p0, p1⟩ := hSw; cases ho; go_simp; try with_reducible rfl)
  try simp only [Act.put, List.setIfInBounds_toArray, List.set_cons_zero, List.set_cons_succ]
  refine takeH 2 (some 34) (v := ?_) (by rfl) (by rfl) (by kernel_rfl) (by kernel_rfl) (by kernel_rfl) (fun _ _ _ h => h) ?_ (by assumption) ?_
  rotate_left
  · (intro o ho w hSw; obtain ⟨p0, p1⟩ := hSw; cases ho; go_simp; try with_reducible rfl)
  try simp only [Act.put, List.setIfInBounds_toArray, List.set_cons_zero, List.set_cons_succ]
  refine takeH 3 (some 35) (v := .bool false) (by rfl) (by rfl) (by kernel_rfl) (by kernel_rfl) (by kernel_rfl) (fun _ _ _ h => h) ?_ (by assumption) ?_
  skip
  · (intro o ho w hSw; obtain ⟨p0, p1⟩ := hSw; cases ho; go_simp; try with_reducible rfl)
  try simp only [Act.put, List.setIfInBounds_toArray, List.set_cons_zero, List.set_cons_succ]
  refine takeH 4 (some 36) (v := ?_) (by rfl) (by rfl) (by kernel_rfl) (by kernel_rfl) (by kernel_rfl) (fun _ _ _ h => h) ?_ (by assumption) ?_
  rotate_left
  · (intro o ho w hSw; obtain ⟨p0, p1⟩ := hSw; cases ho; go_simp; try with_reducible rfl)
  try simp only [Act.put, List.setIfInBounds_toArray, List.set_cons_zero, List.set_cons_succ]
  first
  | refine skipH 5 (some 37) (by rfl) (by rfl) (by kernel_rfl) (by kernel_rfl) (by kernel_rfl) (fun _ _ _ h => h) (by assumption) ?_
  | refine takeH 5 (some 37) (v := ?_) (by rfl) (by rfl) (by kernel_rfl) (by kernel_rfl) (by kernel_rfl) (fun _ _ _ h => h) ?_ (by assumption) ?_
    rotate_left
    · (intro o ho w hSw; obtain ⟨p0, p1⟩ := hSw; cases ho; go_simp; try with_reducible rfl)
  try simp only [Act.put, List.setIfInBounds_toArray, List.set_cons_zero, List.set_cons_succ]
  first
  | refine skipH 6 (some 38) (by rfl) (by rfl) (by kernel_rfl) (by kernel_rfl) (by kernel_rfl) (fun _ _ _ h => h) (by assumption) ?_
  | refine takeH 6 (some 38) (v := ?_) (by rfl) (by rfl) (by kernel_rfl) (by kernel_rfl) (by kernel_rfl) (fun _ _ _ h => h) ?_ (by assumption) ?_
    rotate_left
    · (intro o ho w hSw; obtain ⟨p0, p1⟩ := hSw; cases ho; go_simp; try with_reducible rfl)
  try simp only [Act.put, List.setIfInBounds_toArray, List.set_cons_zero, List.set_cons_succ]
  first
  | refine skipH 7 (some 39) (by rfl) (by rfl) (by kernel_rfl) (by kernel_rfl) (by kernel_rfl) (fun _ _ _ h => h) (by assumption) ?_
  | refine takeH 7 (some 39) (v := ?_) (by rfl) (by rfl) (by kernel_rfl) (by kernel_rfl) (by kernel_rfl) (fun _ _ _ h => h) ?_ (by assumption) ?_
    rotate_left
    · (intro o ho w hSw; obtain ⟨p0, p1⟩ := hSw; cases ho; go_simp; try with_reducible rfl)
  try simp only [Act.put, List.setIfInBounds_toArray, List.set_cons_zero, List.set_cons_succ]
  first
  | refine skipH 8 (some 40) (by rfl) (by rfl) (by kernel_rfl) (by kernel_rfl) (by kernel_rfl) (fun _ _ _ h => h) (by assumption) ?_
  | refine takeH 8 (some 40) (v := ?_) (by rfl) (by rfl) (by kernel_rfl) (by kernel_rfl) (by kernel_rfl) (fun _ _ _ h => h) ?_ (by assumption) ?_
    rotate_left
    · (intro o ho w hSw; obtain ⟨p0, p1⟩ := hSw; cases ho; go_simp; try with_reducible rfl)
  try simp only [Act.put, List.setIfInBounds_toArray, List.set_cons_zero, List.set_cons_succ]
  refine wpAnyH_ready (rs := [9]) (by kernel_rfl) (by simp) ?_
  refine AllReadyH.cons rfl (fun K hK => ?_) AllReadyH.nil
  go_simp
  go_at_call 13
  (with_reducible refine (HVL.out _ HBD.out).mono ?_)
  rintro e w4 ⟨rfl, rfl⟩
  go_wp2
  refine hK.out _ _ ?_ (fun hHeld5 => ?_)
  · exact ⟨p0, p1⟩
  clear hK K
  try simp only [Act.put, List.setIfInBounds_toArray, List.set_cons_zero, List.set_cons_succ]
  first
  | refine skipH 10 (some 42) (by rfl) (by rfl) (by kernel_rfl) (by kernel_rfl) (by kernel_rfl) (fun _ _ _ h => h) (by assumption) ?_
  | refine takeH 10 (some 42) (v := .bool true) (by rfl) (by rfl) (by kernel_rfl) (by kernel_rfl) (by kernel_rfl) (fun _ _ _ h => h) ?_ (by assumption) ?_
    skip
    · (intro o ho w hSw; obtain ⟨p0, p1⟩ := hSw; cases ho; go_simp; try with_reducible rfl)
  try simp only [Act.put, List.setIfInBounds_toArray, List.set_cons_zero, List.set_cons_succ]
  refine takeH 11 (some 43) (v := ?_) (by rfl) (by rfl) (by kernel_rfl) (by kernel_rfl) (by kernel_rfl) (fun _ _ _ h => h) ?_ (by assumption) ?_
  rotate_left
  · (intro o ho w hSw; obtain ⟨p0, p1⟩ := hSw; cases ho; go_simp; try with_reducible rfl)
  try simp only [Act.put, List.setIfInBounds_toArray, List.set_cons_zero, List.set_cons_succ]
  refine wpAnyH_done (by kernel_rfl) ?_ _
  clear hHeld5
  go_wp2
  go_ret
  exact ⟨rfl, HBD.out⟩
end Go.Proofs.Ytikfcpkobgejmaa

/- reference: Check, its loops. -/
namespace Go.Proofs.Ytikfcpkobgejmaa
open Go.RowKit

set_option maxRecDepth 100000 in
set_option maxHeartbeats 8000000 in
theorem rchk_loops (n : Int) (A : Option Addr) (m c : Nat) (Aw : Option Addr) (nw cw : Nat) (v : Int) (An : Option Addr) (nn cn : Nat) (N : List Nd) (r : Bool) (res : Int) (HRES : Hid (res = if cntOk N && ordOk N && r then (0 : Int) else 20)) (w : World) (HN : Hid (Nds w (An, nn, cn) N)) (hnn : nn ≤ 2047) (h0 : 0 < nn) (HVA : Hid (∀ w', Below w.heap.size w w' → Calls Try.prog 31 #[.int .i64 n, .slice A m c] w' fun e w'' => e = .returned (.int .i64 0) ∧ Below w'.heap.size w' w'')) (HFE : Hid (∀ w', Below w.heap.size w w' → Calls Try.prog 45 #[.slice A m c, .slice Aw nw cw] w' fun e w'' => e = .returned (.bool true) ∧ Below w'.heap.size w' w'')) (HVL : Hid (∀ w', Below w.heap.size w w' → Calls Try.prog 13 #[.slice A m c, .slice Aw nw cw] w' fun e w'' => e = .returned (.int .i64 v) ∧ w' = w'')) (HRT : Hid (∀ w', Below w.heap.size w w' → Calls Try.prog 50 #[.int .i64 n, .slice A m c, .agg #[.int .i64 v, .slice An nn cn], .int .i64 0, .slice none 0 0, .slice none 0 0] w' fun e w'' => e = .returned (.bool r) ∧ Below w'.heap.size w' w'')) :
    Calls Try.prog 21 #[.int .i64 n, .slice A m c, .slice Aw nw cw, .agg #[.int .i64 v, .slice An nn cn]] w fun e w' => e = .returned (.int .i64 res) ∧ Below w.heap.size w w' := by
  have HB1 := Lib.hid ((Below.refl w.heap.size w).alloc (Nat.le_refl _) (.cells #[.int .i64 v, .slice An nn cn] 30))
  have HP1 := Lib.hid (Blk.new w 30 #[.int .i64 v, .slice An nn cn])
  have hni : ¬ (2047 : Int) < (nn : Int) := by omega
  have hz : ((nn : Int) == 0) = false := by simp; omega
  have hq : (v != v) = false := by simp
  have HNL := Lib.hid HN.out.rows.len
  dsimp only at HNL
  go_enter Try.func21, Try.ntmps21
  go_wp2_with fail
  refine (HVA.out _ HB1.out).mono ?_
  rintro e w2 ⟨rfl, hb2⟩
  have HB2 := Lib.hid (bt HB1.out hb2)
  have HP2 := Lib.hid (HP1.out.all hb2)
  clear hb2 HB1 HP1 HVA
  go_wp2_with fail
  refine (HFE.out _ HB2.out).mono ?_
  rintro e w3 ⟨rfl, hb3⟩
  have HB3 := Lib.hid (bt HB2.out hb3)
  have HP3 := Lib.hid (HP2.out.all hb3)
  clear hb3 HB2 HP2 HFE
  obtain ⟨gp, hgp⟩ : ∃ gp, w.heap.size = gp := ⟨_, rfl⟩
  have p0 := HP3.out.cell 0
  have p1 := HP3.out.cell 1
  simp at p0 p1
  rw [hgp] at p0 p1 HP3 ⊢
  have HBD : Hid (Below w.heap.size w w3.drew) := Lib.hid (below_drewN HB3.out 1)
  clear hgp
  go_wp2
  refine wp_region_held_drew (S := (fun w' => w'.cell? ⟨gp, 0, none⟩ = some (.int .i64 v) ∧ w'.cell? ⟨gp, 1, none⟩ = some (.slice An nn cn))) (by kernel_rfl) ⟨p0, p1⟩ (fun hHeld => ?_)
  refine takeH 0 (some 32) (v := ?_) (by rfl) (by rfl) (by kernel_rfl) (by kernel_rfl) (by kernel_rfl) (fun _ _ _ h => h) ?_ (by assumption) ?_
  rotate_left
  · (intro o ho w hSw; obtain ⟨p0, p1⟩ := hSw; cases ho; go_simp; try with_reducible rfl)
  try simp only [Act.put, List.setIfInBounds_toArray, List.set_cons_zero, List.set_cons_succ]
  refine takeH 1 (some 33) (v := ?_) (by rfl) (by rfl) (by kernel_rfl) (by kernel_rfl) (by kernel_rfl) (fun _ _ _ h => h) ?_ (by assumption) ?_
  rotate_left
  · (intro o ho w hSw; obtain ⟨p0, p1⟩ := hSw; cases ho; go_simp; try with_reducible rfl)
  try simp only [Act.put, List.setIfInBounds_toArray, List.set_cons_zero, List.set_cons_succ]
  refine takeH 2 (some 34) (v := ?_) (by rfl) (by rfl) (by kernel_rfl) (by kernel_rfl) (by kernel_rfl) (fun _ _ _ h => h) ?_ (by assumption) ?_
  rotate_left
  · (intro o ho w hSw; obtain ⟨p0, p1⟩ := hSw; cases ho; go_simp; try with_reducible rfl)
  try simp only [Act.put, List.setIfInBounds_toArray, List.set_cons_zero, List.set_cons_succ]
  refine takeH 3 (some 35) (v := .bool false) (by rfl) (by rfl) (by kernel_rfl) (by kernel_rfl) (by kernel_rfl) (fun _ _ _ h => h) ?_ (by assumption) ?_
  skip
  · (intro o ho w hSw; obtain ⟨p0, p1⟩ := hSw; cases ho; go_simp; try with_reducible rfl)
  try simp only [Act.put, List.setIfInBounds_toArray, List.set_cons_zero, List.set_cons_succ]
  refine takeH 4 (some 36) (v := ?_) (by rfl) (by rfl) (by kernel_rfl) (by kernel_rfl) (by kernel_rfl) (fun _ _ _ h => h) ?_ (by assumption) ?_
  rotate_left
  · (intro o ho w hSw; obtain ⟨p0, p1⟩ := hSw; cases ho; go_simp; try with_reducible rfl)
  try simp only [Act.put, List.setIfInBounds_toArray, List.set_cons_zero, List.set_cons_succ]
  first
  | refine skipH 5 (some 37) (by rfl) (by rfl) (by kernel_rfl) (by kernel_rfl) (by kernel_rfl) (fun _ _ _ h => h) (by assumption) ?_
  | refine takeH 5 (some 37) (v := ?_) (by rfl) (by rfl) (by kernel_rfl) (by kernel_rfl) (by kernel_rfl) (fun _ _ _ h => h) ?_ (by assumption) ?_
    rotate_left
    · (intro o ho w hSw; obtain ⟨p0, p1⟩ := hSw; cases ho; go_simp; try with_reducible rfl)
  try simp only [Act.put, List.setIfInBounds_toArray, List.set_cons_zero, List.set_cons_succ]
  first
  | refine skipH 6 (some 38) (by rfl) (by rfl) (by kernel_rfl) (by kernel_rfl) (by kernel_rfl) (fun _ _ _ h => h) (by assumption) ?_
  | refine takeH 6 (some 38) (v := ?_) (by rfl) (by rfl) (by kernel_rfl) (by kernel_rfl) (by kernel_rfl) (fun _ _ _ h => h) ?_ (by assumption) ?_
    rotate_left
    · (intro o ho w hSw; obtain ⟨p0, p1⟩ := hSw; cases ho; go_simp; try with_reducible rfl)
  try simp only [Act.put, List.setIfInBounds_toArray, List.set_cons_zero, List.set_cons_succ]
  first
  | refine skipH 7 (some 39) (by rfl) (by rfl) (by kernel_rfl) (by kernel_rfl) (by kernel_rfl) (fun _ _ _ h => h) (by assumption) ?_
  | refine takeH 7 (some 39) (v := ?_) (by rfl) (by rfl) (by kernel_rfl) (by kernel_rfl) (by kernel_rfl) (fun _ _ _ h => h) ?_ (by assumption) ?_
    rotate_left
    · (intro o ho w hSw; obtain ⟨p0, p1⟩ := hSw; cases ho; go_simp; try with_reducible rfl)
  try simp only [Act.put, List.setIfInBounds_toArray, List.set_cons_zero, List.set_cons_succ]
  first
  | refine skipH 8 (some 40) (by rfl) (by rfl) (by kernel_rfl) (by kernel_rfl) (by kernel_rfl) (fun _ _ _ h => h) (by assumption) ?_
  | refine takeH 8 (some 40) (v := ?_) (by rfl) (by rfl) (by kernel_rfl) (by kernel_rfl) (by kernel_rfl) (fun _ _ _ h => h) ?_ (by assumption) ?_
    rotate_left
    · (intro o ho w hSw; obtain ⟨p0, p1⟩ := hSw; cases ho; go_simp; try with_reducible rfl)
  try simp only [Act.put, List.setIfInBounds_toArray, List.set_cons_zero, List.set_cons_succ]
  refine wpAnyH_ready (rs := [9]) (by kernel_rfl) (by simp) ?_
  refine AllReadyH.cons rfl (fun K hK => ?_) AllReadyH.nil
  go_simp
  go_at_call 13
  (with_reducible refine (HVL.out _ HBD.out).mono ?_)
  rintro e w4 ⟨rfl, rfl⟩
  go_wp2
  refine hK.out _ _ ?_ (fun hHeld5 => ?_)
  · exact ⟨p0, p1⟩
  clear hK K
  try simp only [Act.put, List.setIfInBounds_toArray, List.set_cons_zero, List.set_cons_succ]
  first
  | refine skipH 10 (some 42) (by rfl) (by rfl) (by kernel_rfl) (by kernel_rfl) (by kernel_rfl) (fun _ _ _ h => h) (by assumption) ?_
  | refine takeH 10 (some 42) (v := .bool false) (by rfl) (by rfl) (by kernel_rfl) (by kernel_rfl) (by kernel_rfl) (fun _ _ _ h => h) ?_ (by assumption) ?_
    skip
    · (intro o ho w hSw; obtain ⟨p0, p1⟩ := hSw; cases ho; go_simp; try with_reducible rfl)
  try simp only [Act.put, List.setIfInBounds_toArray, List.set_cons_zero, List.set_cons_succ]
  refine takeH 11 (some 43) (v := ?_) (by rfl) (by rfl) (by kernel_rfl) (by kernel_rfl) (by kernel_rfl) (fun _ _ _ h => h) ?_ (by assumption) ?_
  rotate_left
  · (intro o ho w hSw; obtain ⟨p0, p1⟩ := hSw; cases ho; go_simp; try with_reducible rfl)
  try simp only [Act.put, List.setIfInBounds_toArray, List.set_cons_zero, List.set_cons_succ]
  refine wpAnyH_done (by kernel_rfl) ?_ _
  clear hHeld5 hHeld hq hz
  have HP4 : Hid (Blk w3.drew gp 30 #[.int .i64 v, .slice An nn cn]) := Lib.hid HP3.out
  have HB4 := HBD
  obtain ⟨w4, hw4⟩ : ∃ w4, w3.drew = w4 := ⟨_, rfl⟩
  rw [hw4] at HP4 HB4 ⊢
  clear hw4 HBD HB3 HP3 p0 p1 HVL
  have p0 := HP4.out.cell 0
  have p1 := HP4.out.cell 1
  simp at p0 p1
  have HCO : Hid ((∀ t, t < nn → cnt N nn t = ((min t 1 : Nat) : Int)) → cntOk N = true) := Lib.hid (fun h => by
    unfold cntOk
    rw [List.all_eq_true]
    intro t ht
    rw [HNL.out] at ht ⊢
    simpa using h t (List.mem_range.1 ht))
  have HCF : Hid (∀ t, t < nn → cnt N nn t ≠ ((min t 1 : Nat) : Int) → res = 20) := Lib.hid (fun t ht hc => by
    rw [HRES.out]
    have : cntOk N = false := by
      unfold cntOk
      rw [List.all_eq_false]
      exact ⟨t, List.mem_range.2 (by rw [HNL.out]; exact ht), by rw [HNL.out]; simpa using hc⟩
    rw [this]
    rfl)
  go_wp2
  go_loop [11] (fun iv => ∃ i : Nat, i ≤ nn ∧ iv = .int .i64 (i : Int) ∧ Hid (∀ t, t < i → cnt N nn t = ((min t 1 : Nat) : Int))) (fun iv => nn - (intOf iv).toNat)
  case atStart => exact ⟨0, by omega, rfl, Lib.hid (fun t h => absurd h (by omega))⟩
  case round =>
    obtain ⟨i, hi, rfl, HCT⟩ := hrel
    by_cases hin : i < nn
    · go_wp2
      go_loop [12, 13] (fun pv kv => ∃ k : Nat, k ≤ nn ∧ kv = .int .i64 (k : Int) ∧ pv = .int .i64 (cnt N k i)) (fun _ kv => nn - (intOf kv).toNat)
      case atStart => exact ⟨0, by omega, rfl, rfl⟩
      case round =>
        obtain ⟨k, hk, rfl, rfl⟩ := hrel
        have hcb := cnt_ok N i k
        have HCS := Lib.hid (cnt_succ N k i)
        obtain ⟨ck, hck⟩ : ∃ ck, cnt N k i = ck := ⟨_, rfl⟩
        rw [hck] at hcb HCS ⊢
        have HCK := Lib.hid hck
        clear hck
        by_cases hkn : k < nn
        · obtain ⟨b, off, bi, iq, oq, sA, sn, sc, ps, hAn, hbw, c0, c1, c2, c3, hin2, he⟩ := (HN.out.all HB4.out).get (k := k) (by rw [HNL.out]; exact hkn)
          subst hAn
          rw [he] at HCS
          clear he hin2 c3
          have hki : (k : Int) < (nn : Int) := by omega
          by_cases h1 : bi = -1
          · have HK2 : Hid (cnt N (k + 1) i = ck) := Lib.hid (by rw [HCS.out]; simp [kid, h1])
            subst h1
            go_wp2
            exact ⟨⟨k + 1, by omega, by go_num, by rw [HK2.out]⟩, by simp [intOf]; omega⟩
          have hb1 : (bi != -1) = true := by simpa using h1
          by_cases h2 : iq = (i : Int)
          · by_cases h3 : oq = (i : Int)
            · have HK2 : Hid (cnt N (k + 1) i = ck + 1 + 1) := Lib.hid (by rw [HCS.out]; simp [kid, h1, h2, h3]; omega)
              have q2 : (iq == (i : Int)) = true := by simpa using h2
              have q3 : (oq == (i : Int)) = true := by simpa using h3
              clear h1 h2 h3
              go_wp2
              exact ⟨⟨k + 1, by omega, by go_num, by rw [HK2.out]⟩, by simp [intOf]; omega⟩
            · have HK2 : Hid (cnt N (k + 1) i = ck + 1) := Lib.hid (by rw [HCS.out]; simp [kid, h1, h2, h3])
              have q2 : (iq == (i : Int)) = true := by simpa using h2
              have q3 : (oq == (i : Int)) = false := by simpa using h3
              clear h1 h2 h3
              go_wp2
              exact ⟨⟨k + 1, by omega, by go_num, by rw [HK2.out]⟩, by simp [intOf]; omega⟩
          · by_cases h3 : oq = (i : Int)
            · have HK2 : Hid (cnt N (k + 1) i = ck + 1) := Lib.hid (by rw [HCS.out]; simp [kid, h1, h2, h3])
              have q2 : (iq == (i : Int)) = false := by simpa using h2
              have q3 : (oq == (i : Int)) = true := by simpa using h3
              clear h1 h2 h3
              go_wp2
              exact ⟨⟨k + 1, by omega, by go_num, by rw [HK2.out]⟩, by simp [intOf]; omega⟩
            · have HK2 : Hid (cnt N (k + 1) i = ck) := Lib.hid (by rw [HCS.out]; simp [kid, h1, h2, h3])
              have q2 : (iq == (i : Int)) = false := by simpa using h2
              have q3 : (oq == (i : Int)) = false := by simpa using h3
              clear h1 h2 h3
              go_wp2
              exact ⟨⟨k + 1, by omega, by go_num, by rw [HK2.out]⟩, by simp [intOf]; omega⟩
        · obtain rfl : k = nn := by omega
          by_cases hc : ck = ((min i 1 : Nat) : Int)
          · have HCT2 : Hid (∀ t, t < i + 1 → cnt N k t = ((min t 1 : Nat) : Int)) := Lib.hid (fun t ht => by
              rcases Nat.lt_or_eq_of_le (Nat.lt_succ_iff.1 ht) with h | rfl
              · exact HCT.out t h
              · rw [HCK.out]; exact hc)
            rcases i with _ | i
            · simp at hc
              subst hc
              go_wp2
              exact ⟨⟨0 + 1, by omega, by go_num, HCT2⟩, by simp [intOf]; omega⟩
            · have hc2 : ck = 1 := by rw [hc]; simp
              clear hc
              subst hc2
              have hi0 : ((i : Int) + 1 == 0) = false := by simp; omega
              have hi1 : (0 : Int) < (i : Int) + 1 := by omega
              go_wp2
              exact ⟨⟨i + 1 + 1, by omega, by go_num, HCT2⟩, by simp [intOf]; omega⟩
          · have HE := Lib.hid (HCF.out i hin (by rw [HCK.out]; exact hc))
            rcases i with _ | i
            · have hc2 : 0 < ck := by simp at hc; omega
              clear hc
              go_wp2
              go_ret
              rw [HE.out]
              exact ⟨rfl, HB4.out⟩
            · have hc2 : (ck != 1) = true := by
                simp
                intro h
                exact hc (by rw [h]; simp)
              clear hc
              have hi0 : ((i : Int) + 1 == 0) = false := by simp; omega
              have hi1 : (0 : Int) < (i : Int) + 1 := by omega
              go_wp2
              go_ret
              rw [HE.out]
              exact ⟨rfl, HB4.out⟩
    · obtain rfl : i = nn := by omega
      have HC1 := Lib.hid (HCO.out HCT.out)
      clear HCO HCF HCT
      --@2
      have HOF : Hid (∀ t, t < i → ((ndAt N t).bid ≠ -1 ∧ ((ndAt N t).inn ≤ (t : Int) ∨ (ndAt N t).out ≤ (t : Int))) → res = 20) := Lib.hid (fun t ht hc => by
        rw [HRES.out]
        have : ordOk N = false := by
          unfold ordOk
          rw [List.all_eq_false]
          refine ⟨t, List.mem_range.2 (by rw [HNL.out]; exact ht), ?_⟩
          rw [Bool.not_eq_true]
          rcases hc with ⟨h1, h2⟩
          rw [decide_eq_false h1, Bool.false_or, Bool.and_eq_false_iff, decide_eq_false_iff_not, decide_eq_false_iff_not]
          omega
        rw [this]
        simp)
      go_wp2
      go_loopw [14] (fun jv wr => ∃ j : Nat, j ≤ i ∧ jv = .int .i64 (j : Int) ∧ Hid (∀ t, t < j → (ndAt N t).bid = -1 ∨ ((t : Int) < (ndAt N t).inn ∧ (t : Int) < (ndAt N t).out)) ∧ Hid (Below w4.heap.size w4 wr)) (fun jv _ => i - (intOf jv).toNat)
      case atStart => exact ⟨0, by omega, rfl, Lib.hid (fun t h => absurd h (by omega)), Lib.hid (Below.refl _ _)⟩
      case round =>
        obtain ⟨j, hj, rfl, HOT, HBJ⟩ := hrel
        clear p0 p1
        have p0 := (HP4.out.all HBJ.out).cell 0
        have p1 := (HP4.out.all HBJ.out).cell 1
        simp at p0 p1
        by_cases hjn : j < i
        · obtain ⟨b, off, bi, iq, oq, sA, sn, sc, ps, hAn, hbw, c0, c1, c2, c3, hin2, he⟩ := (HN.out.all (bt HB4.out HBJ.out)).get (k := j) (by rw [HNL.out]; exact hjn)
          subst hAn
          have HF := Lib.hid (HOF.out j hjn)
          rw [he] at HF
          dsimp only at HF
          have HB6 : Hid (Below w4.heap.size w4 (wr.alloc (.cells #[.int .i64 bi, .int .i64 iq, .int .i64 oq, .slice sA sn sc] 34))) := Lib.hid (HBJ.out.alloc HBJ.out.size _)
          have hji : (j : Int) < (i : Int) := by omega
          have HNX : Hid (bi = -1 ∨ ((j : Int) < iq ∧ (j : Int) < oq) → ∀ t, t < j + 1 → (ndAt N t).bid = -1 ∨ ((t : Int) < (ndAt N t).inn ∧ (t : Int) < (ndAt N t).out)) := Lib.hid (fun hg t ht => by
            rcases Nat.lt_or_eq_of_le (Nat.lt_succ_iff.1 ht) with h | rfl
            · exact HOT.out t h
            · rw [he]; exact hg)
          clear he hin2
          by_cases h1 : bi = -1
          · have HN2 := Lib.hid (HNX.out (.inl h1))
            subst h1
            go_wp2
            exact ⟨⟨j + 1, by omega, by go_num, HN2, HB6⟩, by simp [intOf]; omega⟩
          have hb1 : (bi != -1) = true := by simpa using h1
          by_cases h2 : iq ≤ (j : Int)
          · have HE := Lib.hid (HF.out ⟨h1, .inl h2⟩)
            clear h1
            go_wp2
            go_ret
            rw [HE.out]
            exact ⟨rfl, bt HB4.out HB6.out⟩
          by_cases h3 : oq ≤ (j : Int)
          · have HE := Lib.hid (HF.out ⟨h1, .inr h3⟩)
            clear h1
            go_wp2
            go_ret
            rw [HE.out]
            exact ⟨rfl, bt HB4.out HB6.out⟩
          have HN2 := Lib.hid (HNX.out (.inr ⟨by omega, by omega⟩))
          clear h1
          go_wp2
          exact ⟨⟨j + 1, by omega, by go_num, HN2, HB6⟩, by simp [intOf]; omega⟩
        · obtain rfl : j = i := by omega
          have HE : Hid (res = if r then 0 else 20) := Lib.hid (by
            rw [HRES.out]
            have : ordOk N = true := by
              unfold ordOk
              rw [List.all_eq_true]
              intro t ht
              rw [HNL.out] at ht
              have := HOT.out t (List.mem_range.1 ht)
              simpa using this
            rw [HC1.out, this]
            rfl)
          clear HRES
          cases r with
          | true =>
            have HE : Hid (res = 0) := Lib.hid HE.out
            go_wp2_with (go_at_call 50; (with_reducible refine (HRT.out _ (bt HB4.out HBJ.out)).mono ?_); rintro e w7 ⟨rfl, hb7⟩)
            go_ret
            rw [HE.out]
            exact ⟨rfl, bt (bt HB4.out HBJ.out) hb7⟩
          | false =>
            have HE : Hid (res = 20) := Lib.hid HE.out
            go_wp2_with (go_at_call 50; (with_reducible refine (HRT.out _ (bt HB4.out HBJ.out)).mono ?_); rintro e w7 ⟨rfl, hb7⟩)
            go_ret
            rw [HE.out]
            exact ⟨rfl, bt (bt HB4.out HBJ.out) hb7⟩
end Go.Proofs.Ytikfcpkobgejmaa

/- reference: right, its frame; a leaf. -/
namespace Go.Proofs.Ytikfcpkobgejmaa
open Go.RowKit

structure RCells (gc : Nat) (v : Int) (An : Option Addr) (nn cn : Nat) (bi iq oq : Int) (sA : Option Addr) (sn sc : Nat) (w : World) : Prop where
  pr : Blk w gc 30 #[.int .i64 v, .slice An nn cn]
  nd : Blk w (gc + 1) 34 #[.int .i64 bi, .int .i64 iq, .int .i64 oq, .slice sA sn sc]
section
variable {gc : Nat} {v : Int} {An : Option Addr} {nn cn : Nat} {bi iq oq : Int} {sA : Option Addr} {sn sc : Nat} {w w' : World}
theorem RCells.all (h : RCells gc v An nn cn bi iq oq sA sn sc w) (hb : Below w.heap.size w w') : RCells gc v An nn cn bi iq oq sA sn sc w' := ⟨h.pr.all hb, h.nd.all hb⟩
theorem RCells.cells (h : RCells gc v An nn cn bi iq oq sA sn sc w) : w.cell? ⟨gc, 0, none⟩ = some (.int .i64 v) ∧ w.cell? ⟨gc, 1, none⟩ = some (.slice An nn cn) ∧ w.cell? ⟨gc + 1, 0, none⟩ = some (.int .i64 bi) ∧ w.cell? ⟨gc + 1, 1, none⟩ = some (.int .i64 iq) ∧ w.cell? ⟨gc + 1, 2, none⟩ = some (.int .i64 oq) ∧ w.cell? ⟨gc + 1, 3, none⟩ = some (.slice sA sn sc) :=
  ⟨h.pr.cell 0, h.pr.cell 1, h.nd.cell 0, h.nd.cell 1, h.nd.cell 2, h.nd.cell 3⟩
end
set_option maxRecDepth 100000 in
set_option maxHeartbeats 8000000 in
theorem rleaf_odd (n : Nat) (A : Option Addr) (m c : Nat) (v : Int) (b off nn cn : Nat) (iq oq : Int) (sA : Option Addr) (sn sc : Nat) (Ai : Option Addr) (ni ci : Nat) (Ao : Option Addr) (no co : Nat) (i : Nat)  (w : World) (_hbw : b < w.heap.size) (_hi : i < nn) (_c0 : w.cell? ⟨b, off + i * 4, none⟩ = some (.int .i64 (-1))) (_c1 : w.cell? ⟨b, off + i * 4 + 1, none⟩ = some (.int .i64 iq)) (_c2 : w.cell? ⟨b, off + i * 4 + 2, none⟩ = some (.int .i64 oq)) (_c3 : w.cell? ⟨b, off + i * 4 + 3, none⟩ = some (.slice sA sn sc)) (hz : iq ≠ 0 ∨ oq ≠ 0 ∨ sn ≠ n) :
    Calls Try.prog 50 #[.int .i64 (n : Int), .slice A m c, .agg #[.int .i64 v, .slice (some ⟨b, off, none⟩) nn cn], .int .i64 (i : Int), .slice Ai ni ci, .slice Ao no co] w fun e w' => e = .returned (.bool (false)) ∧ Below w.heap.size w w' := by
  have hb1 := (Below.refl w.heap.size w).alloc (Nat.le_refl _) (.cells #[.int .i64 v, .slice (some ⟨b, off, none⟩) nn cn] 30)
  have hb2 := hb1.alloc (by simp) (.cells #[.int .i64 (-1), .int .i64 iq, .int .i64 oq, .slice sA sn sc] 34)
  have hc : RCells w.heap.size v (some ⟨b, off, none⟩) nn cn (-1) iq oq sA sn sc ((w.alloc (.cells #[.int .i64 v, .slice (some ⟨b, off, none⟩) nn cn] 30)).alloc (.cells #[.int .i64 (-1), .int .i64 iq, .int .i64 oq, .slice sA sn sc] 34)) := by
    have h2 := Blk.new (w.alloc (.cells #[.int .i64 v, .slice (some ⟨b, off, none⟩) nn cn] 30)) 34 #[.int .i64 (-1), .int .i64 iq, .int .i64 oq, .slice sA sn sc]
    rw [World.size_alloc] at h2
    exact ⟨Blk.alloc (Blk.new _ _ _) _, h2⟩
  have q0 := (hb1.cell (p := ⟨b, off + i * 4, none⟩) _hbw).trans _c0
  have q1 := (hb1.cell (p := ⟨b, off + i * 4 + 1, none⟩) _hbw).trans _c1
  have q2 := (hb1.cell (p := ⟨b, off + i * 4 + 2, none⟩) _hbw).trans _c2
  have q3 := (hb1.cell (p := ⟨b, off + i * 4 + 3, none⟩) _hbw).trans _c3
  have HCE := Lib.hid hc
  have HB2 := Lib.hid hb2
  clear hb1 hb2 hc _c0 _c1 _c2 _c3
  have HSTOP : Hid True := Lib.hid trivial
  go_enter Try.func50, Try.ntmps50
  go_upto_if 26 with (fail)
  obtain ⟨gc, hgc⟩ : ∃ gc, w.heap.size = gc := ⟨_, rfl⟩
  obtain ⟨w2, hw2⟩ : ∃ w2, (w.alloc (.cells #[.int .i64 v, .slice (some ⟨b, off, none⟩) nn cn] 30)).alloc (.cells #[.int .i64 (-1), .int .i64 iq, .int .i64 oq, .slice sA sn sc] 34) = w2 := ⟨_, rfl⟩
  rw [hw2] at HCE HB2 ⊢
  rw [hgc] at HCE ⊢
  obtain ⟨k0, k1, k2, k3, k4, k5⟩ := HCE.out.cells
  clear q0 q1 q2 q3 hgc hw2 _hbw _hi HSTOP
  by_cases h1 : iq = 0
  rotate_left
  · have hi1 : (iq != 0) = true := by simpa using h1
    clear h1 hz
    go_wp2
    go_ret
    exact ⟨rfl, HB2.out⟩
  have hi1 : (iq != 0) = false := by simpa using h1
  by_cases h2 : oq = 0
  rotate_left
  · have hi2 : (oq != 0) = true := by simpa using h2
    clear h1 h2 hz
    go_wp2
    go_ret
    exact ⟨rfl, HB2.out⟩
  have hi2 : (oq != 0) = false := by simpa using h2
  have h3 : sn ≠ n := by omega
  have hi3 : ((sn : Int) != (n : Int)) = true := by simp; omega
  clear h1 h2 hz
  go_wp2
  go_ret
  exact ⟨rfl, HB2.out⟩
set_option maxRecDepth 100000 in
set_option maxHeartbeats 8000000 in
theorem rleaf_in (n : Nat) (A : Option Addr) (m c : Nat) (v : Int) (b off nn cn : Nat) (iq oq : Int) (sA : Option Addr) (sn sc : Nat) (Ai : Option Addr) (ni ci : Nat) (Ao : Option Addr) (no co : Nat) (i : Nat) (ps : List Int) (bv : Int) (w : World) (_hbw : b < w.heap.size) (_hi : i < nn) (_c0 : w.cell? ⟨b, off + i * 4, none⟩ = some (.int .i64 (-1))) (_c1 : w.cell? ⟨b, off + i * 4 + 1, none⟩ = some (.int .i64 iq)) (_c2 : w.cell? ⟨b, off + i * 4 + 2, none⟩ = some (.int .i64 oq)) (_c3 : w.cell? ⟨b, off + i * 4 + 3, none⟩ = some (.slice sA sn sc)) (hz : Hid (iq = 0 ∧ oq = 0 ∧ sn = n)) (HPS : Hid (NIn w w.heap.size (sA, sn, sc) ps)) (HBO : Hid (PriOk ps → ∀ w', Below w.heap.size w w' → Calls Try.prog 67 #[.slice A m c, .slice Ai ni ci, .slice Ao no co, .slice sA sn sc] w' fun e w'' => e = .returned (.int .i64 bv) ∧ Below w'.heap.size w' w'')) :
    Calls Try.prog 50 #[.int .i64 (n : Int), .slice A m c, .agg #[.int .i64 v, .slice (some ⟨b, off, none⟩) nn cn], .int .i64 (i : Int), .slice Ai ni ci, .slice Ao no co] w fun e w' => e = .returned (.bool (priB ps && decide (bv ≤ v))) ∧ Below w.heap.size w w' := by
  have hb1 := (Below.refl w.heap.size w).alloc (Nat.le_refl _) (.cells #[.int .i64 v, .slice (some ⟨b, off, none⟩) nn cn] 30)
  have hb2 := hb1.alloc (by simp) (.cells #[.int .i64 (-1), .int .i64 iq, .int .i64 oq, .slice sA sn sc] 34)
  have hc : RCells w.heap.size v (some ⟨b, off, none⟩) nn cn (-1) iq oq sA sn sc ((w.alloc (.cells #[.int .i64 v, .slice (some ⟨b, off, none⟩) nn cn] 30)).alloc (.cells #[.int .i64 (-1), .int .i64 iq, .int .i64 oq, .slice sA sn sc] 34)) := by
    have h2 := Blk.new (w.alloc (.cells #[.int .i64 v, .slice (some ⟨b, off, none⟩) nn cn] 30)) 34 #[.int .i64 (-1), .int .i64 iq, .int .i64 oq, .slice sA sn sc]
    rw [World.size_alloc] at h2
    exact ⟨Blk.alloc (Blk.new _ _ _) _, h2⟩
  have q0 := (hb1.cell (p := ⟨b, off + i * 4, none⟩) _hbw).trans _c0
  have q1 := (hb1.cell (p := ⟨b, off + i * 4 + 1, none⟩) _hbw).trans _c1
  have q2 := (hb1.cell (p := ⟨b, off + i * 4 + 2, none⟩) _hbw).trans _c2
  have q3 := (hb1.cell (p := ⟨b, off + i * 4 + 3, none⟩) _hbw).trans _c3
  have HCE := Lib.hid hc
  have HB2 := Lib.hid hb2
  clear hb1 hb2 hc _c0 _c1 _c2 _c3
  have HSTOP : Hid True := Lib.hid trivial
  have HPL := Lib.hid HPS.out.len
  dsimp only at HPL
  have hsn : sn ≤ 9223372036854775807 := Nat.le_trans HPS.out.cap HPS.out.max
  go_enter Try.func50, Try.ntmps50
  go_upto_if 26 with (fail)
  obtain ⟨gc, hgc⟩ : ∃ gc, w.heap.size = gc := ⟨_, rfl⟩
  obtain ⟨w2, hw2⟩ : ∃ w2, (w.alloc (.cells #[.int .i64 v, .slice (some ⟨b, off, none⟩) nn cn] 30)).alloc (.cells #[.int .i64 (-1), .int .i64 iq, .int .i64 oq, .slice sA sn sc] 34) = w2 := ⟨_, rfl⟩
  rw [hw2] at HCE HB2 ⊢
  rw [hgc] at HCE ⊢
  obtain ⟨k0, k1, k2, k3, k4, k5⟩ := HCE.out.cells
  clear q0 q1 q2 q3 hgc hw2 _hbw _hi HSTOP
  obtain ⟨hz0, hz1, hz2⟩ := hz.out
  subst hz0 hz1 hz2
  go_wp2
  go_loop [14] (fun iv => ∃ j : Nat, j ≤ sn ∧ iv = .int .i64 (j : Int) ∧ Hid (∀ t, t < j → 0 ≤ ps[t]?.getD 0 ∧ ps[t]?.getD 0 ≤ 1099511627776)) (fun iv => sn - (intOf iv).toNat)
  case atStart => exact ⟨0, by omega, rfl, Lib.hid (fun t h => absurd h (by omega))⟩
  case round =>
    obtain ⟨j, hj, rfl, HNO⟩ := hrel
    by_cases hlt : j < sn
    · obtain ⟨b2, o2, hA2, -, hc2⟩ := (NIn.all HPS.out HB2.out).cell (k := j) hlt
      dsimp only at hA2
      subst hA2
      have HBAD := Lib.hid (priB_no (P := ps) (k := j) (by rw [HPL.out]; exact hlt))
      obtain ⟨x, hx⟩ : ∃ x, ps[j]?.getD 0 = x := ⟨_, rfl⟩
      rw [hx] at hc2 HBAD
      have HX := Lib.hid hx
      clear hx
      have hji : (j : Int) < (sn : Int) := by omega
      by_cases h1 : x < 0
      · have HE : Hid ((priB ps && decide (bv ≤ v)) = false) := Lib.hid (by rw [HBAD.out (.inl h1)]; rfl)
        clear HBAD
        go_wp2
        go_ret
        rw [HE.out]
        exact ⟨rfl, HB2.out⟩
      by_cases h2 : 1099511627776 < x
      · have HE : Hid ((priB ps && decide (bv ≤ v)) = false) := Lib.hid (by rw [HBAD.out (.inr h2)]; rfl)
        clear HBAD
        go_wp2
        go_ret
        rw [HE.out]
        exact ⟨rfl, HB2.out⟩
      have HNO2 : Hid (∀ t, t < j + 1 → 0 ≤ ps[t]?.getD 0 ∧ ps[t]?.getD 0 ≤ 1099511627776) := Lib.hid (fun t ht => by
        rcases Nat.lt_or_eq_of_le (Nat.lt_succ_iff.1 ht) with h | rfl
        · exact HNO.out t h
        · rw [HX.out]
          omega)
      clear HBAD
      go_wp2
      exact ⟨⟨j + 1, by omega, by go_num, HNO2⟩, by simp [intOf]; omega⟩
    · obtain rfl : j = sn := by omega
      have HPB : Hid (priB ps = true) := Lib.hid (by
        unfold priB
        rw [List.all_eq_true]
        intro p hp
        obtain ⟨t, ht, rfl⟩ := List.getElem_of_mem hp
        have := HNO.out t (by rw [← HPL.out]; exact ht)
        rw [List.getElem?_eq_getElem ht] at this
        simpa using this)
      have HBO2 := Lib.hid (HBO.out (priB_ok HPB.out))
      have HBD : Hid (Below w.heap.size w w2.drew) := Lib.hid (below_drewN HB2.out 1)
      clear HBO
      have HBO := HBO2
      clear HBO2
      have HE : Hid ((priB ps && decide (bv ≤ v)) = decide (bv ≤ v)) := Lib.hid (by rw [HPB.out]; rfl)
      go_wp2
      refine wp_region_held_drew (S := (fun w' => w'.cell? ⟨gc, 0, none⟩ = some (.int .i64 v) ∧ w'.cell? ⟨gc, 1, none⟩ = some (.slice (some ⟨b, off, none⟩) nn cn) ∧ w'.cell? ⟨gc + 1, 0, none⟩ = some (.int .i64 (-1)) ∧ w'.cell? ⟨gc + 1, 1, none⟩ = some (.int .i64 0) ∧ w'.cell? ⟨gc + 1, 2, none⟩ = some (.int .i64 0) ∧ w'.cell? ⟨gc + 1, 3, none⟩ = some (.slice sA j sc))) (by kernel_rfl) HCE.out.cells (fun hHeld => ?_)
      refine takeH 0 (some 61) (v := ?_) (by rfl) (by rfl) (by kernel_rfl) (by kernel_rfl) (by kernel_rfl) (fun _ _ _ h => h) ?_ (by assumption) ?_
      rotate_left
      · (intro o ho w hSw; obtain ⟨k0, k1, k2, k3, k4, k5⟩ := hSw; cases ho; go_simp; try with_reducible rfl)
      try simp only [Act.put, List.setIfInBounds_toArray, List.set_cons_zero, List.set_cons_succ]
      refine takeH 1 (some 62) (v := ?_) (by rfl) (by rfl) (by kernel_rfl) (by kernel_rfl) (by kernel_rfl) (fun _ _ _ h => h) ?_ (by assumption) ?_
      rotate_left
      · (intro o ho w hSw; obtain ⟨k0, k1, k2, k3, k4, k5⟩ := hSw; cases ho; go_simp; try with_reducible rfl)
      try simp only [Act.put, List.setIfInBounds_toArray, List.set_cons_zero, List.set_cons_succ]
      refine takeH 2 (some 63) (v := ?_) (by rfl) (by rfl) (by kernel_rfl) (by kernel_rfl) (by kernel_rfl) (fun _ _ _ h => h) ?_ (by assumption) ?_
      rotate_left
      · (intro o ho w hSw; obtain ⟨k0, k1, k2, k3, k4, k5⟩ := hSw; cases ho; go_simp; try with_reducible rfl)
      try simp only [Act.put, List.setIfInBounds_toArray, List.set_cons_zero, List.set_cons_succ]
      refine takeH 3 (some 64) (v := ?_) (by rfl) (by rfl) (by kernel_rfl) (by kernel_rfl) (by kernel_rfl) (fun _ _ _ h => h) ?_ (by assumption) ?_
      rotate_left
      · (intro o ho w hSw; obtain ⟨k0, k1, k2, k3, k4, k5⟩ := hSw; cases ho; go_simp; try with_reducible rfl)
      try simp only [Act.put, List.setIfInBounds_toArray, List.set_cons_zero, List.set_cons_succ]
      refine takeH 4 (some 65) (v := ?_) (by rfl) (by rfl) (by kernel_rfl) (by kernel_rfl) (by kernel_rfl) (fun _ _ _ h => h) ?_ (by assumption) ?_
      rotate_left
      · (intro o ho w hSw; obtain ⟨k0, k1, k2, k3, k4, k5⟩ := hSw; cases ho; go_simp; try with_reducible rfl)
      try simp only [Act.put, List.setIfInBounds_toArray, List.set_cons_zero, List.set_cons_succ]
      refine takeH 6 (some 67) (v := ?_) (by rfl) (by rfl) (by kernel_rfl) (by kernel_rfl) (by kernel_rfl) (fun _ _ _ h => h) ?_ (by assumption) ?_
      rotate_left
      · (intro o ho w hSw; obtain ⟨k0, k1, k2, k3, k4, k5⟩ := hSw; cases ho; go_simp; try with_reducible rfl)
      try simp only [Act.put, List.setIfInBounds_toArray, List.set_cons_zero, List.set_cons_succ]
      refine takeH 7 (some 68) (v := ?_) (by rfl) (by rfl) (by kernel_rfl) (by kernel_rfl) (by kernel_rfl) (fun _ _ _ h => h) ?_ (by assumption) ?_
      rotate_left
      · (intro o ho w hSw; obtain ⟨k0, k1, k2, k3, k4, k5⟩ := hSw; cases ho; go_simp; try with_reducible rfl)
      try simp only [Act.put, List.setIfInBounds_toArray, List.set_cons_zero, List.set_cons_succ]
      refine wpAnyH_ready (rs := [5]) (by kernel_rfl) (by simp) ?_
      refine AllReadyH.cons rfl (fun K hK => ?_) AllReadyH.nil
      go_simp
      go_at_call 67
      (with_reducible refine (HBO.out _ HBD.out).mono ?_)
      rintro e w5 ⟨rfl, hb5⟩
      go_wp2
      refine hK.out _ _ ?_ (fun hHeld5 => ?_)
      · exact (HCE.out.all (undrew hb5)).cells
      clear hK K
      try simp only [Act.put, List.setIfInBounds_toArray, List.set_cons_zero, List.set_cons_succ]
      refine takeH 8 (some 69) (v := ?_) (by rfl) (by rfl) (by kernel_rfl) (by kernel_rfl) (by kernel_rfl) (fun _ _ _ h => h) ?_ (by assumption) ?_
      rotate_left
      · (intro o ho w hSw; obtain ⟨k0, k1, k2, k3, k4, k5⟩ := hSw; cases ho; go_simp; try with_reducible rfl)
      try simp only [Act.put, List.setIfInBounds_toArray, List.set_cons_zero, List.set_cons_succ]
      refine takeH 9 (some 12) (v := ?_) (by rfl) (by rfl) (by kernel_rfl) (by kernel_rfl) (by kernel_rfl) (fun _ _ _ h => h) ?_ (by assumption) ?_
      rotate_left
      · (intro o ho w hSw; obtain ⟨k0, k1, k2, k3, k4, k5⟩ := hSw; cases ho; go_simp; try with_reducible rfl)
      try simp only [Act.put, List.setIfInBounds_toArray, List.set_cons_zero, List.set_cons_succ]
      refine wpAnyH_done (by kernel_rfl) ?_ _
      have HB9 := Lib.hid (bt HBD.out hb5)
      clear hb5 hHeld5
      go_wp2
      go_ret
      rw [HE.out]
      exact ⟨rfl, HB9.out⟩
end Go.Proofs.Ytikfcpkobgejmaa

/- reference: right, an inner node. -/
namespace Go.Proofs.Ytikfcpkobgejmaa
open Go.RowKit

set_option maxRecDepth 100000 in
set_option maxHeartbeats 8000000 in
theorem rnode_bad (n : Nat) (A : Option Addr) (m c : Nat) (v : Int) (b off nn cn : Nat) (iq oq : Int) (sA : Option Addr) (sn sc : Nat) (Ai : Option Addr) (ni ci : Nat) (Ao : Option Addr) (no co : Nat) (i : Nat) (bi : Int) (hbi : Hid (bi ≠ -1)) (w : World) (_hbw : b < w.heap.size) (_hi : i < nn) (_c0 : w.cell? ⟨b, off + i * 4, none⟩ = some (.int .i64 bi)) (_c1 : w.cell? ⟨b, off + i * 4 + 1, none⟩ = some (.int .i64 iq)) (_c2 : w.cell? ⟨b, off + i * 4 + 2, none⟩ = some (.int .i64 oq)) (_c3 : w.cell? ⟨b, off + i * 4 + 3, none⟩ = some (.slice sA sn sc)) (hz : Hid (bi < 0 ∨ (m : Int) ≤ bi ∨ 0 < sn ∨ iq ≤ (i : Int) ∨ (nn : Int) ≤ iq ∨ oq ≤ (i : Int) ∨ (nn : Int) ≤ oq)) :
    Calls Try.prog 50 #[.int .i64 (n : Int), .slice A m c, .agg #[.int .i64 v, .slice (some ⟨b, off, none⟩) nn cn], .int .i64 (i : Int), .slice Ai ni ci, .slice Ao no co] w fun e w' => e = .returned (.bool (false)) ∧ Below w.heap.size w w' := by
  have hb1 := (Below.refl w.heap.size w).alloc (Nat.le_refl _) (.cells #[.int .i64 v, .slice (some ⟨b, off, none⟩) nn cn] 30)
  have hb2 := hb1.alloc (by simp) (.cells #[.int .i64 bi, .int .i64 iq, .int .i64 oq, .slice sA sn sc] 34)
  have hc : RCells w.heap.size v (some ⟨b, off, none⟩) nn cn bi iq oq sA sn sc ((w.alloc (.cells #[.int .i64 v, .slice (some ⟨b, off, none⟩) nn cn] 30)).alloc (.cells #[.int .i64 bi, .int .i64 iq, .int .i64 oq, .slice sA sn sc] 34)) := by
    have h2 := Blk.new (w.alloc (.cells #[.int .i64 v, .slice (some ⟨b, off, none⟩) nn cn] 30)) 34 #[.int .i64 bi, .int .i64 iq, .int .i64 oq, .slice sA sn sc]
    rw [World.size_alloc] at h2
    exact ⟨Blk.alloc (Blk.new _ _ _) _, h2⟩
  have q0 := (hb1.cell (p := ⟨b, off + i * 4, none⟩) _hbw).trans _c0
  have q1 := (hb1.cell (p := ⟨b, off + i * 4 + 1, none⟩) _hbw).trans _c1
  have q2 := (hb1.cell (p := ⟨b, off + i * 4 + 2, none⟩) _hbw).trans _c2
  have q3 := (hb1.cell (p := ⟨b, off + i * 4 + 3, none⟩) _hbw).trans _c3
  have HCE := Lib.hid hc
  have HB2 := Lib.hid hb2
  clear hb1 hb2 hc _c0 _c1 _c2 _c3
  have HSTOP : Hid True := Lib.hid trivial
  have hkn : (bi == -1) = false := by simpa using hbi.out
  go_enter Try.func50, Try.ntmps50
  go_upto_if 26 with (fail)
  obtain ⟨gc, hgc⟩ : ∃ gc, w.heap.size = gc := ⟨_, rfl⟩
  obtain ⟨w2, hw2⟩ : ∃ w2, (w.alloc (.cells #[.int .i64 v, .slice (some ⟨b, off, none⟩) nn cn] 30)).alloc (.cells #[.int .i64 bi, .int .i64 iq, .int .i64 oq, .slice sA sn sc] 34) = w2 := ⟨_, rfl⟩
  rw [hw2] at HCE HB2 ⊢
  rw [hgc] at HCE ⊢
  obtain ⟨k0, k1, k2, k3, k4, k5⟩ := HCE.out.cells
  clear q0 q1 q2 q3 hgc hw2 _hbw _hi HSTOP
  by_cases hx : bi < 0
  · have hy : bi < 0 := by omega
    clear hz HCE
    go_wp2
    go_ret
    exact ⟨rfl, HB2.out⟩
  have hybb6e : ¬ bi < 0 := by omega
  clear hx
  by_cases hx : (m : Int) ≤ bi
  · have hy : (m : Int) ≤ bi := by omega
    clear hz HCE
    go_wp2
    go_ret
    exact ⟨rfl, HB2.out⟩
  have hy72ba : ¬ (m : Int) ≤ bi := by omega
  clear hx
  by_cases hx : 0 < sn
  · have hy : (0 : Int) < (sn : Int) := by omega
    clear hz HCE
    go_wp2
    go_ret
    exact ⟨rfl, HB2.out⟩
  have hy3362 : ¬ (0 : Int) < (sn : Int) := by omega
  clear hx
  by_cases hx : iq ≤ (i : Int)
  · have hy : iq ≤ (i : Int) := by omega
    clear hz HCE
    go_wp2
    go_ret
    exact ⟨rfl, HB2.out⟩
  have hyb709 : ¬ iq ≤ (i : Int) := by omega
  clear hx
  by_cases hx : (nn : Int) ≤ iq
  · have hy : (nn : Int) ≤ iq := by omega
    clear hz HCE
    go_wp2
    go_ret
    exact ⟨rfl, HB2.out⟩
  have hyd418 : ¬ (nn : Int) ≤ iq := by omega
  clear hx
  by_cases hx : oq ≤ (i : Int)
  · have hy : oq ≤ (i : Int) := by omega
    clear hz HCE
    go_wp2
    go_ret
    exact ⟨rfl, HB2.out⟩
  have hye144 : ¬ oq ≤ (i : Int) := by omega
  clear hx
  by_cases hx : (nn : Int) ≤ oq
  · have hy : (nn : Int) ≤ oq := by omega
    clear hz HCE
    go_wp2
    go_ret
    exact ⟨rfl, HB2.out⟩
  have hyff12 : ¬ (nn : Int) ≤ oq := by omega
  clear hx
  exact absurd hz.out (by omega)
set_option maxRecDepth 100000 in
set_option maxHeartbeats 8000000 in
theorem rnode_imp (n : Nat) (A : Option Addr) (m c : Nat) (v : Int) (b off nn cn : Nat) (iq oq : Int) (sA : Option Addr) (sn sc : Nat) (Ai : Option Addr) (ni ci : Nat) (Ao : Option Addr) (no co : Nat) (i : Nat) (k : Nat) (w : World) (_hbw : b < w.heap.size) (_hi : i < nn) (_c0 : w.cell? ⟨b, off + i * 4, none⟩ = some (.int .i64 (k : Int))) (_c1 : w.cell? ⟨b, off + i * 4 + 1, none⟩ = some (.int .i64 iq)) (_c2 : w.cell? ⟨b, off + i * 4 + 2, none⟩ = some (.int .i64 oq)) (_c3 : w.cell? ⟨b, off + i * 4 + 3, none⟩ = some (.slice sA sn sc)) (hko : (k : Int) < (m : Int)) (hs0 : sn = 0) (hq1 : (i : Int) < iq) (hq2 : iq < (nn : Int)) (hq3 : (i : Int) < oq) (hq4 : oq < (nn : Int)) (HPO : Hid (∀ w', Below w.heap.size w w' → Calls Try.prog 65 #[.slice A m c, .slice Ai ni ci, .slice Ao no co, .int .i64 (k : Int)] w' fun e w'' => e = .returned (.bool false) ∧ Below w'.heap.size w' w'')) :
    Calls Try.prog 50 #[.int .i64 (n : Int), .slice A m c, .agg #[.int .i64 v, .slice (some ⟨b, off, none⟩) nn cn], .int .i64 (i : Int), .slice Ai ni ci, .slice Ao no co] w fun e w' => e = .returned (.bool (false)) ∧ Below w.heap.size w w' := by
  have hb1 := (Below.refl w.heap.size w).alloc (Nat.le_refl _) (.cells #[.int .i64 v, .slice (some ⟨b, off, none⟩) nn cn] 30)
  have hb2 := hb1.alloc (by simp) (.cells #[.int .i64 (k : Int), .int .i64 iq, .int .i64 oq, .slice sA sn sc] 34)
  have hc : RCells w.heap.size v (some ⟨b, off, none⟩) nn cn (k : Int) iq oq sA sn sc ((w.alloc (.cells #[.int .i64 v, .slice (some ⟨b, off, none⟩) nn cn] 30)).alloc (.cells #[.int .i64 (k : Int), .int .i64 iq, .int .i64 oq, .slice sA sn sc] 34)) := by
    have h2 := Blk.new (w.alloc (.cells #[.int .i64 v, .slice (some ⟨b, off, none⟩) nn cn] 30)) 34 #[.int .i64 (k : Int), .int .i64 iq, .int .i64 oq, .slice sA sn sc]
    rw [World.size_alloc] at h2
    exact ⟨Blk.alloc (Blk.new _ _ _) _, h2⟩
  have q0 := (hb1.cell (p := ⟨b, off + i * 4, none⟩) _hbw).trans _c0
  have q1 := (hb1.cell (p := ⟨b, off + i * 4 + 1, none⟩) _hbw).trans _c1
  have q2 := (hb1.cell (p := ⟨b, off + i * 4 + 2, none⟩) _hbw).trans _c2
  have q3 := (hb1.cell (p := ⟨b, off + i * 4 + 3, none⟩) _hbw).trans _c3
  have HCE := Lib.hid hc
  have HB2 := Lib.hid hb2
  clear hb1 hb2 hc _c0 _c1 _c2 _c3
  have HSTOP : Hid True := Lib.hid trivial
  have hkn : ((k : Int) == -1) = false := by simp
  have hsi : ¬ (0 : Int) < (sn : Int) := by omega
  clear hs0
  go_enter Try.func50, Try.ntmps50
  go_upto_if 26 with (fail)
  obtain ⟨gc, hgc⟩ : ∃ gc, w.heap.size = gc := ⟨_, rfl⟩
  obtain ⟨w2, hw2⟩ : ∃ w2, (w.alloc (.cells #[.int .i64 v, .slice (some ⟨b, off, none⟩) nn cn] 30)).alloc (.cells #[.int .i64 (k : Int), .int .i64 iq, .int .i64 oq, .slice sA sn sc] 34) = w2 := ⟨_, rfl⟩
  rw [hw2] at HCE HB2 ⊢
  rw [hgc] at HCE ⊢
  obtain ⟨k0, k1, k2, k3, k4, k5⟩ := HCE.out.cells
  clear q0 q1 q2 q3 hgc hw2 _hbw _hi HSTOP
  clear HCE
  go_wp2_with (go_at_call 65; (with_reducible refine (HPO.out _ HB2.out).mono ?_); rintro e w3 ⟨rfl, hb3⟩)
  go_ret
  exact ⟨rfl, bt HB2.out hb3⟩
end Go.Proofs.Ytikfcpkobgejmaa

/- reference: right, an inner node whose first child is not right. -/
namespace Go.Proofs.Ytikfcpkobgejmaa
open Go.RowKit

set_option maxRecDepth 100000 in
set_option maxHeartbeats 8000000 in
theorem rnode_fst (n : Nat) (A : Option Addr) (m c : Nat) (v : Int) (b off nn cn : Nat) (iq oq : Int) (sA : Option Addr) (sn sc : Nat) (Ai : Option Addr) (ni ci : Nat) (Ao : Option Addr) (no co : Nat) (i : Nat) (k : Nat) (inn out : List Int) (w : World) (_hbw : b < w.heap.size) (_hi : i < nn) (_c0 : w.cell? ⟨b, off + i * 4, none⟩ = some (.int .i64 (k : Int))) (_c1 : w.cell? ⟨b, off + i * 4 + 1, none⟩ = some (.int .i64 iq)) (_c2 : w.cell? ⟨b, off + i * 4 + 2, none⟩ = some (.int .i64 oq)) (_c3 : w.cell? ⟨b, off + i * 4 + 3, none⟩ = some (.slice sA sn sc)) (hko : (k : Int) < (m : Int)) (hs0 : sn = 0) (hq1 : (i : Int) < iq) (hq2 : iq < (nn : Int)) (hq3 : (i : Int) < oq) (hq4 : oq < (nn : Int)) (hni : ni ≤ 3000) (hno : no ≤ 3000) (HII : Hid (NIn w w.heap.size (Ai, ni, ci) inn)) (HOO : Hid (NIn w w.heap.size (Ao, no, co) out)) (HPO : Hid (∀ w', Below w.heap.size w w' → Calls Try.prog 65 #[.slice A m c, .slice Ai ni ci, .slice Ao no co, .int .i64 (k : Int)] w' fun e w'' => e = .returned (.bool true) ∧ Below w'.heap.size w' w'')) (H1 : Hid (∀ (A1 : Option Addr) (c1 : Nat) (w' : World), Below w.heap.size w w' → NIn w' w'.heap.size (A1, ni + 1, c1) (inn ++ [(k : Int)]) → Calls Try.prog 50 #[.int .i64 (n : Int), .slice A m c, .agg #[.int .i64 v, .slice (some ⟨b, off, none⟩) nn cn], .int .i64 iq, .slice A1 (ni + 1) c1, .slice Ao no co] w' fun e w'' => e = .returned (.bool false) ∧ Below w'.heap.size w' w'')) :
    Calls Try.prog 50 #[.int .i64 (n : Int), .slice A m c, .agg #[.int .i64 v, .slice (some ⟨b, off, none⟩) nn cn], .int .i64 (i : Int), .slice Ai ni ci, .slice Ao no co] w fun e w' => e = .returned (.bool (false)) ∧ Below w.heap.size w w' := by
  have hb1 := (Below.refl w.heap.size w).alloc (Nat.le_refl _) (.cells #[.int .i64 v, .slice (some ⟨b, off, none⟩) nn cn] 30)
  have hb2 := hb1.alloc (by simp) (.cells #[.int .i64 (k : Int), .int .i64 iq, .int .i64 oq, .slice sA sn sc] 34)
  have hc : RCells w.heap.size v (some ⟨b, off, none⟩) nn cn (k : Int) iq oq sA sn sc ((w.alloc (.cells #[.int .i64 v, .slice (some ⟨b, off, none⟩) nn cn] 30)).alloc (.cells #[.int .i64 (k : Int), .int .i64 iq, .int .i64 oq, .slice sA sn sc] 34)) := by
    have h2 := Blk.new (w.alloc (.cells #[.int .i64 v, .slice (some ⟨b, off, none⟩) nn cn] 30)) 34 #[.int .i64 (k : Int), .int .i64 iq, .int .i64 oq, .slice sA sn sc]
    rw [World.size_alloc] at h2
    exact ⟨Blk.alloc (Blk.new _ _ _) _, h2⟩
  have q0 := (hb1.cell (p := ⟨b, off + i * 4, none⟩) _hbw).trans _c0
  have q1 := (hb1.cell (p := ⟨b, off + i * 4 + 1, none⟩) _hbw).trans _c1
  have q2 := (hb1.cell (p := ⟨b, off + i * 4 + 2, none⟩) _hbw).trans _c2
  have q3 := (hb1.cell (p := ⟨b, off + i * 4 + 3, none⟩) _hbw).trans _c3
  have HCE := Lib.hid hc
  have HB2 := Lib.hid hb2
  clear hb1 hb2 hc _c0 _c1 _c2 _c3
  have HSTOP : Hid True := Lib.hid trivial
  have hkn : ((k : Int) == -1) = false := by simp
  have hsi : ¬ (0 : Int) < (sn : Int) := by omega
  clear hs0
  go_enter Try.func50, Try.ntmps50
  go_upto_if 26 with (fail)
  obtain ⟨gc, hgc⟩ : ∃ gc, w.heap.size = gc := ⟨_, rfl⟩
  obtain ⟨w2, hw2⟩ : ∃ w2, (w.alloc (.cells #[.int .i64 v, .slice (some ⟨b, off, none⟩) nn cn] 30)).alloc (.cells #[.int .i64 (k : Int), .int .i64 iq, .int .i64 oq, .slice sA sn sc] 34) = w2 := ⟨_, rfl⟩
  rw [hw2] at HCE HB2 ⊢
  rw [hgc] at HCE ⊢
  obtain ⟨k0, k1, k2, k3, k4, k5⟩ := HCE.out.cells
  clear q0 q1 q2 q3 hgc hw2 _hbw _hi HSTOP
  go_wp2_with fail
  refine (HPO.out _ HB2.out).mono ?_
  rintro e w3 ⟨rfl, hb3⟩
  have HB3 := Lib.hid hb3
  clear k0 k1 k2 k3 k4 k5 hb3
  obtain ⟨k0, k1, k2, k3, k4, k5⟩ := (HCE.out.all HB3.out).cells
  obtain ⟨A4, c4, w4, hr4, ho4, hb4⟩ := app_ints (w := w3) (s := (Ai, ni, ci)) (xs := inn) w2.heap.size 22 (NIn.all HII.out (bt HB2.out HB3.out)) (by dsimp only; omega) HB3.out.size
  unfold slV at hr4
  dsimp only at hr4 ho4
  have HR4 := Lib.hid hr4
  have HO4 := Lib.hid ho4
  have HB4 : Hid (Below w2.heap.size w2 w4) := Lib.hid (bt HB3.out hb4)
  clear hr4 ho4 hb4
  go_wp2_with (at_builtin; refine wpList_append_run HR4.out (by rfl) (by rfl) (by rfl) (by rfl) ?_)
  clear HR4 k0 k1 k2 k3 k4 k5
  have HD5 : Hid (Below w2.heap.size w2 w4.drew) := Lib.hid (bt HB4.out (below_drewN (Below.refl _ _) 1))
  obtain ⟨A5, c5, w5, hr5, ho5, hb5⟩ := app_int (w := w4.drew) 22 (k : Int) (HO4.out.all (below_drewN (Below.refl w4.heap.size w4) 1)) (by omega) HD5.out.size
  have HR5 := Lib.hid hr5
  have HO5 := Lib.hid ho5
  have HE5 : Hid (Below w2.heap.size w2 (w4.drew.alloc (.cells #[.int .i64 (k : Int)] 3))) := Lib.hid (HD5.out.alloc HD5.out.size _)
  have HB5 : Hid (Below w2.heap.size w2 w5) := Lib.hid (HD5.out.trans hb5)
  clear hr5 ho5 hb5
--@1
  refine wp_region_held_drew (S := (fun w' => w'.cell? ⟨gc, 0, none⟩ = some (.int .i64 v) ∧ w'.cell? ⟨gc, 1, none⟩ = some (.slice (some ⟨b, off, none⟩) nn cn) ∧ w'.cell? ⟨gc + 1, 0, none⟩ = some (.int .i64 (k : Int)) ∧ w'.cell? ⟨gc + 1, 1, none⟩ = some (.int .i64 iq) ∧ w'.cell? ⟨gc + 1, 2, none⟩ = some (.int .i64 oq) ∧ w'.cell? ⟨gc + 1, 3, none⟩ = some (.slice sA sn sc))) (by kernel_rfl) (HCE.out.all HD5.out).cells (fun hHeld => ?_)
  refine takeH 0 (some 125) (v := ?_) (by rfl) (by rfl) (by kernel_rfl) (by kernel_rfl) (by kernel_rfl) (fun _ _ _ h => h) ?_ (by assumption) ?_
  rotate_left
  · (intro o ho w hSw; obtain ⟨k0, k1, k2, k3, k4, k5⟩ := hSw; cases ho; go_simp; try with_reducible rfl)
  try simp only [Act.put, List.setIfInBounds_toArray, List.set_cons_zero, List.set_cons_succ]
  refine takeH 1 (some 126) (v := ?_) (by rfl) (by rfl) (by kernel_rfl) (by kernel_rfl) (by kernel_rfl) (fun _ _ _ h => h) ?_ (by assumption) ?_
  rotate_left
  · (intro o ho w hSw; obtain ⟨k0, k1, k2, k3, k4, k5⟩ := hSw; cases ho; go_simp; try with_reducible rfl)
  try simp only [Act.put, List.setIfInBounds_toArray, List.set_cons_zero, List.set_cons_succ]
  refine takeH 2 (some 127) (v := ?_) (by rfl) (by rfl) (by kernel_rfl) (by kernel_rfl) (by kernel_rfl) (fun _ _ _ h => h) ?_ (by assumption) ?_
  rotate_left
  · (intro o ho w hSw; obtain ⟨k0, k1, k2, k3, k4, k5⟩ := hSw; cases ho; go_simp; try with_reducible rfl)
  try simp only [Act.put, List.setIfInBounds_toArray, List.set_cons_zero, List.set_cons_succ]
  refine takeH 3 (some 128) (v := ?_) (by rfl) (by rfl) (by kernel_rfl) (by kernel_rfl) (by kernel_rfl) (fun _ _ _ h => h) ?_ (by assumption) ?_
  rotate_left
  · (intro o ho w hSw; obtain ⟨k0, k1, k2, k3, k4, k5⟩ := hSw; cases ho; go_simp; try with_reducible rfl)
  try simp only [Act.put, List.setIfInBounds_toArray, List.set_cons_zero, List.set_cons_succ]
  refine takeH 4 (some 129) (v := ?_) (by rfl) (by rfl) (by kernel_rfl) (by kernel_rfl) (by kernel_rfl) (fun _ _ _ h => h) ?_ (by assumption) ?_
  rotate_left
  · (intro o ho w hSw; obtain ⟨k0, k1, k2, k3, k4, k5⟩ := hSw; cases ho; go_simp; try with_reducible rfl)
  try simp only [Act.put, List.setIfInBounds_toArray, List.set_cons_zero, List.set_cons_succ]
  refine takeH 5 (some 130) (v := ?_) (by rfl) (by rfl) (by kernel_rfl) (by kernel_rfl) (by kernel_rfl) (fun _ _ _ h => h) ?_ (by assumption) ?_
  rotate_left
  · (intro o ho w hSw; obtain ⟨k0, k1, k2, k3, k4, k5⟩ := hSw; cases ho; go_simp; try with_reducible rfl)
  try simp only [Act.put, List.setIfInBounds_toArray, List.set_cons_zero, List.set_cons_succ]
  refine takeH 6 (some 131) (v := ?_) (by rfl) (by rfl) (by kernel_rfl) (by kernel_rfl) (by kernel_rfl) (fun _ _ _ h => h) ?_ (by assumption) ?_
  rotate_left
  · (intro o ho w hSw; obtain ⟨k0, k1, k2, k3, k4, k5⟩ := hSw; cases ho; go_simp; try with_reducible rfl)
  try simp only [Act.put, List.setIfInBounds_toArray, List.set_cons_zero, List.set_cons_succ]
  refine takeH 7 (some 132) (v := ?_) (by rfl) (by rfl) (by kernel_rfl) (by kernel_rfl) (by kernel_rfl) (fun _ _ _ h => h) ?_ (by assumption) ?_
  rotate_left
  · (intro o ho w hSw; obtain ⟨k0, k1, k2, k3, k4, k5⟩ := hSw; cases ho; go_simp; try with_reducible rfl)
  try simp only [Act.put, List.setIfInBounds_toArray, List.set_cons_zero, List.set_cons_succ]
  refine takeH 10 (some 135) (v := ?_) (by rfl) (by rfl) (by kernel_rfl) (by kernel_rfl) (by kernel_rfl) (fun _ _ _ h => h) ?_ (by assumption) ?_
  rotate_left
  · (intro o ho w hSw; obtain ⟨k0, k1, k2, k3, k4, k5⟩ := hSw; cases ho; go_simp; try with_reducible rfl)
  try simp only [Act.put, List.setIfInBounds_toArray, List.set_cons_zero, List.set_cons_succ]
  refine wpAnyH_ready (rs := [8]) (by kernel_rfl) (by simp) ?_
  refine AllReadyH.cons rfl (fun K hK => ?_) AllReadyH.nil
  go_simp
  refine hK.out _ _ ?_ (fun hHa5 => ?_)
  · exact (HCE.out.all HE5.out).cells
  clear hK K
  try simp only [Act.put, List.setIfInBounds_toArray, List.set_cons_zero, List.set_cons_succ]
  refine wpAnyH_ready (rs := [9]) (by kernel_rfl) (by simp) ?_
  refine AllReadyH.cons rfl (fun K hK => ?_) AllReadyH.nil
  refine step_app (t := 22) HR5.out (by kernel_rfl) (by rfl) (by rfl) (by rfl) ?_
  refine hK.out _ _ ?_ (fun hHb5 => ?_)
  · exact (HCE.out.all HB5.out).cells
  clear hK K
  try simp only [Act.put, List.setIfInBounds_toArray]
  refine wpAnyH_ready (rs := [11]) (by kernel_rfl) (by simp) ?_
  refine AllReadyH.cons rfl (fun K hK => ?_) AllReadyH.nil
  go_simp
  go_at_call 50
  (with_reducible refine (H1.out A5 c5 w5 (bt HB2.out HB5.out) HO5.out.nin).mono ?_)
  rintro e w6 ⟨rfl, hb6⟩
  go_wp2
  refine hK.out _ _ ?_ (fun hHc5 => ?_)
  · exact (HCE.out.all (bt HB5.out hb6)).cells
  clear hK K
  try simp only [Act.put, List.setIfInBounds_toArray, List.set_cons_zero, List.set_cons_succ]
  refine takeH 12 (some 17) (v := ?_) (by rfl) (by rfl) (by kernel_rfl) (by kernel_rfl) (by kernel_rfl) (fun _ _ _ h => h) ?_ (by assumption) ?_
  rotate_left
  · (intro o ho w hSw; obtain ⟨k0, k1, k2, k3, k4, k5⟩ := hSw; cases ho; go_simp; try with_reducible rfl)
  (try simp only [Act.put]); (try simp only [List.setIfInBounds_toArray]); (try simp only [List.set_cons_succ]); (try simp only [List.set_cons_zero])
  refine wpAnyH_done (by kernel_rfl) ?_ _
  have HB6 : Hid (Below w2.heap.size w2 w6) := Lib.hid (bt HB5.out hb6)
  clear hb6 hHa5 hHb5 hHc5 hHeld
--@2
  obtain ⟨A7, c7, w7, hr7, ho7, hb7⟩ := app_ints (w := w6) (s := (Ao, no, co)) (xs := out) w2.heap.size 22 (NIn.all HOO.out (bt HB2.out HB6.out)) (by dsimp only; omega) HB6.out.size
  unfold slV at hr7
  dsimp only at hr7 ho7
  have HR7 := Lib.hid hr7
  have HO7 := Lib.hid ho7
  have HB7 : Hid (Below w2.heap.size w2 w7) := Lib.hid (bt HB6.out hb7)
  clear hr7 ho7 hb7
  go_wp2_with (at_builtin; refine wpList_append_run HR7.out (by rfl) (by rfl) (by rfl) (by rfl) ?_)
  clear HR7
--@3
  have HD8 : Hid (Below w2.heap.size w2 w7.drew) := Lib.hid (bt HB7.out (below_drewN (Below.refl _ _) 1))
  refine wp_region_held_drew (S := (fun w' => w'.cell? ⟨gc, 0, none⟩ = some (.int .i64 v) ∧ w'.cell? ⟨gc, 1, none⟩ = some (.slice (some ⟨b, off, none⟩) nn cn) ∧ w'.cell? ⟨gc + 1, 0, none⟩ = some (.int .i64 (k : Int)) ∧ w'.cell? ⟨gc + 1, 1, none⟩ = some (.int .i64 iq) ∧ w'.cell? ⟨gc + 1, 2, none⟩ = some (.int .i64 oq) ∧ w'.cell? ⟨gc + 1, 3, none⟩ = some (.slice sA sn sc))) (by kernel_rfl) (HCE.out.all HD8.out).cells (fun hHeld => ?_)
  refine takeH 0 (some 140) (v := ?_) (by rfl) (by rfl) (by kernel_rfl) (by kernel_rfl) (by kernel_rfl) (fun _ _ _ h => h) ?_ (by assumption) ?_
  rotate_left
  · (intro o ho w hSw; obtain ⟨k0, k1, k2, k3, k4, k5⟩ := hSw; cases ho; go_simp; try with_reducible rfl)
  try simp only [Act.put, List.setIfInBounds_toArray, List.set_cons_zero, List.set_cons_succ]
  refine takeH 1 (some 141) (v := ?_) (by rfl) (by rfl) (by kernel_rfl) (by kernel_rfl) (by kernel_rfl) (fun _ _ _ h => h) ?_ (by assumption) ?_
  rotate_left
  · (intro o ho w hSw; obtain ⟨k0, k1, k2, k3, k4, k5⟩ := hSw; cases ho; go_simp; try with_reducible rfl)
  try simp only [Act.put, List.setIfInBounds_toArray, List.set_cons_zero, List.set_cons_succ]
  first
  | refine skipH 2 (some 142) (by rfl) (by rfl) (by kernel_rfl) (by kernel_rfl) (by kernel_rfl) (fun _ _ _ h => h) (by assumption) ?_
  | refine takeH 2 (some 142) (v := ?_) (by rfl) (by rfl) (by kernel_rfl) (by kernel_rfl) (by kernel_rfl) (fun _ _ _ h => h) ?_ (by assumption) ?_
    rotate_left
    · (intro o ho w hSw; obtain ⟨k0, k1, k2, k3, k4, k5⟩ := hSw; cases ho; go_simp; try with_reducible rfl)
  try simp only [Act.put, List.setIfInBounds_toArray, List.set_cons_zero, List.set_cons_succ]
  first
  | refine skipH 3 (some 143) (by rfl) (by rfl) (by kernel_rfl) (by kernel_rfl) (by kernel_rfl) (fun _ _ _ h => h) (by assumption) ?_
  | refine takeH 3 (some 143) (v := ?_) (by rfl) (by rfl) (by kernel_rfl) (by kernel_rfl) (by kernel_rfl) (fun _ _ _ h => h) ?_ (by assumption) ?_
    rotate_left
    · (intro o ho w hSw; obtain ⟨k0, k1, k2, k3, k4, k5⟩ := hSw; cases ho; go_simp; try with_reducible rfl)
  try simp only [Act.put, List.setIfInBounds_toArray, List.set_cons_zero, List.set_cons_succ]
  first
  | refine skipH 4 (some 144) (by rfl) (by rfl) (by kernel_rfl) (by kernel_rfl) (by kernel_rfl) (fun _ _ _ h => h) (by assumption) ?_
  | refine takeH 4 (some 144) (v := ?_) (by rfl) (by rfl) (by kernel_rfl) (by kernel_rfl) (by kernel_rfl) (fun _ _ _ h => h) ?_ (by assumption) ?_
    rotate_left
    · (intro o ho w hSw; obtain ⟨k0, k1, k2, k3, k4, k5⟩ := hSw; cases ho; go_simp; try with_reducible rfl)
  try simp only [Act.put, List.setIfInBounds_toArray, List.set_cons_zero, List.set_cons_succ]
  first
  | refine skipH 5 (some 145) (by rfl) (by rfl) (by kernel_rfl) (by kernel_rfl) (by kernel_rfl) (fun _ _ _ h => h) (by assumption) ?_
  | refine takeH 5 (some 145) (v := ?_) (by rfl) (by rfl) (by kernel_rfl) (by kernel_rfl) (by kernel_rfl) (fun _ _ _ h => h) ?_ (by assumption) ?_
    rotate_left
    · (intro o ho w hSw; obtain ⟨k0, k1, k2, k3, k4, k5⟩ := hSw; cases ho; go_simp; try with_reducible rfl)
  try simp only [Act.put, List.setIfInBounds_toArray, List.set_cons_zero, List.set_cons_succ]
  first
  | refine skipH 6 (some 146) (by rfl) (by rfl) (by kernel_rfl) (by kernel_rfl) (by kernel_rfl) (fun _ _ _ h => h) (by assumption) ?_
  | refine takeH 6 (some 146) (v := ?_) (by rfl) (by rfl) (by kernel_rfl) (by kernel_rfl) (by kernel_rfl) (fun _ _ _ h => h) ?_ (by assumption) ?_
    rotate_left
    · (intro o ho w hSw; obtain ⟨k0, k1, k2, k3, k4, k5⟩ := hSw; cases ho; go_simp; try with_reducible rfl)
  try simp only [Act.put, List.setIfInBounds_toArray, List.set_cons_zero, List.set_cons_succ]
  first
  | refine skipH 7 (some 147) (by rfl) (by rfl) (by kernel_rfl) (by kernel_rfl) (by kernel_rfl) (fun _ _ _ h => h) (by assumption) ?_
  | refine takeH 7 (some 147) (v := ?_) (by rfl) (by rfl) (by kernel_rfl) (by kernel_rfl) (by kernel_rfl) (fun _ _ _ h => h) ?_ (by assumption) ?_
    rotate_left
    · (intro o ho w hSw; obtain ⟨k0, k1, k2, k3, k4, k5⟩ := hSw; cases ho; go_simp; try with_reducible rfl)
  try simp only [Act.put, List.setIfInBounds_toArray, List.set_cons_zero, List.set_cons_succ]
  first
  | refine skipH 8 (some 148) (by rfl) (by rfl) (by kernel_rfl) (by kernel_rfl) (by kernel_rfl) (fun _ _ _ h => h) (by assumption) ?_
  | refine takeH 8 (some 148) (v := ?_) (by rfl) (by rfl) (by kernel_rfl) (by kernel_rfl) (by kernel_rfl) (fun _ _ _ h => h) ?_ (by assumption) ?_
    rotate_left
    · (intro o ho w hSw; obtain ⟨k0, k1, k2, k3, k4, k5⟩ := hSw; cases ho; go_simp; try with_reducible rfl)
  try simp only [Act.put, List.setIfInBounds_toArray, List.set_cons_zero, List.set_cons_succ]
  first
  | refine skipH 9 (some 149) (by rfl) (by rfl) (by kernel_rfl) (by kernel_rfl) (by kernel_rfl) (fun _ _ _ h => h) (by assumption) ?_
  | refine takeH 9 (some 149) (v := ?_) (by rfl) (by rfl) (by kernel_rfl) (by kernel_rfl) (by kernel_rfl) (fun _ _ _ h => h) ?_ (by assumption) ?_
    rotate_left
    · (intro o ho w hSw; obtain ⟨k0, k1, k2, k3, k4, k5⟩ := hSw; cases ho; go_simp; try with_reducible rfl)
  try simp only [Act.put, List.setIfInBounds_toArray, List.set_cons_zero, List.set_cons_succ]
  first
  | refine skipH 10 (some 150) (by rfl) (by rfl) (by kernel_rfl) (by kernel_rfl) (by kernel_rfl) (fun _ _ _ h => h) (by assumption) ?_
  | refine takeH 10 (some 150) (v := ?_) (by rfl) (by rfl) (by kernel_rfl) (by kernel_rfl) (by kernel_rfl) (fun _ _ _ h => h) ?_ (by assumption) ?_
    rotate_left
    · (intro o ho w hSw; obtain ⟨k0, k1, k2, k3, k4, k5⟩ := hSw; cases ho; go_simp; try with_reducible rfl)
  try simp only [Act.put, List.setIfInBounds_toArray, List.set_cons_zero, List.set_cons_succ]
  first
  | refine skipH 11 (some 151) (by rfl) (by rfl) (by kernel_rfl) (by kernel_rfl) (by kernel_rfl) (fun _ _ _ h => h) (by assumption) ?_
  | refine takeH 11 (some 151) (v := ?_) (by rfl) (by rfl) (by kernel_rfl) (by kernel_rfl) (by kernel_rfl) (fun _ _ _ h => h) ?_ (by assumption) ?_
    rotate_left
    · (intro o ho w hSw; obtain ⟨k0, k1, k2, k3, k4, k5⟩ := hSw; cases ho; go_simp; try with_reducible rfl)
  try simp only [Act.put, List.setIfInBounds_toArray, List.set_cons_zero, List.set_cons_succ]
  first
  | refine skipH 12 (some 152) (by rfl) (by rfl) (by kernel_rfl) (by kernel_rfl) (by kernel_rfl) (fun _ _ _ h => h) (by assumption) ?_
  | refine takeH 12 (some 152) (v := ?_) (by rfl) (by rfl) (by kernel_rfl) (by kernel_rfl) (by kernel_rfl) (fun _ _ _ h => h) ?_ (by assumption) ?_
    rotate_left
    · (intro o ho w hSw; obtain ⟨k0, k1, k2, k3, k4, k5⟩ := hSw; cases ho; go_simp; try with_reducible rfl)
  try simp only [Act.put, List.setIfInBounds_toArray, List.set_cons_zero, List.set_cons_succ]
  first
  | refine skipH 13 (some 153) (by rfl) (by rfl) (by kernel_rfl) (by kernel_rfl) (by kernel_rfl) (fun _ _ _ h => h) (by assumption) ?_
  | refine takeH 13 (some 153) (v := ?_) (by rfl) (by rfl) (by kernel_rfl) (by kernel_rfl) (by kernel_rfl) (fun _ _ _ h => h) ?_ (by assumption) ?_
    rotate_left
    · (intro o ho w hSw; obtain ⟨k0, k1, k2, k3, k4, k5⟩ := hSw; cases ho; go_simp; try with_reducible rfl)
  try simp only [Act.put, List.setIfInBounds_toArray, List.set_cons_zero, List.set_cons_succ]
  refine takeH 14 (some 154) (v := ?_) (by rfl) (by rfl) (by kernel_rfl) (by kernel_rfl) (by kernel_rfl) (fun _ _ _ h => h) ?_ (by assumption) ?_
  rotate_left
  · (intro o ho w hSw; obtain ⟨k0, k1, k2, k3, k4, k5⟩ := hSw; cases ho; go_simp; try with_reducible rfl)
  try simp only [Act.put, List.setIfInBounds_toArray, List.set_cons_zero, List.set_cons_succ]
  refine takeH 15 (some 12) (v := ?_) (by rfl) (by rfl) (by kernel_rfl) (by kernel_rfl) (by kernel_rfl) (fun _ _ _ h => h) ?_ (by assumption) ?_
  rotate_left
  · (intro o ho w hSw; obtain ⟨k0, k1, k2, k3, k4, k5⟩ := hSw; cases ho; go_simp; try with_reducible rfl)
  try simp only [Act.put, List.setIfInBounds_toArray, List.set_cons_zero, List.set_cons_succ]
  refine wpAnyH_done (by kernel_rfl) ?_ _
  go_wp2
  go_ret
  exact ⟨rfl, bt HB2.out HD8.out⟩
end Go.Proofs.Ytikfcpkobgejmaa
