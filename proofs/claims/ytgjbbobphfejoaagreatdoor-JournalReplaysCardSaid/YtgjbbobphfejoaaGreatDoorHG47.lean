/- JournalReplays: the disk and its log, told by the types of their blocks. -/
import Derived.Test.YtgjbbobphfejoaaGreatDoorHG46
import Derived.Test.YtgjbbobphfejoaaGreatDoorHG37
import Derived.Test.YtgjbbobphfejoaaGreatDoorHG38

namespace Go.Proofs.YtgjbbobphfejoaaGreatDoor
open Go.RowKit

/-- The kinds of blocks that the disk's and the log's calls may turn. -/
def DkF (mb : Nat) (w : World) (b : Nat) : Prop := b = mb ∨ Ty w b 93 ∨ Ty w b 115 ∨ Ty w b 5 ∨ Ty w b 80
def MR (B mb : Nat) (w w' : World) : Prop := Mod (fun b => DkF mb w b ∧ B ≤ b) w w'
structure RL (B g mb gl room : Nat) (off : Bool) (plan : Int) (st : List (Int × List UInt8 × Nat)) (len : Nat) (up : Bool) (w : World) : Prop where
  dsk : ∃ fs, DskAt w g mb room off plan fs ∧ fs.map Fl.log = st ∧ (∀ b, DskF g mb fs b → B ≤ b) ∧ ¬ DskF g mb fs gl
  log : LogAt w gl g 1 len up
  glo : B ≤ gl
  size : B ≤ w.heap.size
theorem DskAt.kind {w : World} {g mb room : Nat} {off : Bool} {plan : Int} {fs : List Fl} (h : DskAt w g mb room off plan fs) : ∀ b, DskF g mb fs b → DkF mb w b := by
  rintro b (rfl | rfl | ⟨f, hf, (rfl | e)⟩)
  · exact .inr (.inl h.blk.ty)
  · exact .inl rfl
  · exact .inr (.inr (.inl (h.ok f hf).1.ty))
  · exact .inr (.inr (.inr (.inl (Ty.of_own (h.ok f hf).2.1 e))))
section
variable {B g mb gl room : Nat} {off : Bool} {plan : Int} {st : List (Int × List UInt8 × Nat)} {len : Nat} {up : Bool} {w w' : World} {F : Nat → Prop}
theorem RL.glk (h : RL B g mb gl room off plan st len up w) : DkF mb w gl := .inr (.inr (.inr (.inr (Blk.ty h.log))))
theorem RL.mod (h : RL B g mb gl room off plan st len up w) (m : Mod F w w') (hF : ∀ b, F b → ¬ (DkF mb w b ∧ B ≤ b)) : RL B g mb gl room off plan st len up w' := by
  obtain ⟨⟨fs, h1, h2, h3, h4⟩, h5, h6, h7⟩ := id h
  exact ⟨⟨fs, h1.mod m (fun b hb hf => hF b hf ⟨h1.kind b hb, h3 b hb⟩), h2, h3, h4⟩, m.blk h5 (fun hf => hF _ hf ⟨h.glk, h6⟩), h6, Nat.le_trans h7 m.size⟩
theorem RL.all (h : RL B g mb gl room off plan st len up w) (hb : Below w.heap.size w w') : RL B g mb gl room off plan st len up w' := h.mod (F := fun _ => False) (Mod.of_below _ hb) (fun _ hf => hf.elim)
theorem RL.next (h : RL B g mb gl room off plan st len up w) : ∃ fs, DskAt w g mb room off plan fs ∧ fs.map Fl.log = st ∧ ¬ DskF g mb fs gl ∧
    (∀ off' plan' len' up' st' w', LogNext gl g mb room 1 off' plan' len' up' fs st' w w' → RL B g mb gl room off' plan' st' len' up' w' ∧ MR B mb w w') ∧
    (∀ off' plan' st' w', DskNext g mb room off' plan' fs st' w w' → RL B g mb gl room off' plan' st' len up w' ∧ MR B mb w w') ∧
    (∀ w', LogAt w' gl g 1 len up → Mod (fun b => b = gl) w w' → RL B g mb gl room off plan st len up w' ∧ MR B mb w w') := by
  obtain ⟨⟨fs, h1, h2, h3, h4⟩, h5, h6, h7⟩ := id h
  have hK : ∀ b, (DskF g mb fs b ∨ b = gl) → DkF mb w b ∧ B ≤ b := by
    rintro b (hb | rfl)
    · exact ⟨h1.kind b hb, h3 b hb⟩
    · exact ⟨h.glk, h6⟩
  have hlt := Blk.lt h5
  refine ⟨fs, h1, h2, h4, ?_, ?_, ?_⟩
  · rintro off' plan' len' up' st' w' ⟨fs', k1, k2, k3, m, k5⟩
    have hs := m.size
    refine ⟨⟨⟨fs', k2, k1, fun b hb => ?_, fun hb => ?_⟩, k3, h6, Nat.le_trans h7 hs⟩, m.mono (fun b hb => .inl (hK b hb))⟩
    · rcases k5 b hb with h | h
      · exact h3 b h
      · omega
    · rcases k5 gl hb with h | h
      · exact h4 h
      · omega
  · rintro off' plan' st' w' ⟨fs', k1, k2, m, k5⟩
    have hs := m.size
    refine ⟨⟨⟨fs', k2, k1, fun b hb => ?_, fun hb => ?_⟩, m.blk h5 h4, h6, Nat.le_trans h7 hs⟩, m.mono (fun b hb => .inl (hK b (.inl hb)))⟩
    · rcases k5 b hb with h | h
      · exact h3 b h
      · omega
    · rcases k5 gl hb with h | h
      · exact h4 h
      · omega
  · rintro w' k3 m
    exact ⟨⟨⟨fs, h1.mod m (fun b hb e => h4 (e ▸ hb)), h2, h3, h4⟩, k3, h6, Nat.le_trans h7 m.size⟩, m.mono (fun b hb => .inl (hK b (.inr hb)))⟩
end
/-- The log while the power may fail: the records xs were tried, the first dn of them are kept for sure. -/
def DurR (B g mb gl : Nat) (xs : List (List UInt8)) (dn : Nat) (w : World) : Prop :=
  (dn = xs.length ∧ ∃ pl : Nat, RL B g mb gl 20000 false (pl : Int) (fileSt 1 (framesB 0 xs) (framesB 0 xs).length) xs.length true w) ∨
  (dn < xs.length ∧ ∃ y, xs[dn]? = some y ∧ RL B g mb gl 20000 true (-1) (fileSt 1 (framesB 0 (xs.take dn) ++ frameB (dn : Nat) y) (framesB 0 (xs.take dn)).length) dn false w)
section
variable {B g mb gl dn : Nat} {xs : List (List UInt8)} {w w' : World} {F : Nat → Prop}
theorem DurR.mod (h : DurR B g mb gl xs dn w) (m : Mod F w w') (hF : ∀ b, F b → ¬ (DkF mb w b ∧ B ≤ b)) : DurR B g mb gl xs dn w' := h.imp (fun ⟨h1, pl, h2⟩ => ⟨h1, pl, h2.mod m hF⟩) (fun ⟨h1, y, h2, h3⟩ => ⟨h1, y, h2, h3.mod m hF⟩)
theorem DurR.all (h : DurR B g mb gl xs dn w) (hb : Below w.heap.size w w') : DurR B g mb gl xs dn w' := h.mod (F := fun _ => False) (Mod.of_below _ hb) (fun _ hf => hf.elim)
theorem frames_le2 (xs : List (List UInt8)) (hx : ∀ x ∈ xs, x.length ≤ 60) (hn : xs.length ≤ 100) : (framesB 0 xs).length ≤ 100 * xs.length := by
  have : ∀ (n : Nat), n ≤ xs.length → (framesB 0 (xs.take n)).length ≤ 100 * n := by
    intro n
    induction n with
    | zero => intro _; simp [framesB_nil]
    | succ n ih =>
      intro hl
      have h1 := ih (by omega)
      have hlt : n < xs.length := by omega
      rw [← List.take_append_getElem hlt, framesB_snoc, List.length_append]
      have h2 := hx xs[n] (List.getElem_mem hlt)
      have h3 : (xs.take n).length = n := by rw [List.length_take]; omega
      have h4 := frameB_len (k := ((0 + (xs.take n).length : Nat) : Int)) (bs := xs[n]) (by rw [h3]; exact ⟨by omega, by omega⟩) (by omega)
      omega
  have h := this xs.length (Nat.le_refl _)
  rw [List.take_length] at h
  exact h
end
set_option maxHeartbeats 1000000 in
theorem jrappend_any (B g mb gl dn : Nat) (xs : List (List UInt8)) (x : List UInt8) (A : Option Addr) (n c : Nat) (w : World) (HD : Hid (DurR B g mb gl xs dn w)) (HX : Hid (∀ x ∈ xs, x.length ≤ 60)) (hxl : xs.length ≤ 20) (HN : Hid (x.length = n)) (hn : n ≤ 60) (HR : Hid (Rd w w.heap.size A n (vByte x))) :
    Calls Tryz.prog 15 #[.pointer (some ⟨gl, 0, none⟩), .slice A n c] w fun e w' => ((e = .returned (.int .i64 0) ∧ DurR B g mb gl (xs ++ [x]) (dn + 1) w') ∨ (e = .returned (.int .i64 23) ∧ DurR B g mb gl (xs ++ [x]) dn w')) ∧ MR B mb w w' := by
  have hfl := frames_le2 xs HX.out (by omega)
  have hll : (xs ++ [x]).length = xs.length + 1 := by rw [List.length_append]; rfl
  rcases HD.out with ⟨rfl, pl, h⟩ | ⟨h1, y, hy, h⟩
  · obtain ⟨fs, hD, hst, hgl, hN, -, -⟩ := h.next
    have hf2 := frameB_len (k := (xs.length : Nat)) (bs := x) ⟨by omega, by omega⟩ (by rw [HN.out]; omega)
    rw [HN.out] at hf2
    have e1 : framesB 0 (xs ++ [x]) = framesB 0 xs ++ frameB (xs.length : Nat) x := by rw [framesB_snoc, Nat.zero_add]
    have hne : ¬ (framesB 0 xs ++ frameB (xs.length : Nat) x = []) := fun h => by
      have h1 := congrArg List.length h
      rw [List.length_append] at h1
      have := frameB_pos (xs.length : Nat) x
      rw [List.length_nil] at h1
      omega
    have hroom : sumL fs + (frameB (xs.length : Int) x).length ≤ 20000 := by rw [fileSt_sum hst]; omega
    by_cases hpl : pl ≤ 1
    · have e2 : [((1 : Int), framesB 0 xs ++ frameB (xs.length : Nat) x, (framesB 0 xs).length)] = fileSt 1 (framesB 0 xs ++ frameB (xs.length : Nat) x) (framesB 0 xs).length := by
        unfold fileSt
        rw [if_neg hne]
      have HS := Lib.hid (fileSt_app hst (frameB (xs.length : Nat) x))
      rw [e2] at HS
      have hout : ∀ w', RL B g mb gl 20000 true (-1) (fileSt 1 (framesB 0 xs ++ frameB (xs.length : Nat) x) (framesB 0 xs).length) xs.length false w' → DurR B g mb gl (xs ++ [x]) xs.length w' := fun w' hr => .inr ⟨by omega, x, by simp, by rw [List.take_left]; exact hr⟩
      have hp : pl = 0 ∨ pl = 1 := by omega
      rcases hp with rfl | rfl
      · refine (logAppend_fail1 gl g mb 20000 1 xs.length 0 fs _ A n c x w (Lib.hid h.log) (Lib.hid hD) hgl (by omega) HN HR (by omega) (by decide) (by decide) hroom HS (Lib.hid rfl)).mono ?_
        rintro e w' ⟨rfl, hn'⟩
        obtain ⟨q1, q2⟩ := hN _ _ _ _ _ _ hn'
        exact ⟨.inr ⟨rfl, hout _ q1⟩, q2⟩
      · refine (logAppend_fail2 gl g mb 20000 1 xs.length 1 fs _ A n c x w (Lib.hid h.log) (Lib.hid hD) hgl (by omega) HN HR (by omega) (by decide) (by decide) hroom HS (Lib.hid rfl) (Lib.hid rfl)).mono ?_
        rintro e w' ⟨rfl, hn'⟩
        obtain ⟨q1, q2⟩ := hN _ _ _ _ _ _ hn'
        exact ⟨.inr ⟨rfl, hout _ q1⟩, q2⟩
    · have HO1 : Hid (failOff false (pl : Int) = false) := Lib.hid (by unfold failOff; rw [Bool.false_or, beq_eq_false_iff_ne]; omega)
      have HFP : Hid (failPlan (pl : Int) = (pl : Int) - 1) := Lib.hid (by unfold failPlan; rw [if_pos (by omega)])
      have HO2 : Hid (failOff false (failPlan (pl : Int)) = false) := Lib.hid (by rw [HFP.out]; unfold failOff; rw [Bool.false_or, beq_eq_false_iff_ne]; omega)
      have HFP2 : Hid (failPlan (failPlan (pl : Int)) = ((pl - 2 : Nat) : Int)) := Lib.hid (by rw [HFP.out]; unfold failPlan; rw [if_pos (by omega)]; omega)
      refine (logAppend_ok gl g mb 20000 1 xs.length pl fs _ A n c x w (Lib.hid h.log) (Lib.hid hD) hgl (by omega) HN HR (by omega) (by decide) (by decide) hroom (Lib.hid (fileSt_app hst _)) HO1 HO2).mono ?_
      rintro e w' ⟨rfl, hn'⟩
      have e2 : syncLog [((1 : Int), framesB 0 xs ++ frameB (xs.length : Nat) x, (framesB 0 xs).length)] = fileSt 1 (framesB 0 (xs ++ [x])) (framesB 0 (xs ++ [x])).length := by
        unfold fileSt
        rw [e1, if_neg hne]
        rfl
      rw [e2, HFP2.out] at hn'
      obtain ⟨q1, q2⟩ := hN _ _ _ _ _ _ hn'
      exact ⟨.inl ⟨rfl, .inl ⟨by omega, pl - 2, by rw [hll]; exact q1⟩⟩, q2⟩
  · obtain ⟨fs, hD, hst, hgl, -, -, hL⟩ := h.next
    refine (logAppend_down gl g 1 dn A n c w (Lib.hid h.log) (by omega)).mono ?_
    rintro e w' ⟨rfl, k3, m⟩
    obtain ⟨q1, q2⟩ := hL _ k3 m
    refine ⟨.inr ⟨rfl, .inr ⟨by omega, y, ?_, ?_⟩⟩, q2⟩
    · rw [List.getElem?_append_left h1]; exact hy
    · rw [List.take_append_of_le_length (by omega)]; exact q1
/-- The log behind the crash. -/
def DurX (B g mb gl : Nat) (xs : List (List UInt8)) (dn : Nat) (w w' : World) : Prop :=
  ∃ b2 rs ln up, RL B g mb gl 20000 false (-1) (fileSt 1 b2 b2.length) ln up w' ∧ ScanIs b2 rs (framesB 0 rs).length ∧ rs = xs.take rs.length ∧ dn ≤ rs.length ∧ rs.length ≤ dn + 1 ∧ rs.length ≤ xs.length ∧ MR B mb w w'
theorem jrcrash_any (B g mb gl dn : Nat) (xs : List (List UInt8)) (A : Option Addr) (n c : Nat) (K : List Int) (w : World) (HD : Hid (DurR B g mb gl xs dn w)) (HX : Hid (∀ x ∈ xs, x.length ≤ 60)) (hxl : xs.length ≤ 20) (HN : Hid (K.length = n)) (HR : Hid (Rd w w.heap.size A n (vInt K))) (HW : Hid (∀ k ∈ K, -9223372036854775808 ≤ k ∧ k ≤ 9223372036854775807)) (hnc : n ≤ 1000000) :
    Calls Tryz.prog 18 #[.pointer (some ⟨g, 0, none⟩), .slice A n c, .int .i64 (-1)] w fun e w' => e = .returned (.tuple #[]) ∧ DurX B g mb gl xs dn w w' := by
  rcases HD.out with ⟨rfl, pl, h⟩ | ⟨h1, y, hy, h⟩
  · obtain ⟨fs, hD, hst, hgl, -, hN, -⟩ := h.next
    obtain ⟨kp, st1, st2, hT, hS⟩ := crash_st hst K (-1)
    refine (crash_any g mb 20000 false pl fs A n c K (-1) kp st1 st2 w (Lib.hid hD) (by have := fileSt_len hst; omega) (Lib.hid (fileSt_num hst (by decide) (by decide))) HN HR HW hnc (by decide) (by decide) (Lib.hid hT)).mono ?_
    rintro e w' ⟨rfl, k⟩
    rw [hS] at k
    obtain ⟨q1, q2⟩ := hN _ _ _ _ k
    obtain ⟨m, hm⟩ := crash_cut (framesB 0 xs) [] K
    rw [List.append_nil, List.take_nil, List.append_nil] at hm
    rw [hm] at q1
    exact ⟨rfl, _, xs, _, _, q1, scan_frames xs, by rw [List.take_length], Nat.le_refl _, by omega, Nat.le_refl _, q2⟩
  · obtain ⟨fs, hD, hst, hgl, -, hN, -⟩ := h.next
    obtain ⟨kp, st1, st2, hT, hS⟩ := crash_st hst K (-1)
    refine (crash_any g mb 20000 true (-1) fs A n c K (-1) kp st1 st2 w (Lib.hid hD) (by have := fileSt_len hst; omega) (Lib.hid (fileSt_num hst (by decide) (by decide))) HN HR HW hnc (by decide) (by decide) (Lib.hid hT)).mono ?_
    rintro e w' ⟨rfl, k⟩
    rw [hS] at k
    obtain ⟨q1, q2⟩ := hN _ _ _ _ k
    obtain ⟨m, hm⟩ := crash_cut (framesB 0 (xs.take dn)) (frameB (dn : Nat) y) K
    rw [hm] at q1
    obtain ⟨hlt, hy'⟩ := List.getElem?_eq_some_iff.1 hy
    have htl : (xs.take dn).length = dn := by rw [List.length_take]; omega
    have hyl := HX.out y (by rw [← hy']; exact List.getElem_mem _)
    have hfl := frameB_len (k := ((xs.take dn).length : Nat)) (bs := y) (by rw [htl]; exact ⟨by omega, by omega⟩) (by omega)
    obtain ⟨rs, hs, hrs⟩ := scan_part (xs.take dn) y m (by omega)
    rw [htl] at hs
    refine ⟨rfl, _, rs, _, _, q1, hs, ?_⟩
    rcases hrs with rfl | rfl
    · exact ⟨by rw [htl], by omega, by omega, by omega, q2⟩
    · have e : (xs.take dn ++ [y]).length = dn + 1 := by rw [List.length_append, htl]; rfl
      exact ⟨by rw [e, ← List.take_append_getElem hlt, hy'], by omega, by omega, by omega, q2⟩
end Go.Proofs.YtgjbbobphfejoaaGreatDoor

/- JournalReplays: what stands at the heads of its loops: steps, ledger, states; the log beside them. -/
namespace Go.Proofs.YtgjbbobphfejoaaGreatDoor
open Go.RowKit

structure RJ (B mb gA : Nat) (mx : Int → Bool) (v15 : Value) (ps : List Stp) (v18 : Value) (qs : Qs) (S : LSt) (w : World) : Prop where
  steps : StpsAt B w v15 ps
  led : ∃ L, LedAt mx w L S ∧ L.gl = gA ∧ L.it.2.1 = 4 ∧ ∀ b, LedF L b → b ≠ mb ∧ v15.ownBlock ≠ some b ∧ B ≤ b
  sts : StatesAt B mx w v18 qs
theorem DurR.mbt {B g mb gl dn : Nat} {xs : List (List UInt8)} {w : World} (h : DurR B g mb gl xs dn w) : (∀ t, ¬ Ty w mb t) ∧ mb < w.heap.size := by
  rcases h with ⟨-, pl, h⟩ | ⟨-, y, -, h⟩
  · obtain ⟨⟨fs, h1, -⟩, -⟩ := h
    exact ⟨fun t => h1.map.not_ty, h1.ltF mb (.inr (.inl rfl))⟩
  · obtain ⟨⟨fs, h1, -⟩, -⟩ := h
    exact ⟨fun t => h1.map.not_ty, h1.ltF mb (.inr (.inl rfl))⟩
theorem DurR.size {B g mb gl dn : Nat} {xs : List (List UInt8)} {w : World} (h : DurR B g mb gl xs dn w) : B ≤ w.heap.size := by
  rcases h with ⟨-, pl, h⟩ | ⟨-, y, -, h⟩
  · exact h.size
  · exact h.size
theorem DkF.not_ty {mb b t : Nat} {w : World} (h : DkF mb w b) (hm : ∀ t, ¬ Ty w mb t) (ht : Ty w b t) : t = 93 ∨ t = 115 ∨ t = 5 ∨ t = 80 := by
  rcases h with rfl | h | h | h | h
  · exact absurd ht (hm t)
  · exact .inl (ht.unique h)
  · exact .inr (.inl (ht.unique h))
  · exact .inr (.inr (.inl (ht.unique h)))
  · exact .inr (.inr (.inr (ht.unique h)))
theorem StatesAt.ty {B : Nat} {mx : Int → Bool} {w : World} {v : Value} {qs : Qs} (h : StatesAt B mx w v qs) {b : Nat} (hb : v.ownBlock = some b) : Ty w b 51 := by
  obtain ⟨vals, a1, a2, a3⟩ := h
  exact Ty.of_own a2 hb
section
variable {B g mb gl gA dn : Nat} {mx : Int → Bool} {v15 v18 : Value} {ps : List Stp} {qs : Qs} {S : LSt} {xs : List (List UInt8)} {w w' : World}
theorem RJ.all (h : RJ B mb gA mx v15 ps v18 qs S w) (hb : Below w.heap.size w w') : RJ B mb gA mx v15 ps v18 qs S w' := by
  obtain ⟨L, h1, h2⟩ := h.led
  exact ⟨h.steps.all hb, ⟨L, h1.all hb, h2⟩, h.sts.all hb⟩
/-- Behind a call of the disk or the log. -/
theorem RJ.log (h : RJ B mb gA mx v15 ps v18 qs S w) (hm : ∀ t, ¬ Ty w mb t) (m : MR B mb w w') : RJ B mb gA mx v15 ps v18 qs S w' := by
  obtain ⟨L, h1, h2, h3, h4⟩ := h.led
  refine ⟨h.steps.mod m (fun b hb => ⟨fun e => ?_, fun ht => ?_⟩), ⟨L, h1.mod m (fun b hb => ⟨fun hl => ?_, fun ht => ?_, fun ht => ?_⟩), h2, h3, h4⟩, h.sts.mod m (fun b hb => ⟨fun e => ?_, fun ht => ?_⟩)⟩
  · exact absurd (hb.1.not_ty hm (Ty.of_own h.steps.own e)) (by decide)
  · exact absurd (hb.1.not_ty hm ht) (by decide)
  · rcases hb.1 with e | ht | ht | ht | ht
    · exact (h4 b hl).1 e
    · exact h1.not_ty hl ht (by decide) (by decide) (by decide)
    · exact h1.not_ty hl ht (by decide) (by decide) (by decide)
    · exact h1.not_ty hl ht (by decide) (by decide) (by decide)
    · exact h1.not_ty hl ht (by decide) (by decide) (by decide)
  · exact absurd (hb.1.not_ty hm ht) (by decide)
  · exact absurd (hb.1.not_ty hm ht) (by decide)
  · exact absurd (hb.1.not_ty hm (h.sts.ty e)) (by decide)
  · exact absurd (hb.1.not_ty hm ht) (by decide)
/-- Behind a Post. -/
theorem RJ.post (h : RJ B mb gA mx v15 ps v18 qs S w) (hD : DurR B g mb gl xs dn w) {L L' : Led} {S' : LSt} (h1 : LedAt mx w L S) (h2 : L.gl = gA) (h3 : L.it.2.1 = 4) (h4 : ∀ b, LedF L b → b ≠ mb ∧ v15.ownBlock ≠ some b ∧ B ≤ b) (k1 : LedAt mx w' L' S') (k2 : LedSame L L') (m : Mod (LedF L) w w') (k4 : ∀ b, LedF L' b → LedF L b ∨ w.heap.size ≤ b) :
    RJ B mb gA mx v15 ps v18 qs S' w' ∧ DurR B g mb gl xs dn w' ∧ Below B w w' := by
  have hm := hD.mbt
  have hsz := hD.size
  refine ⟨⟨h.steps.mod m (fun b hb => ⟨(h4 b hb).2.1, fun ht => h1.not_ty hb ht (by decide) (by decide) (by decide)⟩), ⟨L', k1, by rw [k2.1]; exact h2, by rw [k2.2.2.2.2.2]; exact h3, fun b hb => ?_⟩, h.sts.mod m (fun b hb => ⟨fun e => h1.not_ty hb (h.sts.ty e) (by decide) (by decide) (by decide), fun ht => h1.not_ty hb ht (by decide) (by decide) (by decide)⟩)⟩, hD.mod m (fun b hb hk => ?_), m.below (Below.refl _ _) hsz (fun b hb => (h4 b hb).2.2)⟩
  · rcases k4 b hb with hl | hl
    · exact h4 b hl
    · exact ⟨fun e => by have := hm.2; omega, fun e => by have := (h.steps.own.lt b e).2; omega, by omega⟩
  · rcases hk.1 with e | ht | ht | ht | ht
    · exact (h4 b hb).1 e
    · exact h1.not_ty hb ht (by decide) (by decide) (by decide)
    · exact h1.not_ty hb ht (by decide) (by decide) (by decide)
    · exact h1.not_ty hb ht (by decide) (by decide) (by decide)
    · exact h1.not_ty hb ht (by decide) (by decide) (by decide)
/-- Behind an append to the states. -/
theorem RJ.push (h : RJ B mb gA mx v15 ps v18 qs S w) (hD : DurR B g mb gl xs dn w) {v' : Value} {qs' : Qs} (k : StatesAt B mx w' v' qs') (m : Mod (fun b => v18.ownBlock = some b) w w') : RJ B mb gA mx v15 ps v' qs' S w' ∧ DurR B g mb gl xs dn w' := by
  have hm := hD.mbt
  obtain ⟨L, h1, h2, h3, h4⟩ := h.led
  have hty : ∀ {b t : Nat}, v18.ownBlock = some b → Ty w b t → t = 51 := fun hb ht => ht.unique (h.sts.ty hb)
  refine ⟨⟨h.steps.mod m (fun b hb => ⟨fun e => ?_, fun ht => ?_⟩), ⟨L, h1.mod m (fun b hb => ⟨fun hl => ?_, fun ht => ?_, fun ht => ?_⟩), h2, h3, h4⟩, k⟩, hD.mod m (fun b hb hk => ?_)⟩
  · exact absurd (hty hb (Ty.of_own h.steps.own e)) (by decide)
  · exact absurd (hty hb ht) (by decide)
  · exact h1.not_ty hl (h.sts.ty hb) (by decide) (by decide) (by decide)
  · exact absurd (hty hb ht) (by decide)
  · exact absurd (hty hb ht) (by decide)
  · exact absurd (hk.1.not_ty hm.1 (h.sts.ty hb)) (by decide)
end
end Go.Proofs.YtgjbbobphfejoaaGreatDoor

/- JournalReplays: Can, Post and Holdings at the heads' invariant. -/
namespace Go.Proofs.YtgjbbobphfejoaaGreatDoor
open Go.RowKit

theorem stepOk_of {mx : Int → Bool} {w : World} {L : Led} {S : LSt} {j b : Nat} {z : Bool} {m : Mv} (hq : QOk (z, m)) (hb : Blk w b 47 (mvV m).toArray) (hi : SInv mx j S) (hj : j ≤ 1000) (h4 : L.it.2.1 = 4) : StepOk mx w L S ((40 * j : Nat) : Int) z 0 0 (some ⟨b, 0, none⟩) 1 1 [m] where
  mv := ⟨rfl, Nat.le_refl _, by decide, fun _ => by
    obtain ⟨cs, fr, hh⟩ := hb.ty
    refine ⟨b, 0, cs, fr, rfl, hh, fun k hk => ?_⟩
    have := hb.cell k
    simp only [World.cell?, hh] at this
    rw [Nat.zero_add]
    simpa using this⟩
  ok := fun x hx => by
    rw [List.mem_singleton] at hx
    subst hx
    have h1 := hq.n
    have h2 := hq.f
    have h3 := hq.d
    have h5 := hq.i
    dsimp only at h1 h2 h3 h5
    exact ⟨h5.1, by rw [h4]; omega, h1.1, by omega, h2.1, by omega, h3.1, by omega, hq.ne⟩
  from_ := fun x hx => by
    rw [List.mem_singleton] at hx
    subst hx
    exact hq.frm
  n0 := Nat.le_refl _
  n1 := by decide
  ac := by decide
  t0 := by decide
  t1 := by decide
  t2 := by rw [hi.now]; exact Int.le_refl _
  ns := by rw [hi.ns]; omega
  k := by
    have := hq.n.2
    have e : sumN [m] = m.n := by simp [sumN]
    rw [e]
    dsimp only at this
    omega
  it := by rw [h4]; decide
  nf := by rw [hi.nf]; omega
section
variable {B g mb gl gA dn : Nat} {mx : Int → Bool} {v15 v18 : Value} {ps : List Stp} {qs : Qs} {S : LSt} {xs : List (List UInt8)} {w : World}
theorem rj_can (b : Nat) (z : Bool) (m : Mv) (j : Nat) (HJ : Hid (RJ B mb gA mx v15 ps v18 qs S w)) (hq : Hid (QOk (z, m))) (hb : Hid (Blk w b 47 (mvV m).toArray)) (hi : Hid (SInv mx j S)) (hj : j ≤ 1000) :
    Calls Tryz.prog 13 #[.pointer (some ⟨gA, 0, none⟩), stA 0 (kindZ z) 0 0 (-1) 0 (.slice (some ⟨b, 0, none⟩) 1 1)] w fun e w' => e = .returned (.int .i64 (errOf (mvsP mx S [m]))) ∧ Below w.heap.size w w' := by
  obtain ⟨L, h1, h2, h3, h4⟩ := HJ.out.led
  rw [← h2]
  exact can_any mx _ L S z 0 0 0 _ 1 1 [m] w (Lib.hid h1) (Lib.hid hi.out.ok) (Lib.hid (stepOk_of hq.out hb.out hi.out hj h3))
theorem rj_post (b : Nat) (z : Bool) (m : Mv) (j : Nat) (S' : LSt) (HJ : Hid (RJ B mb gA mx v15 ps v18 qs S w)) (HD : Hid (DurR B g mb gl xs dn w)) (hq : Hid (QOk (z, m))) (hb : Hid (Blk w b 47 (mvV m).toArray)) (hi : Hid (SInv mx j S)) (hj : j ≤ 1000) (hs : Hid (stepS mx S (z, m) = .ok S')) :
    Calls Tryz.prog 17 #[.pointer (some ⟨gA, 0, none⟩), stA 0 (kindZ z) 0 0 (-1) 0 (.slice (some ⟨b, 0, none⟩) 1 1)] w fun e w' => ∃ k : Int, e = .returned (.tuple #[.int .i64 k, .int .i64 0]) ∧ RJ B mb gA mx v15 ps v18 qs S' w' ∧ DurR B g mb gl xs dn w' ∧ Below B w w' := by
  obtain ⟨L, h1, h2, h3, h4⟩ := HJ.out.led
  have HP := post_any mx _ L S z 0 0 0 _ 1 1 [m] w (Lib.hid h1) (Lib.hid hi.out.ok) (Lib.hid (stepOk_of hq.out hb.out hi.out hj h3))
  rw [h2] at HP
  refine HP.mono ?_
  intro e w' hp
  have hs' := hs.out
  unfold PostPost at hp
  unfold stepS at hs'
  cases hm : mvsP mx S [m] with
  | error er => rw [hm] at hs'; cases hs'
  | ok S1 =>
    rw [hm] at hp hs'
    dsimp only at hp hs'
    injection hs' with hs'
    subst hs'
    obtain ⟨L', rfl, k1, k2, k3, k4⟩ := hp
    obtain ⟨q1, q2, q3⟩ := HJ.out.post HD.out h1 h2 h3 h4 k1 k2 k3 k4
    exact ⟨_, rfl, q1, q2, q3⟩
theorem rj_hold (j : Nat) (HJ : Hid (RJ B mb gA mx v15 ps v18 qs S w)) (hi : Hid (SInv mx j S)) :
    Calls Tryz.prog 12 #[.pointer (some ⟨gA, 0, none⟩)] w fun e w' => ∃ (A : Option Addr) (m c : Nat), e = .returned (.slice A m c) ∧ HoldV w' (.slice A m c) S ∧ Below w.heap.size w w' := by
  obtain ⟨L, h1, h2, h3, h4⟩ := HJ.out.led
  rw [← h2]
  refine (holdings_any L S w (Lib.hid h1) (Lib.hid (fun k => ⟨hi.out.ok.ok k, hi.out.ok.len k⟩)) (h1.few hi.out.sm)).mono ?_
  rintro e w' ⟨A, ks, c, rfl, q1, q2, q3, q4, q5⟩
  exact ⟨A, ks.length, c, rfl, ⟨A, ks, c, rfl, q1, q2, q3, q4⟩, q5⟩
end
end Go.Proofs.YtgjbbobphfejoaaGreatDoor

/- JournalReplays: Open behind the crash; a record's length. -/
namespace Go.Proofs.YtgjbbobphfejoaaGreatDoor
open Go.RowKit

theorem recQ_len {q : Bool × Mv} (h : QOk q) : (recQ q).length ≤ 60 := by
  have hi := h.inI
  have h1 : (varint (recI q).length).length ≤ 10 := varint_len10 (by show 5 ≤ 18446744073709551615; decide)
  have l : ∀ n ∈ recI q, (encInt n).length ≤ 10 := fun n hn => encInt_len (hi n hn).1 (hi n hn).2
  have l1 := l (kindZ q.1) (by simp [recI])
  have l2 := l q.2.frm (by simp [recI])
  have l3 := l q.2.dst (by simp [recI])
  have l4 := l q.2.item (by simp [recI])
  have l5 := l q.2.n (by simp [recI])
  have e : (recQ q).length = (varint (recI q).length).length + ((encInt (kindZ q.1)).length + ((encInt q.2.frm).length + ((encInt q.2.dst).length + ((encInt q.2.item).length + (encInt q.2.n).length)))) := by
    unfold recQ encInts recI
    simp only [List.length_append, List.flatMap_cons, List.flatMap_nil, List.append_nil]
  omega
theorem RL.mbt {B g mb gl room len : Nat} {off up : Bool} {plan : Int} {st : List (Int × List UInt8 × Nat)} {w : World} (h : RL B g mb gl room off plan st len up w) : (∀ t, ¬ Ty w mb t) ∧ mb < w.heap.size := by
  obtain ⟨⟨fs, h1, -⟩, -⟩ := h
  exact ⟨fun t => h1.map.not_ty, h1.ltF mb (.inr (.inl rfl))⟩
theorem jropen_any (B g mb gl room ln : Nat) (up : Bool) (bs : List UInt8) (dur m : Nat) (rs : List (List UInt8)) (w : World) (HR : Hid (RL B g mb gl room false (-1) (fileSt 1 bs dur) ln up w)) (HSC : Hid (ScanIs bs rs m)) :
    Calls Tryz.prog 5 #[.pointer (some ⟨g, 0, none⟩), .int .i64 1] w fun e w' => ∃ (gl' : Nat) (v : Value) (L : List Bz), e = .returned (.tuple #[.pointer (some ⟨gl', 0, none⟩), v, .int .i64 0]) ∧ LsOwn w' w.heap.size v L ∧ bsOf L = rs ∧ MR B mb w w' := by
  obtain ⟨⟨fs, h1, h2, h3, h4⟩, h5, h6, h7⟩ := id HR.out
  refine (open1_any g mb room fs 1 bs dur m rs w (Lib.hid h1) (Lib.hid h2) (by decide) (by decide) HSC).mono ?_
  rintro e w' ⟨gl', v, L, fs', rfl, q1, q2, q3, q4, q5, q6, q7, q8, q9⟩
  exact ⟨gl', v, L, rfl, q3, q4, q8.mono (fun b hb => .inl ⟨h1.kind b hb, h3 b hb⟩)⟩
theorem LedAt.log {B mb : Nat} {mx : Int → Bool} {L : Led} {S : LSt} {w w' : World} (h1 : LedAt mx w L S) (hm : ∀ t, ¬ Ty w mb t) (h4 : ∀ b, LedF L b → b ≠ mb) (m : MR B mb w w') : LedAt mx w' L S := by
  refine h1.mod m (fun b hb => ⟨fun hl => ?_, fun ht => ?_, fun ht => ?_⟩)
  · rcases hb.1 with e | ht | ht | ht | ht
    · exact h4 b hl e
    · exact h1.not_ty hl ht (by decide) (by decide) (by decide)
    · exact h1.not_ty hl ht (by decide) (by decide) (by decide)
    · exact h1.not_ty hl ht (by decide) (by decide) (by decide)
    · exact h1.not_ty hl ht (by decide) (by decide) (by decide)
  · exact absurd (hb.1.not_ty hm ht) (by decide)
  · exact absurd (hb.1.not_ty hm ht) (by decide)
theorem StpsAt.lower {B B' : Nat} {w : World} {v : Value} {ps : List Stp} (h : StpsAt B w v ps) (hB : B' ≤ B) : StpsAt B' w v ps := ⟨own_lower h.own hB, fun p hp => ⟨(h.mv p hp).1, Nat.le_trans hB (h.mv p hp).2⟩⟩
theorem MR.below {B mb : Nat} {w w' : World} (m : MR B mb w w') (hB : B ≤ w.heap.size) : Below B w w' := (show Mod _ w w' from m).below (Below.refl _ _) hB (fun _ hb => hb.2)
theorem StatesAt.one {mx : Int → Bool} {w : World} {A : Option Addr} {m c B : Nat} (hB : B ≤ w.heap.size) (hv : HoldV w (.slice A m c) (lst0 0)) : StatesAt B mx (w.alloc (.cells #[.slice A m c] 51)) (.slice (some ⟨w.heap.size, 0, none⟩) 1 1) [] := by
  have hb1 := (Below.refl w.heap.size w).alloc (Nat.le_refl _) (.cells #[.slice A m c] 51)
  refine ⟨[.slice A m c], rfl, ⟨rfl, .inr ⟨w.heap.size, 1, #[.slice A m c], rfl, hB, by rw [World.alloc_heap_new], Nat.le_refl _, by decide, rfl, rfl⟩⟩, fun k hk => ?_⟩
  obtain rfl : k = 0 := Nat.le_zero.1 hk
  exact ⟨lst0 0, .slice A m c, rfl, rfl, hv.mod (F := fun _ => False) (Mod.of_below _ hb1) (fun _ hf => hf.elim)⟩
theorem StpsAt.cell {B : Nat} {w : World} {A : Option Addr} {n c : Nat} {ps : List Stp} (h : StpsAt B w (.slice A n c) ps) {k : Nat} (hk : k < ps.length) : ∃ g, A = some ⟨g, 0, none⟩ ∧ w.cell? ⟨g, k * 7, none⟩ = some (.int .i64 0) ∧ w.cell? ⟨g, k * 7 + 1, none⟩ = some (.int .i64 (kindZ ps[k].z)) ∧ w.cell? ⟨g, k * 7 + 2, none⟩ = some (.int .i64 0) ∧ w.cell? ⟨g, k * 7 + 3, none⟩ = some (.int .i64 0) ∧ w.cell? ⟨g, k * 7 + 4, none⟩ = some (.int .i64 (-1)) ∧ w.cell? ⟨g, k * 7 + 5, none⟩ = some (.int .i64 0) ∧ w.cell? ⟨g, k * 7 + 6, none⟩ = some (.slice (some ⟨ps[k].b, 0, none⟩) 1 1) ∧ n = ps.length ∧ Blk w ps[k].b 47 (mvV ps[k].m).toArray := by
  have hb := (h.mv ps[k] (List.getElem_mem hk)).1
  rcases h.own.2 with ⟨-, h2⟩ | ⟨g, cap, cur, h2, h3, h4, h5, h6, h7, h8⟩
  · omega
  · injection h2 with h2 h10 h9
    have hc : ∀ i, i < 7 → w.cell? ⟨g, k * 7 + i, none⟩ = (stpV ps[k])[i]? := by
      intro i hi
      rw [← flatT_at stpV 7 stpV_len ps k i hk hi, ← h8, List.getElem?_take_of_lt (by omega)]
      simp [World.cell?, h4]
    exact ⟨g, h2, hc 0 (by omega), hc 1 (by omega), hc 2 (by omega), hc 3 (by omega), hc 4 (by omega), hc 5 (by omega), hc 6 (by omega), h10, hb⟩
def trMv (k : Nat) : Mv := ⟨1 + (k : Int) % 3, 4, (k : Int) / 3 % 4, 1 + (k : Int) / 12 % 6⟩
theorem trMv_ok (k : Nat) : QOk (false, trMv k) := by
  refine ⟨?_, ?_, ?_, ?_, ?_, ?_⟩ <;> (unfold trMv; dsimp only)
  · omega
  · rw [if_neg (by decide)]; omega
  · omega
  · omega
  · omega
  · omega
theorem SpawnMv.ok {m : Mv} (h : SpawnMv m) : QOk (true, m) := by
  obtain ⟨h1, h2, h3, h4⟩ := h
  refine ⟨h4, ?_, ?_, ?_, h3, ?_⟩ <;> dsimp only
  · rw [if_pos rfl]; exact h1
  · omega
  · omega
  · omega
end Go.Proofs.YtgjbbobphfejoaaGreatDoor

/- wire's Writer known by its own blocks: Int and Ints. -/
namespace Go.Proofs.YtgjbbobphfejoaaGreatDoor
open Go.RowKit

set_option maxRecDepth 100000 in
set_option maxHeartbeats 400000 in
theorem wintV_any (gd : Nat) (v : Value) (bs : List UInt8) (n : Int) (w : World) (HW : Hid (WrV w gd v bs)) (h1 : -9223372036854775808 ≤ n) (h2 : n ≤ 9223372036854775807) (hl : bs.length ≤ 17592186044416) :
    Calls Tryz.prog 37 #[.pointer (some ⟨gd, 0, none⟩), .int .i64 n] w fun e w' => e = .returned (.tuple #[]) ∧ WrNext gd v (bs ++ encInt n) w w' := by
  go_enter Tryz.func37, Tryz.ntmps37
  go_wp2_with (first
    | (go_at_call 74; ((with_reducible refine (zigzag_any _ _ h1 h2).mono ?_); rintro e w1 ⟨rfl, rfl⟩))
    | (go_at_call 36; ((with_reducible refine (wuintV_any gd v bs _ _ rfl _ HW (zigI_lt h1 h2) hl).mono ?_); rintro e w1 ⟨rfl, hW1⟩; replace hW1 := Lib.hid hW1)))
  go_end0
  exact ⟨rfl, hW1.out⟩

set_option maxRecDepth 100000 in
set_option maxHeartbeats 400000 in
theorem wintsV_any (gd : Nat) (v : Value) (bs : List UInt8) (l : List Int) (A : Option Addr) (m c : Nat) (w : World) (HW : Hid (WrV w gd v bs)) (HX : Hid (l.length = m)) (hm : m ≤ 1099511627776) (HR : Hid (Rd w w.heap.size A m (vInt l))) (HF : Hid (∀ b off, A = some ⟨b, off, none⟩ → 0 < m → ¬ WF gd v b)) (hl : bs.length ≤ 1099511627776)
    (hr : Hid (∀ j : Nat, -9223372036854775808 ≤ l[j]?.getD 0 ∧ l[j]?.getD 0 ≤ 9223372036854775807)) :
    Calls Tryz.prog 14 #[.pointer (some ⟨gd, 0, none⟩), .slice A m c] w fun e w' => e = .returned (.tuple #[]) ∧ WrNext gd v (bs ++ encInts l) w w' := by
  go_enter Tryz.func14, Tryz.ntmps14
  go_wp2_with fail
  refine (wuintV_any gd v bs m _ rfl _ HW (by omega) (by omega)).mono ?_
  rintro e w1 ⟨rfl, hW1⟩
  have HW1 := Lib.hid hW1
  clear hW1
  go_wp2
  go_loopw [5, 13] (fun _ u wr => ∃ k : Nat, k ≤ m ∧ u = .int .i64 (k : Int) ∧ Hid (WrNext gd v (bs ++ encIntsTo l k) w wr)) (fun _ u _ => m - (intOf u).toNat)
  case atStart => exact ⟨0, by omega, rfl, by rw [encIntsTo_zero, HX.out]; exact HW1⟩
  case round =>
    clear HW1
    obtain ⟨k, hk, rfl, HWr⟩ := hrel
    by_cases hlt : k < m
    · obtain ⟨v1, h1, m1, o1⟩ := id HWr.out
      obtain ⟨b, off, rfl, hbB, hc⟩ := (m1.rd HR.out (Nat.le_refl _) HF.out).at_ hlt
      have H1 := Lib.hid h1
      have HM1 := Lib.hid m1
      have HO1 := Lib.hid o1
      clear h1 m1 o1 hbB
      have hr1 := (hr.out k).1
      have hr2 := (hr.out k).2
      have hlen : (bs ++ encIntsTo l k).length ≤ 17592186044416 := by
        have := encIntsTo_len l (by rw [HX.out]; exact hm) hr.out k (by rw [HX.out]; exact hk)
        simp only [List.length_append]; omega
      have HS := Lib.hid (encIntsTo_succ l k (by rw [HX.out]; exact hlt))
      unfold vInt at hc
      generalize l[k]?.getD 0 = x at *
      go_wp2_with (go_at_call 37; ((with_reducible refine (wintV_any gd v1 _ _ _ H1 hr1 hr2 hlen).mono ?_); rintro e w2 ⟨rfl, hW2⟩; replace hW2 := Lib.hid hW2))
      exact ⟨⟨k + 1, by omega, by go_num, Lib.hid (by rw [HS.out, ← List.append_assoc]; exact WrNext.step H1.out HM1.out HO1.out hW2.out)⟩, by simp [intOf]; omega⟩
    · obtain rfl : k = m := by omega
      go_wp2
      go_end0
      exact ⟨rfl, by rw [← encIntsTo_all l k (by rw [HX.out]; exact Nat.le_refl _)]; exact HWr.out⟩
end Go.Proofs.YtgjbbobphfejoaaGreatDoor
