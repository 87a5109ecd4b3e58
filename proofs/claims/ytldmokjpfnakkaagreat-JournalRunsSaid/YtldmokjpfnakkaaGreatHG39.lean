/- disk: the package's Crash on a disk of one file, told by crB. -/
import Derived.Test.YtldmokjpfnakkaaGreatHG36
import Derived.Test.YtldmokjpfnakkaaGreatHDskCrash
import Derived.Test.YtldmokjpfnakkaaGreatHMem
import Derived.Deep.RegionHeld3

namespace Go.Proofs.YtldmokjpfnakkaaGreat
open Go.RowKit

/-- The bytes that a crash leaves. -/
def crB (bs : List UInt8) (dur : Nat) (kx flip : Int) : List UInt8 :=
  if bs.length = 0 then [] else
  if 0 ≤ flip ∧ 0 < keptB [kx] bs.length dur then flipAt (bs.take (dur + keptB [kx] bs.length dur)) dur (flip % (8 * (keptB [kx] bs.length dur : Int))).toNat else bs.take (dur + keptB [kx] bs.length dur)
theorem stOf_nil (d : Nat) : stOf [] d = [] := rfl
theorem pcrash_any (g mb room : Nat) (off : Bool) (plan : Int) (fs : List Fl) (bs : List UInt8) (dur : Nat) (A : Option Addr) (c : Nat) (kx flip : Int) (w : World) (HD : Hid (DskAt w g mb room off plan fs)) (HS : Hid (fs.map Fl.log = stOf bs dur)) (HR : Hid (Rd w w.heap.size A 1 (vInt [kx]))) (hk1 : -9223372036854775808 ≤ kx) (hk2 : kx ≤ 9223372036854775807) (hf1 : -9223372036854775808 ≤ flip) (hf2 : flip ≤ 9223372036854775807) :
    Calls Tryz.prog 11 #[.pointer (some ⟨g, 0, none⟩), .slice A 1 c, .int .i64 flip] w fun e w' => e = .returned (.tuple #[]) ∧ DskNext g mb room false (-1) fs (stOf (crB bs dur kx flip) (crB bs dur kx flip).length) w w' := by
  have hst := HS.out
  have HW : Hid (∀ k ∈ [kx], -9223372036854775808 ≤ k ∧ k ≤ 9223372036854775807) := Lib.hid (fun k hk => by
    rw [List.mem_singleton] at hk
    subst hk
    exact ⟨hk1, hk2⟩)
  by_cases hb : bs = []
  · subst hb
    rw [stOf_nil] at hst
    have : fs = [] := by simpa using hst
    subst this
    refine (crash_any g mb room off plan [] A 1 c [kx] flip 0 [] [] w HD (by simp) (Lib.hid (by simp)) (Lib.hid rfl) HR HW (by decide) hf1 hf2 (Lib.hid (.inl ⟨rfl, rfl, rfl, rfl⟩))).mono ?_
    intro e w' h
    exact h
  · unfold stOf at hst
    rw [if_neg hb] at hst
    obtain ⟨f, rfl⟩ : ∃ f, fs = [f] := List.length_eq_one_iff.1 (by have := congrArg List.length hst; simpa using this)
    simp only [List.map_cons, List.map_nil, List.cons.injEq, and_true, Fl.log, Prod.mk.injEq] at hst
    obtain ⟨e1, e2, e3⟩ := hst
    have hl0 : ¬ bs.length = 0 := fun h => hb (List.eq_nil_of_length_eq_zero h)
    obtain ⟨kp, hkp⟩ : ∃ kp, keptB [kx] bs.length dur = kp := ⟨_, rfl⟩
    have hkle : kp ≤ bs.length - dur := by rw [← hkp]; exact keptB_le _ _ _
    refine (crash_any g mb room off plan [f] A 1 c [kx] flip kp _ _ w HD (by simp) (Lib.hid (by simp [e1])) (Lib.hid rfl) HR HW (by decide) hf1 hf2 (Lib.hid (.inr (.inl ⟨f, rfl, by rw [e2, e3, hkp], rfl, rfl⟩)))).mono ?_
    intro e w' h
    refine ⟨h.1, ?_⟩
    have h2 := h.2
    rw [e1, e2, e3] at h2
    have hgoal : syncLog (if 0 ≤ flip ∧ 0 < kp then [((2 : Int), flipAt (bs.take (dur + kp)) dur (flip % (8 * (kp : Int))).toNat, dur)] else if dur + kp = 0 then [] else [((2 : Int), bs.take (dur + kp), dur)]) = stOf (crB bs dur kx flip) (crB bs dur kx flip).length := by
      unfold crB stOf
      rw [if_neg hl0, hkp]
      by_cases hc : 0 ≤ flip ∧ 0 < kp
      · rw [if_pos hc, if_pos hc, if_neg (by
          intro e
          have := congrArg List.length e
          unfold flipAt at this
          rw [List.length_set, List.length_take] at this
          simp only [List.length_nil] at this
          omega)]
        rfl
      · rw [if_neg hc, if_neg hc]
        by_cases h0 : dur + kp = 0
        · rw [if_pos h0, h0, List.take_zero, if_pos rfl]
          rfl
        · rw [if_neg h0, if_neg (by
            intro e
            have := congrArg List.length e
            rw [List.length_take] at this
            simp only [List.length_nil] at this
            omega)]
          rfl
    rw [hgoal] at h2
    exact h2
end Go.Proofs.YtldmokjpfnakkaaGreat

/- regions walked by hand: an operation taken, an operation passed over. -/
namespace Go.Proofs.YtldmokjpfnakkaaGreat
open Go.RowKit

section
variable {P : Program} {ops : Array Oper} {Q : Exit → Act → World → Prop} {md : Region.Mode} {S : World → Prop}
/-- Take an operation first, told by what it yields. -/
theorem takeH (i : Nat) (d : Option Tmp) {v : Value} {fuel : Nat} {listed : Array Bool} {a : Act} {w : World} (hd : (ops[i]?).map Oper.dst = some d) (hw : (ops[i]?).map (fun o => Region.wanted o (yielded ops a.tmps)) = some true)
    (hs : Region.noSelect ops = true) (hf : Region.free md ops listed i = true) (hr : (Region.ready md ops listed).contains i = true)
    (hQ : ∀ c a w, Q (.panic c) (a.put d v) w → Q (.panic c) a w) (hy : ∀ o, ops[i]? = some o → ∀ w, S w → (execOp a.eval o).run P w = .ok (.value v) w) (hS : S w)
    (h : wpAnyH P md ops Q S fuel (listed.setIfInBounds i true) (a.put d v) w) : wpAnyH P md ops Q S (fuel + 1) listed a w := by
  cases ho : ops[i]? with
  | none => rw [ho] at hd; cases hd
  | some o =>
    rw [ho] at hd hw
    simp only [Option.map_some, Option.some.injEq] at hd hw
    subst hd
    exact wpAnyH_take ho hs hf hr hQ (Or.inl ⟨hw, hy o ho⟩) hS h
/-- Pass over an operation whose guard is not met. -/
theorem skipH (i : Nat) (d : Option Tmp) {fuel : Nat} {listed : Array Bool} {a : Act} {w : World} (hd : (ops[i]?).map Oper.dst = some d) (hw : (ops[i]?).map (fun o => Region.wanted o (yielded ops a.tmps)) = some false)
    (hs : Region.noSelect ops = true) (hf : Region.free md ops listed i = true) (hr : (Region.ready md ops listed).contains i = true)
    (hQ : ∀ c a w, Q (.panic c) (a.put d undef) w → Q (.panic c) a w) (hS : S w)
    (h : wpAnyH P md ops Q S fuel (listed.setIfInBounds i true) (a.put d undef) w) : wpAnyH P md ops Q S (fuel + 1) listed a w := by
  cases ho : ops[i]? with
  | none => rw [ho] at hd; cases hd
  | some o =>
    rw [ho] at hd hw
    simp only [Option.map_some, Option.some.injEq] at hd hw
    subst hd
    exact wpAnyH_take ho hs hf hr hQ (Or.inr ⟨hw, rfl⟩) hS h
end
end Go.Proofs.YtldmokjpfnakkaaGreat

/- A region that draws its order, whose last operation writes what the others load: the condition need not hold behind that one. -/
namespace Go.Proofs.YtldmokjpfnakkaaGreat

section
variable {P : Program} {ops : Array Oper} {Q : Exit → Act → World → Prop} {md : Region.Mode} {S : World → Prop} {z : Nat}
/-- Whatever order is picked; S holds behind each operation but number z. -/
def wpAnyG (P : Program) (md : Region.Mode) (ops : Array Oper) (Q : Exit → Act → World → Prop) (S : World → Prop) (z : Nat) : Nat → Array Bool → Act → World → Prop
  | 0, listed, a, w => Region.ready md ops listed = [] ∧ Q .normal a w
  | fuel + 1, listed, a, w => (Region.ready md ops listed = [] → Q .normal a w) ∧ ∀ i ∈ Region.ready md ops listed, wpOp P ops Q i (fun a' w' => (i ≠ z → S w') ∧ wpAnyG P md ops Q S z fuel (listed.setIfInBounds i true) a' w') a w
theorem wpAny_of_G : ∀ (fuel : Nat) (listed : Array Bool) (a : Act) (w : World), wpAnyG P md ops Q S z fuel listed a w → wpAny P md ops Q fuel listed a w
  | 0, _, _, _, h => h
  | fuel + 1, _, _, _, h => ⟨h.1, fun i hi => wpOp_mono (fun a' w' h' => wpAny_of_G fuel _ a' w' h'.2) (h.2 i hi)⟩
theorem wpAnyG_first {i : Nat} {oi : Oper} {v : Value} (hi : ops[i]? = some oi) (hsel : ∀ (j : Nat) (o : Oper) cs b, ops[j]? = some o → o.op ≠ .select cs b) (hz : ∃ oz, ops[z]? = some oz ∧ ∃ e ∈ oz.after, Region.binds md e = true ∧ e.on = i) (hiz : i ≠ z)
    (hQ : ∀ c a w, Q (.panic c) (a.put oi.dst v) w → Q (.panic c) a w) :
    ∀ (fuel : Nat) (listed : Array Bool) (a : Act) (w : World),
      (∀ j oj, ops[j]? = some oj → j ≠ i → listed.getD j true = false → (∀ e ∈ oj.after, Region.binds md e = true → e.on ≠ i) → oi.apart ops oj = true) →
      i ∈ Region.ready md ops listed → YieldsIf P ops S oi v a → S w →
      wpAnyG P md ops Q S z fuel (listed.setIfInBounds i true) (a.put oi.dst v) w → wpAnyG P md ops Q S z (fuel + 1) listed a w := by
  intro fuel
  have unlisted : ∀ {listed : Array Bool}, i ∈ Region.ready md ops listed → listed.getD i false = true → False := fun {listed} hr h1 => by
    have h0 := (mem_ready.1 hr).1
    rcases Nat.lt_or_ge i listed.size with h' | h'
    · simp [h'] at h0 h1
      rw [h0] at h1
      cases h1
    · simp [Array.getElem?_eq_none h'] at h1
  induction fuel with
  | zero =>
    intro listed a w _ hr hy hS H
    refine ⟨fun h => (by rw [h] at hr; cases hr), fun j hj => ?_⟩
    by_cases hji : j = i
    · subst hji
      exact hy.wpOp hi hS ⟨fun _ => hS, H⟩
    · have := ready_mono hj hji
      rw [H.1] at this
      cases this
  | succ fuel ih =>
    intro listed a w hfree hr hy hS H
    refine ⟨fun h => (by rw [h] at hr; cases hr), fun j hj => ?_⟩
    by_cases hji : j = i
    · subst hji
      exact hy.wpOp hi hS ⟨fun _ => hS, H⟩
    · by_cases hjz : j = z
      · obtain ⟨oz, hoz, e, he, hb, heq⟩ := hz
        obtain ⟨_, oj, hoj, hall⟩ := mem_ready.1 hj
        rw [hjz, hoz] at hoj
        injection hoj with hoj
        subst hoj
        have h1 := hall e he hb
        rw [heq] at h1
        exact (unlisted hr h1).elim
      have h1 := H.2 j (ready_mono hj hji)
      obtain ⟨hjun, oj, hoj, hall⟩ := mem_ready.1 hj
      have hnot : ∀ e ∈ oj.after, Region.binds md e = true → e.on ≠ i := fun e he hb heq => by
        have h1 := hall e he hb
        rw [heq] at h1
        exact unlisted hr h1
      have h2 := wpOp_putIf hoj (hfree j oj hoj hji hjun hnot) (fun cs b => hsel i oi cs b hi) (fun cs b => hsel j oj cs b hoj) hQ hy h1
      have hfree' : ∀ k ok, ops[k]? = some ok → k ≠ i → (listed.setIfInBounds j true).getD k true = false →
          (∀ e ∈ ok.after, Region.binds md e = true → e.on ≠ i) → oi.apart ops ok = true := fun k ok hk hki hun hno => by
        refine hfree k ok hk hki ?_ hno
        by_cases hjk : j = k
        · subst hjk
          exact hjun
        · rw [getD_set_ne true hjk] at hun
          exact hun
      refine wpOp_mono (fun a' w' h3 => ⟨h3.2.1, ih (listed.setIfInBounds j true) a' w' hfree' (ready_mono hr (Ne.symm hji)) h3.1 (h3.2.1 hjz) ?_⟩) h2
      rw [Array.setIfInBounds_comm _ _ hji]
      exact h3.2.2
theorem wpAnyG_take {i : Nat} {oi : Oper} {v : Value} {fuel : Nat} {listed : Array Bool} {a : Act} {w : World} (hi : ops[i]? = some oi)
    (hs : Region.noSelect ops = true) (hz : (ops[z]?).map (fun oz => oz.after.any fun e => Region.binds md e && (e.on == i)) = some true) (hiz : i ≠ z) (hf : Region.free md ops listed i = true) (hr : (Region.ready md ops listed).contains i = true)
    (hQ : ∀ c a w, Q (.panic c) (a.put oi.dst v) w → Q (.panic c) a w) (hy : YieldsIf P ops S oi v a) (hS : S w)
    (h : wpAnyG P md ops Q S z fuel (listed.setIfInBounds i true) (a.put oi.dst v) w) : wpAnyG P md ops Q S z (fuel + 1) listed a w := by
  refine wpAnyG_first hi (Region.noSelect_spec hs) ?_ hiz hQ fuel listed a w (Region.free_spec hi hf) (by simpa using hr) hy hS h
  obtain ⟨oz, hoz, ha⟩ := Option.map_eq_some_iff.1 hz
  obtain ⟨e, he, hb⟩ := Array.any_eq_true'.1 ha
  simp only [Bool.and_eq_true, beq_iff_eq] at hb
  exact ⟨oz, hoz, e, he, hb.1, hb.2⟩
theorem takeG (i : Nat) (d : Option Tmp) {v : Value} {fuel : Nat} {listed : Array Bool} {a : Act} {w : World} (hd : (ops[i]?).map Oper.dst = some d) (hw : (ops[i]?).map (fun o => Region.wanted o (yielded ops a.tmps)) = some true)
    (hs : Region.noSelect ops = true) (hz : (ops[z]?).map (fun oz => oz.after.any fun e => Region.binds md e && (e.on == i)) = some true) (hiz : i ≠ z) (hf : Region.free md ops listed i = true) (hr : (Region.ready md ops listed).contains i = true)
    (hQ : ∀ c a w, Q (.panic c) (a.put d v) w → Q (.panic c) a w) (hy : ∀ o, ops[i]? = some o → ∀ w, S w → (execOp a.eval o).run P w = .ok (.value v) w) (hS : S w)
    (h : wpAnyG P md ops Q S z fuel (listed.setIfInBounds i true) (a.put d v) w) : wpAnyG P md ops Q S z (fuel + 1) listed a w := by
  cases ho : ops[i]? with
  | none => rw [ho] at hd; cases hd
  | some o =>
    rw [ho] at hd hw
    simp only [Option.map_some, Option.some.injEq] at hd hw
    subst hd
    exact wpAnyG_take ho hs hz hiz hf hr hQ (Or.inl ⟨hw, hy o ho⟩) hS h
theorem skipG (i : Nat) (d : Option Tmp) {fuel : Nat} {listed : Array Bool} {a : Act} {w : World} (hd : (ops[i]?).map Oper.dst = some d) (hw : (ops[i]?).map (fun o => Region.wanted o (yielded ops a.tmps)) = some false)
    (hs : Region.noSelect ops = true) (hz : (ops[z]?).map (fun oz => oz.after.any fun e => Region.binds md e && (e.on == i)) = some true) (hiz : i ≠ z) (hf : Region.free md ops listed i = true) (hr : (Region.ready md ops listed).contains i = true)
    (hQ : ∀ c a w, Q (.panic c) (a.put d undef) w → Q (.panic c) a w) (hS : S w)
    (h : wpAnyG P md ops Q S z fuel (listed.setIfInBounds i true) (a.put d undef) w) : wpAnyG P md ops Q S z (fuel + 1) listed a w := by
  cases ho : ops[i]? with
  | none => rw [ho] at hd; cases hd
  | some o =>
    rw [ho] at hd hw
    simp only [Option.map_some, Option.some.injEq] at hd hw
    subst hd
    exact wpAnyG_take ho hs hz hiz hf hr hQ (Or.inr ⟨hw, rfl⟩) hS h
/-- One operation alone may come up, and it is not the last. -/
theorem readyG {i : Nat} {o : Oper} {fuel : Nat} {listed : Array Bool} {a : Act} {w : World} (hr : Region.ready md ops listed = [i]) (ho : ops[i]? = some o)
    (h : ∀ K' : Act → World → Prop, Shut (∀ a w, S w → (S w → wpAnyG P md ops Q S z fuel (listed.setIfInBounds i true) a w) → K' a w) → if Region.wanted o (yielded ops a.tmps) = true then Oper.wp P o a w K' Q else K' (a.put o.dst undef) w) : wpAnyG P md ops Q S z (fuel + 1) listed a w :=
  ⟨fun h0 => (by rw [hr] at h0; cases h0), fun j hj => by
    rw [hr, List.mem_singleton] at hj
    subst hj
    exact wpOp_step ho (fun K' hK => h K' (fun a w hS hW => hK a w ⟨fun _ => hS, hW hS⟩))⟩
/-- The last operation comes up. -/
theorem lastG {o : Oper} {fuel : Nat} {listed : Array Bool} {a : Act} {w : World} (hr : Region.ready md ops listed = [z]) (ho : ops[z]? = some o)
    (h : ∀ K' : Act → World → Prop, Shut (∀ a w, wpAnyG P md ops Q S z fuel (listed.setIfInBounds z true) a w → K' a w) → if Region.wanted o (yielded ops a.tmps) = true then Oper.wp P o a w K' Q else K' (a.put o.dst undef) w) : wpAnyG P md ops Q S z (fuel + 1) listed a w :=
  ⟨fun h0 => (by rw [hr] at h0; cases h0), fun j hj => by
    rw [hr, List.mem_singleton] at hj
    subst hj
    exact wpOp_step ho (fun K' hK => h K' (fun a w hW => hK a w ⟨fun hne => absurd rfl hne, hW⟩))⟩
theorem doneG {listed : Array Bool} {a : Act} {w : World} (hr : Region.ready md ops listed = []) (h : Q .normal a w) : ∀ fuel, wpAnyG P md ops Q S z fuel listed a w
  | 0 => ⟨hr, h⟩
  | _ + 1 => ⟨fun _ => h, by rw [hr]; simp⟩
/-- The beginning. -/
theorem beginG (z : Nat) {id : Nat} {a : Act} {w : World} (hm : P.follows .mixedOrders = true) (hS : S w.drew)
    (h : S w.drew → wpAnyG P .any ops Q S z ops.size (Array.replicate ops.size false) a w.drew) : (Code.region id ops true).wp P Q a w :=
  wp_region_any hm (wpAny_of_G _ _ _ _ (h hS))
end
end Go.Proofs.YtldmokjpfnakkaaGreat
