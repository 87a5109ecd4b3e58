/- worldmintref25: Append to a log whose disk has one file. -/
import Derived.Test.YtldmokjpfnakkaaGreatHRLog
import Derived.Deep.RegionHeld3
import Derived.Test.YtldmokjpfnakkaaGreatHG35

namespace Go.Proofs.YtldmokjpfnakkaaGreat
open Go.RowKit

/-- What Append makes of a disk that is on: error, down, records; power, plan, bytes, durable. -/
def apd (room : Nat) (plan : Int) (bs : List UInt8) (dur N : Nat) (x : List UInt8) : Int × Bool × Nat × Bool × Int × List UInt8 × Nat :=
  if room < bs.length + (frameB (N : Int) x).length then (22, false, N, false, plan, bs, dur)
  else if failOff false plan then (23, true, N, true, failPlan plan, bs ++ frameB (N : Int) x, dur)
  else if failOff false (failPlan plan) then (23, true, N, true, failPlan (failPlan plan), bs ++ frameB (N : Int) x, dur)
  else (0, false, N + 1, false, failPlan (failPlan plan), bs ++ frameB (N : Int) x, (bs ++ frameB (N : Int) x).length)
def RAppPost (g gB gF gl room : Nat) (v : Value) (R : Int × Bool × Nat × Bool × Int × List UInt8 × Nat) (w : World) (e : Ending) (w' : World) : Prop :=
  e = .returned (.int .i64 R.1) ∧ RLogAt w' gl g R.2.2.1 R.2.1 ∧ ∃ v', RDk w' g gB gF room R.2.2.2.1 R.2.2.2.2.1 v' R.2.2.2.2.2.1 R.2.2.2.2.2.2 ∧ Mod (fun b => RDF g gB gF v b ∨ b = gl) w w' ∧ ∀ b, RDF g gB gF v' b → RDF g gB gF v b ∨ w.heap.size ≤ b
theorem RLogAt.cells {w : World} {gl g n : Nat} {down : Bool} (h : RLogAt w gl g n down) : w.cell? ⟨gl, 0, none⟩ = some (.pointer (some ⟨g, 0, none⟩)) ∧ w.cell? ⟨gl, 1, none⟩ = some (.int .i64 2) ∧ w.cell? ⟨gl, 2, none⟩ = some (.int .i64 (n : Int)) ∧ w.cell? ⟨gl, 3, none⟩ = some (.bool down) ∧ w.frozen? ⟨gl, 2, none⟩ = false ∧ w.frozen? ⟨gl, 3, none⟩ = false :=
  ⟨Blk.cell h 0, Blk.cell h 1, Blk.cell h 2, Blk.cell h 3, Blk.frozen h 2, Blk.frozen h 3⟩
theorem RDk.notLog {w : World} {g gB gF room dur gl n : Nat} {o down : Bool} {plan : Int} {v : Value} {bs : List UInt8} (h : RDk w g gB gF room o plan v bs dur) (hl : RLogAt w gl g n down) : ¬ RDF g gB gF v gl := fun hf => by
  have ht := Blk.ty hl
  rcases h.ty gl hf with e | e | e | e
  · exact absurd (Ty.unique ht e) (by decide)
  · exact absurd (Ty.unique ht e) (by decide)
  · exact absurd (Ty.unique ht e) (by decide)
  · exact absurd (Ty.unique ht e) (by decide)
set_option maxRecDepth 100000 in
theorem rlogAppend_down (g gl N : Nat) (A : Option Addr) (n c : Nat) (w : World) (HL : Hid (RLogAt w gl g N true)) (hn : n ≤ 65536) :
    Calls Tryz.prog 16 #[.pointer (some ⟨gl, 0, none⟩), .slice A n c] w fun e w' => e = .returned (.int .i64 23) ∧ w' = w := by
  obtain ⟨l0, l1, l2, l3, f2, f3⟩ := HL.out.cells
  have hnI : ¬ ((65536 : Int) < (n : Int)) := by omega
  go_enter Tryz.func16, Tryz.ntmps16
  go_wp2
  go_ret
  exact ⟨rfl, rfl⟩
set_option maxRecDepth 100000 in
set_option maxHeartbeats 8000000 in
theorem rlogAppend_any (g gB gF gl room dur N : Nat) (plan : Int) (v : Value) (bs : List UInt8) (A : Option Addr) (n c : Nat) (x : List UInt8) (w : World) (HD : Hid (RDk w g gB gF room false plan v bs dur)) (HL : Hid (RLogAt w gl g N false)) (HX : Hid (x.length = n)) (HR : Hid (Rd w w.heap.size A n (vByte x))) (hn : n ≤ 65536) (hN : N ≤ 1000000) :
    Calls Tryz.prog 16 #[.pointer (some ⟨gl, 0, none⟩), .slice A n c] w (RAppPost g gB gF gl room v (apd room plan bs dur N x) w) := by
  obtain ⟨A1, c1, hv⟩ := HD.out.slice
  obtain ⟨k, hk⟩ : ∃ k, bs.length = k := ⟨_, rfl⟩
  rw [hk] at hv
  subst hv
  have hk24 : k ≤ 16777216 := by have := HD.out.room_le; omega
  have HK := Lib.hid hk
  have hgl := HD.out.notLog HL.out
  have HGL := Lib.hid hgl
  have hlt := Blk.lt HL.out
  obtain ⟨l0, l1, l2, l3, f2, f3⟩ := HL.out.cells
  have hnI : ¬ ((65536 : Int) < (n : Int)) := by omega
  have hfl := frameB_len (k := (N : Int)) (bs := x) ⟨by omega, by omega⟩ (by rw [HX.out]; omega)
  obtain ⟨F, hF⟩ : ∃ F, frameB (N : Int) x = F := ⟨_, rfl⟩
  obtain ⟨m, hm⟩ : ∃ m, F.length = m := ⟨_, rfl⟩
  rw [hF, hm, HX.out] at hfl
  have HF := Lib.hid hF
  have HM := Lib.hid hm
  clear hk hF hm hgl
  go_enter Tryz.func16, Tryz.ntmps16
  go_wp2
  rcases Nat.lt_or_ge room (k + m) with hfull | hfit
  · have hR : apd room plan bs dur N x = (22, false, N, false, plan, bs, dur) := by unfold apd; rw [if_pos (by rw [HF.out, HM.out, HK.out]; exact hfull)]
    have HRR := Lib.hid hR
    clear hR
    go_region_held3 (fun x => x.cell? ⟨gl, 0, none⟩ = some (.pointer (some ⟨g, 0, none⟩)) ∧ x.cell? ⟨gl, 1, none⟩ = some (.int .i64 2) ∧ x.cell? ⟨gl, 2, none⟩ = some (.int .i64 (N : Int)))
      (first | exact ⟨l0, l1, l2⟩ | exact ⟨j0, j1, j2⟩ | exact ⟨i0, i1, i2⟩)
      (first
        | (go_at_call 38; ((refine (rframe_any (N : Int) A n c x _ HX (by omega) (by omega) (by omega) HR.out.drew).mono ?_); rintro e w5 ⟨A5, n5, c5, rfl, HN5, hown5, hb5⟩; rw [HF.out] at HN5 hown5; have hnm : n5 = m := HN5.out.symm.trans HM.out; subst hnm; have hS5 := undrewB hb5; obtain ⟨j0, j1, j2, j3, jf2, jf3⟩ := RLogAt.cells (Blk.all HL.out hS5); clear hb5))
        | (go_at_call 37; ((refine (rappend_full g gB gF room dur plan A1 k c1 bs _ _ _ _ (Lib.hid (HD.out.all hS5)) hk24 (by omega) hfull).mono ?_); rintro e w6 ⟨rfl, hb6⟩; have hS6 := bt hS5 hb6; obtain ⟨i0, i1, i2, i3, if2, if3⟩ := RLogAt.cells (Blk.all HL.out hS6); clear hb6)))
    have hD6 := HD.out.all hS6
    have hL6 : RLogAt w6 gl g N false := Blk.all HL.out hS6
    have m6 : Mod (fun b => b = gl) w6 (w6.setCell ⟨gl, 3, none⟩ (.bool false)) := (Mod.refl (fun b => b = gl) w6).set (p := ⟨gl, 3, none⟩) (.inl rfl) _
    have hL7 : RLogAt (w6.setCell ⟨gl, 3, none⟩ (.bool false)) gl g N false := by
      have := Blk.set_ hL6 3 (.bool false)
      unfold RLogAt
      simpa using this
    have HP : Hid (RAppPost g gB gF gl room (.slice A1 k c1) (22, false, N, false, plan, bs, dur) w (.returned (.int .i64 22)) (w6.setCell ⟨gl, 3, none⟩ (.bool false))) := Lib.hid ⟨rfl, hL7, _, hD6.mod m6 (fun b hb e => HGL.out (e ▸ hb)), (Mod.of_below _ hS6).trans m6 (fun b e => .inl (.inr e)), fun b hb => .inl hb⟩
    clear hD6 hL6 m6 hL7 hS5 hS6 hown5 j0 j1 j2 j3 jf2 jf3 l0 l1 l2 l3 f2 f3
    go_wp2
    go_ret
    rw [HRR.out]
    exact HP.out
  · obtain ⟨o, ho⟩ : ∃ o, failOff false plan = o := ⟨_, rfl⟩
    have HO := Lib.hid ho
    clear ho
    cases o
    · obtain ⟨o2, ho2⟩ : ∃ o2, failOff false (failPlan plan) = o2 := ⟨_, rfl⟩
      have HO2 := Lib.hid ho2
      clear ho2
      go_region_held3 (fun x => x.cell? ⟨gl, 0, none⟩ = some (.pointer (some ⟨g, 0, none⟩)) ∧ x.cell? ⟨gl, 1, none⟩ = some (.int .i64 2) ∧ x.cell? ⟨gl, 2, none⟩ = some (.int .i64 (N : Int)))
        (first | exact ⟨l0, l1, l2⟩ | exact ⟨j0, j1, j2⟩ | exact ⟨i0, i1, i2⟩)
        (first
          | (go_at_call 38; ((refine (rframe_any (N : Int) A n c x _ HX (by omega) (by omega) (by omega) HR.out.drew).mono ?_); rintro e w5 ⟨A5, n5, c5, rfl, HN5, hown5, hb5⟩; rw [HF.out] at HN5 hown5; have hnm : n5 = m := HN5.out.symm.trans HM.out; subst hnm; have hS5 := undrewB hb5; obtain ⟨j0, j1, j2, j3, jf2, jf3⟩ := RLogAt.cells (Blk.all HL.out hS5); clear hb5))
          | (go_at_call 37; revert hown5; intro hown5; ((refine (rappend_any g gB gF room dur plan A1 k c1 bs _ _ _ F false _ (Lib.hid (HD.out.all hS5)) (Lib.hid (rd_bytes hown5).2.2) HN5 hk24 (by omega) hfit HO).mono ?_); rintro e w6 ⟨rfl, hN6⟩; have hL6 : RLogAt w6 gl g N false := (by obtain ⟨_, _, m6, _⟩ := hN6; exact m6.blk (Blk.all HL.out hS5) HGL.out); have HN6 := Lib.hid hN6; have HL6 := Lib.hid hL6; obtain ⟨i0, i1, i2, i3, if2, if3⟩ := hL6.cells; clear hN6 hL6)))
      obtain ⟨v6, hD6, m6, hF6⟩ := HN6.out
      have HD6 := Lib.hid hD6
      have HM6 := Lib.hid ((Mod.of_below (fun b => RDF g gB gF (.slice A1 k c1) b ∨ b = gl) hS5).trans m6 (fun b hb => .inl (.inl hb)))
      have HF6 : Hid (∀ b, RDF g gB gF v6 b → RDF g gB gF (.slice A1 k c1) b ∨ w.heap.size ≤ b) := Lib.hid (fun b hb => (hF6 b hb).imp id (fun h => by have := hS5.size; omega))
      clear hD6 m6 hF6 hS5 hown5 j0 j1 j2 j3 jf2 jf3 l0 l1 l2 l3 f2 f3
      go_wp2_with fail
      refine (rsync_any g gB gF room dur (failPlan plan) v6 (bs ++ F) w6 HD6).mono ?_
      rintro e w7 ⟨rfl, hN7⟩
      rw [HO2.out] at hN7 ⊢
      obtain ⟨v7, hD7, m7, he7⟩ := hN7
      have hL7 : RLogAt w7 gl g N false := m7.blk HL6.out (fun hb => HD6.out.notLog HL6.out hb.sub)
      have HM7 := Lib.hid (HM6.out.trans m7 (fun b hb => by
        rcases HF6.out b hb.sub with h | h
        · exact .inl (.inl h)
        · exact .inr h))
      have HF7 : Hid (∀ b, RDF g gB gF v7 b → RDF g gB gF (.slice A1 k c1) b ∨ w.heap.size ≤ b) := Lib.hid (fun b hb => HF6.out b (by
        rcases hb with h | h | h | h
        · exact .inl h
        · exact .inr (.inl h)
        · exact .inr (.inr (.inl h))
        · exact .inr (.inr (.inr (by rw [← he7]; exact h)))))
      have HD7 := Lib.hid hD7
      have HL7 := Lib.hid hL7
      have HG7 := Lib.hid (hD7.notLog hL7)
      obtain ⟨i0, i1, i2, i3, if2, if3⟩ := hL7.cells
      clear hD7 m7 he7 hL7
      cases o2
      · have hR : apd room plan bs dur N x = (0, false, N + 1, false, failPlan (failPlan plan), bs ++ F, (bs ++ F).length) := by unfold apd; rw [HF.out, if_neg (by rw [HM.out, HK.out]; omega), if_neg (by rw [HO.out]; decide), if_neg (by rw [HO2.out]; decide)]
        have HRR := Lib.hid hR
        have m8 : Mod (fun b => b = gl) w7 ((w7.setCell ⟨gl, 3, none⟩ (.bool false)).setCell ⟨gl, 2, none⟩ (.int .i64 ((N + 1 : Nat) : Int))) := ((Mod.refl (fun b => b = gl) w7).set (p := ⟨gl, 3, none⟩) (.inl rfl) _).set (p := ⟨gl, 2, none⟩) (.inl rfl) _
        have hL8 : RLogAt ((w7.setCell ⟨gl, 3, none⟩ (.bool false)).setCell ⟨gl, 2, none⟩ (.int .i64 ((N + 1 : Nat) : Int))) gl g (N + 1) false := by
          have := Blk.set_ (Blk.set_ HL7.out 3 (.bool false)) 2 (.int .i64 ((N + 1 : Nat) : Int))
          unfold RLogAt
          simpa using this
        have HP : Hid (RAppPost g gB gF gl room (.slice A1 k c1) (0, false, N + 1, false, failPlan (failPlan plan), bs ++ F, (bs ++ F).length) w (.returned (.int .i64 0)) ((w7.setCell ⟨gl, 3, none⟩ (.bool false)).setCell ⟨gl, 2, none⟩ (.int .i64 ((N + 1 : Nat) : Int)))) := Lib.hid ⟨rfl, hL8, v7, HD7.out.mod m8 (fun b hb e => HG7.out (e ▸ hb)), HM7.out.trans m8 (fun b e => .inl (.inr e)), HF7.out⟩
        clear hR m8 hL8
        go_wp2
        go_ret
        rw [HRR.out]
        exact HP.out
      · have hR : apd room plan bs dur N x = (23, true, N, true, failPlan (failPlan plan), bs ++ F, dur) := by unfold apd; rw [HF.out, if_neg (by rw [HM.out, HK.out]; omega), if_neg (by rw [HO.out]; decide), if_pos (by rw [HO2.out])]
        have HRR := Lib.hid hR
        have m8 : Mod (fun b => b = gl) w7 (w7.setCell ⟨gl, 3, none⟩ (.bool true)) := (Mod.refl (fun b => b = gl) w7).set (p := ⟨gl, 3, none⟩) (.inl rfl) _
        have hL8 : RLogAt (w7.setCell ⟨gl, 3, none⟩ (.bool true)) gl g N true := by
          have := Blk.set_ HL7.out 3 (.bool true)
          unfold RLogAt
          simpa using this
        have HP : Hid (RAppPost g gB gF gl room (.slice A1 k c1) (23, true, N, true, failPlan (failPlan plan), bs ++ F, dur) w (.returned (.int .i64 23)) (w7.setCell ⟨gl, 3, none⟩ (.bool true))) := Lib.hid ⟨rfl, hL8, v7, HD7.out.mod m8 (fun b hb e => HG7.out (e ▸ hb)), HM7.out.trans m8 (fun b e => .inl (.inr e)), HF7.out⟩
        clear hR m8 hL8
        go_wp2
        go_ret
        rw [HRR.out]
        exact HP.out
    · have hR : apd room plan bs dur N x = (23, true, N, true, failPlan plan, bs ++ F, dur) := by unfold apd; rw [HF.out, if_neg (by rw [HM.out, HK.out]; omega), if_pos (by rw [HO.out])]
      have HRR := Lib.hid hR
      clear hR
      go_region_held3 (fun x => x.cell? ⟨gl, 0, none⟩ = some (.pointer (some ⟨g, 0, none⟩)) ∧ x.cell? ⟨gl, 1, none⟩ = some (.int .i64 2) ∧ x.cell? ⟨gl, 2, none⟩ = some (.int .i64 (N : Int)))
        (first | exact ⟨l0, l1, l2⟩ | exact ⟨j0, j1, j2⟩ | exact ⟨i0, i1, i2⟩)
        (first
          | (go_at_call 38; ((refine (rframe_any (N : Int) A n c x _ HX (by omega) (by omega) (by omega) HR.out.drew).mono ?_); rintro e w5 ⟨A5, n5, c5, rfl, HN5, hown5, hb5⟩; rw [HF.out] at HN5 hown5; have hnm : n5 = m := HN5.out.symm.trans HM.out; subst hnm; have hS5 := undrewB hb5; obtain ⟨j0, j1, j2, j3, jf2, jf3⟩ := RLogAt.cells (Blk.all HL.out hS5); clear hb5))
          | (go_at_call 37; revert hown5; intro hown5; ((refine (rappend_any g gB gF room dur plan A1 k c1 bs _ _ _ F true _ (Lib.hid (HD.out.all hS5)) (Lib.hid (rd_bytes hown5).2.2) HN5 hk24 (by omega) hfit HO).mono ?_); rintro e w6 ⟨rfl, hN6⟩; have hL6 : RLogAt w6 gl g N false := (by obtain ⟨_, _, m6, _⟩ := hN6; exact m6.blk (Blk.all HL.out hS5) HGL.out); have HN6 := Lib.hid hN6; have HL6 := Lib.hid hL6; obtain ⟨i0, i1, i2, i3, if2, if3⟩ := hL6.cells; clear hN6 hL6)))
      obtain ⟨v6, hD6, m6, hF6⟩ := HN6.out
      have m8 : Mod (fun b => b = gl) w6 (w6.setCell ⟨gl, 3, none⟩ (.bool true)) := (Mod.refl (fun b => b = gl) w6).set (p := ⟨gl, 3, none⟩) (.inl rfl) _
      have hL8 : RLogAt (w6.setCell ⟨gl, 3, none⟩ (.bool true)) gl g N true := by
        have := Blk.set_ HL6.out 3 (.bool true)
        unfold RLogAt
        simpa using this
      have hG6 := hD6.notLog HL6.out
      have HP : Hid (RAppPost g gB gF gl room (.slice A1 k c1) (23, true, N, true, failPlan plan, bs ++ F, dur) w (.returned (.int .i64 23)) (w6.setCell ⟨gl, 3, none⟩ (.bool true))) := Lib.hid ⟨rfl, hL8, v6, hD6.mod m8 (fun b hb e => hG6 (e ▸ hb)), ((Mod.of_below (fun b => RDF g gB gF (.slice A1 k c1) b ∨ b = gl) hS5).trans m6 (fun b hb => .inl (.inl hb))).trans m8 (fun b e => .inl (.inr e)), fun b hb => (hF6 b hb).imp id (fun h => by have := hS5.size; omega)⟩
      clear hD6 m6 hF6 m8 hL8 hG6 hS5 hown5 j0 j1 j2 j3 jf2 jf3 l0 l1 l2 l3 f2 f3 HN6
      go_wp2
      go_ret
      rw [HRR.out]
      exact HP.out
end Go.Proofs.YtldmokjpfnakkaaGreat

/- journal: the package's Append to a log whose disk has one file, told by apd. -/
namespace Go.Proofs.YtldmokjpfnakkaaGreat
open Go.RowKit

theorem stOf_app {fs : List Fl} {bs F : List UInt8} {dur : Nat} (hst : fs.map Fl.log = stOf bs dur) (hd : dur ≤ bs.length) (hF : 0 < F.length) : AppSt fs 2 F (stOf (bs ++ F) dur) ∧ sumL fs = bs.length := by
  have hne : bs ++ F ≠ [] := by
    intro e
    have := congrArg List.length e
    rw [List.length_append] at this
    simp only [List.length_nil] at this
    omega
  unfold stOf at hst ⊢
  rw [if_neg hne]
  by_cases hb : bs = []
  · rw [if_pos hb] at hst
    have : fs = [] := by simpa using hst
    subst this hb
    have hd0 : dur = 0 := by simpa using hd
    subst hd0
    exact ⟨.inl ⟨rfl, rfl⟩, rfl⟩
  · rw [if_neg hb] at hst
    obtain ⟨f, rfl⟩ : ∃ f, fs = [f] := List.length_eq_one_iff.1 (by have := congrArg List.length hst; simpa using this)
    simp only [List.map_cons, List.map_nil, List.cons.injEq, and_true, Fl.log, Prod.mk.injEq] at hst
    obtain ⟨e1, e2, e3⟩ := hst
    refine ⟨.inr ⟨[], f, [], rfl, by unfold findF; simp [e1], ?_⟩, by simp [sumL, e2]⟩
    rw [e1, e2, e3]
    rfl
def PAppPost (gl g mb room : Nat) (fs : List Fl) (R : Int × Bool × Nat × Bool × Int × List UInt8 × Nat) (w : World) (e : Ending) (w' : World) : Prop :=
  e = .returned (.int .i64 R.1) ∧ LogNext gl g mb room 2 R.2.2.2.1 R.2.2.2.2.1 R.2.2.1 (!R.2.1) fs (stOf R.2.2.2.2.2.1 R.2.2.2.2.2.2) w w'
theorem papp_any (gl g mb room N : Nat) (plan : Int) (fs : List Fl) (bs : List UInt8) (dur : Nat) (A : Option Addr) (n c : Nat) (x : List UInt8) (w : World) (HL : Hid (LogAt w gl g 2 N true)) (HD : Hid (DskAt w g mb room false plan fs)) (hgl : ¬ DskF g mb fs gl) (HS : Hid (fs.map Fl.log = stOf bs dur)) (hd : dur ≤ bs.length) (hn : n ≤ 65536) (HX : Hid (x.length = n)) (HR : Hid (Rd w w.heap.size A n (vByte x))) (hN : N ≤ 1000000) :
    Calls Tryz.prog 15 #[.pointer (some ⟨gl, 0, none⟩), .slice A n c] w (PAppPost gl g mb room fs (apd room plan bs dur N x) w) := by
  obtain ⟨hap, hsum⟩ := stOf_app HS.out hd (frameB_pos (N : Int) x)
  rcases Nat.lt_or_ge room (bs.length + (frameB (N : Int) x).length) with hfull | hfit
  · have hR : apd room plan bs dur N x = (22, false, N, false, plan, bs, dur) := by unfold apd; rw [if_pos hfull]
    rw [hR]
    refine (logAppend_full gl g mb room 2 N plan fs A n c x w HL HD hn HX HR (by omega) (by decide) (by decide) (by rw [hsum]; exact hfull)).mono ?_
    rintro e w' ⟨rfl, hb⟩
    exact ⟨rfl, fs, HS.out, HD.out.all hb, Blk.all HL.out hb, Mod.of_below _ hb, fun b h => .inl h⟩
  · cases ho : failOff false plan
    · cases ho2 : failOff false (failPlan plan)
      · have hR : apd room plan bs dur N x = (0, false, N + 1, false, failPlan (failPlan plan), bs ++ frameB (N : Int) x, (bs ++ frameB (N : Int) x).length) := by unfold apd; rw [if_neg (by omega), if_neg (by rw [ho]; decide), if_neg (by rw [ho2]; decide)]
        rw [hR]
        refine (logAppend_ok gl g mb room 2 N plan fs _ A n c x w HL HD hgl hn HX HR (by omega) (by decide) (by decide) (by rw [hsum]; exact hfit) (Lib.hid hap) (Lib.hid ho) (Lib.hid ho2)).mono ?_
        rintro e w' ⟨rfl, h⟩
        rw [stOf_sync] at h
        exact ⟨rfl, h⟩
      · have hR : apd room plan bs dur N x = (23, true, N, true, failPlan (failPlan plan), bs ++ frameB (N : Int) x, dur) := by unfold apd; rw [if_neg (by omega), if_neg (by rw [ho]; decide), if_pos ho2]
        rw [hR]
        exact logAppend_fail2 gl g mb room 2 N plan fs _ A n c x w HL HD hgl hn HX HR (by omega) (by decide) (by decide) (by rw [hsum]; exact hfit) (Lib.hid hap) (Lib.hid ho) (Lib.hid ho2)
    · have hR : apd room plan bs dur N x = (23, true, N, true, failPlan plan, bs ++ frameB (N : Int) x, dur) := by unfold apd; rw [if_neg (by omega), if_pos ho]
      rw [hR]
      exact logAppend_fail1 gl g mb room 2 N plan fs _ A n c x w HL HD hgl hn HX HR (by omega) (by decide) (by decide) (by rw [hsum]; exact hfit) (Lib.hid hap) (Lib.hid ho)
set_option maxRecDepth 100000 in
theorem arm_off (g mb room : Nat) (plan n : Int) (fs : List Fl) (w : World) (HD : Hid (DskAt w g mb room true plan fs)) :
    Calls Tryz.prog 9 #[.pointer (some ⟨g, 0, none⟩), .int .i64 n] w fun e w' => e = .returned (.tuple #[]) ∧ w' = w := by
  obtain ⟨c0, c1, c2, c3, c4, -⟩ := HD.out.dcells
  go_enter Tryz.func9, Tryz.ntmps9
  go_wp2
  go_end0
  exact ⟨rfl, rfl⟩
end Go.Proofs.YtldmokjpfnakkaaGreat
