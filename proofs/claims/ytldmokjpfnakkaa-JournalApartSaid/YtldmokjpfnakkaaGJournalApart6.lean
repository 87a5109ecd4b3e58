/- Part 6 of the texts that JournalApart needs: DskApp DskRead DskSync JrnLog JrnLog2 JrnOpen IMapDel ShDisk DskCut. -/
import Derived.Defers
import Derived.Shelf.SlIterI.Nil
import Derived.Shelf.SortM.Plain
import Derived.Shelf.SortM.SortNone
import Derived.Test.YtldmokjpfnakkaaProg
import Derived.Deep.RegionHeld3
import Derived.RegionTactic
import Derived.Test.YtldmokjpfnakkaaGJournalApart5

/- disk: Append, Read. -/
namespace Go.Proofs.Ytldmokjpfnakkaa
open Go.RowKit

/-- The disk after a call: its files read as st. -/
def DskNext (g mb room : Nat) (off' : Bool) (plan' : Int) (fs : List Fl) (st : List (Int × List UInt8 × Nat)) (w w' : World) : Prop :=
  ∃ fs', fs'.map Fl.log = st ∧ DskAt w' g mb room off' plan' fs' ∧ Mod (DskF g mb fs) w w' ∧ ∀ b, DskF g mb fs' b → DskF g mb fs b ∨ w.heap.size ≤ b
theorem DskAt.grow {w : World} {g mb room : Nat} {off : Bool} {plan : Int} {l1 l2 : List Fl} {f : Fl} (h : DskAt w g mb room off plan (l1 ++ f :: l2)) (A : Option Addr) (n c : Nat) (xs : List UInt8) (hx : xs.length = n) (hR : Rd w w.heap.size A n (vByte xs)) (hroom : sumL (l1 ++ f :: l2) + n ≤ room) :
    ∃ A0 n0 c0 A3 n3 c3 w3, f.rv = .slice A0 n0 c0 ∧ w.cell? ⟨f.fb, 0, none⟩ = some (.slice A0 n0 c0) ∧ Hid ((Builtin.append_ #[23, 23] 23 #[.slice A0 n0 c0, .slice A n c]).run Try.prog w = .ok (.slice A3 n3 c3) w3) ∧
      w3.cell? ⟨f.fb, 0, none⟩ = some (.slice A0 n0 c0) ∧ w3.frozen? ⟨f.fb, 0, none⟩ = false ∧
      (w3.setCell ⟨f.fb, 0, none⟩ (.slice A3 n3 c3)).cell? ⟨g, 1, none⟩ = some (.int .i64 ((sumL (l1 ++ f :: l2) : Nat) : Int)) ∧ (w3.setCell ⟨f.fb, 0, none⟩ (.slice A3 n3 c3)).frozen? ⟨g, 1, none⟩ = false ∧
      Hid (DskNext g mb room off plan (l1 ++ f :: l2) (l1.map Fl.log ++ (f.num, f.bs ++ xs, f.dur) :: l2.map Fl.log) w ((w3.setCell ⟨f.fb, 0, none⟩ (.slice A3 n3 c3)).setCell ⟨g, 1, none⟩ (.int .i64 ((sumL (l1 ++ f :: l2) : Nat) + (n : Int))))) := by
  have hfm : f ∈ l1 ++ f :: l2 := by simp
  have hok := h.ok f hfm
  obtain ⟨A0, c0, hrv⟩ := own_slice hok.2.1
  have hown := hok.2.1
  have hrm := h.room_le
  have hul := h.used_le
  have hfl : f.bs.length ≤ sumL (l1 ++ f :: l2) := by rw [sumL_append, sumL_cons]; omega
  obtain ⟨i0, hi, hz0, hz1, hz2⟩ := info_parts info_u8
  obtain ⟨v', w3, hap, hown3, hg, ho⟩ := run_append_rd (P := Try.prog) w 0 23 23 5 i0 _ 1 Try.underlying23 hi hz0 hz1 hz2 rfl _ _ _ hown w.heap.size A n c (vByte xs) hR hR.none_ (fun _ _ => rfl) (by unfold maxLen; omega) (by omega) (Nat.zero_le _)
  obtain ⟨A3, c3, rfl⟩ := own_slice hown3
  have e : (List.range n).map (vByte xs) = xs.map fun b => Value.int .u8 ((b.toNat : Nat) : Int) := by
    subst hx
    refine List.ext_getElem (by simp) fun i h1 h2 => ?_
    have hi : i < xs.length := by simpa using h2
    simp [vByte, hi]
  rw [e, ← List.map_append] at hown3
  have hT : f.rv.ownBlock ≠ some f.fb := own_ne (by decide) hok.1 hown
  have m3 : Mod (fun b => f.rv.ownBlock = some b) w w3 := Mod.of_grown hg (fun b e => .inl e)
  have hfb3 : Blk w3 f.fb 94 #[f.rv, .int .i64 (f.dur : Int)] := m3.blk hok.1 hT
  have hgne : ∀ b, f.F b → b ≠ g := fun b hb => (h.F_ne hfm b hb).1
  have hg3 : Blk w3 g 90 (diskCells room (sumL (l1 ++ f :: l2)) mb off plan) := m3.blk h.blk (fun e => hgne g (.inr e) rfl)
  have hg4 := Blk.far (p := ⟨f.fb, 0, none⟩) hg3 (fun e => hgne f.fb (.inl rfl) e.symm) (.slice A3 (f.bs.length + n) c3)
  have hfb4 : Blk (w3.setCell ⟨f.fb, 0, none⟩ (.slice A3 (f.bs.length + n) c3)) f.fb 94 #[.slice A3 (f.bs.length + n) c3, .int .i64 (f.dur : Int)] := by simpa using hfb3.set_ 0 (.slice A3 (f.bs.length + n) c3)
  refine ⟨A0, f.bs.length, c0, A3, f.bs.length + n, c3, w3, hrv, by rw [← hrv]; simpa using hok.1.cell 0, Lib.hid (by rw [← hrv]; exact hap), by rw [← hrv]; simpa using hfb3.cell 0, hfb3.frozen 0, by simpa [diskCells] using hg4.cell 1, hg4.frozen 1, Lib.hid ?_⟩
  have ma : Mod (fun b => f.F b ∨ b = g) w ((w3.setCell ⟨f.fb, 0, none⟩ (.slice A3 (f.bs.length + n) c3)).setCell ⟨g, 1, none⟩ (.int .i64 ((sumL (l1 ++ f :: l2) : Nat) + (n : Int)))) :=
    ((m3.mono (G := fun b => f.F b ∨ b = g) (fun b e => .inl (.inl (.inr e)))).set (p := ⟨f.fb, 0, none⟩) (.inl (.inl (.inl rfl))) _).set (p := ⟨g, 1, none⟩) (.inl (.inr rfl)) _
  have hs : sumL (l1 ++ (⟨f.num, f.fb, .slice A3 (f.bs.length + n) c3, f.bs ++ xs, f.dur⟩ : Fl) :: l2) = sumL (l1 ++ f :: l2) + n := by
    rw [sumL_append, sumL_cons, sumL_append, sumL_cons]
    simp only [List.length_append]
    omega
  have hown4 := hown3.kept (only_set (p := ⟨f.fb, 0, none⟩) (only_refl w3 (some f.fb)) (.inl rfl) (.slice A3 (f.bs.length + n) c3)) (.inr (own_ne (by decide) hfb3 hown3))
  have hown5 := hown4.kept (only_set (p := ⟨g, 1, none⟩) (only_refl _ (some g)) (.inl rfl) (.int .i64 ((sumL (l1 ++ f :: l2) : Nat) + (n : Int)))) (.inr (own_ne (by decide) hg4 hown4))
  obtain ⟨r1, r2, r3⟩ := h.upd (f' := ⟨f.num, f.fb, .slice A3 (f.bs.length + n) c3, f.bs ++ xs, f.dur⟩) (off' := off) (plan' := plan) ma (by
      have := Blk.set_ hg4 1 (.int .i64 ((sumL (l1 ++ f :: l2) : Nat) + (n : Int)))
      rw [hs]
      simpa [diskCells] using this) rfl rfl ⟨Blk.far hfb4 (fun e => hgne f.fb (.inl rfl) e) _, by rw [List.length_append, hx]; exact hown5, by simp only [List.length_append]; have := hok.2.2; omega⟩
    (ho.imp (fun e => e) (fun e b eb => by rw [e] at eb; injection eb with eb; omega)) (by rw [hs]; exact hroom) h.plan_le
  exact ⟨_, by simp [Fl.log], r1, r2, r3⟩

theorem appendD_off (g mb room : Nat) (plan : Int) (fs : List Fl) (num : Int) (A : Option Addr) (n c : Nat) (w : World) (HD : Hid (DskAt w g mb room true plan fs)) (h1 : 0 ≤ num) (h2 : num < 64) :
    Calls Try.prog 35 #[.pointer (some ⟨g, 0, none⟩), .int .i64 num, .slice A n c] w fun e w' => e = .returned (.int .i64 23) ∧ w = w' := by
  obtain ⟨c0, c1, c2, c3, c4, hf⟩ := HD.out.dcells
  clear hf
  go_enter Try.func35, Try.ntmps35
  go_wp2_with (go_at_call 55; ((with_reducible refine (isFile_yes _ _ h1 h2).mono ?_); rintro e w1 ⟨rfl, rfl⟩))
  go_ret
  exact ⟨rfl, rfl⟩
theorem below_drew {w w' : World} {n : Nat} (h : Below (w.drewN n).heap.size (w.drewN n) w') : Below w.heap.size w w' := ⟨h.os, h.tape, h.output, h.size, h.block⟩
set_option maxRecDepth 100000 in
set_option maxHeartbeats 1000000 in
theorem appendD_full (g mb room : Nat) (plan : Int) (fs : List Fl) (num : Int) (A : Option Addr) (n c : Nat) (w : World) (HD : Hid (DskAt w g mb room false plan fs)) (h1 : 0 ≤ num) (h2 : num < 64) (hfull : room < sumL fs + n) (hn : n ≤ 1099511627776) :
    Calls Try.prog 35 #[.pointer (some ⟨g, 0, none⟩), .int .i64 num, .slice A n c] w fun e w' => e = .returned (.int .i64 22) ∧ Below w.heap.size w w' := by
  obtain ⟨c0, c1, c2, c3, c4, hf⟩ := HD.out.dcells
  have hrm := HD.out.room_le
  have hul := HD.out.used_le
  obtain ⟨u, hu⟩ : ∃ u, sumL fs = u := ⟨_, rfl⟩
  rw [hu] at c1 hul hfull
  clear hf hu
  go_enter Try.func35, Try.ntmps35
  go_wp2_with (go_at_call 55; ((with_reducible refine (isFile_yes _ _ h1 h2).mono ?_); rintro e w1 ⟨rfl, rfl⟩))
  have i1 : IntKind.i64.wrap ((room : Int) - (u : Int)) = (room : Int) - (u : Int) := IntWalk.i64_in _ (by omega)
  have i2 : decide ((room : Int) - (u : Int) < (n : Int)) = true := by rw [decide_eq_true_iff]; omega
  go_quiet (fail)
  clear i1 i2
  go_wp2
  go_ret
  exact ⟨rfl, below_drewN (Below.refl _ _) _⟩
theorem DskNext.from {g mb room : Nat} {off' : Bool} {plan' : Int} {fs : List Fl} {st : List (Int × List UInt8 × Nat)} {w w1 w2 : World} {F : Nat → Prop} (h : DskNext g mb room off' plan' fs st w1 w2) (m : Mod F w w1) (hF : ∀ b, F b → DskF g mb fs b ∨ w.heap.size ≤ b) : DskNext g mb room off' plan' fs st w w2 := by
  obtain ⟨fs', h1, h2, h3, h4⟩ := h
  exact ⟨fs', h1, h2, (m.mono hF).trans h3 (fun b hb => .inl hb), fun b hb => (h4 b hb).imp id (fun h => Nat.le_trans m.size h)⟩
theorem DskNext.from2 {g mb room : Nat} {off' : Bool} {plan' : Int} {fs fs1 : List Fl} {st : List (Int × List UInt8 × Nat)} {w w1 w2 : World} (h : DskNext g mb room off' plan' fs1 st w1 w2) (m : Mod (DskF g mb fs) w w1) (hF : ∀ b, DskF g mb fs1 b → DskF g mb fs b ∨ w.heap.size ≤ b) : DskNext g mb room off' plan' fs st w w2 := by
  obtain ⟨fs', h1, h2, h3, h4⟩ := h
  refine ⟨fs', h1, h2, m.trans h3 (fun b hb => hF b hb), fun b hb => ?_⟩
  rcases h4 b hb with h | h
  · exact hF b h
  · exact .inr (Nat.le_trans m.size h)
set_option maxRecDepth 100000 in
set_option maxHeartbeats 2000000 in
theorem appendD_old (g mb room : Nat) (plan : Int) (l1 l2 : List Fl) (f : Fl) (num : Int) (A : Option Addr) (n c : Nat) (xs : List UInt8) (w : World) (HD : Hid (DskAt w g mb room false plan (l1 ++ f :: l2))) (HN : Hid (findF (l1 ++ f :: l2) num = some f)) (h1 : 0 ≤ num) (h2 : num < 64) (HX : Hid (xs.length = n)) (hn0 : 0 < n) (hroom : sumL (l1 ++ f :: l2) + n ≤ room)
    (HR : Hid (Rd w w.heap.size A n (vByte xs))) (HA : Hid (∀ b off, A = some ⟨b, off, none⟩ → ¬ DskF g mb (l1 ++ f :: l2) b)) :
    Calls Try.prog 35 #[.pointer (some ⟨g, 0, none⟩), .int .i64 num, .slice A n c] w fun e w' => e = .returned (.int .i64 (if failOff false plan then 23 else 0)) ∧ DskNext g mb room (failOff false plan) (failPlan plan) (l1 ++ f :: l2) (l1.map Fl.log ++ (f.num, f.bs ++ xs, f.dur) :: l2.map Fl.log) w w' := by
  obtain ⟨c0, c1, c2, c3, c4, hf⟩ := HD.out.dcells
  have hrm := HD.out.room_le
  have hul := HD.out.used_le
  obtain ⟨u, hu⟩ : ∃ u, sumL (l1 ++ f :: l2) = u := ⟨_, rfl⟩
  rw [hu] at c1 hul hroom
  have HU := Lib.hid hu
  obtain ⟨o, ho⟩ : ∃ o, failOff false plan = o := ⟨_, rfl⟩
  rw [ho]
  have HO := Lib.hid ho
  clear hf hu ho
  go_enter Try.func35, Try.ntmps35
  go_wp2_with (go_at_call 55; ((with_reducible refine (isFile_yes _ _ h1 h2).mono ?_); rintro e w1 ⟨rfl, rfl⟩))
  have i1 : IntKind.i64.wrap ((room : Int) - (u : Int)) = (room : Int) - (u : Int) := IntWalk.i64_in _ (by omega)
  have i2 : decide ((room : Int) - (u : Int) < (n : Int)) = false := by rw [decide_eq_false_iff_not]; omega
  go_quiet (fail)
  clear i1 i2
  have hD1 := HD.out.all (below_drewN (Below.refl _ w) nq)
  have hR1 : Rd (w.drewN nq) (w.drewN nq).heap.size A n (vByte xs) := HR.out
  have hB1 : Below w.heap.size w (w.drewN nq) := below_drewN (Below.refl _ w) nq
  go_wp2_with fail
  generalize w.drewN nq = w1 at *
  refine (fails_any _ _ _ _ _ _ _ (Lib.hid hD1)).mono ?_
  rintro e w2 ⟨rfl, hD2, m2⟩
  rw [HO.out] at hD2 ⊢
  have hR2 : Rd w2 w2.heap.size A n (vByte xs) := by
    have := m2.rd hR1 (Nat.le_refl _) (fun b off e hp hf => HA.out b off e (.inl hf))
    exact this.more m2.size
  have M2 : Mod (DskF g mb (l1 ++ f :: l2)) w w2 := (Mod.of_below (DskF g mb (l1 ++ f :: l2)) hB1).trans m2 (fun b hb => .inl (.inl hb))
  have hlk := DskAt.look hD2 num
  rw [HN.out] at hlk
  replace hlk : (Instr.lookup 88 (.map (some mb)) (.int .i64 num) false).run Try.prog w2 = .ok (.pointer (some ⟨f.fb, 0, none⟩)) w2 := hlk
  obtain ⟨d0, d1, d2, d3, d4, -⟩ := hD2.dcells
  obtain ⟨A0, n0, c0', A3, n3, c3', w3, hrv, hcl, HRUN, hcl3, hfr3, hcg, hfg, HNX⟩ := hD2.grow A n c xs HX.out hR2 (by rw [HU.out]; exact hroom)
  rw [HU.out] at hcg HNX d1
  have HFIN := Lib.hid (HNX.out.from2 M2 (fun b hb => .inl hb))
  clear hD1 hR1 hB1 m2 M2 hD2 hR2 c0 c1 c2 c3 c4 HNX hrv
  cases o with
  | true =>
    go_wp2_with (at_builtin; refine wpList_append_run HRUN.out rfl rfl rfl rfl ?_)
    all_goals (go_ret; exact ⟨rfl, HFIN.out⟩)
  | false =>
    go_wp2_with (at_builtin; refine wpList_append_run HRUN.out rfl rfl rfl rfl ?_)
    all_goals (go_ret; exact ⟨rfl, HFIN.out⟩)
theorem put_none {es : List (Int × Value)} {k : Int} {v : Value} (h : es.lookup k = none) : put es k v = es ++ [(k, v)] := by
  induction es with
  | nil => rfl
  | cons p es ih =>
    have hne : ¬ p.1 = k := by
      intro e
      rw [List.lookup_eq_none_iff] at h
      have := h p (by simp)
      simp [e] at this
    unfold put
    rw [if_neg hne, ih (by
      rw [List.lookup_eq_none_iff] at h ⊢
      exact fun q hq => h q (by simp [hq]))]
    rfl
/-- A file is laid into the map. -/
theorem DskAt.lay {w : World} {g mb room : Nat} {off : Bool} {plan : Int} {fs : List Fl} (h : DskAt w g mb room off plan fs) (num : Int) (hno : findF fs num = none) :
    ∃ w3, Hid ((Instr.mapUpdate 88 (.map (some mb)) (.int .i64 num) (.pointer (some ⟨w.heap.size, 0, none⟩))).run Try.prog (w.alloc (.cells #[.slice none 0 0, .int .i64 0] 94)) = .ok () w3) ∧
      DskAt w3 g mb room off plan (fs ++ [⟨num, w.heap.size, .slice none 0 0, [], 0⟩]) ∧ Mod (fun b => b = mb) w w3 := by
  have hb := (Below.refl w.heap.size w).alloc (Nat.le_refl _) (.cells #[.slice none 0 0, .int .i64 0] 94)
  obtain ⟨w3, hrun, hmap, hg, -⟩ := IMap.store (h.map.all hb) Try.underlying88 Try.underlying3 num (.pointer (some ⟨w.heap.size, 0, none⟩))
  have m : Mod (fun b => b = mb) w w3 := (Mod.of_below (fun b => b = mb) hb).then_grown (r := some mb) hg (fun g e => .inl (Option.some.inj e).symm)
  have hlk : (fs.map fun f => (f.num, f.ptr)).lookup num = none := by rw [lookup_findF, hno]; rfl
  rw [put_none hlk] at hmap
  have hmb := h.map.lt
  have hB := (Blk.new w 94 #[.slice none 0 0, .int .i64 0]).grown hg (fun e => by injection e with e; omega)
  refine ⟨w3, Lib.hid hrun, h.add m (by simpa [Fl.ptr] using hmap) ⟨hB, World.ownsRow_nil _ _ _ _, Nat.le_refl _⟩ ?_ rfl, m⟩
  rintro b (e | e)
  · simp only at e
    omega
  · cases e
theorem findF_new {fs : List Fl} {num : Int} {f : Fl} (hno : findF fs num = none) (hf : f.num = num) : findF (fs ++ [f]) num = some f := by
  unfold findF at hno ⊢
  rw [List.find?_append, hno]
  simp [hf]
set_option maxRecDepth 100000 in
set_option maxHeartbeats 2000000 in
theorem appendD_new (g mb room : Nat) (plan : Int) (fs : List Fl) (num : Int) (A : Option Addr) (n c : Nat) (xs : List UInt8) (w : World) (HD : Hid (DskAt w g mb room false plan fs)) (HN : Hid (findF fs num = none)) (h1 : 0 ≤ num) (h2 : num < 64) (HX : Hid (xs.length = n)) (hn0 : 0 < n) (hroom : sumL fs + n ≤ room)
    (HR : Hid (Rd w w.heap.size A n (vByte xs))) (HA : Hid (∀ b off, A = some ⟨b, off, none⟩ → ¬ DskF g mb fs b)) :
    Calls Try.prog 35 #[.pointer (some ⟨g, 0, none⟩), .int .i64 num, .slice A n c] w fun e w' => e = .returned (.int .i64 (if failOff false plan then 23 else 0)) ∧ DskNext g mb room (failOff false plan) (failPlan plan) fs (fs.map Fl.log ++ [(num, xs, 0)]) w w' := by
  obtain ⟨c0, c1, c2, c3, c4, hf⟩ := HD.out.dcells
  have hrm := HD.out.room_le
  have hul := HD.out.used_le
  obtain ⟨u, hu⟩ : ∃ u, sumL fs = u := ⟨_, rfl⟩
  rw [hu] at c1 hul hroom
  have HU := Lib.hid hu
  obtain ⟨o, ho⟩ : ∃ o, failOff false plan = o := ⟨_, rfl⟩
  rw [ho]
  have HO := Lib.hid ho
  clear hf hu ho
  go_enter Try.func35, Try.ntmps35
  go_wp2_with (go_at_call 55; ((with_reducible refine (isFile_yes _ _ h1 h2).mono ?_); rintro e w1 ⟨rfl, rfl⟩))
  have i1 : IntKind.i64.wrap ((room : Int) - (u : Int)) = (room : Int) - (u : Int) := IntWalk.i64_in _ (by omega)
  have i2 : decide ((room : Int) - (u : Int) < (n : Int)) = false := by rw [decide_eq_false_iff_not]; omega
  go_quiet (fail)
  clear i1 i2
  have hD1 := HD.out.all (below_drewN (Below.refl _ w) nq)
  have hR1 : Rd (w.drewN nq) (w.drewN nq).heap.size A n (vByte xs) := HR.out
  have hB1 : Below w.heap.size w (w.drewN nq) := below_drewN (Below.refl _ w) nq
  go_wp2_with fail
  generalize w.drewN nq = w1 at *
  refine (fails_any _ _ _ _ _ _ _ (Lib.hid hD1)).mono ?_
  rintro e w2 ⟨rfl, hD2, m2⟩
  rw [HO.out] at hD2 ⊢
  have hR2 : Rd w2 w2.heap.size A n (vByte xs) := by
    have := m2.rd hR1 (Nat.le_refl _) (fun b off e hp hf => HA.out b off e (.inl hf))
    exact this.more m2.size
  have M2 : Mod (DskF g mb fs) w w2 := (Mod.of_below (DskF g mb fs) hB1).trans m2 (fun b hb => .inl (.inl hb))
  have hlk := DskAt.look hD2 num
  rw [HN.out] at hlk
  replace hlk : (Instr.lookup 88 (.map (some mb)) (.int .i64 num) false).run Try.prog w2 = .ok (.pointer none) w2 := hlk
  obtain ⟨d0, d1, d2, d3, d4, -⟩ := hD2.dcells
  obtain ⟨w3, hmu, hD3, m3⟩ := hD2.lay num HN.out
  replace hmu := hmu.out
  have hR3 : Rd w3 w3.heap.size A n (vByte xs) := by
    have := m3.rd hR2 (Nat.le_refl _) (fun b off e hp hf => HA.out b off e (.inr (.inl hf)))
    exact this.more m3.size
  have M3 := M2.trans m3 (fun b hb => .inl (.inr (.inl hb)))
  have hlk3 := DskAt.look hD3 num
  rw [findF_new HN.out rfl] at hlk3
  replace hlk3 : (Instr.lookup 88 (.map (some mb)) (.int .i64 num) false).run Try.prog w3 = .ok (.pointer (some ⟨w2.heap.size, 0, none⟩)) w3 := hlk3
  obtain ⟨e0, e1, e2, e3, e4, -⟩ := hD3.dcells
  have hs3 : sumL (fs ++ [⟨num, w2.heap.size, .slice none 0 0, [], 0⟩]) = u := by rw [sumL_append, HU.out]; simp [sumL]
  obtain ⟨A0, n0, c0', A3, n3, c3', w4, hrv, hcl, HRUN, hcl3, hfr3, hcg, hfg, HNX⟩ := hD3.grow (l2 := []) A n c xs HX.out hR3 (by rw [hs3]; exact hroom)
  rw [hs3] at hcg HNX e1
  rw [HU.out] at d1
  have HFIN := Lib.hid (HNX.out.from2 M3 (fun b hb => by
    rcases hb with e | e | ⟨d, hd, hb⟩
    · exact .inl (.inl e)
    · exact .inl (.inr (.inl e))
    · rcases List.mem_append.1 hd with hd | hd
      · exact .inl (.inr (.inr ⟨d, hd, hb⟩))
      · simp at hd
        subst hd
        rcases hb with e | e
        · simp only at e
          have := M2.size
          exact .inr (by omega)
        · cases e))
  replace HFIN : Hid (DskNext g mb room o (failPlan plan) fs (fs.map Fl.log ++ [(num, xs, 0)]) w _) := HFIN
  clear hD1 hR1 hB1 m2 M2 hD2 hR2 c0 c1 c2 c3 c4 HNX hrv hD3 m3 hR3 M3 hs3
  cases o with
  | true =>
    go_wp2_with (at_builtin; refine wpList_append_run HRUN.out rfl rfl rfl rfl ?_)
    all_goals (go_ret; exact ⟨rfl, HFIN.out⟩)
  | false =>
    go_wp2_with (at_builtin; refine wpList_append_run HRUN.out rfl rfl rfl rfl ?_)
    all_goals (go_ret; exact ⟨rfl, HFIN.out⟩)
end Go.Proofs.Ytldmokjpfnakkaa

/- disk: Read, Sync. -/
namespace Go.Proofs.Ytldmokjpfnakkaa
open Go.RowKit

theorem readD_arg (g mb room : Nat) (off : Bool) (plan : Int) (fs : List Fl) (num : Int) (w : World) (_HD : Hid (DskAt w g mb room off plan fs)) (h : num < 0 ∨ 64 ≤ num) :
    Calls Try.prog 51 #[.pointer (some ⟨g, 0, none⟩), .int .i64 num] w fun e w' => e = .returned (.tuple #[.slice none 0 0, .int .i64 1]) ∧ w = w' := by
  go_enter Try.func51, Try.ntmps51
  go_wp2_with (go_at_call 55; ((with_reducible refine (isFile_no _ _ h).mono ?_); rintro e w1 ⟨rfl, rfl⟩))
  go_ret2
  exact ⟨rfl, rfl⟩
theorem readD_off (g mb room : Nat) (plan : Int) (fs : List Fl) (num : Int) (w : World) (HD : Hid (DskAt w g mb room true plan fs)) (h1 : 0 ≤ num) (h2 : num < 64) :
    Calls Try.prog 51 #[.pointer (some ⟨g, 0, none⟩), .int .i64 num] w fun e w' => e = .returned (.tuple #[.slice none 0 0, .int .i64 23]) ∧ w = w' := by
  obtain ⟨c0, c1, c2, c3, c4, -⟩ := HD.out.dcells
  go_enter Try.func51, Try.ntmps51
  go_wp2_with (go_at_call 55; ((with_reducible refine (isFile_yes _ _ h1 h2).mono ?_); rintro e w1 ⟨rfl, rfl⟩))
  go_ret2
  exact ⟨rfl, rfl⟩
theorem readD_none (g mb room : Nat) (plan : Int) (fs : List Fl) (num : Int) (w : World) (HD : Hid (DskAt w g mb room false plan fs)) (HN : Hid (findF fs num = none)) (h1 : 0 ≤ num) (h2 : num < 64) :
    Calls Try.prog 51 #[.pointer (some ⟨g, 0, none⟩), .int .i64 num] w fun e w' => e = .returned (.tuple #[.slice none 0 0, .int .i64 0]) ∧ w = w' := by
  obtain ⟨c0, c1, c2, c3, c4, -⟩ := HD.out.dcells
  have hlk := DskAt.look2 HD.out num
  rw [HN.out] at hlk
  replace hlk : (Instr.lookup 88 (.map (some mb)) (.int .i64 num) true).run Try.prog w = .ok (.tuple #[.pointer none, .bool false]) w := hlk
  go_enter Try.func51, Try.ntmps51
  go_wp2_with (go_at_call 55; ((with_reducible refine (isFile_yes _ _ h1 h2).mono ?_); rintro e w1 ⟨rfl, rfl⟩))
  go_ret2
  exact ⟨rfl, rfl⟩
def ReadPost (bs : List UInt8) (w : World) (e : Ending) (w' : World) : Prop := ∃ A n c, e = .returned (.tuple #[.slice A n c, .int .i64 0]) ∧ w'.ownsRow w.heap.size 5 1 (.slice A n c) n (bs.map fun b => Value.int .u8 ((b.toNat : Nat) : Int)) ∧ Below w.heap.size w w'
theorem readD_some (g mb room : Nat) (plan : Int) (fs : List Fl) (f : Fl) (num : Int) (w : World) (HD : Hid (DskAt w g mb room false plan fs)) (HN : Hid (findF fs num = some f)) (h1 : 0 ≤ num) (h2 : num < 64) :
    Calls Try.prog 51 #[.pointer (some ⟨g, 0, none⟩), .int .i64 num] w (ReadPost f.bs w) := by
  obtain ⟨c0, c1, c2, c3, c4, -⟩ := HD.out.dcells
  have hlk := DskAt.look2 HD.out num
  rw [HN.out] at hlk
  replace hlk : (Instr.lookup 88 (.map (some mb)) (.int .i64 num) true).run Try.prog w = .ok (.tuple #[.pointer (some ⟨f.fb, 0, none⟩), .bool true]) w := hlk
  obtain ⟨l1, l2, hfs, -⟩ := findF_split HN.out
  have hok := HD.out.ok f (by rw [hfs]; simp)
  obtain ⟨A0, k0, hrv⟩ := own_slice hok.2.1
  have hcl : w.cell? ⟨f.fb, 0, none⟩ = some (.slice A0 f.bs.length k0) := by rw [← hrv]; simpa using hok.1.cell 0
  have hown := hok.2.1
  rw [hrv] at hown
  have hrd := (rd_bytes hown).2.2
  have hlen : f.bs.length ≤ 16777216 := by
    have h1 := HD.out.room_le
    have h2 := HD.out.used_le
    rw [hfs, sumL_append, sumL_cons] at h2
    omega
  obtain ⟨k, hk⟩ : ∃ k, f.bs.length = k := ⟨_, rfl⟩
  rw [hk] at hcl hrd hlen
  have HK := Lib.hid hk
  clear hk hfs hok hrv hown
  go_enter Try.func51, Try.ntmps51
  go_wp2_with (first
    | (go_at_call 55; ((with_reducible refine (isFile_yes _ _ h1 h2).mono ?_); rintro e w1 ⟨rfl, rfl⟩))
    | (go_at_call 45; ((with_reducible refine (clone_any _ _ _ f.bs _ HK hrd (by omega)).mono ?_); rintro e w2 ⟨A', c', rfl, q1, q2, q3, q4, q5⟩)))
  go_ret2
  exact ⟨A', k, c', rfl, q3, q5⟩
/-- Files whose bytes are all durable, but for those that are left. -/
def syncF (left : Int → Bool) (f : Fl) : Fl := if left f.num then f else { f with dur := f.bs.length }
theorem syncF_num (left : Int → Bool) (f : Fl) : (syncF left f).num = f.num := by unfold syncF; split <;> rfl
theorem syncF_bs (left : Int → Bool) (f : Fl) : (syncF left f).bs = f.bs := by unfold syncF; split <;> rfl
theorem syncF_fb (left : Int → Bool) (f : Fl) : (syncF left f).fb = f.fb := by unfold syncF; split <;> rfl
theorem syncF_rv (left : Int → Bool) (f : Fl) : (syncF left f).rv = f.rv := by unfold syncF; split <;> rfl
theorem syncF_all (f : Fl) : syncF (fun _ => true) f = f := by simp [syncF]
def syncLog (st : List (Int × List UInt8 × Nat)) : List (Int × List UInt8 × Nat) := st.map fun p => (p.1, p.2.1, p.2.1.length)
theorem syncF_done {fs : List Fl} {left : Int → Bool} (h : ∀ f ∈ fs, left f.num = false) : (fs.map (syncF left)).map Fl.log = syncLog (fs.map Fl.log) := by
  rw [syncLog, List.map_map, List.map_map]
  apply List.map_congr_left
  intro f hf
  simp [Function.comp, syncF, h f hf, Fl.log]
theorem sumL_sync (fs : List Fl) (left : Int → Bool) : sumL (fs.map (syncF left)) = sumL fs := by
  unfold sumL
  rw [List.map_map]
  congr 1
  apply List.map_congr_left
  intro f _
  simp [Function.comp, syncF_bs]
theorem keys_sync (fs : List Fl) (left : Int → Bool) : (fs.map (syncF left)).map (fun f => (f.num, f.ptr)) = fs.map fun f => (f.num, f.ptr) := by
  rw [List.map_map]
  apply List.map_congr_left
  intro f _
  simp [Function.comp, syncF_num, Fl.ptr, syncF_fb]
theorem IMap.nodup {w : World} {b : Nat} {es : List (Int × Value)} (h : IMap w b es) : (es.map Prod.fst).Nodup := by
  obtain ⟨l, c, -, -, h3, -⟩ := h
  exact h3
theorem DskAt.syncOne {w : World} {g mb room : Nat} {off : Bool} {plan : Int} {fs : List Fl} {left : Int → Bool} {f : Fl} (h : DskAt w g mb room off plan (fs.map (syncF left))) (hf : f ∈ fs) (hl : left f.num = true) :
    ∃ A c, f.rv = .slice A f.bs.length c ∧ w.cell? ⟨f.fb, 0, none⟩ = some (.slice A f.bs.length c) ∧ w.cell? ⟨f.fb, 1, none⟩ = some (.int .i64 (f.dur : Int)) ∧ w.frozen? ⟨f.fb, 1, none⟩ = false ∧
      DskAt (w.setCell ⟨f.fb, 1, none⟩ (.int .i64 (f.bs.length : Int))) g mb room off plan (fs.map (syncF fun j => left j && !(j == f.num))) ∧ Mod (fun b => b = f.fb) w (w.setCell ⟨f.fb, 1, none⟩ (.int .i64 (f.bs.length : Int))) := by
  obtain ⟨l1, l2, rfl⟩ := List.append_of_mem hf
  have hn := h.map.nodup
  rw [keys_sync] at hn
  have hsf : syncF left f = f := by simp [syncF, hl]
  rw [List.map_append, List.map_cons, hsf] at h
  have hne : ∀ d ∈ l1 ++ l2, d.num ≠ f.num := by
    intro d hd e
    simp only [List.map_append, List.map_cons, List.map_map, Function.comp_def] at hn
    rw [List.nodup_append] at hn
    obtain ⟨-, h2, h3⟩ := hn
    rw [List.nodup_cons] at h2
    rcases List.mem_append.1 hd with hd | hd
    · exact h3 d.num (List.mem_map.2 ⟨d, hd, rfl⟩) f.num (by simp) e
    · exact h2.1 (List.mem_map.2 ⟨d, hd, e⟩)
  have hsame : ∀ l : List Fl, (∀ d ∈ l, d ∈ l1 ++ l2) → l.map (syncF fun j => left j && !(j == f.num)) = l.map (syncF left) := by
    intro l hl'
    apply List.map_congr_left
    intro d hd
    have : (d.num == f.num) = false := beq_false_of_ne (hne d (hl' d hd))
    simp [syncF, this]
  have hnew : (l1 ++ f :: l2).map (syncF fun j => left j && !(j == f.num)) = l1.map (syncF left) ++ ({ f with dur := f.bs.length } : Fl) :: l2.map (syncF left) := by
    rw [List.map_append, List.map_cons, hsame l1 (fun d hd => by simp [hd]), hsame l2 (fun d hd => by simp [hd])]
    simp [syncF]
  have hfm : f ∈ l1.map (syncF left) ++ f :: l2.map (syncF left) := by simp
  have hok := h.ok f hfm
  obtain ⟨A, c, hrv⟩ := own_slice hok.2.1
  have hgne : f.fb ≠ g := (h.F_ne hfm _ (.inl rfl)).1
  have m : Mod (fun b => b = f.fb) w (w.setCell ⟨f.fb, 1, none⟩ (.int .i64 (f.bs.length : Int))) := (Mod.refl (fun b => b = f.fb) w).set (p := ⟨f.fb, 1, none⟩) (.inl rfl) _
  have hs : sumL (l1.map (syncF left) ++ ({ f with dur := f.bs.length } : Fl) :: l2.map (syncF left)) = sumL (l1.map (syncF left) ++ f :: l2.map (syncF left)) := by simp [sumL]
  refine ⟨A, c, hrv, by rw [← hrv]; simpa using hok.1.cell 0, by simpa using hok.1.cell 1, hok.1.frozen 1, ?_, m⟩
  rw [hnew]
  refine (h.upd (f' := { f with dur := f.bs.length }) (off' := off) (plan' := plan) (m.mono (fun b hb => .inl (.inl (.inl hb)))) (by rw [hs]; exact m.blk h.blk (fun e => hgne e.symm)) rfl rfl ⟨?_, ?_, Nat.le_refl _⟩ (.inl rfl) (by rw [hs]; exact h.used_le) h.plan_le).1
  · simpa using hok.1.set_ 1 (.int .i64 (f.bs.length : Int))
  · exact m.own hok.2.1 (fun b e hb => own_ne (by decide) hok.1 hok.2.1 (by rw [e, hb]))
end Go.Proofs.Ytldmokjpfnakkaa

/- disk: Sync. -/
namespace Go.Proofs.Ytldmokjpfnakkaa
open Go.RowKit

theorem DskAt.not_iter {w : World} {g mb room r : Nat} {off : Bool} {plan : Int} {fs : List Fl} {es : List (Int × Value)} {left : Int → Bool} (h : DskAt w g mb room off plan fs) (hi : IIter w mb r es left) : ∀ b, DskF g mb fs b → b ≠ r := by
  rintro b (rfl | rfl | ⟨f, hf, (rfl | e)⟩) he
  · subst he
    exact hi.not_ty h.blk.ty
  · exact hi.ne he.symm
  · subst he
    exact hi.not_ty (h.ok f hf).1.ty
  · subst he
    exact hi.not_ty (Ty.of_own (h.ok f hf).2.1 e)
theorem DskF_sync (g mb : Nat) (fs : List Fl) (left : Int → Bool) (b : Nat) : DskF g mb (fs.map (syncF left)) b ↔ DskF g mb fs b := by
  unfold DskF
  refine or_congr Iff.rfl (or_congr Iff.rfl ⟨?_, ?_⟩)
  · rintro ⟨f, hf, hb⟩
    obtain ⟨d, hd, rfl⟩ := List.mem_map.1 hf
    refine ⟨d, hd, ?_⟩
    unfold Fl.F at hb ⊢
    rw [syncF_fb, syncF_rv] at hb
    exact hb
  · rintro ⟨f, hf, hb⟩
    refine ⟨syncF left f, List.mem_map.2 ⟨f, hf, rfl⟩, ?_⟩
    unfold Fl.F at hb ⊢
    rw [syncF_fb, syncF_rv]
    exact hb
theorem sync_off (g mb room : Nat) (plan : Int) (fs : List Fl) (w : World) (HD : Hid (DskAt w g mb room true plan fs)) :
    Calls Try.prog 53 #[.pointer (some ⟨g, 0, none⟩)] w fun e w' => e = .returned (.int .i64 23) ∧ w = w' := by
  obtain ⟨c0, c1, c2, c3, c4, -⟩ := HD.out.dcells
  go_enter Try.func53, Try.ntmps53
  go_wp2
  go_ret
  exact ⟨rfl, rfl⟩
set_option maxRecDepth 100000 in
set_option maxHeartbeats 2000000 in
theorem sync_any (g mb room : Nat) (plan : Int) (fs : List Fl) (w : World) (HD : Hid (DskAt w g mb room false plan fs)) :
    Calls Try.prog 53 #[.pointer (some ⟨g, 0, none⟩)] w fun e w' => e = .returned (.int .i64 (if failOff false plan then 23 else 0)) ∧ DskNext g mb room (failOff false plan) (failPlan plan) fs (if failOff false plan then fs.map Fl.log else syncLog (fs.map Fl.log)) w w' := by
  obtain ⟨c0, c1, c2, c3, c4, -⟩ := HD.out.dcells
  obtain ⟨o, ho⟩ : ∃ o, failOff false plan = o := ⟨_, rfl⟩
  rw [ho]
  have HO := Lib.hid ho
  clear ho
  go_enter Try.func53, Try.ntmps53
  go_wp2_with fail
  refine (fails_any _ _ _ _ _ _ _ HD).mono ?_
  rintro e w2 ⟨rfl, hD2, m2⟩
  rw [HO.out] at hD2 ⊢
  have M2 : Mod (DskF g mb fs) w w2 := m2.mono (fun b hb => .inl (.inl hb))
  clear m2 c0 c1 c2 c3 c4
  cases o with
  | true =>
    go_wp2
    go_ret
    exact ⟨rfl, fs, rfl, hD2, M2, fun b hb => .inl hb⟩
  | false =>
    obtain ⟨d0, d1, d2, d3, d4, -⟩ := hD2.dcells
    obtain ⟨w3, hrg, hi3, hb3⟩ := IMap.iter (P := Try.prog) hD2.map Try.underlying88
    have hD3 := hD2.all hb3
    have M3 := M2.then_below hb3
    obtain ⟨r, hr⟩ : ∃ r, w2.heap.size = r := ⟨_, rfl⟩
    rw [hr] at hrg hi3
    have hrw : w.heap.size ≤ r := by rw [← hr]; exact M2.size
    have HD3 : Hid (DskAt w3 g mb room false (failPlan plan) (fs.map (syncF fun _ => true))) := Lib.hid (by
      have : fs.map (syncF fun _ => true) = fs := by
        conv => rhs; rw [← List.map_id fs]
        exact List.map_congr_left (fun f _ => syncF_all f)
      rw [this]
      exact hD3)
    have HI3 := Lib.hid hi3
    have HM3 := Lib.hid M3
    clear hD2 hD3 hi3 M3 M2 hb3 hr
    go_wp2
    go_loopw [4] (fun _ wr => ∃ left, Hid (IIter wr mb r (fs.map fun f => (f.num, f.ptr)) left) ∧ Hid (DskAt wr g mb room false (failPlan plan) (fs.map (syncF left))) ∧ Hid (Mod (DskF g mb fs) w wr)) (fun _ wr => iterLeft wr mb r)
    case atStart => exact ⟨_, HI3, HD3, HM3⟩
    case round =>
      obtain ⟨left, HI, HDr, HMr⟩ := hrel
      rcases HI.out.next (P := Try.prog) with ⟨hno, hnx⟩ | ⟨k, v, w', hkv, hlk, hnx, hen, hI', hg', -, hlt⟩
      · have HNO := Lib.hid (show ∀ f ∈ fs, left f.num = false from fun f hf => hno (f.num, f.ptr) (List.mem_map.2 ⟨f, hf, rfl⟩))
        clear hno
        go_wp2
        go_ret
        exact ⟨rfl, _, syncF_done HNO.out, HDr.out, HMr.out, fun b hb => .inl ((DskF_sync _ _ _ _ _).1 hb)⟩
      · obtain ⟨f, hf, he⟩ := List.mem_map.1 hkv
        injection he with he1 he2
        subst he1 he2
        have hnr := HDr.out.not_iter HI.out
        have hD' := HDr.out.mod (Mod.of_grown (F := fun b => b = r) hg' (fun b e => .inl (by injection e with e; exact e.symm))) (fun b hb e => hnr b hb e)
        obtain ⟨A, c, hrv, q1, q2, q3, hD'', m''⟩ := hD'.syncOne hf hlk
        have HD'' := Lib.hid hD''
        have hfr : f.fb ≠ r := hnr _ ((DskF_sync _ _ _ _ _).2 (.inr (.inr ⟨f, hf, .inl rfl⟩)))
        have hfm : f.fb ≠ mb := by
          have := (HDr.out.F_ne (f := syncF left f) (List.mem_map.2 ⟨f, hf, rfl⟩) f.fb (by unfold Fl.F; rw [syncF_fb]; exact .inl rfl)).2
          exact this
        have HI'' := Lib.hid (hI'.mod m'' (fun e => hfm e.symm) (fun e => hfr e.symm))
        have HM'' : Hid (Mod (DskF g mb fs) w (w'.setCell ⟨f.fb, 1, none⟩ (.int .i64 (f.bs.length : Int)))) := Lib.hid ((HMr.out.then_grown hg' (fun b e => .inr (by injection e with e; omega))).trans m'' (fun b hb => .inl (.inr (.inr ⟨f, hf, .inl hb⟩))))
        have HLT : Hid (iterLeft (w'.setCell ⟨f.fb, 1, none⟩ (.int .i64 (f.bs.length : Int))) mb r < iterLeft wr mb r) := Lib.hid (by
          have e : iterLeft (w'.setCell ⟨f.fb, 1, none⟩ (.int .i64 (f.bs.length : Int))) mb r = iterLeft w' mb r := by
            unfold iterLeft
            rw [Below.heap_setCell w' ⟨f.fb, 1, none⟩ _ mb (fun e => hfm e.symm), Below.heap_setCell w' ⟨f.fb, 1, none⟩ _ r (fun e => hfr e.symm)]
          rw [e]
          exact hlt)
        replace hnx : ∀ ty, (Instr.next (.pointer (some ⟨r, 0, none⟩)) false ty).run Try.prog wr = .ok (.tuple #[.bool true, .int .i64 f.num, .pointer (some ⟨f.fb, 0, none⟩)]) w' := hnx
        replace hen : (Instr.entry (.pointer (some ⟨r, 0, none⟩))).run Try.prog w' = .ok (.tuple #[.int .i64 f.num, .pointer (some ⟨f.fb, 0, none⟩)]) w' := hen
        clear hkv hlk hI' hg' hlt hnr hD' hD'' m'' hfr hfm hrv
        go_wp2
        exact ⟨⟨_, HI'', HD'', HM''⟩, HLT.out⟩
end Go.Proofs.Ytldmokjpfnakkaa

/- journal: the log. -/
namespace Go.Proofs.Ytldmokjpfnakkaa
open Go.RowKit

/-- A log at block gl. -/
def LogAt (w : World) (gl g : Nat) (num : Int) (len : Nat) (up : Bool) : Prop := Blk w gl 87 #[.pointer (some ⟨g, 0, none⟩), .int .i64 num, .int .i64 (len : Int), .bool up]
theorem LogAt.cells {w : World} {gl g : Nat} {num : Int} {len : Nat} {up : Bool} (h : LogAt w gl g num len up) : w.cell? ⟨gl, 0, none⟩ = some (.pointer (some ⟨g, 0, none⟩)) ∧ w.cell? ⟨gl, 1, none⟩ = some (.int .i64 num) ∧ w.cell? ⟨gl, 2, none⟩ = some (.int .i64 (len : Int)) ∧ w.cell? ⟨gl, 3, none⟩ = some (.bool up) ∧ w.frozen? ⟨gl, 2, none⟩ = false ∧ w.frozen? ⟨gl, 3, none⟩ = false :=
  ⟨Blk.cell h 0, Blk.cell h 1, Blk.cell h 2, Blk.cell h 3, Blk.frozen h 2, Blk.frozen h 3⟩
/-- The deferred closure of Append: the error is no ErrDown. -/
theorem door_no (be bl : Nat) (err : Int) (u : FrameMode) (w : World) (h0 : w.cell? ⟨be, 0, none⟩ = some (.int .i64 err)) (he : (err == 23) = false) :
    CallsD Try.prog 54 #[.pointer (some ⟨be, 0, none⟩), .pointer (some ⟨bl, 0, none⟩)] u w fun e u' w' => u' = u ∧ (e = .returned (.tuple #[]) ∧ w' = w) := by
  go_enter_d Try.func54, Try.ntmps54
  go_wp2
  go_end0
  exact ⟨rfl, rfl⟩
theorem door_yes (be bl gl : Nat) (u : FrameMode) (w : World) (v : Value) (h0 : w.cell? ⟨be, 0, none⟩ = some (.int .i64 23)) (h1 : w.cell? ⟨bl, 0, none⟩ = some (.pointer (some ⟨gl, 0, none⟩))) (h2 : w.cell? ⟨gl, 3, none⟩ = some v) (h3 : w.frozen? ⟨gl, 3, none⟩ = false) :
    CallsD Try.prog 54 #[.pointer (some ⟨be, 0, none⟩), .pointer (some ⟨bl, 0, none⟩)] u w fun e u' w' => u' = u ∧ (e = .returned (.tuple #[]) ∧ w' = w.setCell ⟨gl, 3, none⟩ (.bool false)) := by
  go_enter_d Try.func54, Try.ntmps54
  go_wp2
  go_end0
  exact ⟨rfl, rfl⟩
set_option maxRecDepth 100000 in
set_option maxHeartbeats 2000000 in
theorem logAppend_limit (gl : Nat) (A : Option Addr) (n c : Nat) (w : World) (hn : 65536 < n) :
    Calls Try.prog 32 #[.pointer (some ⟨gl, 0, none⟩), .slice A n c] w fun e w' => e = .returned (.int .i64 4) ∧ Below w.heap.size w w' := by
  go_enter_defers Try.func32, Try.ntmps32
  go_wp2
  refine leaves_cons (f := 54) (args := #[.pointer (some ⟨w.heap.size + 1, 0, none⟩), .pointer (some ⟨w.heap.size, 0, none⟩)]) (by simp) (by simp [go_sem]) ?_
  have hB := Blk.new (w.alloc (.cells #[.pointer (some ⟨gl, 0, none⟩)] 53)) 47 #[.int .i64 4]
  rw [World.size_alloc] at hB
  refine (door_no (w.heap.size + 1) w.heap.size 4 .returning _ (hB.cell 0) rfl).mono ?_
  rintro e u' w'' ⟨rfl, rfl, rfl⟩
  refine ⟨.int .i64 4, ?_, rfl, ((Below.refl _ w).alloc (Nat.le_refl _) _).alloc (by simp) _⟩
  simp [results, Try.results32, go_sem]
set_option maxRecDepth 100000 in
set_option maxHeartbeats 2000000 in
theorem logAppend_down (gl g : Nat) (num : Int) (len : Nat) (A : Option Addr) (n c : Nat) (w : World) (HL : Hid (LogAt w gl g num len false)) (hn : n ≤ 65536) :
    Calls Try.prog 32 #[.pointer (some ⟨gl, 0, none⟩), .slice A n c] w fun e w' => e = .returned (.int .i64 23) ∧ LogAt w' gl g num len false ∧ Mod (fun b => b = gl) w w' := by
  obtain ⟨l0, l1, l2, l3, -, -⟩ := HL.out.cells
  have hlt := Blk.lt HL.out
  go_enter_defers Try.func32, Try.ntmps32
  go_wp2
  refine leaves_cons (f := 54) (args := #[.pointer (some ⟨w.heap.size + 1, 0, none⟩), .pointer (some ⟨w.heap.size, 0, none⟩)]) (by simp) (by simp [go_sem]) ?_
  have hB := Blk.new (w.alloc (.cells #[.pointer (some ⟨gl, 0, none⟩)] 53)) 47 #[.int .i64 23]
  rw [World.size_alloc] at hB
  have hL := Blk.alloc (Blk.new w 53 #[.pointer (some ⟨gl, 0, none⟩)]) (.cells #[.int .i64 23] 47)
  have hG : LogAt ((w.alloc (.cells #[.pointer (some ⟨gl, 0, none⟩)] 53)).alloc (.cells #[.int .i64 23] 47)) gl g num len false := Blk.alloc (Blk.alloc HL.out _) _
  obtain ⟨-, -, -, g3, -, g4⟩ := hG.cells
  refine (door_yes (w.heap.size + 1) w.heap.size gl .returning _ _ (hB.cell 0) (hL.cell 0) g3 g4).mono ?_
  rintro e u' w'' ⟨rfl, rfl, rfl⟩
  have hB2 := Blk.far (p := ⟨gl, 3, none⟩) hB (by simp; omega) (.bool false)
  have hc := hB2.cell 0
  refine ⟨.int .i64 23, ?_, rfl, Blk.set_ hG 3 (.bool false), (((Mod.refl (fun b => b = gl) w).alloc _).alloc _).set (p := ⟨gl, 3, none⟩) (.inl rfl) _⟩
  simp [results, Try.results32, go_sem, hc]
/-- The cells that the region of Append loads. -/
structure LCells (gl g bl : Nat) (num : Int) (len : Nat) (w : World) : Prop where
  box : Blk w bl 53 #[.pointer (some ⟨gl, 0, none⟩)]
  log : LogAt w gl g num len true
theorem LCells.keep {gl g bl : Nat} {num : Int} {len : Nat} {w : World} (h : LCells gl g bl num len w) : w.cell? ⟨bl, 0, none⟩ = some (.pointer (some ⟨gl, 0, none⟩)) ∧ w.cell? ⟨gl, 0, none⟩ = some (.pointer (some ⟨g, 0, none⟩)) ∧ w.cell? ⟨gl, 1, none⟩ = some (.int .i64 num) ∧ w.cell? ⟨gl, 2, none⟩ = some (.int .i64 (len : Int)) :=
  ⟨Blk.cell h.box 0, h.log.cells.1, h.log.cells.2.1, h.log.cells.2.2.1⟩
theorem LCells.all {gl g bl : Nat} {num : Int} {len : Nat} {w w' : World} (h : LCells gl g bl num len w) (hb : Below w.heap.size w w') : LCells gl g bl num len w' := ⟨Blk.all h.box hb, Blk.all h.log hb⟩
theorem LCells.mod {gl g bl : Nat} {num : Int} {len : Nat} {w w' : World} {F : Nat → Prop} (h : LCells gl g bl num len w) (m : Mod F w w') (h1 : ¬ F bl) (h2 : ¬ F gl) : LCells gl g bl num len w' := ⟨m.blk h.box h1, m.blk h.log h2⟩
theorem undrewB {w w' : World} (h : Below w.drew.heap.size w.drew w') : Below w.heap.size w w' := ⟨h.os, h.tape, h.output, h.size, h.block⟩
set_option maxRecDepth 100000 in
set_option maxHeartbeats 2000000 in
theorem logAppend_full (gl g mb room : Nat) (num : Int) (len : Nat) (plan : Int) (fs : List Fl) (A : Option Addr) (n c : Nat) (bs : List UInt8) (w : World) (HL : Hid (LogAt w gl g num len true)) (HD : Hid (DskAt w g mb room false plan fs)) (hn : n ≤ 65536) (HX : Hid (bs.length = n)) (HR : Hid (Rd w w.heap.size A n (vByte bs))) (hlen : len ≤ 1099511627776) (h1 : 0 ≤ num) (h2 : num < 64) (hfull : room < sumL fs + (frameB (len : Int) bs).length) :
    Calls Try.prog 32 #[.pointer (some ⟨gl, 0, none⟩), .slice A n c] w fun e w' => e = .returned (.int .i64 22) ∧ Below w.heap.size w w' := by
  obtain ⟨l0, l1, l2, l3, -, -⟩ := HL.out.cells
  have hlt := Blk.lt HL.out
  have HB := Lib.hid (((Below.refl w.heap.size w).alloc (Nat.le_refl _) (.cells #[.pointer (some ⟨gl, 0, none⟩)] 53)).alloc (by simp) (.cells #[.int .i64 0] 47))
  have HE := Lib.hid (Blk.new (w.alloc (.cells #[.pointer (some ⟨gl, 0, none⟩)] 53)) 47 #[.int .i64 0])
  have HC := Lib.hid (show LCells gl g w.heap.size num len ((w.alloc (.cells #[.pointer (some ⟨gl, 0, none⟩)] 53)).alloc (.cells #[.int .i64 0] 47)) from ⟨Blk.alloc (Blk.new w 53 #[.pointer (some ⟨gl, 0, none⟩)]) _, Blk.alloc (Blk.alloc HL.out _) _⟩)
  rw [World.size_alloc] at HE
  have HRz := Lib.hid (HR.out.all HB.out)
  have HDz := Lib.hid (HD.out.all HB.out)
  have hfl := frameB_len (k := (len : Int)) (bs := bs) ⟨by omega, by omega⟩ (by rw [HX.out]; omega)
  rw [HX.out] at hfl
  go_enter_defers Try.func32, Try.ntmps32
  go_wp2
  obtain ⟨k0, k1, k2, k3⟩ := HC.out.keep
  generalize (w.alloc (.cells #[.pointer (some ⟨gl, 0, none⟩)] 53)).alloc (.cells #[.int .i64 0] 47) = wz at *
  clear l0 l1 l2 l3
  go_region_held3 (fun w' => w'.cell? ⟨w.heap.size, 0, none⟩ = some (.pointer (some ⟨gl, 0, none⟩)) ∧ w'.cell? ⟨gl, 0, none⟩ = some (.pointer (some ⟨g, 0, none⟩)) ∧ w'.cell? ⟨gl, 1, none⟩ = some (.int .i64 num) ∧ w'.cell? ⟨gl, 2, none⟩ = some (.int .i64 (len : Int)))
    (first | exact ⟨k0, k1, k2, k3⟩ | with_reducible exact (HC.out.all hS6).keep | with_reducible exact (HC.out.all hS5).keep | with_reducible exact (HC.out.all hS4).keep)
    (first
      | (go_at_call 45; ((with_reducible refine (clone_any _ _ _ bs _ HX HRz.out.drew (by omega)).mono ?_); rintro e w4 ⟨A4, c4, rfl, -, -, -, hr4, hb4⟩; have hS4 := undrewB hb4; clear hb4))
      | (go_at_call 12; revert hr4; intro hr4; ((with_reducible refine (frame_any _ _ _ _ bs _ HX (by omega) (by omega) (by omega) hr4).mono ?_); rintro e w5 ⟨A5, n5, c5, rfl, HN5, hown5, hb5⟩; have hS5 := bt hS4 hb5; clear hb5 hr4))
      | (go_at_call 35; revert hown5; intro hown5; ((with_reducible refine (appendD_full _ _ _ _ _ _ _ _ _ _ (Lib.hid (HDz.out.all hS5)) h1 h2 (by rw [← HN5.out]; exact hfull) (by rw [← HN5.out]; omega)).mono ?_); rintro e w6 ⟨rfl, hb6⟩; have hS6 := bt hS5 hb6; clear hb6)))
  have hE6 := Blk.all HE.out hS6
  have e0 : w6.cell? ⟨w.heap.size + 1, 0, none⟩ = some (.int .i64 0) := hE6.cell 0
  have e1 : w6.frozen? ⟨w.heap.size + 1, 0, none⟩ = false := hE6.frozen 0
  have hB6 := bt HB.out hS6
  have hE7 := Blk.set_ hE6 0 (.int .i64 22)
  have HE7 := Lib.hid hE7
  have HB7 := Lib.hid (hB6.setCell (p := ⟨w.heap.size + 1, 0, none⟩) (by simp) (.int .i64 22))
  clear hE6 hE7 hB6 hS6 hS5 hS4 hown5 k0 k1 k2 k3
  go_wp2
  refine leaves_cons (f := 54) (args := #[.pointer (some ⟨w.heap.size + 1, 0, none⟩), .pointer (some ⟨w.heap.size, 0, none⟩)]) (by simp) (by simp [go_sem]) ?_
  have hc := HE7.out.cell 0
  refine (door_no (w.heap.size + 1) w.heap.size 22 .returning _ hc rfl).mono ?_
  rintro e u' w'' ⟨rfl, rfl, rfl⟩
  refine ⟨.int .i64 22, ?_, rfl, HB7.out⟩
  simp at hc
  simp [results, Try.results32, go_sem, e0]
end Go.Proofs.Ytldmokjpfnakkaa

/- journal: Append of the log, where the disk takes the frame. -/
namespace Go.Proofs.Ytldmokjpfnakkaa
open Go.RowKit

/-- The files after a disk's Append. -/
def AppSt (fs : List Fl) (num : Int) (xs : List UInt8) (st : List (Int × List UInt8 × Nat)) : Prop :=
  (findF fs num = none ∧ st = fs.map Fl.log ++ [(num, xs, 0)]) ∨ ∃ l1 f l2, fs = l1 ++ f :: l2 ∧ findF fs num = some f ∧ st = l1.map Fl.log ++ (f.num, f.bs ++ xs, f.dur) :: l2.map Fl.log
theorem appendD_any (g mb room : Nat) (plan : Int) (fs : List Fl) (st : List (Int × List UInt8 × Nat)) (num : Int) (A : Option Addr) (n c : Nat) (xs : List UInt8) (o : Bool) (w : World) (HD : Hid (DskAt w g mb room false plan fs)) (HS : Hid (AppSt fs num xs st)) (HO : Hid (failOff false plan = o)) (h1 : 0 ≤ num) (h2 : num < 64) (HX : Hid (xs.length = n)) (hn0 : 0 < n) (hroom : sumL fs + n ≤ room)
    (HR : Hid (Rd w w.heap.size A n (vByte xs))) (HA : Hid (∀ b off, A = some ⟨b, off, none⟩ → ¬ DskF g mb fs b)) :
    Calls Try.prog 35 #[.pointer (some ⟨g, 0, none⟩), .int .i64 num, .slice A n c] w fun e w' => e = .returned (.int .i64 (if o then 23 else 0)) ∧ DskNext g mb room o (failPlan plan) fs st w w' := by
  rw [← HO.out]
  rcases HS.out with ⟨h3, rfl⟩ | ⟨l1, f, l2, rfl, h3, rfl⟩
  · exact appendD_new g mb room plan fs num A n c xs w HD (Lib.hid h3) h1 h2 HX hn0 hroom HR HA
  · exact appendD_old g mb room plan l1 l2 f num A n c xs w HD (Lib.hid h3) h1 h2 HX hn0 hroom HR HA
theorem away_own {w : World} {B N n c : Nat} {A : Option Addr} {xs : List Value} {P : Nat → Prop} (h : w.ownsRow B 5 1 (.slice A n c) n xs) (hp : 0 < n) (hP : ∀ b, P b → b < N) (hN : N ≤ B) : ∀ b off, A = some ⟨b, off, none⟩ → ¬ P b := by
  intro b off eb hf
  have h3 := hP b hf
  obtain ⟨gq, eg, hgq, _⟩ := own_some h hp
  rw [eb] at eg
  injection eg with eg
  injection eg with eg _ _
  omega
/-- The log and its disk after Append. -/
def LogNext (gl g mb room : Nat) (num : Int) (off' : Bool) (plan' : Int) (len' : Nat) (up' : Bool) (fs : List Fl) (st : List (Int × List UInt8 × Nat)) (w w' : World) : Prop :=
  ∃ fs', fs'.map Fl.log = st ∧ DskAt w' g mb room off' plan' fs' ∧ LogAt w' gl g num len' up' ∧ Mod (fun b => DskF g mb fs b ∨ b = gl) w w' ∧ ∀ b, DskF g mb fs' b → DskF g mb fs b ∨ w.heap.size ≤ b
set_option maxRecDepth 100000 in
set_option maxHeartbeats 4000000 in
theorem logAppend_ok (gl g mb room : Nat) (num : Int) (len : Nat) (plan : Int) (fs : List Fl) (st : List (Int × List UInt8 × Nat)) (A : Option Addr) (n c : Nat) (bs : List UInt8) (w : World) (HL : Hid (LogAt w gl g num len true)) (HD : Hid (DskAt w g mb room false plan fs)) (hgl : ¬ DskF g mb fs gl) (hn : n ≤ 65536) (HX : Hid (bs.length = n)) (HR : Hid (Rd w w.heap.size A n (vByte bs))) (hlen : len ≤ 1099511627776) (h1 : 0 ≤ num) (h2 : num < 64) (hroom : sumL fs + (frameB (len : Int) bs).length ≤ room)
    (HS : Hid (AppSt fs num (frameB (len : Int) bs) st)) (HO1 : Hid (failOff false plan = false)) (HO2 : Hid (failOff false (failPlan plan) = false)) :
    Calls Try.prog 32 #[.pointer (some ⟨gl, 0, none⟩), .slice A n c] w fun e w' => e = .returned (.int .i64 0) ∧ LogNext gl g mb room num false (failPlan (failPlan plan)) (len + 1) true fs (syncLog st) w w' := by
  obtain ⟨l0, l1, l2, l3, -, -⟩ := HL.out.cells
  have hlt := Blk.lt HL.out
  have HF := Lib.hid HD.out.ltF
  have HB := Lib.hid (((Below.refl w.heap.size w).alloc (Nat.le_refl _) (.cells #[.pointer (some ⟨gl, 0, none⟩)] 53)).alloc (by simp) (.cells #[.int .i64 0] 47))
  have HE := Lib.hid (Blk.new (w.alloc (.cells #[.pointer (some ⟨gl, 0, none⟩)] 53)) 47 #[.int .i64 0])
  have HC := Lib.hid (show LCells gl g w.heap.size num len ((w.alloc (.cells #[.pointer (some ⟨gl, 0, none⟩)] 53)).alloc (.cells #[.int .i64 0] 47)) from ⟨Blk.alloc (Blk.new w 53 #[.pointer (some ⟨gl, 0, none⟩)]) _, Blk.alloc (Blk.alloc HL.out _) _⟩)
  rw [World.size_alloc] at HE
  have HRz := Lib.hid (HR.out.all HB.out)
  have HDz := Lib.hid (HD.out.all HB.out)
  have hfl := frameB_len (k := (len : Int)) (bs := bs) ⟨by omega, by omega⟩ (by rw [HX.out]; omega)
  have hfp := frameB_pos (len : Int) bs
  rw [HX.out] at hfl
  have hbl : ¬ DskF g mb fs w.heap.size := fun h => by have := HF.out _ h; omega
  have hel : ¬ DskF g mb fs (w.heap.size + 1) := fun h => by have := HF.out _ h; omega
  have HGL := Lib.hid hgl
  have HBL := Lib.hid hbl
  have HEL := Lib.hid hel
  clear hgl hbl hel
  go_enter_defers Try.func32, Try.ntmps32
  go_wp2
  obtain ⟨k0, k1, k2, k3⟩ := HC.out.keep
  generalize (w.alloc (.cells #[.pointer (some ⟨gl, 0, none⟩)] 53)).alloc (.cells #[.int .i64 0] 47) = wz at *
  clear l0 l1 l2 l3
  have hwz := HB.out.size
  go_region_held3 (fun w' => w'.cell? ⟨w.heap.size, 0, none⟩ = some (.pointer (some ⟨gl, 0, none⟩)) ∧ w'.cell? ⟨gl, 0, none⟩ = some (.pointer (some ⟨g, 0, none⟩)) ∧ w'.cell? ⟨gl, 1, none⟩ = some (.int .i64 num) ∧ w'.cell? ⟨gl, 2, none⟩ = some (.int .i64 (len : Int)))
    (first | exact ⟨k0, k1, k2, k3⟩ | with_reducible exact ((HC.out.all hS5).mod m6 HBL.out HGL.out).keep | with_reducible exact (HC.out.all hS5).keep | with_reducible exact (HC.out.all hS4).keep)
    (first
      | (go_at_call 45; ((with_reducible refine (clone_any _ _ _ bs _ HX HRz.out.drew (by omega)).mono ?_); rintro e w4 ⟨A4, c4, rfl, -, -, -, hr4, hb4⟩; have hS4 := undrewB hb4; clear hb4))
      | (go_at_call 12; revert hr4; intro hr4; ((with_reducible refine (frame_any _ _ _ _ bs _ HX (by omega) (by omega) (by omega) hr4).mono ?_); rintro e w5 ⟨A5, n5, c5, rfl, HN5, hown5, hb5⟩; have hS5 := bt hS4 hb5; have hz4 := hS4.size; clear hb5 hr4))
      | (go_at_call 35; revert hown5; intro hown5; ((with_reducible refine (appendD_any _ _ _ _ _ st _ _ _ _ (frameB (len : Int) bs) false _ (Lib.hid (HDz.out.all hS5)) HS HO1 h1 h2 HN5 (by rw [← HN5.out]; exact hfp) (by rw [← HN5.out]; exact hroom) (Lib.hid (rd_bytes hown5).2.2) (Lib.hid (away_own hown5 (by rw [← HN5.out]; exact hfp) HF.out (by omega)))).mono ?_); rintro e w6 ⟨rfl, fs6, hst6, hD6, m6, hF6⟩)))
  have hC6 := (HC.out.all hS5).mod m6 HBL.out HGL.out
  have hE6 : Blk w6 (w.heap.size + 1) 47 #[.int .i64 0] := m6.blk (Blk.all HE.out hS5) HEL.out
  have M6 : Mod (fun b => DskF g mb fs b ∨ b = gl) w w6 := (Mod.of_below (fun b => DskF g mb fs b ∨ b = gl) (bt HB.out hS5)).trans m6 (fun b hb => .inl (.inl hb))
  have hw5 := (bt HB.out hS5).size
  have HF6 : Hid (∀ b, DskF g mb fs6 b → DskF g mb fs b ∨ w.heap.size + 2 ≤ b) := Lib.hid (fun b hb => (hF6 b hb).imp id (fun h => by
    have h1 := hS5.size
    have h2 := Blk.lt HE.out
    omega))
  obtain ⟨k0, k1, k2, k3⟩ := hC6.keep
  clear hown5 hS4 hS5 m6 hF6 hz4
  go_wp2_with fail
  refine (sync_any _ _ _ _ _ _ (Lib.hid hD6)).mono ?_
  rintro e w7 ⟨rfl, fs7, hst7, hD7, m7, hF7⟩
  rw [HO2.out] at hst7 hD7 ⊢
  have hgl6 : ¬ DskF g mb fs6 gl := fun h => (HF6.out _ h).elim HGL.out (by omega)
  have hbl6 : ¬ DskF g mb fs6 w.heap.size := fun h => (HF6.out _ h).elim HBL.out (by omega)
  have hel6 : ¬ DskF g mb fs6 (w.heap.size + 1) := fun h => (HF6.out _ h).elim HEL.out (by omega)
  have hC7 := hC6.mod m7 hbl6 hgl6
  have hE7 := m7.blk hE6 hel6
  have M7 : Mod (fun b => DskF g mb fs b ∨ b = gl) w w7 := M6.trans m7 (fun b hb => (HF6.out b hb).imp .inl (fun h => by omega))
  have HF7 : Hid (∀ b, DskF g mb fs7 b → DskF g mb fs b ∨ w.heap.size + 2 ≤ b) := Lib.hid (fun b hb => (hF7 b hb).elim (HF6.out b) (fun h => .inr (by
    have := M6.size
    have := Blk.lt hE6
    omega)))
  have hst : fs7.map Fl.log = syncLog st := by rw [hst7, ← hst6]; rfl
  obtain ⟨l0, l1, l2, l3, l4, l5⟩ := hC7.log.cells
  have b0 : w7.cell? ⟨w.heap.size, 0, none⟩ = some (.pointer (some ⟨gl, 0, none⟩)) := Blk.cell hC7.box 0
  have e0 : w7.cell? ⟨w.heap.size + 1, 0, none⟩ = some (.int .i64 0) := hE7.cell 0
  have e1 : w7.frozen? ⟨w.heap.size + 1, 0, none⟩ = false := hE7.frozen 0
  have ma : Mod (fun b => b = gl ∨ b = w.heap.size + 1) w7 ((w7.setCell ⟨gl, 2, none⟩ (.int .i64 ((len : Int) + 1))).setCell ⟨w.heap.size + 1, 0, none⟩ (.int .i64 0)) := ((Mod.refl (fun b => b = gl ∨ b = w.heap.size + 1) w7).set (p := ⟨gl, 2, none⟩) (.inl (.inl rfl)) _).set (p := ⟨w.heap.size + 1, 0, none⟩) (.inl (.inr rfl)) _
  have HLG : Hid (LogAt ((w7.setCell ⟨gl, 2, none⟩ (.int .i64 ((len : Int) + 1))).setCell ⟨w.heap.size + 1, 0, none⟩ (.int .i64 0)) gl g num (len + 1) true) := Lib.hid (Blk.far (by simpa [LogAt] using Blk.set_ hC7.log 2 (.int .i64 ((len : Int) + 1))) (by simp; omega) _)
  have HER := Lib.hid (Blk.set_ (Blk.far (p := ⟨gl, 2, none⟩) hE7 (by simp; omega) (.int .i64 ((len : Int) + 1))) 0 (.int .i64 0))
  have HNX : Hid (LogNext gl g mb room num false (failPlan (failPlan plan)) (len + 1) true fs (syncLog st) w ((w7.setCell ⟨gl, 2, none⟩ (.int .i64 ((len : Int) + 1))).setCell ⟨w.heap.size + 1, 0, none⟩ (.int .i64 0))) := Lib.hid ⟨fs7, hst, hD7.mod ma (by
    rintro b hb (rfl | rfl)
    · exact (HF7.out _ hb).elim HGL.out (by omega)
    · exact (HF7.out _ hb).elim HEL.out (by omega)), HLG.out, M7.trans ma (by
    rintro b (rfl | rfl)
    · exact .inl (.inr rfl)
    · exact .inr (by omega)), fun b hb => (HF7.out b hb).imp id (fun h => by omega)⟩
  clear hC6 hE6 M6 hD6 hst6 hD7 m7 hF7 hst7 hC7 hE7 M7 hst ma k0 k1 k2 k3 hgl6 hbl6 hel6 HLG
  go_wp2
  refine leaves_cons (f := 54) (args := #[.pointer (some ⟨w.heap.size + 1, 0, none⟩), .pointer (some ⟨w.heap.size, 0, none⟩)]) (by simp) (by simp [go_sem]) ?_
  have hc := HER.out.cell 0
  refine (door_no (w.heap.size + 1) w.heap.size 0 .returning _ hc rfl).mono ?_
  rintro e u' w'' ⟨rfl, rfl, rfl⟩
  refine ⟨.int .i64 0, ?_, rfl, HNX.out⟩
  simp [results, Try.results32, go_sem, hc]
end Go.Proofs.Ytldmokjpfnakkaa

/- journal: Open. -/
namespace Go.Proofs.Ytldmokjpfnakkaa
open Go.RowKit

/-- What Open returns where all goes well. -/
def OpenPost (g mb room : Nat) (num : Int) (plan' : Int) (fs : List Fl) (rs : List (List UInt8)) (st : List (Int × List UInt8 × Nat)) (w : World) (e : Ending) (w' : World) : Prop :=
  ∃ gl v L fs', e = .returned (.tuple #[.pointer (some ⟨gl, 0, none⟩), v, .int .i64 0]) ∧ w.heap.size ≤ gl ∧ LogAt w' gl g num rs.length true ∧ LsOwn w' w.heap.size v L ∧ bsOf L = rs ∧ (∀ z ∈ L, z.low w.heap.size) ∧ fs'.map Fl.log = st ∧ DskAt w' g mb room false plan' fs' ∧ Mod (DskF g mb fs) w w' ∧ (∀ b, DskF g mb fs' b → DskF g mb fs b ∨ w.heap.size ≤ b) ∧ ¬ DskF g mb fs' gl
theorem open_nil (num : Int) (w : World) : Calls Try.prog 30 #[.pointer none, .int .i64 num] w fun e w' => e = .returned (.tuple #[.pointer none, .slice none 0 0, .int .i64 1]) ∧ w = w' := by
  go_enter Try.func30, Try.ntmps30
  go_wp2
  go_ret3
  exact ⟨rfl, rfl⟩
theorem open_arg (g mb room : Nat) (off : Bool) (plan : Int) (fs : List Fl) (num : Int) (w : World) (HD : Hid (DskAt w g mb room off plan fs)) (h : num < 0 ∨ 64 ≤ num) : Calls Try.prog 30 #[.pointer (some ⟨g, 0, none⟩), .int .i64 num] w fun e w' => e = .returned (.tuple #[.pointer none, .slice none 0 0, .int .i64 1]) ∧ w = w' := by
  go_enter Try.func30, Try.ntmps30
  go_wp2_with (go_at_call 51; ((with_reducible refine (readD_arg _ _ _ _ _ _ _ _ HD h).mono ?_); rintro e w1 ⟨rfl, rfl⟩))
  go_ret3
  exact ⟨rfl, rfl⟩
/-- The bytes of a file. -/
def fileBs (fs : List Fl) (num : Int) : List UInt8 := ((findF fs num).map Fl.bs).getD []
/-- Read, with or without a file. -/
theorem readD_any (g mb room : Nat) (plan : Int) (fs : List Fl) (num : Int) (w : World) (HD : Hid (DskAt w g mb room false plan fs)) (h1 : 0 ≤ num) (h2 : num < 64) :
    Calls Try.prog 51 #[.pointer (some ⟨g, 0, none⟩), .int .i64 num] w (ReadPost (fileBs fs num) w) := by
  cases hf : findF fs num with
  | none =>
    have e : fileBs fs num = [] := by unfold fileBs; rw [hf]; rfl
    rw [e]
    refine (readD_none g mb room plan fs num w HD (Lib.hid hf) h1 h2).mono ?_
    rintro e w' ⟨rfl, rfl⟩
    exact ⟨none, 0, 0, rfl, World.ownsRow_nil _ _ _ _, Below.refl _ _⟩
  | some f =>
    have e : fileBs fs num = f.bs := by unfold fileBs; rw [hf]; rfl
    rw [e]
    exact readD_some g mb room plan fs f num w HD (Lib.hid hf) h1 h2
set_option maxRecDepth 100000 in
set_option maxHeartbeats 2000000 in
theorem open_clean (g mb room : Nat) (plan : Int) (fs : List Fl) (num : Int) (rs : List (List UInt8)) (w : World) (HD : Hid (DskAt w g mb room false plan fs)) (h1 : 0 ≤ num) (h2 : num < 64) (HB : Hid (fileBs fs num = framesB 0 rs)) (HO : Hid (failOff false plan = false)) :
    Calls Try.prog 30 #[.pointer (some ⟨g, 0, none⟩), .int .i64 num] w (OpenPost g mb room num (failPlan plan) fs rs (syncLog (fs.map Fl.log)) w) := by
  have hlen : (framesB 0 rs).length ≤ 16777216 := by
    rw [← HB.out]
    unfold fileBs
    cases hf : findF fs num with
    | none => simp
    | some f =>
      obtain ⟨l1, l2, hfs, -⟩ := findF_split hf
      have h1 := HD.out.room_le
      have h2 := HD.out.used_le
      rw [hfs, sumL_append, sumL_cons] at h2
      simp only [Option.map_some, Option.getD_some]
      omega
  have HF := Lib.hid HD.out.ltF
  have HSC : Hid (ScanIs (framesB 0 rs) rs (framesB 0 rs).length) := Lib.hid ⟨rfl, [], (List.append_nil _).symm, fun x r h => by
    have h1 := congrArg List.length h
    rw [List.length_append] at h1
    have h2 := frameB_pos ((rs.length : Nat) : Int) x
    simp only [List.length_nil] at h1
    omega⟩
  go_enter Try.func30, Try.ntmps30
  go_wp2_with fail
  refine (readD_any _ _ _ _ _ _ _ HD h1 h2).mono ?_
  rintro e w1 ⟨A1, n1, c1, rfl, hown1, hb1⟩
  rw [HB.out] at hown1
  have hS1 := Sb.own hown1
  have hD1 := HD.out.all hb1
  have HN1 := Lib.hid hS1.1
  have hn1 : n1 ≤ 16777216 := by rw [← HN1.out]; exact hlen
  clear hown1
  go_wp2_with fail
  refine (scan2_any _ _ _ _ _ (Lib.hid hS1) (by omega)).mono ?_
  rintro e w2 ⟨v2, L2, m2, rfl, hL2, hs2, hb2, hlow2⟩
  obtain ⟨e1, e2⟩ := ScanIs.unique (by omega) hs2 HSC.out
  rw [HN1.out] at e2
  subst e2
  obtain ⟨A2, c2, rfl⟩ := hL2.slice
  have HE1 := Lib.hid e1
  have hD2 := hD1.all hb2
  have hB2 := bt hb1 hb2
  have hll : L2.length = rs.length := by rw [← bsOf_length, e1]
  rw [hll] at hL2 ⊢
  have hrl : rs.length ≤ 16777216 := by
    have := framesB_len rs 0
    omega
  have hz1 := hb1.size
  have HLW : Hid (∀ z ∈ L2, z.low w.heap.size) := Lib.hid (fun z hz => (hlow2 z hz).mono hz1)
  have HL2 := Lib.hid (hL2.lower hz1)
  clear hs2 e1 hll hL2 hlow2 hb1 hb2 hD1 hS1 hz1
  go_wp2_with fail
  refine (sync_any _ _ _ _ _ _ (Lib.hid hD2)).mono ?_
  rintro e w3 ⟨rfl, fs3, hst3, hD3, m3, hF3⟩
  rw [HO.out] at hst3 hD3 ⊢
  have hL3 : LsOwn w3 w.heap.size (.slice A2 rs.length c2) L2 := HL2.out.modL HLW.out m3 (fun b hb hf => by have := HF.out b hf; omega) (Nat.le_refl _)
  have M3 : Mod (DskF g mb fs) w w3 := (Mod.of_below (DskF g mb fs) hB2).trans m3 (fun b hb => .inl hb)
  have hz2 := hB2.size
  have HF3 : Hid (∀ b, DskF g mb fs3 b → DskF g mb fs b ∨ w.heap.size ≤ b) := Lib.hid (fun b hb => (hF3 b hb).imp id (fun h => by omega))
  have hb4 := (Below.refl w3.heap.size w3).alloc (Nat.le_refl _) (.cells #[.pointer (some ⟨g, 0, none⟩), .int .i64 num, .int .i64 ((rs.length : Nat) : Int), .bool true] 87)
  have HLG : Hid (LogAt (w3.alloc (.cells #[.pointer (some ⟨g, 0, none⟩), .int .i64 num, .int .i64 ((rs.length : Nat) : Int), .bool true] 87)) w3.heap.size g num rs.length true) := Lib.hid (Blk.new w3 87 _)
  have HFIN : Hid (OpenPost g mb room num (failPlan plan) fs rs (syncLog (fs.map Fl.log)) w (.returned (.tuple #[.pointer (some ⟨w3.heap.size, 0, none⟩), .slice A2 rs.length c2, .int .i64 0])) (w3.alloc (.cells #[.pointer (some ⟨g, 0, none⟩), .int .i64 num, .int .i64 ((rs.length : Nat) : Int), .bool true] 87))) := Lib.hid
    ⟨w3.heap.size, _, L2, fs3, rfl, M3.size, HLG.out, hL3.all hb4, HE1.out, HLW.out, hst3, hD3.all hb4, M3.then_below hb4, HF3.out, fun h => by have := hD3.ltF _ h; omega⟩
  clear hL3 M3 hb4 hD3 hst3 m3 hF3 hD2 hB2 HL2 HLG
  go_wp2
  go_ret3
  exact HFIN.out
end Go.Proofs.Ytldmokjpfnakkaa

/- A map from ints, known by its entries: delete. -/
namespace Go.Proofs.Ytldmokjpfnakkaa
open Go.RowKit

theorem imap_at {l1 l2 : List (Int × Value)} {k : Int} {v u : Value} {j : Nat} (hn : ((l1 ++ (k, v) :: l2).map Prod.fst).Nodup) (hj : (l1 ++ (k, v) :: l2)[j]? = some (k, u)) : j = l1.length := by
  obtain ⟨hlt, hj⟩ := List.getElem?_eq_some_iff.1 hj
  have h1 : l1.length < (l1 ++ (k, v) :: l2).length := by simp
  have e1 : ((l1 ++ (k, v) :: l2).map Prod.fst)[j]'(by simpa using hlt) = k := by rw [List.getElem_map, hj]
  have e2 : ((l1 ++ (k, v) :: l2).map Prod.fst)[l1.length]'(by simp) = k := by simp
  exact (List.getElem_inj hn).1 (e1.trans e2.symm)
theorem map_erase {α β : Type} (f : α → β) : ∀ (l : List α) (i : Nat), (l.eraseIdx i).map f = (l.map f).eraseIdx i
  | [], i => by simp
  | a :: l, 0 => by simp
  | a :: l, i + 1 => by simp [map_erase f l i]
/-- An entry is deleted. -/
theorem IMap.del {P : Program} {w : World} {b : Nat} {l1 l2 : List (Int × Value)} {k : Int} {v : Value} {t kt e ty : TypeId} (h : IMap w b (l1 ++ (k, v) :: l2)) (ht : P.underlying t = some (.map kt e)) (hk : P.underlying kt = some (.int .i64)) :
    ∃ w', (Builtin.delete_ #[t, kt] ty #[.map (some b), .int .i64 k]).run P w = .ok (.tuple #[]) w' ∧ IMap w' b (l1 ++ l2) ∧ w.grownBy w' (some b) ∧ w'.heap.size = w.heap.size := by
  obtain ⟨l, c, hb, hl, hn, hbn, hbc⟩ := h
  have hlt := (Array.getElem?_eq_some_iff.1 hb).1
  have hlen : l.length = (l1 ++ (k, v) :: l2).length := by have := congrArg List.length hl; simpa using this
  rcases imap_find l _ hl k 0 with ⟨h1, h2⟩ | ⟨j, v0, h1, h0, h2, h3, h4⟩
  · exfalso
    have := List.lookup_eq_none_iff.1 h1 (k, v) (by simp)
    simp at this
  · obtain rfl := imap_at hn h3
    have hsub : (l.eraseIdx l1.length).Sublist l := List.eraseIdx_sublist _ _
    have hers : (l1 ++ (k, v) :: l2).eraseIdx l1.length = l1 ++ l2 := by
      rw [List.eraseIdx_append_of_length_le (Nat.le_refl _)]
      simp
    refine ⟨_, ?_, ⟨l.eraseIdx l1.length, c, heap_set_same hlt, ?_, ?_, ?_, ?_⟩, grown_setObj w b _, by simp⟩
    · simp [Builtin.delete_, run_underlying ht, MapKept.run_getObj_map hb, run_checkKey hk, run_findKey hk l k _ h4, MapKept.run_setObj_map _ hb, Result.andThen]
    · rw [map_erase, hl, ← map_erase, hers]
    · rw [← hers, map_erase]
      exact hn.eraseIdx _
    · rw [map_erase]
      exact hbn.eraseIdx _
    · exact fun e he => hbc e (hsub.subset he)
end Go.Proofs.Ytldmokjpfnakkaa

/- disk: the library's contracts for maps.Keys, slices.Sorted and slices.Sort at this program (laid by the kit's tool, in plain words). -/
namespace Go.Proofs
open Go.Shelf
def Try.keysA_ren : Go.Shelf.Ren := ⟨fun | 7 => 70 | 10 => 80 | n => n, fun | 23 => 88 | 26 => 3 | 3 => 92 | 28 => 111 | 0 => 0 | 27 => 110 | 33 => 91 | 4 => 4 | n => n, fun | n => n⟩
theorem Try.keysA : Go.Proofs.SlLaysZI.n7 Try.prog Try.keysA_ren := {
  mixed := by kernel_rfl
  f7 := ⟨Try.f70.name, by decide, Try.func70.trans (congrArg some (by kernel_rfl))⟩
  f10 := ⟨Try.f80.name, by decide, Try.func80.trans (congrArg some (by kernel_rfl))⟩
  t0 := Try.underlying0
  a0 := Try.isAgg0
  z0 := Try.sizeOf0
  v0 := Try.zeroValue0
  t4 := Try.underlying4
  a4 := Try.isAgg4
  z4 := Try.sizeOf4
  v4 := Try.zeroValue4
  t23 := Try.underlying88
  a23 := Try.isAgg88
  z23 := Try.sizeOf88
  v23 := Try.zeroValue88
  t26 := Try.underlying3
  a26 := Try.isAgg3
  z26 := Try.sizeOf3
  v26 := Try.zeroValue3
  t27 := Try.underlying110
  a27 := Try.isAgg110
  z27 := Try.sizeOf110
  v27 := Try.zeroValue110
  t28 := Try.underlying111
  a28 := Try.isAgg111
  z28 := Try.sizeOf111
  v28 := Try.zeroValue111
  t33 := Try.underlying91
  a33 := Try.isAgg91
  z33 := Try.sizeOf91
  v33 := Try.zeroValue91 }
def Try.sortedA_ren : Go.Shelf.Ren := ⟨fun | 6 => 69 | 8 => 78 | 9 => 79 | 11 => 83 | 13 => 85 | 12 => 84 | 23 => 95 | 24 => 96 | 14 => 86 | 15 => 87 | 16 => 88 | 17 => 89 | 18 => 90 | 19 => 91 | 20 => 92 | 21 => 93 | 22 => 94 | 25 => 97 | 26 => 98 | 27 => 99 | 28 => 100 | 29 => 101 | 30 => 102 | 31 => 103 | n => n, fun | 26 => 3 | 28 => 111 | 24 => 22 | 0 => 0 | 3 => 3 | 37 => 43 | 48 => 128 | 50 => 42 | 4 => 4 | 40 => 120 | 39 => 119 | 45 => 125 | 5 => 5 | 9 => 9 | 51 => 129 | 55 => 132 | 57 => 134 | 58 => 135 | 33 => 91 | n => n, fun | n => n⟩
theorem Try.sortedA : Go.Proofs.SlLaysZI.n6 Try.prog Try.sortedA_ren := {
  mixed := by kernel_rfl
  f6 := ⟨Try.f69.name, by decide, Try.func69.trans (congrArg some (by kernel_rfl))⟩
  f8 := ⟨Try.f78.name, by decide, Try.func78.trans (congrArg some (by kernel_rfl))⟩
  f11 := ⟨Try.f83.name, by decide, Try.func83.trans (congrArg some (by kernel_rfl))⟩
  t0 := Try.underlying0
  a0 := Try.isAgg0
  z0 := Try.sizeOf0
  v0 := Try.zeroValue0
  t24 := Try.underlying22
  a24 := Try.isAgg22
  z24 := Try.sizeOf22
  v24 := Try.zeroValue22
  t26 := Try.underlying3
  a26 := Try.isAgg3
  z26 := Try.sizeOf3
  v26 := Try.zeroValue3
  t28 := Try.underlying111
  a28 := Try.isAgg111
  z28 := Try.sizeOf111
  v28 := Try.zeroValue111
  i26 := by kernel_rfl }
def Try.sortA_ren : Go.Shelf.Ren := ⟨fun | 5 => 79 | 8 => 85 | 7 => 84 | 19 => 95 | 20 => 96 | 10 => 86 | 11 => 87 | 12 => 88 | 13 => 89 | 14 => 90 | 15 => 91 | 16 => 92 | 17 => 93 | 18 => 94 | 30 => 97 | 31 => 98 | 32 => 99 | 33 => 100 | 34 => 101 | 35 => 102 | 40 => 103 | n => n, fun | 23 => 22 | 25 => 3 | 3 => 3 | 32 => 43 | 22 => 22 | 0 => 0 | 44 => 128 | 46 => 42 | 4 => 4 | 36 => 120 | 35 => 119 | 41 => 125 | 5 => 5 | 9 => 9 | 53 => 129 | 57 => 132 | 63 => 134 | 64 => 135 | n => n, fun | n => n⟩
theorem Try.sortA : Go.Proofs.SlLaysM.n5 Try.prog Try.sortA_ren := {
  mixed := by kernel_rfl
  f5 := ⟨Try.f79.name, by decide, Try.func79.trans (congrArg some (by kernel_rfl))⟩
  f7 := ⟨Try.f84.name, by decide, Try.func84.trans (congrArg some (by kernel_rfl))⟩
  f8 := Try.func85.trans (congrArg some (by kernel_rfl))
  f10 := ⟨Try.f86.name, by decide, Try.func86.trans (congrArg some (by kernel_rfl))⟩
  f11 := ⟨Try.f87.name, by decide, Try.func87.trans (congrArg some (by kernel_rfl))⟩
  f12 := ⟨Try.f88.name, by decide, Try.func88.trans (congrArg some (by kernel_rfl))⟩
  f13 := ⟨Try.f89.name, by decide, Try.func89.trans (congrArg some (by kernel_rfl))⟩
  f14 := ⟨Try.f90.name, by decide, Try.func90.trans (congrArg some (by kernel_rfl))⟩
  f15 := ⟨Try.f91.name, by decide, Try.func91.trans (congrArg some (by kernel_rfl))⟩
  f16 := ⟨Try.f92.name, by decide, Try.func92.trans (congrArg some (by kernel_rfl))⟩
  f17 := ⟨Try.f93.name, by decide, Try.func93.trans (congrArg some (by kernel_rfl))⟩
  f18 := ⟨Try.f94.name, by decide, Try.func94.trans (congrArg some (by kernel_rfl))⟩
  f19 := Try.func95.trans (congrArg some (by kernel_rfl))
  f20 := Try.func96.trans (congrArg some (by kernel_rfl))
  f30 := ⟨Try.f97.name, by decide, Try.func97.trans (congrArg some (by kernel_rfl))⟩
  f31 := Try.func98.trans (congrArg some (by kernel_rfl))
  f32 := Try.func99.trans (congrArg some (by kernel_rfl))
  f33 := ⟨Try.f100.name, by decide, Try.func100.trans (congrArg some (by kernel_rfl))⟩
  f34 := ⟨Try.f101.name, by decide, Try.func101.trans (congrArg some (by kernel_rfl))⟩
  f35 := ⟨Try.f102.name, by decide, Try.func102.trans (congrArg some (by kernel_rfl))⟩
  f40 := ⟨Try.f103.name, by decide, Try.func103.trans (congrArg some (by kernel_rfl))⟩
  t0 := Try.underlying0
  a0 := Try.isAgg0
  z0 := Try.sizeOf0
  v0 := Try.zeroValue0
  t3 := Try.underlying3
  a3 := Try.isAgg3
  z3 := Try.sizeOf3
  v3 := Try.zeroValue3
  t4 := Try.underlying4
  a4 := Try.isAgg4
  z4 := Try.sizeOf4
  v4 := Try.zeroValue4
  t5 := Try.underlying5
  a5 := Try.isAgg5
  z5 := Try.sizeOf5
  v5 := Try.zeroValue5
  t9 := Try.underlying9
  a9 := Try.isAgg9
  z9 := Try.sizeOf9
  v9 := Try.zeroValue9
  t22 := Try.underlying22
  a22 := Try.isAgg22
  z22 := Try.sizeOf22
  v22 := Try.zeroValue22
  t23 := Try.underlying22
  a23 := Try.isAgg22
  z23 := Try.sizeOf22
  v23 := Try.zeroValue22
  t25 := Try.underlying3
  a25 := Try.isAgg3
  z25 := Try.sizeOf3
  v25 := Try.zeroValue3
  t32 := Try.underlying43
  a32 := Try.isAgg43
  z32 := Try.sizeOf43
  v32 := Try.zeroValue43
  t35 := Try.underlying119
  a35 := Try.isAgg119
  z35 := Try.sizeOf119
  v35 := Try.zeroValue119
  t36 := Try.underlying120
  a36 := Try.isAgg120
  z36 := Try.sizeOf120
  v36 := Try.zeroValue120
  t41 := Try.underlying125
  a41 := Try.isAgg125
  z41 := Try.sizeOf125
  v41 := Try.zeroValue125
  t44 := Try.underlying128
  a44 := Try.isAgg128
  z44 := Try.sizeOf128
  v44 := Try.zeroValue128
  t46 := Try.underlying42
  a46 := Try.isAgg42
  z46 := Try.sizeOf42
  v46 := Try.zeroValue42
  t53 := Try.underlying129
  a53 := Try.isAgg129
  z53 := Try.sizeOf129
  v53 := Try.zeroValue129
  t57 := Try.underlying132
  a57 := Try.isAgg132
  z57 := Try.sizeOf132
  v57 := Try.zeroValue132
  t63 := Try.underlying134
  a63 := Try.isAgg134
  z63 := Try.sizeOf134
  v63 := Try.zeroValue134
  t64 := Try.underlying135
  a64 := Try.isAgg135
  z64 := Try.sizeOf135
  v64 := Try.zeroValue135 }
end Go.Proofs

/- disk: cut, Truncate. -/
namespace Go.Proofs.Ytldmokjpfnakkaa
open Go.RowKit

theorem own_shorter {w : World} {base e n c k : Nat} {A : Option Addr} {xs : List Value} (h : w.ownsRow base e 1 (.slice A n c) n xs) (hk : k ≤ n) : w.ownsRow base e 1 (.slice A k c) k (xs.take k) := by
  obtain ⟨hl, h2⟩ := h
  refine ⟨by rw [List.length_take, hl]; omega, ?_⟩
  rcases h2 with ⟨h2, h0⟩ | ⟨g', cap', cur, h2, hbg, hh, hnc, hcm, hcs, htk⟩
  · injection h2 with h2 h3 h4
    subst h2 h3 h4
    obtain rfl : k = 0 := by omega
    exact .inl ⟨rfl, rfl⟩
  · injection h2 with h2 _ h3
    subst h2 h3
    refine .inr ⟨g', c, cur, rfl, hbg, hh, by omega, hcm, hcs, ?_⟩
    rw [← htk, List.take_take]
    congr 1
    omega
theorem ownBlock_slice (A : Option Addr) (n c n' c' : Nat) : (Value.slice A n c).ownBlock = (Value.slice A n' c').ownBlock := by cases A <;> rfl
section
variable {w w' : World} {g mb room : Nat} {off : Bool} {plan : Int} {l1 l2 : List Fl} {f : Fl}
/-- A file is left out. -/
theorem DskAt.drop (h : DskAt w g mb room off plan (l1 ++ f :: l2)) (m : Mod (fun b => f.F b ∨ b = g ∨ b = mb) w w') (hblk : Blk w' g 90 (diskCells room (sumL (l1 ++ l2)) mb off plan)) (hmap : IMap w' mb ((l1 ++ l2).map fun c => (c.num, c.ptr))) :
    DskAt w' g mb room off plan (l1 ++ l2) ∧ Mod (DskF g mb (l1 ++ f :: l2)) w w' ∧ ∀ b, DskF g mb (l1 ++ l2) b → DskF g mb (l1 ++ f :: l2) b := by
  have hfm : f ∈ l1 ++ f :: l2 := by simp
  have hap := h.apart
  rw [List.pairwise_append, List.pairwise_cons] at hap
  obtain ⟨p1, ⟨p2, p3⟩, p4⟩ := hap
  have hmem : ∀ d ∈ l1 ++ l2, d ∈ l1 ++ f :: l2 := by
    intro d hd
    rcases List.mem_append.1 hd with hd | hd <;> simp [hd]
  have far : ∀ d ∈ l1 ++ l2, ∀ b, d.F b → ¬ (f.F b ∨ b = g ∨ b = mb) := by
    intro d hd b hb hc
    rcases hc with hc | hc | hc
    · rcases List.mem_append.1 hd with hd | hd
      · exact p4 d hd f (by simp) b hb hc
      · exact p2 d hd b hc hb
    · exact (h.F_ne (hmem d hd) b hb).1 hc
    · exact (h.F_ne (hmem d hd) b hb).2 hc
  have hs : sumL (l1 ++ l2) ≤ sumL (l1 ++ f :: l2) := by rw [sumL_append, sumL_append, sumL_cons]; omega
  refine ⟨⟨hblk, hmap, fun d hd => (h.ok d (hmem d hd)).mod m (far d hd), ?_, h.room_le, Nat.le_trans hs h.used_le, h.plan_le⟩, m.mono ?_, ?_⟩
  · rw [List.pairwise_append]
    exact ⟨p1, p3, fun d hd e he => p4 d hd e (by simp [he])⟩
  · rintro b (hb | rfl | rfl)
    · exact .inl (.inr (.inr ⟨f, hfm, hb⟩))
    · exact .inl (.inl rfl)
    · exact .inl (.inr (.inl rfl))
  · rintro b (rfl | rfl | ⟨d, hd, hb⟩)
    · exact .inl rfl
    · exact .inr (.inl rfl)
    · exact .inr (.inr ⟨d, hmem d hd, hb⟩)
/-- What cut writes. -/
def cutW (w : World) (g fb : Nat) (A : Option Addr) (u n k c dur : Nat) : World := ((w.setCell ⟨g, 1, none⟩ (.int .i64 ((u : Int) - ((n : Int) - (k : Int))))).setCell ⟨fb, 0, none⟩ (.slice A k c)).setCell ⟨fb, 1, none⟩ (.int .i64 ((min dur k : Nat) : Int))
theorem DskAt.short (h : DskAt w g mb room off plan (l1 ++ f :: l2)) (k : Nat) (hk : k ≤ f.bs.length) :
    ∃ A c, f.rv = .slice A f.bs.length c ∧ f.fb ≠ g ∧ w.cell? ⟨f.fb, 0, none⟩ = some (.slice A f.bs.length c) ∧ w.cell? ⟨f.fb, 1, none⟩ = some (.int .i64 (f.dur : Int)) ∧ w.frozen? ⟨f.fb, 0, none⟩ = false ∧ w.frozen? ⟨f.fb, 1, none⟩ = false ∧ f.bs.length ≤ c ∧ c ≤ 9223372036854775807 ∧
      DskAt (cutW w g f.fb A (sumL (l1 ++ f :: l2)) f.bs.length k c f.dur) g mb room off plan (l1 ++ (⟨f.num, f.fb, .slice A k c, f.bs.take k, min f.dur k⟩ : Fl) :: l2) ∧ Mod (fun b => b = f.fb ∨ b = g) w (cutW w g f.fb A (sumL (l1 ++ f :: l2)) f.bs.length k c f.dur) := by
  have hfm : f ∈ l1 ++ f :: l2 := by simp
  have hok := h.ok f hfm
  obtain ⟨A, c, hrv⟩ := own_slice hok.2.1
  have hown := hok.2.1
  rw [hrv] at hown
  have hlc := (rd_bytes hown).2.1
  have hcc := own_cap hown
  have hsh := own_shorter hown hk
  have hgne : f.fb ≠ g := (h.F_ne hfm _ (.inl rfl)).1
  have m : Mod (fun b => b = f.fb ∨ b = g) w (cutW w g f.fb A (sumL (l1 ++ f :: l2)) f.bs.length k c f.dur) :=
    (((Mod.refl (fun b => b = f.fb ∨ b = g) w).set (p := ⟨g, 1, none⟩) (.inl (.inr rfl)) _).set (p := ⟨f.fb, 0, none⟩) (.inl (.inl rfl)) _).set (p := ⟨f.fb, 1, none⟩) (.inl (.inl rfl)) _
  have hs : sumL (l1 ++ (⟨f.num, f.fb, .slice A k c, f.bs.take k, min f.dur k⟩ : Fl) :: l2) + (f.bs.length - k) = sumL (l1 ++ f :: l2) := by
    rw [sumL_append, sumL_cons, sumL_append, sumL_cons, List.length_take]
    omega
  have hB1 := Blk.far (p := ⟨f.fb, 1, none⟩) (Blk.far (p := ⟨f.fb, 0, none⟩) (Blk.set_ h.blk 1 (.int .i64 (((sumL (l1 ++ f :: l2) : Nat) : Int) - ((f.bs.length : Int) - (k : Int))))) (fun e => hgne e.symm) (.slice A k c)) (fun e => hgne e.symm) (.int .i64 ((min f.dur k : Nat) : Int))
  have hB2 := Blk.set_ (Blk.set_ (Blk.far (p := ⟨g, 1, none⟩) hok.1 (fun e => hgne e) (.int .i64 (((sumL (l1 ++ f :: l2) : Nat) : Int) - ((f.bs.length : Int) - (k : Int))))) 0 (.slice A k c)) 1 (.int .i64 ((min f.dur k : Nat) : Int))
  refine ⟨A, c, hrv, hgne, by rw [← hrv]; simpa using hok.1.cell 0, by simpa using hok.1.cell 1, hok.1.frozen 0, hok.1.frozen 1, hlc, hcc, (h.upd (f' := ⟨f.num, f.fb, .slice A k c, f.bs.take k, min f.dur k⟩) (off' := off) (plan' := plan) (m.mono (fun b hb => .inl (hb.imp .inl id))) ?_ rfl rfl ⟨?_, ?_, ?_⟩ (.inl (by rw [hrv]; exact ownBlock_slice _ _ _ _ _)) (by have := h.used_le; omega) h.plan_le).1, m⟩
  · have e : ((sumL (l1 ++ (⟨f.num, f.fb, .slice A k c, f.bs.take k, min f.dur k⟩ : Fl) :: l2) : Nat) : Int) = ((sumL (l1 ++ f :: l2) : Nat) : Int) - ((f.bs.length : Int) - (k : Int)) := by omega
    unfold diskCells cutW
    rw [e]
    simpa [diskCells] using hB1
  · unfold cutW
    simpa using hB2
  · have hne : ∀ b, (Value.slice A k c).ownBlock = some b → ¬ (b = f.fb ∨ b = g) := by
      intro b e hb
      have e' : f.rv.ownBlock = some b := by rw [hrv, ← e]; exact ownBlock_slice _ _ _ _ _
      rcases hb with rfl | rfl
      · exact own_ne (by decide) hok.1 hok.2.1 e'
      · exact (h.F_ne hfm b (.inr e')).1 rfl
    have := m.own hsh hne
    simp only [List.length_take, Nat.min_eq_left hk]
    rw [← List.map_take] at this
    exact this
  · simp only [List.length_take]
    have := hok.2.2
    omega
end
theorem DskNext.of_cut {g mb room : Nat} {off : Bool} {plan : Int} {fs : List Fl} {st : List (Int × List UInt8 × Nat)} {w : World} {fb : Nat} {A : Option Addr} {u n k c dur : Nat} {x : Int} (h : DskNext g mb room off plan fs st w (cutW w g fb A u n k c dur)) (hx : x = ((min dur k : Nat) : Int)) :
    DskNext g mb room off plan fs st w (((w.setCell ⟨g, 1, none⟩ (.int .i64 ((u : Int) - ((n : Int) - (k : Int))))).setCell ⟨fb, 0, none⟩ (.slice A k c)).setCell ⟨fb, 1, none⟩ (.int .i64 x)).drew := by
  subst hx
  obtain ⟨fs', h1, h2, h3, h4⟩ := h
  exact ⟨fs', h1, h2.all (below_drewN (Below.refl _ _) 1), h3.drew, h4⟩
set_option maxRecDepth 100000 in
set_option maxHeartbeats 1000000 in
theorem cut_some (g mb room : Nat) (off : Bool) (plan : Int) (l1 l2 : List Fl) (f : Fl) (num : Int) (size : Nat) (w : World) (HD : Hid (DskAt w g mb room off plan (l1 ++ f :: l2))) (HN : Hid (findF (l1 ++ f :: l2) num = some f)) (hs : size ≤ f.bs.length) (h0 : 0 < size) :
    Calls Try.prog 58 #[.pointer (some ⟨g, 0, none⟩), .int .i64 num, .int .i64 (size : Int)] w fun e w' => e = .returned (.tuple #[]) ∧ DskNext g mb room off plan (l1 ++ f :: l2) (l1.map Fl.log ++ (f.num, f.bs.take size, min f.dur size) :: l2.map Fl.log) w w' := by
  obtain ⟨c0, c1, c2, c3, c4, hf⟩ := HD.out.dcells
  have hf1 := hf 1
  have hrm := HD.out.room_le
  have hul := HD.out.used_le
  have hdl := (HD.out.ok f (by simp)).2.2
  have hlk := DskAt.look HD.out num
  rw [HN.out] at hlk
  replace hlk : (Instr.lookup 88 (.map (some mb)) (.int .i64 num) false).run Try.prog w = .ok (.pointer (some ⟨f.fb, 0, none⟩)) w := hlk
  obtain ⟨A, c, hrv, hne, q0, q1, q2, q3, hlc, hcc, hD, m⟩ := HD.out.short size hs
  have hfl : f.bs.length ≤ sumL (l1 ++ f :: l2) := by rw [sumL_append, sumL_cons]; omega
  obtain ⟨u, hu⟩ : ∃ u, sumL (l1 ++ f :: l2) = u := ⟨_, rfl⟩
  obtain ⟨n, hn⟩ : ∃ n, f.bs.length = n := ⟨_, rfl⟩
  obtain ⟨du, hdu⟩ : ∃ du, f.dur = du := ⟨_, rfl⟩
  rw [hu] at c1 hul hfl hD m
  rw [hn] at hs hdl q0 hlc hfl hD m
  rw [hdu] at hdl q1 hD m
  have HF : Hid (DskNext g mb room off plan (l1 ++ f :: l2) (l1.map Fl.log ++ (f.num, f.bs.take size, min f.dur size) :: l2.map Fl.log) w (cutW w g f.fb A u n size c du)) := Lib.hid ⟨l1 ++ (⟨f.num, f.fb, .slice A size c, f.bs.take size, min du size⟩ : Fl) :: l2, by rw [hdu]; simp [Fl.log], hD, m.mono (fun b hb => .inl (hb.elim (fun e => .inr (.inr ⟨f, by simp, .inl e⟩)) .inl)), by
    rintro b (e | e | ⟨d, hd, e⟩)
    · exact .inl (.inl e)
    · exact .inl (.inr (.inl e))
    · rw [List.mem_append, List.mem_cons] at hd
      rcases hd with hd | rfl | hd
      · exact .inl (.inr (.inr ⟨d, by simp [hd], e⟩))
      · refine .inl (.inr (.inr ⟨f, by simp, e.imp id (fun e => ?_)⟩))
        rw [hrv, ← e]
        exact ownBlock_slice _ _ _ _ _
      · exact .inl (.inr (.inr ⟨d, by simp [hd], e⟩))⟩
  have HNE := Lib.hid hne
  clear hf hu hn hdu hrv hD m hne
  have i1 : IntKind.i64.wrap ((n : Int) - (size : Int)) = (n : Int) - (size : Int) := IntWalk.i64_in _ (by omega)
  have i2 : IntKind.i64.wrap ((u : Int) - ((n : Int) - (size : Int))) = (u : Int) - ((n : Int) - (size : Int)) := IntWalk.i64_in _ (by omega)
  go_enter Try.func58, Try.ntmps58
  go_wp2
  go_region
  clear i1 i2
  have hne := HNE.out
  have hne2 : g ≠ f.fb := fun e => hne e.symm
  go_wp2
  all_goals
    go_end0
    exact ⟨rfl, HF.out.of_cut (by omega)⟩
/-- What cut writes where nothing is left. -/
def cut0W (w : World) (g fb : Nat) (A : Option Addr) (u n c : Nat) : World := (((w.setCell ⟨g, 1, none⟩ (.int .i64 ((u : Int) - (n : Int)))).setCell ⟨fb, 0, none⟩ (.slice A 0 c)).setCell ⟨fb, 1, none⟩ (.int .i64 0)).drew
theorem cut0W_eq (w : World) (g fb : Nat) (A : Option Addr) (u n c du : Nat) : cut0W w g fb A u n c = (cutW w g fb A u n 0 c du).drew := by
  unfold cut0W cutW
  simp
theorem DskAt.short0 {w : World} {g mb room : Nat} {off : Bool} {plan : Int} {l1 l2 : List Fl} {f : Fl} (h : DskAt w g mb room off plan (l1 ++ f :: l2)) (A : Option Addr) (c : Nat) (hrv : f.rv = .slice A f.bs.length c) :
    ∃ w4, Hid ((Builtin.delete_ #[88, 3] 0 #[.map (some mb), .int .i64 f.num]).run Try.prog (cut0W w g f.fb A (sumL (l1 ++ f :: l2)) f.bs.length c) = .ok (.tuple #[]) w4) ∧ DskNext g mb room off plan (l1 ++ f :: l2) (l1.map Fl.log ++ l2.map Fl.log) w w4 := by
  obtain ⟨A', c', hrv', hgne, -, -, -, -, -, -, hD, m⟩ := h.short 0 (Nat.zero_le _)
  rw [hrv] at hrv'
  injection hrv' with e1 _ e2
  subst e1 e2
  have hD' := hD.all (below_drewN (Below.refl _ (cutW w g f.fb A (sumL (l1 ++ f :: l2)) f.bs.length 0 c f.dur)) 1)
  have m' := m.drew
  have e0 : (cutW w g f.fb A (sumL (l1 ++ f :: l2)) f.bs.length 0 c f.dur).drewN 1 = (cutW w g f.fb A (sumL (l1 ++ f :: l2)) f.bs.length 0 c f.dur).drew := rfl
  rw [e0] at hD'
  rw [cut0W_eq w g f.fb A _ _ c f.dur]
  generalize (cutW w g f.fb A (sumL (l1 ++ f :: l2)) f.bs.length 0 c f.dur).drew = w3 at *
  have hm := hD'.map
  rw [List.map_append, List.map_cons] at hm
  obtain ⟨w4, hrun, hm4, hg4, -⟩ := IMap.del (P := Try.prog) (ty := 0) hm Try.underlying88 Try.underlying3
  have hb4 : Blk w4 g 90 (diskCells room (sumL (l1 ++ l2)) mb off plan) := by
    have e : sumL (l1 ++ (⟨f.num, f.fb, .slice A 0 c, f.bs.take 0, min f.dur 0⟩ : Fl) :: l2) = sumL (l1 ++ l2) := by rw [sumL_append, sumL_cons, sumL_append]; simp
    have := hD'.blk
    rw [e] at this
    exact this.grown hg4 (fun e => hD'.gm (Option.some.inj e))
  have m4 : Mod (fun b => f.F b ∨ b = g ∨ b = mb) w w4 := (m'.mono (G := fun b => f.F b ∨ b = g ∨ b = mb) (fun b hb => .inl (hb.elim (fun e => .inl (.inl e)) (fun e => .inr (.inl e))))).then_grown hg4 (fun b e => .inl (.inr (.inr (Option.some.inj e).symm)))
  obtain ⟨r1, r2, r3⟩ := h.drop m4 hb4 (by rw [List.map_append]; exact hm4)
  exact ⟨w4, Lib.hid hrun, _, by simp, r1, r2, fun b hb => .inl (r3 b hb)⟩
set_option maxRecDepth 100000 in
set_option maxHeartbeats 1000000 in
theorem cut_zero (g mb room : Nat) (off : Bool) (plan : Int) (l1 l2 : List Fl) (f : Fl) (num : Int) (w : World) (HD : Hid (DskAt w g mb room off plan (l1 ++ f :: l2))) (HN : Hid (findF (l1 ++ f :: l2) num = some f)) :
    Calls Try.prog 58 #[.pointer (some ⟨g, 0, none⟩), .int .i64 num, .int .i64 0] w fun e w' => e = .returned (.tuple #[]) ∧ DskNext g mb room off plan (l1 ++ f :: l2) (l1.map Fl.log ++ l2.map Fl.log) w w' := by
  obtain ⟨c0, c1, c2, c3, c4, hf⟩ := HD.out.dcells
  have hf1 := hf 1
  have hrm := HD.out.room_le
  have hul := HD.out.used_le
  have hnum : f.num = num := by
    obtain ⟨_, _, _, h⟩ := findF_split HN.out
    exact h
  have hlk := DskAt.look HD.out num
  rw [HN.out] at hlk
  replace hlk : (Instr.lookup 88 (.map (some mb)) (.int .i64 num) false).run Try.prog w = .ok (.pointer (some ⟨f.fb, 0, none⟩)) w := hlk
  obtain ⟨A, c, hrv, hne, q0, q1, q2, q3, hlc, hcc, -, -⟩ := HD.out.short 0 (Nat.zero_le _)
  obtain ⟨w4, HRUN, hfin⟩ := HD.out.short0 A c hrv
  rw [hnum] at HRUN
  have hfl : f.bs.length ≤ sumL (l1 ++ f :: l2) := by rw [sumL_append, sumL_cons]; omega
  obtain ⟨u, hu⟩ : ∃ u, sumL (l1 ++ f :: l2) = u := ⟨_, rfl⟩
  obtain ⟨n, hn⟩ : ∃ n, f.bs.length = n := ⟨_, rfl⟩
  obtain ⟨du, hdu⟩ : ∃ du, f.dur = du := ⟨_, rfl⟩
  rw [hu] at c1 hul hfl HRUN
  rw [hn] at q0 hlc hfl HRUN
  rw [hdu] at q1
  have HF := Lib.hid hfin
  have HNE := Lib.hid hne
  have hrun := HRUN.out
  unfold cut0W at hrun
  clear hf hu hn hdu hrv hne hnum hfin HRUN
  rcases Nat.eq_zero_or_pos du with h0 | h0
  · subst h0
    replace q1 : w.cell? ⟨f.fb, 1, none⟩ = some (.int .i64 0) := q1
    go_enter Try.func58, Try.ntmps58
    go_wp2
    go_region
    have hne := HNE.out
    have hne2 : g ≠ f.fb := fun e => hne e.symm
    go_wp2
    go_end0
    exact ⟨rfl, HF.out⟩
  · have hmn : min (du : Int) 0 = 0 := by omega
    go_enter Try.func58, Try.ntmps58
    go_wp2
    go_region
    have hne := HNE.out
    have hne2 : g ≠ f.fb := fun e => hne e.symm
    go_wp2
    go_end0
    exact ⟨rfl, HF.out⟩
/-- The files behind cut. -/
def cutLogs (l1 : List Fl) (f : Fl) (l2 : List Fl) (size : Nat) : List (Int × List UInt8 × Nat) := if size = 0 then l1.map Fl.log ++ l2.map Fl.log else l1.map Fl.log ++ (f.num, f.bs.take size, min f.dur size) :: l2.map Fl.log
theorem cut_any (g mb room : Nat) (off : Bool) (plan : Int) (l1 l2 : List Fl) (f : Fl) (num : Int) (size : Nat) (si : Int) (hsi : si = (size : Int)) (w : World) (HD : Hid (DskAt w g mb room off plan (l1 ++ f :: l2))) (HN : Hid (findF (l1 ++ f :: l2) num = some f)) (hs : size ≤ f.bs.length) :
    Calls Try.prog 58 #[.pointer (some ⟨g, 0, none⟩), .int .i64 num, .int .i64 si] w fun e w' => e = .returned (.tuple #[]) ∧ DskNext g mb room off plan (l1 ++ f :: l2) (cutLogs l1 f l2 size) w w' := by
  subst hsi
  unfold cutLogs
  rcases Nat.eq_zero_or_pos size with h0 | h0
  · subst h0
    rw [if_pos rfl]
    exact cut_zero g mb room off plan l1 l2 f num w HD HN
  · rw [if_neg (by omega)]
    exact cut_some g mb room off plan l1 l2 f num size w HD HN hs h0
set_option maxRecDepth 100000 in
set_option maxHeartbeats 1000000 in
theorem trunc_any (g mb room : Nat) (plan : Int) (l1 l2 : List Fl) (f : Fl) (num : Int) (size : Nat) (o : Bool) (w : World) (HD : Hid (DskAt w g mb room false plan (l1 ++ f :: l2))) (HN : Hid (findF (l1 ++ f :: l2) num = some f)) (h1 : 0 ≤ num) (h2 : num < 64) (hs : size ≤ f.bs.length) (HO : Hid (failOff false plan = o)) :
    Calls Try.prog 52 #[.pointer (some ⟨g, 0, none⟩), .int .i64 num, .int .i64 (size : Int)] w fun e w' => e = .returned (.int .i64 (if o then 23 else 0)) ∧ DskNext g mb room o (failPlan plan) (l1 ++ f :: l2) (if o then (l1 ++ f :: l2).map Fl.log else cutLogs l1 f l2 size) w w' := by
  obtain ⟨c0, c1, c2, c3, c4, hf⟩ := HD.out.dcells
  have hrm := HD.out.room_le
  have hul := HD.out.used_le
  have hlk := DskAt.look2 HD.out num
  rw [HN.out] at hlk
  replace hlk : (Instr.lookup 88 (.map (some mb)) (.int .i64 num) true).run Try.prog w = .ok (.tuple #[.pointer (some ⟨f.fb, 0, none⟩), .bool true]) w := hlk
  obtain ⟨A, c, hrv, -, q0, -, -, -, hlc, hcc, -, -⟩ := HD.out.short 0 (Nat.zero_le _)
  have hfl : f.bs.length ≤ sumL (l1 ++ f :: l2) := by rw [sumL_append, sumL_cons]; omega
  obtain ⟨u, hu⟩ : ∃ u, sumL (l1 ++ f :: l2) = u := ⟨_, rfl⟩
  obtain ⟨n, hn⟩ : ∃ n, f.bs.length = n := ⟨_, rfl⟩
  rw [hu] at c1 hul hfl
  rw [hn] at q0 hlc hfl
  have HNL := Lib.hid hn
  rw [hn] at hs
  clear hf hu hn hrv
  have d1 : decide ((size : Int) < 0) = false := by simp
  have d2 : ¬ n < size := by omega
  go_enter Try.func52, Try.ntmps52
  go_wp2_with (go_at_call 55; ((with_reducible refine (isFile_yes _ _ h1 h2).mono ?_); rintro e w1 ⟨rfl, rfl⟩))
  all_goals
    refine (fails_any _ _ _ _ _ _ _ HD).mono ?_
    rintro e w2 ⟨rfl, hD2, m2⟩
    rw [HO.out] at hD2 ⊢
    have HD2 := Lib.hid hD2
    have HM2 := Lib.hid m2
    clear hD2 m2 hlk q0 c0 c1 c2 c3 c4 d1 d2
    cases o with
    | true =>
      go_wp2
      go_ret
      exact ⟨rfl, l1 ++ f :: l2, by simp, HD2.out, HM2.out.mono (fun b hb => .inl (.inl hb)), fun b hb => .inl hb⟩
    | false =>
      go_wp2_with (go_at_call 58; ((with_reducible refine (cut_any _ _ _ _ _ _ _ f _ size _ rfl _ HD2 HN (by rw [HNL.out]; exact hs)).mono ?_); rintro e w3 ⟨rfl, hN3⟩; have HN3 := Lib.hid (hN3.from HM2.out (fun b hb => .inl (.inl hb))); clear hN3))
      go_ret
      exact ⟨rfl, HN3.out⟩
end Go.Proofs.Ytldmokjpfnakkaa
