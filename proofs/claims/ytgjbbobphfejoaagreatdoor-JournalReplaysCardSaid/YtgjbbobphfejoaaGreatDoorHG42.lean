/- disk: Append, Read. -/
import Derived.Test.YtgjbbobphfejoaaGreatDoorHG41
import Derived.Defers

namespace Go.Proofs.YtgjbbobphfejoaaGreatDoor
open Go.RowKit

/-- The disk after a call: its files read as st. -/
def DskNext (g mb room : Nat) (off' : Bool) (plan' : Int) (fs : List Fl) (st : List (Int × List UInt8 × Nat)) (w w' : World) : Prop :=
  ∃ fs', fs'.map Fl.log = st ∧ DskAt w' g mb room off' plan' fs' ∧ Mod (DskF g mb fs) w w' ∧ ∀ b, DskF g mb fs' b → DskF g mb fs b ∨ w.heap.size ≤ b
theorem DskAt.grow {w : World} {g mb room : Nat} {off : Bool} {plan : Int} {l1 l2 : List Fl} {f : Fl} (h : DskAt w g mb room off plan (l1 ++ f :: l2)) (A : Option Addr) (n c : Nat) (xs : List UInt8) (hx : xs.length = n) (hR : Rd w w.heap.size A n (vByte xs)) (hroom : sumL (l1 ++ f :: l2) + n ≤ room) :
    ∃ A0 n0 c0 A3 n3 c3 w3, f.rv = .slice A0 n0 c0 ∧ w.cell? ⟨f.fb, 0, none⟩ = some (.slice A0 n0 c0) ∧ Hid ((Builtin.append_ #[55, 55] 55 #[.slice A0 n0 c0, .slice A n c]).run Tryz.prog w = .ok (.slice A3 n3 c3) w3) ∧
      w3.cell? ⟨f.fb, 0, none⟩ = some (.slice A0 n0 c0) ∧ w3.frozen? ⟨f.fb, 0, none⟩ = false ∧
      (w3.setCell ⟨f.fb, 0, none⟩ (.slice A3 n3 c3)).cell? ⟨g, 1, none⟩ = some (.int .i64 ((sumL (l1 ++ f :: l2) : Nat) : Int)) ∧ (w3.setCell ⟨f.fb, 0, none⟩ (.slice A3 n3 c3)).frozen? ⟨g, 1, none⟩ = false ∧
      Hid (DskNext g mb room off plan (l1 ++ f :: l2) (l1.map Fl.log ++ (f.num, f.bs ++ xs, f.dur) :: l2.map Fl.log) w ((w3.setCell ⟨f.fb, 0, none⟩ (.slice A3 n3 c3)).setCell ⟨g, 1, none⟩ (.int .i64 ((sumL (l1 ++ f :: l2) : Nat) + (n : Int))))) := by
  have hfm : f ∈ l1 ++ f :: l2 := by simp
  have hok := h.ok f hfm
  obtain ⟨A0, c0, hrv⟩ := own_slice hok.2.1
  have hown := hok.2.1
  have hrm := h.room_le
  have hul := h.used_le
  have hfl : f.bs.length ≤ sumL (l1 ++ f :: l2) := by rw [sumL_append, sumL_cons]; omega
  obtain ⟨i0, hi, hz0, hz1, hz2⟩ := info_parts info_u8
  obtain ⟨v', w3, hap, hown3, hg, ho⟩ := run_append_rd (P := Tryz.prog) w 0 55 55 5 i0 _ 1 Tryz.underlying55 hi hz0 hz1 hz2 rfl _ _ _ hown w.heap.size A n c (vByte xs) hR hR.none_ (fun _ _ => rfl) (by unfold maxLen; omega) (by omega) (Nat.zero_le _)
  obtain ⟨A3, c3, rfl⟩ := own_slice hown3
  have e : (List.range n).map (vByte xs) = xs.map fun b => Value.int .u8 ((b.toNat : Nat) : Int) := by
    subst hx
    refine List.ext_getElem (by simp) fun i h1 h2 => ?_
    have hi : i < xs.length := by simpa using h2
    simp [vByte, hi]
  rw [e, ← List.map_append] at hown3
  have hT : f.rv.ownBlock ≠ some f.fb := own_ne (by decide) hok.1 hown
  have m3 : Mod (fun b => f.rv.ownBlock = some b) w w3 := Mod.of_grown hg (fun b e => .inl e)
  have hfb3 : Blk w3 f.fb 115 #[f.rv, .int .i64 (f.dur : Int)] := m3.blk hok.1 hT
  have hgne : ∀ b, f.F b → b ≠ g := fun b hb => (h.F_ne hfm b hb).1
  have hg3 : Blk w3 g 93 (diskCells room (sumL (l1 ++ f :: l2)) mb off plan) := m3.blk h.blk (fun e => hgne g (.inr e) rfl)
  have hg4 := Blk.far (p := ⟨f.fb, 0, none⟩) hg3 (fun e => hgne f.fb (.inl rfl) e.symm) (.slice A3 (f.bs.length + n) c3)
  have hfb4 : Blk (w3.setCell ⟨f.fb, 0, none⟩ (.slice A3 (f.bs.length + n) c3)) f.fb 115 #[.slice A3 (f.bs.length + n) c3, .int .i64 (f.dur : Int)] := by simpa using hfb3.set_ 0 (.slice A3 (f.bs.length + n) c3)
  refine ⟨A0, f.bs.length, c0, A3, f.bs.length + n, c3, w3, hrv, by rw [← hrv]; simpa using hok.1.cell 0, Lib.hid (by rw [← hrv]; exact hap), by rw [← hrv]; simpa using hfb3.cell 0, hfb3.frozen 0, by simpa [diskCells] using hg4.cell 1, hg4.frozen 1, Lib.hid ?_⟩
  have ma : Mod (fun b => f.F b ∨ b = g) w ((w3.setCell ⟨f.fb, 0, none⟩ (.slice A3 (f.bs.length + n) c3)).setCell ⟨g, 1, none⟩ (.int .i64 ((sumL (l1 ++ f :: l2) : Nat) + (n : Int)))) :=
    ((m3.mono (G := fun b => f.F b ∨ b = g) (fun b e => .inl (.inl (.inr e)))).set (p := ⟨f.fb, 0, none⟩) (.inl (.inl (.inl rfl))) _).set (p := ⟨g, 1, none⟩) (.inl (.inr rfl)) _
  have hs : sumL (l1 ++ (⟨f.num, f.fb, .slice A3 (f.bs.length + n) c3, f.bs ++ xs, f.dur⟩ : Fl) :: l2) = sumL (l1 ++ f :: l2) + n := by
    rw [sumL_append, sumL_cons, sumL_append, sumL_cons]
    simp only [List.length_append]
    omega
  have hown4 := hown3.kept (only_set (p := ⟨f.fb, 0, none⟩) (only_refl w3 (some f.fb)) (.inl rfl) (.slice A3 (f.bs.length + n) c3)) (.inr (own_ne (by decide) hfb3 hown3))
  have hown5 := hown4.kept (only_set (p := ⟨g, 1, none⟩) (only_refl _ (some g)) (.inl rfl) (.int .i64 ((sumL (l1 ++ f :: l2) : Nat) + (n : Int)))) (.inr (own_ne (by decide) hg4 hown4))
  obtain ⟨r1, r2, r3⟩ := h.upd (f' := ⟨f.num, f.fb, .slice A3 (f.bs.length + n) c3, f.bs ++ xs, f.dur⟩) (off' := off) (plan' := plan) ma (by
      have := Blk.set_ hg4 1 (.int .i64 ((sumL (l1 ++ f :: l2) : Nat) + (n : Int)))
      rw [hs]
      simpa [diskCells] using this) rfl rfl ⟨Blk.far hfb4 (fun e => hgne f.fb (.inl rfl) e) _, by rw [List.length_append, hx]; exact hown5, by simp only [List.length_append]; have := hok.2.2; omega⟩
    (ho.imp (fun e => e) (fun e b eb => by rw [e] at eb; injection eb with eb; omega)) (by rw [hs]; exact hroom) h.plan_le
  exact ⟨_, by simp [Fl.log], r1, r2, r3⟩

theorem DskNext.from {g mb room : Nat} {off' : Bool} {plan' : Int} {fs : List Fl} {st : List (Int × List UInt8 × Nat)} {w w1 w2 : World} {F : Nat → Prop} (h : DskNext g mb room off' plan' fs st w1 w2) (m : Mod F w w1) (hF : ∀ b, F b → DskF g mb fs b ∨ w.heap.size ≤ b) : DskNext g mb room off' plan' fs st w w2 := by
  obtain ⟨fs', h1, h2, h3, h4⟩ := h
  exact ⟨fs', h1, h2, (m.mono hF).trans h3 (fun b hb => .inl hb), fun b hb => (h4 b hb).imp id (fun h => Nat.le_trans m.size h)⟩
theorem DskNext.from2 {g mb room : Nat} {off' : Bool} {plan' : Int} {fs fs1 : List Fl} {st : List (Int × List UInt8 × Nat)} {w w1 w2 : World} (h : DskNext g mb room off' plan' fs1 st w1 w2) (m : Mod (DskF g mb fs) w w1) (hF : ∀ b, DskF g mb fs1 b → DskF g mb fs b ∨ w.heap.size ≤ b) : DskNext g mb room off' plan' fs st w w2 := by
  obtain ⟨fs', h1, h2, h3, h4⟩ := h
  refine ⟨fs', h1, h2, m.trans h3 (fun b hb => hF b hb), fun b hb => ?_⟩
  rcases h4 b hb with h | h
  · exact hF b h
  · exact .inr (Nat.le_trans m.size h)
set_option maxRecDepth 100000 in
set_option maxHeartbeats 2000000 in
theorem appendD_old (g mb room : Nat) (plan : Int) (l1 l2 : List Fl) (f : Fl) (num : Int) (A : Option Addr) (n c : Nat) (xs : List UInt8) (w : World) (HD : Hid (DskAt w g mb room false plan (l1 ++ f :: l2))) (HN : Hid (findF (l1 ++ f :: l2) num = some f)) (h1 : 0 ≤ num) (h2 : num < 64) (HX : Hid (xs.length = n)) (hn0 : 0 < n) (hroom : sumL (l1 ++ f :: l2) + n ≤ room)
    (HR : Hid (Rd w w.heap.size A n (vByte xs))) (HA : Hid (∀ b off, A = some ⟨b, off, none⟩ → ¬ DskF g mb (l1 ++ f :: l2) b)) :
    Calls Tryz.prog 39 #[.pointer (some ⟨g, 0, none⟩), .int .i64 num, .slice A n c] w fun e w' => e = .returned (.int .i64 (if failOff false plan then 23 else 0)) ∧ DskNext g mb room (failOff false plan) (failPlan plan) (l1 ++ f :: l2) (l1.map Fl.log ++ (f.num, f.bs ++ xs, f.dur) :: l2.map Fl.log) w w' := by
  obtain ⟨c0, c1, c2, c3, c4, hf⟩ := HD.out.dcells
  have hrm := HD.out.room_le
  have hul := HD.out.used_le
  obtain ⟨u, hu⟩ : ∃ u, sumL (l1 ++ f :: l2) = u := ⟨_, rfl⟩
  rw [hu] at c1 hul hroom
  have HU := Lib.hid hu
  obtain ⟨o, ho⟩ : ∃ o, failOff false plan = o := ⟨_, rfl⟩
  rw [ho]
  have HO := Lib.hid ho
  clear hf hu ho
  go_enter Tryz.func39, Tryz.ntmps39
  go_wp2_with (go_at_call 53; ((with_reducible refine (isFile_yes _ _ h1 h2).mono ?_); rintro e w1 ⟨rfl, rfl⟩))
  have i1 : IntKind.i64.wrap ((room : Int) - (u : Int)) = (room : Int) - (u : Int) := IntWalk.i64_in _ (by omega)
  have i2 : decide ((room : Int) - (u : Int) < (n : Int)) = false := by rw [decide_eq_false_iff_not]; omega
  go_quiet (fail)
  clear i1 i2
  have hD1 := HD.out.all (below_drewN (Below.refl _ w) nq)
  have hR1 : Rd (w.drewN nq) (w.drewN nq).heap.size A n (vByte xs) := HR.out
  have hB1 : Below w.heap.size w (w.drewN nq) := below_drewN (Below.refl _ w) nq
  go_wp2_with fail
  generalize w.drewN nq = w1 at *
  refine (fails_any _ _ _ _ _ _ _ (Lib.hid hD1)).mono ?_
  rintro e w2 ⟨rfl, hD2, m2⟩
  rw [HO.out] at hD2 ⊢
  have hR2 : Rd w2 w2.heap.size A n (vByte xs) := by
    have := m2.rd hR1 (Nat.le_refl _) (fun b off e hp hf => HA.out b off e (.inl hf))
    exact this.more m2.size
  have M2 : Mod (DskF g mb (l1 ++ f :: l2)) w w2 := (Mod.of_below (DskF g mb (l1 ++ f :: l2)) hB1).trans m2 (fun b hb => .inl (.inl hb))
  have hlk := DskAt.look hD2 num
  rw [HN.out] at hlk
  replace hlk : (Instr.lookup 91 (.map (some mb)) (.int .i64 num) false).run Tryz.prog w2 = .ok (.pointer (some ⟨f.fb, 0, none⟩)) w2 := hlk
  obtain ⟨d0, d1, d2, d3, d4, -⟩ := hD2.dcells
  obtain ⟨A0, n0, c0', A3, n3, c3', w3, hrv, hcl, HRUN, hcl3, hfr3, hcg, hfg, HNX⟩ := hD2.grow A n c xs HX.out hR2 (by rw [HU.out]; exact hroom)
  rw [HU.out] at hcg HNX d1
  have HFIN := Lib.hid (HNX.out.from2 M2 (fun b hb => .inl hb))
  clear hD1 hR1 hB1 m2 M2 hD2 hR2 c0 c1 c2 c3 c4 HNX hrv
  cases o with
  | true =>
    go_wp2_with (at_builtin; refine wpList_append_run HRUN.out rfl rfl rfl rfl ?_)
    all_goals (go_ret; exact ⟨rfl, HFIN.out⟩)
  | false =>
    go_wp2_with (at_builtin; refine wpList_append_run HRUN.out rfl rfl rfl rfl ?_)
    all_goals (go_ret; exact ⟨rfl, HFIN.out⟩)
theorem put_none {es : List (Int × Value)} {k : Int} {v : Value} (h : es.lookup k = none) : put es k v = es ++ [(k, v)] := by
  induction es with
  | nil => rfl
  | cons p es ih =>
    have hne : ¬ p.1 = k := by
      intro e
      rw [List.lookup_eq_none_iff] at h
      have := h p (by simp)
      simp [e] at this
    unfold put
    rw [if_neg hne, ih (by
      rw [List.lookup_eq_none_iff] at h ⊢
      exact fun q hq => h q (by simp [hq]))]
    rfl
/-- A file is laid into the map. -/
theorem DskAt.lay {w : World} {g mb room : Nat} {off : Bool} {plan : Int} {fs : List Fl} (h : DskAt w g mb room off plan fs) (num : Int) (hno : findF fs num = none) :
    ∃ w3, Hid ((Instr.mapUpdate 91 (.map (some mb)) (.int .i64 num) (.pointer (some ⟨w.heap.size, 0, none⟩))).run Tryz.prog (w.alloc (.cells #[.slice none 0 0, .int .i64 0] 115)) = .ok () w3) ∧
      DskAt w3 g mb room off plan (fs ++ [⟨num, w.heap.size, .slice none 0 0, [], 0⟩]) ∧ Mod (fun b => b = mb) w w3 := by
  have hb := (Below.refl w.heap.size w).alloc (Nat.le_refl _) (.cells #[.slice none 0 0, .int .i64 0] 115)
  obtain ⟨w3, hrun, hmap, hg, -⟩ := IMap.store (h.map.all hb) Tryz.underlying91 Tryz.underlying3 num (.pointer (some ⟨w.heap.size, 0, none⟩))
  have m : Mod (fun b => b = mb) w w3 := (Mod.of_below (fun b => b = mb) hb).then_grown (r := some mb) hg (fun g e => .inl (Option.some.inj e).symm)
  have hlk : (fs.map fun f => (f.num, f.ptr)).lookup num = none := by rw [lookup_findF, hno]; rfl
  rw [put_none hlk] at hmap
  have hmb := h.map.lt
  have hB := (Blk.new w 115 #[.slice none 0 0, .int .i64 0]).grown hg (fun e => by injection e with e; omega)
  refine ⟨w3, Lib.hid hrun, h.add m (by simpa [Fl.ptr] using hmap) ⟨hB, World.ownsRow_nil _ _ _ _, Nat.le_refl _⟩ ?_ rfl, m⟩
  rintro b (e | e)
  · simp only at e
    omega
  · cases e
theorem findF_new {fs : List Fl} {num : Int} {f : Fl} (hno : findF fs num = none) (hf : f.num = num) : findF (fs ++ [f]) num = some f := by
  unfold findF at hno ⊢
  rw [List.find?_append, hno]
  simp [hf]
set_option maxRecDepth 100000 in
set_option maxHeartbeats 2000000 in
theorem appendD_new (g mb room : Nat) (plan : Int) (fs : List Fl) (num : Int) (A : Option Addr) (n c : Nat) (xs : List UInt8) (w : World) (HD : Hid (DskAt w g mb room false plan fs)) (HN : Hid (findF fs num = none)) (h1 : 0 ≤ num) (h2 : num < 64) (HX : Hid (xs.length = n)) (hn0 : 0 < n) (hroom : sumL fs + n ≤ room)
    (HR : Hid (Rd w w.heap.size A n (vByte xs))) (HA : Hid (∀ b off, A = some ⟨b, off, none⟩ → ¬ DskF g mb fs b)) :
    Calls Tryz.prog 39 #[.pointer (some ⟨g, 0, none⟩), .int .i64 num, .slice A n c] w fun e w' => e = .returned (.int .i64 (if failOff false plan then 23 else 0)) ∧ DskNext g mb room (failOff false plan) (failPlan plan) fs (fs.map Fl.log ++ [(num, xs, 0)]) w w' := by
  obtain ⟨c0, c1, c2, c3, c4, hf⟩ := HD.out.dcells
  have hrm := HD.out.room_le
  have hul := HD.out.used_le
  obtain ⟨u, hu⟩ : ∃ u, sumL fs = u := ⟨_, rfl⟩
  rw [hu] at c1 hul hroom
  have HU := Lib.hid hu
  obtain ⟨o, ho⟩ : ∃ o, failOff false plan = o := ⟨_, rfl⟩
  rw [ho]
  have HO := Lib.hid ho
  clear hf hu ho
  go_enter Tryz.func39, Tryz.ntmps39
  go_wp2_with (go_at_call 53; ((with_reducible refine (isFile_yes _ _ h1 h2).mono ?_); rintro e w1 ⟨rfl, rfl⟩))
  have i1 : IntKind.i64.wrap ((room : Int) - (u : Int)) = (room : Int) - (u : Int) := IntWalk.i64_in _ (by omega)
  have i2 : decide ((room : Int) - (u : Int) < (n : Int)) = false := by rw [decide_eq_false_iff_not]; omega
  go_quiet (fail)
  clear i1 i2
  have hD1 := HD.out.all (below_drewN (Below.refl _ w) nq)
  have hR1 : Rd (w.drewN nq) (w.drewN nq).heap.size A n (vByte xs) := HR.out
  have hB1 : Below w.heap.size w (w.drewN nq) := below_drewN (Below.refl _ w) nq
  go_wp2_with fail
  generalize w.drewN nq = w1 at *
  refine (fails_any _ _ _ _ _ _ _ (Lib.hid hD1)).mono ?_
  rintro e w2 ⟨rfl, hD2, m2⟩
  rw [HO.out] at hD2 ⊢
  have hR2 : Rd w2 w2.heap.size A n (vByte xs) := by
    have := m2.rd hR1 (Nat.le_refl _) (fun b off e hp hf => HA.out b off e (.inl hf))
    exact this.more m2.size
  have M2 : Mod (DskF g mb fs) w w2 := (Mod.of_below (DskF g mb fs) hB1).trans m2 (fun b hb => .inl (.inl hb))
  have hlk := DskAt.look hD2 num
  rw [HN.out] at hlk
  replace hlk : (Instr.lookup 91 (.map (some mb)) (.int .i64 num) false).run Tryz.prog w2 = .ok (.pointer none) w2 := hlk
  obtain ⟨d0, d1, d2, d3, d4, -⟩ := hD2.dcells
  obtain ⟨w3, hmu, hD3, m3⟩ := hD2.lay num HN.out
  replace hmu := hmu.out
  have hR3 : Rd w3 w3.heap.size A n (vByte xs) := by
    have := m3.rd hR2 (Nat.le_refl _) (fun b off e hp hf => HA.out b off e (.inr (.inl hf)))
    exact this.more m3.size
  have M3 := M2.trans m3 (fun b hb => .inl (.inr (.inl hb)))
  have hlk3 := DskAt.look hD3 num
  rw [findF_new HN.out rfl] at hlk3
  replace hlk3 : (Instr.lookup 91 (.map (some mb)) (.int .i64 num) false).run Tryz.prog w3 = .ok (.pointer (some ⟨w2.heap.size, 0, none⟩)) w3 := hlk3
  obtain ⟨e0, e1, e2, e3, e4, -⟩ := hD3.dcells
  have hs3 : sumL (fs ++ [⟨num, w2.heap.size, .slice none 0 0, [], 0⟩]) = u := by rw [sumL_append, HU.out]; simp [sumL]
  obtain ⟨A0, n0, c0', A3, n3, c3', w4, hrv, hcl, HRUN, hcl3, hfr3, hcg, hfg, HNX⟩ := hD3.grow (l2 := []) A n c xs HX.out hR3 (by rw [hs3]; exact hroom)
  rw [hs3] at hcg HNX e1
  rw [HU.out] at d1
  have HFIN := Lib.hid (HNX.out.from2 M3 (fun b hb => by
    rcases hb with e | e | ⟨d, hd, hb⟩
    · exact .inl (.inl e)
    · exact .inl (.inr (.inl e))
    · rcases List.mem_append.1 hd with hd | hd
      · exact .inl (.inr (.inr ⟨d, hd, hb⟩))
      · simp at hd
        subst hd
        rcases hb with e | e
        · simp only at e
          have := M2.size
          exact .inr (by omega)
        · cases e))
  replace HFIN : Hid (DskNext g mb room o (failPlan plan) fs (fs.map Fl.log ++ [(num, xs, 0)]) w _) := HFIN
  clear hD1 hR1 hB1 m2 M2 hD2 hR2 c0 c1 c2 c3 c4 HNX hrv hD3 m3 hR3 M3 hs3
  cases o with
  | true =>
    go_wp2_with (at_builtin; refine wpList_append_run HRUN.out rfl rfl rfl rfl ?_)
    all_goals (go_ret; exact ⟨rfl, HFIN.out⟩)
  | false =>
    go_wp2_with (at_builtin; refine wpList_append_run HRUN.out rfl rfl rfl rfl ?_)
    all_goals (go_ret; exact ⟨rfl, HFIN.out⟩)
end Go.Proofs.YtgjbbobphfejoaaGreatDoor

/- disk: Read, Sync. -/
namespace Go.Proofs.YtgjbbobphfejoaaGreatDoor
open Go.RowKit

theorem readD_none (g mb room : Nat) (plan : Int) (fs : List Fl) (num : Int) (w : World) (HD : Hid (DskAt w g mb room false plan fs)) (HN : Hid (findF fs num = none)) (h1 : 0 ≤ num) (h2 : num < 64) :
    Calls Tryz.prog 24 #[.pointer (some ⟨g, 0, none⟩), .int .i64 num] w fun e w' => e = .returned (.tuple #[.slice none 0 0, .int .i64 0]) ∧ w = w' := by
  obtain ⟨c0, c1, c2, c3, c4, -⟩ := HD.out.dcells
  have hlk := DskAt.look2 HD.out num
  rw [HN.out] at hlk
  replace hlk : (Instr.lookup 91 (.map (some mb)) (.int .i64 num) true).run Tryz.prog w = .ok (.tuple #[.pointer none, .bool false]) w := hlk
  go_enter Tryz.func24, Tryz.ntmps24
  go_wp2_with (go_at_call 53; ((with_reducible refine (isFile_yes _ _ h1 h2).mono ?_); rintro e w1 ⟨rfl, rfl⟩))
  go_ret2
  exact ⟨rfl, rfl⟩
def ReadPost (bs : List UInt8) (w : World) (e : Ending) (w' : World) : Prop := ∃ A n c, e = .returned (.tuple #[.slice A n c, .int .i64 0]) ∧ w'.ownsRow w.heap.size 5 1 (.slice A n c) n (bs.map fun b => Value.int .u8 ((b.toNat : Nat) : Int)) ∧ Below w.heap.size w w'
theorem readD_some (g mb room : Nat) (plan : Int) (fs : List Fl) (f : Fl) (num : Int) (w : World) (HD : Hid (DskAt w g mb room false plan fs)) (HN : Hid (findF fs num = some f)) (h1 : 0 ≤ num) (h2 : num < 64) :
    Calls Tryz.prog 24 #[.pointer (some ⟨g, 0, none⟩), .int .i64 num] w (ReadPost f.bs w) := by
  obtain ⟨c0, c1, c2, c3, c4, -⟩ := HD.out.dcells
  have hlk := DskAt.look2 HD.out num
  rw [HN.out] at hlk
  replace hlk : (Instr.lookup 91 (.map (some mb)) (.int .i64 num) true).run Tryz.prog w = .ok (.tuple #[.pointer (some ⟨f.fb, 0, none⟩), .bool true]) w := hlk
  obtain ⟨l1, l2, hfs, -⟩ := findF_split HN.out
  have hok := HD.out.ok f (by rw [hfs]; simp)
  obtain ⟨A0, k0, hrv⟩ := own_slice hok.2.1
  have hcl : w.cell? ⟨f.fb, 0, none⟩ = some (.slice A0 f.bs.length k0) := by rw [← hrv]; simpa using hok.1.cell 0
  have hown := hok.2.1
  rw [hrv] at hown
  have hrd := (rd_bytes hown).2.2
  have hlen : f.bs.length ≤ 16777216 := by
    have h1 := HD.out.room_le
    have h2 := HD.out.used_le
    rw [hfs, sumL_append, sumL_cons] at h2
    omega
  obtain ⟨k, hk⟩ : ∃ k, f.bs.length = k := ⟨_, rfl⟩
  rw [hk] at hcl hrd hlen
  have HK := Lib.hid hk
  clear hk hfs hok hrv hown
  go_enter Tryz.func24, Tryz.ntmps24
  go_wp2_with (first
    | (go_at_call 53; ((with_reducible refine (isFile_yes _ _ h1 h2).mono ?_); rintro e w1 ⟨rfl, rfl⟩))
    | (go_at_call 41; ((with_reducible refine (clone_any _ _ _ f.bs _ HK hrd (by omega)).mono ?_); rintro e w2 ⟨A', c', rfl, q1, q2, q3, q4, q5⟩)))
  go_ret2
  exact ⟨A', k, c', rfl, q3, q5⟩
/-- Files whose bytes are all durable, but for those that are left. -/
def syncF (left : Int → Bool) (f : Fl) : Fl := if left f.num then f else { f with dur := f.bs.length }
theorem syncF_num (left : Int → Bool) (f : Fl) : (syncF left f).num = f.num := by unfold syncF; split <;> rfl
theorem syncF_fb (left : Int → Bool) (f : Fl) : (syncF left f).fb = f.fb := by unfold syncF; split <;> rfl
theorem syncF_rv (left : Int → Bool) (f : Fl) : (syncF left f).rv = f.rv := by unfold syncF; split <;> rfl
theorem syncF_all (f : Fl) : syncF (fun _ => true) f = f := by simp [syncF]
def syncLog (st : List (Int × List UInt8 × Nat)) : List (Int × List UInt8 × Nat) := st.map fun p => (p.1, p.2.1, p.2.1.length)
theorem syncF_done {fs : List Fl} {left : Int → Bool} (h : ∀ f ∈ fs, left f.num = false) : (fs.map (syncF left)).map Fl.log = syncLog (fs.map Fl.log) := by
  rw [syncLog, List.map_map, List.map_map]
  apply List.map_congr_left
  intro f hf
  simp [Function.comp, syncF, h f hf, Fl.log]
theorem keys_sync (fs : List Fl) (left : Int → Bool) : (fs.map (syncF left)).map (fun f => (f.num, f.ptr)) = fs.map fun f => (f.num, f.ptr) := by
  rw [List.map_map]
  apply List.map_congr_left
  intro f _
  simp [Function.comp, syncF_num, Fl.ptr, syncF_fb]
theorem IMap.nodup {w : World} {b : Nat} {es : List (Int × Value)} (h : IMap w b es) : (es.map Prod.fst).Nodup := by
  obtain ⟨l, c, -, -, h3, -⟩ := h
  exact h3
theorem DskAt.syncOne {w : World} {g mb room : Nat} {off : Bool} {plan : Int} {fs : List Fl} {left : Int → Bool} {f : Fl} (h : DskAt w g mb room off plan (fs.map (syncF left))) (hf : f ∈ fs) (hl : left f.num = true) :
    ∃ A c, f.rv = .slice A f.bs.length c ∧ w.cell? ⟨f.fb, 0, none⟩ = some (.slice A f.bs.length c) ∧ w.cell? ⟨f.fb, 1, none⟩ = some (.int .i64 (f.dur : Int)) ∧ w.frozen? ⟨f.fb, 1, none⟩ = false ∧
      DskAt (w.setCell ⟨f.fb, 1, none⟩ (.int .i64 (f.bs.length : Int))) g mb room off plan (fs.map (syncF fun j => left j && !(j == f.num))) ∧ Mod (fun b => b = f.fb) w (w.setCell ⟨f.fb, 1, none⟩ (.int .i64 (f.bs.length : Int))) := by
  obtain ⟨l1, l2, rfl⟩ := List.append_of_mem hf
  have hn := h.map.nodup
  rw [keys_sync] at hn
  have hsf : syncF left f = f := by simp [syncF, hl]
  rw [List.map_append, List.map_cons, hsf] at h
  have hne : ∀ d ∈ l1 ++ l2, d.num ≠ f.num := by
    intro d hd e
    simp only [List.map_append, List.map_cons, List.map_map, Function.comp_def] at hn
    rw [List.nodup_append] at hn
    obtain ⟨-, h2, h3⟩ := hn
    rw [List.nodup_cons] at h2
    rcases List.mem_append.1 hd with hd | hd
    · exact h3 d.num (List.mem_map.2 ⟨d, hd, rfl⟩) f.num (by simp) e
    · exact h2.1 (List.mem_map.2 ⟨d, hd, e⟩)
  have hsame : ∀ l : List Fl, (∀ d ∈ l, d ∈ l1 ++ l2) → l.map (syncF fun j => left j && !(j == f.num)) = l.map (syncF left) := by
    intro l hl'
    apply List.map_congr_left
    intro d hd
    have : (d.num == f.num) = false := beq_false_of_ne (hne d (hl' d hd))
    simp [syncF, this]
  have hnew : (l1 ++ f :: l2).map (syncF fun j => left j && !(j == f.num)) = l1.map (syncF left) ++ ({ f with dur := f.bs.length } : Fl) :: l2.map (syncF left) := by
    rw [List.map_append, List.map_cons, hsame l1 (fun d hd => by simp [hd]), hsame l2 (fun d hd => by simp [hd])]
    simp [syncF]
  have hfm : f ∈ l1.map (syncF left) ++ f :: l2.map (syncF left) := by simp
  have hok := h.ok f hfm
  obtain ⟨A, c, hrv⟩ := own_slice hok.2.1
  have hgne : f.fb ≠ g := (h.F_ne hfm _ (.inl rfl)).1
  have m : Mod (fun b => b = f.fb) w (w.setCell ⟨f.fb, 1, none⟩ (.int .i64 (f.bs.length : Int))) := (Mod.refl (fun b => b = f.fb) w).set (p := ⟨f.fb, 1, none⟩) (.inl rfl) _
  have hs : sumL (l1.map (syncF left) ++ ({ f with dur := f.bs.length } : Fl) :: l2.map (syncF left)) = sumL (l1.map (syncF left) ++ f :: l2.map (syncF left)) := by simp [sumL]
  refine ⟨A, c, hrv, by rw [← hrv]; simpa using hok.1.cell 0, by simpa using hok.1.cell 1, hok.1.frozen 1, ?_, m⟩
  rw [hnew]
  refine (h.upd (f' := { f with dur := f.bs.length }) (off' := off) (plan' := plan) (m.mono (fun b hb => .inl (.inl (.inl hb)))) (by rw [hs]; exact m.blk h.blk (fun e => hgne e.symm)) rfl rfl ⟨?_, ?_, Nat.le_refl _⟩ (.inl rfl) (by rw [hs]; exact h.used_le) h.plan_le).1
  · simpa using hok.1.set_ 1 (.int .i64 (f.bs.length : Int))
  · exact m.own hok.2.1 (fun b e hb => own_ne (by decide) hok.1 hok.2.1 (by rw [e, hb]))
end Go.Proofs.YtgjbbobphfejoaaGreatDoor

/- disk: Sync. -/
namespace Go.Proofs.YtgjbbobphfejoaaGreatDoor
open Go.RowKit

theorem DskAt.not_iter {w : World} {g mb room r : Nat} {off : Bool} {plan : Int} {fs : List Fl} {es : List (Int × Value)} {left : Int → Bool} (h : DskAt w g mb room off plan fs) (hi : IIter w mb r es left) : ∀ b, DskF g mb fs b → b ≠ r := by
  rintro b (rfl | rfl | ⟨f, hf, (rfl | e)⟩) he
  · subst he
    exact hi.not_ty h.blk.ty
  · exact hi.ne he.symm
  · subst he
    exact hi.not_ty (h.ok f hf).1.ty
  · subst he
    exact hi.not_ty (Ty.of_own (h.ok f hf).2.1 e)
theorem DskF_sync (g mb : Nat) (fs : List Fl) (left : Int → Bool) (b : Nat) : DskF g mb (fs.map (syncF left)) b ↔ DskF g mb fs b := by
  unfold DskF
  refine or_congr Iff.rfl (or_congr Iff.rfl ⟨?_, ?_⟩)
  · rintro ⟨f, hf, hb⟩
    obtain ⟨d, hd, rfl⟩ := List.mem_map.1 hf
    refine ⟨d, hd, ?_⟩
    unfold Fl.F at hb ⊢
    rw [syncF_fb, syncF_rv] at hb
    exact hb
  · rintro ⟨f, hf, hb⟩
    refine ⟨syncF left f, List.mem_map.2 ⟨f, hf, rfl⟩, ?_⟩
    unfold Fl.F at hb ⊢
    rw [syncF_fb, syncF_rv]
    exact hb
set_option maxRecDepth 100000 in
set_option maxHeartbeats 2000000 in
theorem sync_any (g mb room : Nat) (plan : Int) (fs : List Fl) (w : World) (HD : Hid (DskAt w g mb room false plan fs)) :
    Calls Tryz.prog 27 #[.pointer (some ⟨g, 0, none⟩)] w fun e w' => e = .returned (.int .i64 (if failOff false plan then 23 else 0)) ∧ DskNext g mb room (failOff false plan) (failPlan plan) fs (if failOff false plan then fs.map Fl.log else syncLog (fs.map Fl.log)) w w' := by
  obtain ⟨c0, c1, c2, c3, c4, -⟩ := HD.out.dcells
  obtain ⟨o, ho⟩ : ∃ o, failOff false plan = o := ⟨_, rfl⟩
  rw [ho]
  have HO := Lib.hid ho
  clear ho
  go_enter Tryz.func27, Tryz.ntmps27
  go_wp2_with fail
  refine (fails_any _ _ _ _ _ _ _ HD).mono ?_
  rintro e w2 ⟨rfl, hD2, m2⟩
  rw [HO.out] at hD2 ⊢
  have M2 : Mod (DskF g mb fs) w w2 := m2.mono (fun b hb => .inl (.inl hb))
  clear m2 c0 c1 c2 c3 c4
  cases o with
  | true =>
    go_wp2
    go_ret
    exact ⟨rfl, fs, rfl, hD2, M2, fun b hb => .inl hb⟩
  | false =>
    obtain ⟨d0, d1, d2, d3, d4, -⟩ := hD2.dcells
    obtain ⟨w3, hrg, hi3, hb3⟩ := IMap.iter (P := Tryz.prog) hD2.map Tryz.underlying91
    have hD3 := hD2.all hb3
    have M3 := M2.then_below hb3
    obtain ⟨r, hr⟩ : ∃ r, w2.heap.size = r := ⟨_, rfl⟩
    rw [hr] at hrg hi3
    have hrw : w.heap.size ≤ r := by rw [← hr]; exact M2.size
    have HD3 : Hid (DskAt w3 g mb room false (failPlan plan) (fs.map (syncF fun _ => true))) := Lib.hid (by
      have : fs.map (syncF fun _ => true) = fs := by
        conv => rhs; rw [← List.map_id fs]
        exact List.map_congr_left (fun f _ => syncF_all f)
      rw [this]
      exact hD3)
    have HI3 := Lib.hid hi3
    have HM3 := Lib.hid M3
    clear hD2 hD3 hi3 M3 M2 hb3 hr
    go_wp2
    go_loopw [4] (fun _ wr => ∃ left, Hid (IIter wr mb r (fs.map fun f => (f.num, f.ptr)) left) ∧ Hid (DskAt wr g mb room false (failPlan plan) (fs.map (syncF left))) ∧ Hid (Mod (DskF g mb fs) w wr)) (fun _ wr => iterLeft wr mb r)
    case atStart => exact ⟨_, HI3, HD3, HM3⟩
    case round =>
      obtain ⟨left, HI, HDr, HMr⟩ := hrel
      rcases HI.out.next (P := Tryz.prog) with ⟨hno, hnx⟩ | ⟨k, v, w', hkv, hlk, hnx, hen, hI', hg', -, hlt⟩
      · have HNO := Lib.hid (show ∀ f ∈ fs, left f.num = false from fun f hf => hno (f.num, f.ptr) (List.mem_map.2 ⟨f, hf, rfl⟩))
        clear hno
        go_wp2
        go_ret
        exact ⟨rfl, _, syncF_done HNO.out, HDr.out, HMr.out, fun b hb => .inl ((DskF_sync _ _ _ _ _).1 hb)⟩
      · obtain ⟨f, hf, he⟩ := List.mem_map.1 hkv
        injection he with he1 he2
        subst he1 he2
        have hnr := HDr.out.not_iter HI.out
        have hD' := HDr.out.mod (Mod.of_grown (F := fun b => b = r) hg' (fun b e => .inl (by injection e with e; exact e.symm))) (fun b hb e => hnr b hb e)
        obtain ⟨A, c, hrv, q1, q2, q3, hD'', m''⟩ := hD'.syncOne hf hlk
        have HD'' := Lib.hid hD''
        have hfr : f.fb ≠ r := hnr _ ((DskF_sync _ _ _ _ _).2 (.inr (.inr ⟨f, hf, .inl rfl⟩)))
        have hfm : f.fb ≠ mb := by
          have := (HDr.out.F_ne (f := syncF left f) (List.mem_map.2 ⟨f, hf, rfl⟩) f.fb (by unfold Fl.F; rw [syncF_fb]; exact .inl rfl)).2
          exact this
        have HI'' := Lib.hid (hI'.mod m'' (fun e => hfm e.symm) (fun e => hfr e.symm))
        have HM'' : Hid (Mod (DskF g mb fs) w (w'.setCell ⟨f.fb, 1, none⟩ (.int .i64 (f.bs.length : Int)))) := Lib.hid ((HMr.out.then_grown hg' (fun b e => .inr (by injection e with e; omega))).trans m'' (fun b hb => .inl (.inr (.inr ⟨f, hf, .inl hb⟩))))
        have HLT : Hid (iterLeft (w'.setCell ⟨f.fb, 1, none⟩ (.int .i64 (f.bs.length : Int))) mb r < iterLeft wr mb r) := Lib.hid (by
          have e : iterLeft (w'.setCell ⟨f.fb, 1, none⟩ (.int .i64 (f.bs.length : Int))) mb r = iterLeft w' mb r := by
            unfold iterLeft
            rw [Below.heap_setCell w' ⟨f.fb, 1, none⟩ _ mb (fun e => hfm e.symm), Below.heap_setCell w' ⟨f.fb, 1, none⟩ _ r (fun e => hfr e.symm)]
          rw [e]
          exact hlt)
        replace hnx : ∀ ty, (Instr.next (.pointer (some ⟨r, 0, none⟩)) false ty).run Tryz.prog wr = .ok (.tuple #[.bool true, .int .i64 f.num, .pointer (some ⟨f.fb, 0, none⟩)]) w' := hnx
        replace hen : (Instr.entry (.pointer (some ⟨r, 0, none⟩))).run Tryz.prog w' = .ok (.tuple #[.int .i64 f.num, .pointer (some ⟨f.fb, 0, none⟩)]) w' := hen
        clear hkv hlk hI' hg' hlt hnr hD' hD'' m'' hfr hfm hrv
        go_wp2
        exact ⟨⟨_, HI'', HD'', HM''⟩, HLT.out⟩
end Go.Proofs.YtgjbbobphfejoaaGreatDoor

/- journal: the log. -/
namespace Go.Proofs.YtgjbbobphfejoaaGreatDoor
open Go.RowKit

/-- A log at block gl. -/
def LogAt (w : World) (gl g : Nat) (num : Int) (len : Nat) (up : Bool) : Prop := Blk w gl 80 #[.pointer (some ⟨g, 0, none⟩), .int .i64 num, .int .i64 (len : Int), .bool up]
theorem LogAt.cells {w : World} {gl g : Nat} {num : Int} {len : Nat} {up : Bool} (h : LogAt w gl g num len up) : w.cell? ⟨gl, 0, none⟩ = some (.pointer (some ⟨g, 0, none⟩)) ∧ w.cell? ⟨gl, 1, none⟩ = some (.int .i64 num) ∧ w.cell? ⟨gl, 2, none⟩ = some (.int .i64 (len : Int)) ∧ w.cell? ⟨gl, 3, none⟩ = some (.bool up) ∧ w.frozen? ⟨gl, 2, none⟩ = false ∧ w.frozen? ⟨gl, 3, none⟩ = false :=
  ⟨Blk.cell h 0, Blk.cell h 1, Blk.cell h 2, Blk.cell h 3, Blk.frozen h 2, Blk.frozen h 3⟩
/-- The deferred closure of Append: the error is no ErrDown. -/
theorem door_no (be bl : Nat) (err : Int) (u : FrameMode) (w : World) (h0 : w.cell? ⟨be, 0, none⟩ = some (.int .i64 err)) (he : (err == 23) = false) :
    CallsD Tryz.prog 38 #[.pointer (some ⟨be, 0, none⟩), .pointer (some ⟨bl, 0, none⟩)] u w fun e u' w' => u' = u ∧ (e = .returned (.tuple #[]) ∧ w' = w) := by
  go_enter_d Tryz.func38, Tryz.ntmps38
  go_wp2
  go_end0
  exact ⟨rfl, rfl⟩
theorem door_yes (be bl gl : Nat) (u : FrameMode) (w : World) (v : Value) (h0 : w.cell? ⟨be, 0, none⟩ = some (.int .i64 23)) (h1 : w.cell? ⟨bl, 0, none⟩ = some (.pointer (some ⟨gl, 0, none⟩))) (h2 : w.cell? ⟨gl, 3, none⟩ = some v) (h3 : w.frozen? ⟨gl, 3, none⟩ = false) :
    CallsD Tryz.prog 38 #[.pointer (some ⟨be, 0, none⟩), .pointer (some ⟨bl, 0, none⟩)] u w fun e u' w' => u' = u ∧ (e = .returned (.tuple #[]) ∧ w' = w.setCell ⟨gl, 3, none⟩ (.bool false)) := by
  go_enter_d Tryz.func38, Tryz.ntmps38
  go_wp2
  go_end0
  exact ⟨rfl, rfl⟩
set_option maxRecDepth 100000 in
set_option maxHeartbeats 2000000 in
theorem logAppend_down (gl g : Nat) (num : Int) (len : Nat) (A : Option Addr) (n c : Nat) (w : World) (HL : Hid (LogAt w gl g num len false)) (hn : n ≤ 65536) :
    Calls Tryz.prog 15 #[.pointer (some ⟨gl, 0, none⟩), .slice A n c] w fun e w' => e = .returned (.int .i64 23) ∧ LogAt w' gl g num len false ∧ Mod (fun b => b = gl) w w' := by
  obtain ⟨l0, l1, l2, l3, -, -⟩ := HL.out.cells
  have hlt := Blk.lt HL.out
  go_enter_defers Tryz.func15, Tryz.ntmps15
  go_wp2
  refine leaves_cons (f := 38) (args := #[.pointer (some ⟨w.heap.size + 1, 0, none⟩), .pointer (some ⟨w.heap.size, 0, none⟩)]) (by simp) (by simp [go_sem]) ?_
  have hB := Blk.new (w.alloc (.cells #[.pointer (some ⟨gl, 0, none⟩)] 25)) 27 #[.int .i64 23]
  rw [World.size_alloc] at hB
  have hL := Blk.alloc (Blk.new w 25 #[.pointer (some ⟨gl, 0, none⟩)]) (.cells #[.int .i64 23] 27)
  have hG : LogAt ((w.alloc (.cells #[.pointer (some ⟨gl, 0, none⟩)] 25)).alloc (.cells #[.int .i64 23] 27)) gl g num len false := Blk.alloc (Blk.alloc HL.out _) _
  obtain ⟨-, -, -, g3, -, g4⟩ := hG.cells
  refine (door_yes (w.heap.size + 1) w.heap.size gl .returning _ _ (hB.cell 0) (hL.cell 0) g3 g4).mono ?_
  rintro e u' w'' ⟨rfl, rfl, rfl⟩
  have hB2 := Blk.far (p := ⟨gl, 3, none⟩) hB (by simp; omega) (.bool false)
  have hc := hB2.cell 0
  refine ⟨.int .i64 23, ?_, rfl, Blk.set_ hG 3 (.bool false), (((Mod.refl (fun b => b = gl) w).alloc _).alloc _).set (p := ⟨gl, 3, none⟩) (.inl rfl) _⟩
  simp [results, Tryz.results15, go_sem, hc]
/-- The cells that the region of Append loads. -/
structure LCells (gl g bl : Nat) (num : Int) (len : Nat) (w : World) : Prop where
  box : Blk w bl 25 #[.pointer (some ⟨gl, 0, none⟩)]
  log : LogAt w gl g num len true
theorem LCells.keep {gl g bl : Nat} {num : Int} {len : Nat} {w : World} (h : LCells gl g bl num len w) : w.cell? ⟨bl, 0, none⟩ = some (.pointer (some ⟨gl, 0, none⟩)) ∧ w.cell? ⟨gl, 0, none⟩ = some (.pointer (some ⟨g, 0, none⟩)) ∧ w.cell? ⟨gl, 1, none⟩ = some (.int .i64 num) ∧ w.cell? ⟨gl, 2, none⟩ = some (.int .i64 (len : Int)) :=
  ⟨Blk.cell h.box 0, h.log.cells.1, h.log.cells.2.1, h.log.cells.2.2.1⟩
theorem LCells.all {gl g bl : Nat} {num : Int} {len : Nat} {w w' : World} (h : LCells gl g bl num len w) (hb : Below w.heap.size w w') : LCells gl g bl num len w' := ⟨Blk.all h.box hb, Blk.all h.log hb⟩
theorem LCells.mod {gl g bl : Nat} {num : Int} {len : Nat} {w w' : World} {F : Nat → Prop} (h : LCells gl g bl num len w) (m : Mod F w w') (h1 : ¬ F bl) (h2 : ¬ F gl) : LCells gl g bl num len w' := ⟨m.blk h.box h1, m.blk h.log h2⟩
theorem undrewB {w w' : World} (h : Below w.drew.heap.size w.drew w') : Below w.heap.size w w' := ⟨h.os, h.tape, h.output, h.size, h.block⟩
end Go.Proofs.YtgjbbobphfejoaaGreatDoor
