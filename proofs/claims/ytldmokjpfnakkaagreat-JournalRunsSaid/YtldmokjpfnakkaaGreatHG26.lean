/- disk: cut, Truncate. -/
import Derived.Test.YtldmokjpfnakkaaGreatHG25
import Derived.Deep.RegionHeld3
import Derived.RegionTactic
import Derived.Test.YtldmokjpfnakkaaGreatHG20

namespace Go.Proofs.YtldmokjpfnakkaaGreat
open Go.RowKit

theorem own_shorter {w : World} {base e n c k : Nat} {A : Option Addr} {xs : List Value} (h : w.ownsRow base e 1 (.slice A n c) n xs) (hk : k ≤ n) : w.ownsRow base e 1 (.slice A k c) k (xs.take k) := by
  obtain ⟨hl, h2⟩ := h
  refine ⟨by rw [List.length_take, hl]; omega, ?_⟩
  rcases h2 with ⟨h2, h0⟩ | ⟨g', cap', cur, h2, hbg, hh, hnc, hcm, hcs, htk⟩
  · injection h2 with h2 h3 h4
    subst h2 h3 h4
    obtain rfl : k = 0 := by omega
    exact .inl ⟨rfl, rfl⟩
  · injection h2 with h2 _ h3
    subst h2 h3
    refine .inr ⟨g', c, cur, rfl, hbg, hh, by omega, hcm, hcs, ?_⟩
    rw [← htk, List.take_take]
    congr 1
    omega
theorem ownBlock_slice (A : Option Addr) (n c n' c' : Nat) : (Value.slice A n c).ownBlock = (Value.slice A n' c').ownBlock := by cases A <;> rfl
section
variable {w w' : World} {g mb room : Nat} {off : Bool} {plan : Int} {l1 l2 : List Fl} {f : Fl}
/-- A file is left out. -/
theorem DskAt.drop (h : DskAt w g mb room off plan (l1 ++ f :: l2)) (m : Mod (fun b => f.F b ∨ b = g ∨ b = mb) w w') (hblk : Blk w' g 62 (diskCells room (sumL (l1 ++ l2)) mb off plan)) (hmap : IMap w' mb ((l1 ++ l2).map fun c => (c.num, c.ptr))) :
    DskAt w' g mb room off plan (l1 ++ l2) ∧ Mod (DskF g mb (l1 ++ f :: l2)) w w' ∧ ∀ b, DskF g mb (l1 ++ l2) b → DskF g mb (l1 ++ f :: l2) b := by
  have hfm : f ∈ l1 ++ f :: l2 := by simp
  have hap := h.apart
  rw [List.pairwise_append, List.pairwise_cons] at hap
  obtain ⟨p1, ⟨p2, p3⟩, p4⟩ := hap
  have hmem : ∀ d ∈ l1 ++ l2, d ∈ l1 ++ f :: l2 := by
    intro d hd
    rcases List.mem_append.1 hd with hd | hd <;> simp [hd]
  have far : ∀ d ∈ l1 ++ l2, ∀ b, d.F b → ¬ (f.F b ∨ b = g ∨ b = mb) := by
    intro d hd b hb hc
    rcases hc with hc | hc | hc
    · rcases List.mem_append.1 hd with hd | hd
      · exact p4 d hd f (by simp) b hb hc
      · exact p2 d hd b hc hb
    · exact (h.F_ne (hmem d hd) b hb).1 hc
    · exact (h.F_ne (hmem d hd) b hb).2 hc
  have hs : sumL (l1 ++ l2) ≤ sumL (l1 ++ f :: l2) := by rw [sumL_append, sumL_append, sumL_cons]; omega
  refine ⟨⟨hblk, hmap, fun d hd => (h.ok d (hmem d hd)).mod m (far d hd), ?_, h.room_le, Nat.le_trans hs h.used_le, h.plan_le⟩, m.mono ?_, ?_⟩
  · rw [List.pairwise_append]
    exact ⟨p1, p3, fun d hd e he => p4 d hd e (by simp [he])⟩
  · rintro b (hb | rfl | rfl)
    · exact .inl (.inr (.inr ⟨f, hfm, hb⟩))
    · exact .inl (.inl rfl)
    · exact .inl (.inr (.inl rfl))
  · rintro b (rfl | rfl | ⟨d, hd, hb⟩)
    · exact .inl rfl
    · exact .inr (.inl rfl)
    · exact .inr (.inr ⟨d, hmem d hd, hb⟩)
/-- What cut writes. -/
def cutW (w : World) (g fb : Nat) (A : Option Addr) (u n k c dur : Nat) : World := ((w.setCell ⟨g, 1, none⟩ (.int .i64 ((u : Int) - ((n : Int) - (k : Int))))).setCell ⟨fb, 0, none⟩ (.slice A k c)).setCell ⟨fb, 1, none⟩ (.int .i64 ((min dur k : Nat) : Int))
theorem DskAt.short (h : DskAt w g mb room off plan (l1 ++ f :: l2)) (k : Nat) (hk : k ≤ f.bs.length) :
    ∃ A c, f.rv = .slice A f.bs.length c ∧ f.fb ≠ g ∧ w.cell? ⟨f.fb, 0, none⟩ = some (.slice A f.bs.length c) ∧ w.cell? ⟨f.fb, 1, none⟩ = some (.int .i64 (f.dur : Int)) ∧ w.frozen? ⟨f.fb, 0, none⟩ = false ∧ w.frozen? ⟨f.fb, 1, none⟩ = false ∧ f.bs.length ≤ c ∧ c ≤ 9223372036854775807 ∧
      DskAt (cutW w g f.fb A (sumL (l1 ++ f :: l2)) f.bs.length k c f.dur) g mb room off plan (l1 ++ (⟨f.num, f.fb, .slice A k c, f.bs.take k, min f.dur k⟩ : Fl) :: l2) ∧ Mod (fun b => b = f.fb ∨ b = g) w (cutW w g f.fb A (sumL (l1 ++ f :: l2)) f.bs.length k c f.dur) := by
  have hfm : f ∈ l1 ++ f :: l2 := by simp
  have hok := h.ok f hfm
  obtain ⟨A, c, hrv⟩ := own_slice hok.2.1
  have hown := hok.2.1
  rw [hrv] at hown
  have hlc := (rd_bytes hown).2.1
  have hcc := own_cap hown
  have hsh := own_shorter hown hk
  have hgne : f.fb ≠ g := (h.F_ne hfm _ (.inl rfl)).1
  have m : Mod (fun b => b = f.fb ∨ b = g) w (cutW w g f.fb A (sumL (l1 ++ f :: l2)) f.bs.length k c f.dur) :=
    (((Mod.refl (fun b => b = f.fb ∨ b = g) w).set (p := ⟨g, 1, none⟩) (.inl (.inr rfl)) _).set (p := ⟨f.fb, 0, none⟩) (.inl (.inl rfl)) _).set (p := ⟨f.fb, 1, none⟩) (.inl (.inl rfl)) _
  have hs : sumL (l1 ++ (⟨f.num, f.fb, .slice A k c, f.bs.take k, min f.dur k⟩ : Fl) :: l2) + (f.bs.length - k) = sumL (l1 ++ f :: l2) := by
    rw [sumL_append, sumL_cons, sumL_append, sumL_cons, List.length_take]
    omega
  have hB1 := Blk.far (p := ⟨f.fb, 1, none⟩) (Blk.far (p := ⟨f.fb, 0, none⟩) (Blk.set_ h.blk 1 (.int .i64 (((sumL (l1 ++ f :: l2) : Nat) : Int) - ((f.bs.length : Int) - (k : Int))))) (fun e => hgne e.symm) (.slice A k c)) (fun e => hgne e.symm) (.int .i64 ((min f.dur k : Nat) : Int))
  have hB2 := Blk.set_ (Blk.set_ (Blk.far (p := ⟨g, 1, none⟩) hok.1 (fun e => hgne e) (.int .i64 (((sumL (l1 ++ f :: l2) : Nat) : Int) - ((f.bs.length : Int) - (k : Int))))) 0 (.slice A k c)) 1 (.int .i64 ((min f.dur k : Nat) : Int))
  refine ⟨A, c, hrv, hgne, by rw [← hrv]; simpa using hok.1.cell 0, by simpa using hok.1.cell 1, hok.1.frozen 0, hok.1.frozen 1, hlc, hcc, (h.upd (f' := ⟨f.num, f.fb, .slice A k c, f.bs.take k, min f.dur k⟩) (off' := off) (plan' := plan) (m.mono (fun b hb => .inl (hb.imp .inl id))) ?_ rfl rfl ⟨?_, ?_, ?_⟩ (.inl (by rw [hrv]; exact ownBlock_slice _ _ _ _ _)) (by have := h.used_le; omega) h.plan_le).1, m⟩
  · have e : ((sumL (l1 ++ (⟨f.num, f.fb, .slice A k c, f.bs.take k, min f.dur k⟩ : Fl) :: l2) : Nat) : Int) = ((sumL (l1 ++ f :: l2) : Nat) : Int) - ((f.bs.length : Int) - (k : Int)) := by omega
    unfold diskCells cutW
    rw [e]
    simpa [diskCells] using hB1
  · unfold cutW
    simpa using hB2
  · have hne : ∀ b, (Value.slice A k c).ownBlock = some b → ¬ (b = f.fb ∨ b = g) := by
      intro b e hb
      have e' : f.rv.ownBlock = some b := by rw [hrv, ← e]; exact ownBlock_slice _ _ _ _ _
      rcases hb with rfl | rfl
      · exact own_ne (by decide) hok.1 hok.2.1 e'
      · exact (h.F_ne hfm b (.inr e')).1 rfl
    have := m.own hsh hne
    simp only [List.length_take, Nat.min_eq_left hk]
    rw [← List.map_take] at this
    exact this
  · simp only [List.length_take]
    have := hok.2.2
    omega
end
theorem DskNext.of_cut {g mb room : Nat} {off : Bool} {plan : Int} {fs : List Fl} {st : List (Int × List UInt8 × Nat)} {w : World} {fb : Nat} {A : Option Addr} {u n k c dur : Nat} {x : Int} (h : DskNext g mb room off plan fs st w (cutW w g fb A u n k c dur)) (hx : x = ((min dur k : Nat) : Int)) :
    DskNext g mb room off plan fs st w (((w.setCell ⟨g, 1, none⟩ (.int .i64 ((u : Int) - ((n : Int) - (k : Int))))).setCell ⟨fb, 0, none⟩ (.slice A k c)).setCell ⟨fb, 1, none⟩ (.int .i64 x)).drew := by
  subst hx
  obtain ⟨fs', h1, h2, h3, h4⟩ := h
  exact ⟨fs', h1, h2.all (below_drewN (Below.refl _ _) 1), h3.drew, h4⟩
set_option maxRecDepth 100000 in
set_option maxHeartbeats 1000000 in
theorem cut_some (g mb room : Nat) (off : Bool) (plan : Int) (l1 l2 : List Fl) (f : Fl) (num : Int) (size : Nat) (w : World) (HD : Hid (DskAt w g mb room off plan (l1 ++ f :: l2))) (HN : Hid (findF (l1 ++ f :: l2) num = some f)) (hs : size ≤ f.bs.length) (h0 : 0 < size) :
    Calls Tryz.prog 30 #[.pointer (some ⟨g, 0, none⟩), .int .i64 num, .int .i64 (size : Int)] w fun e w' => e = .returned (.tuple #[]) ∧ DskNext g mb room off plan (l1 ++ f :: l2) (l1.map Fl.log ++ (f.num, f.bs.take size, min f.dur size) :: l2.map Fl.log) w w' := by
  obtain ⟨c0, c1, c2, c3, c4, hf⟩ := HD.out.dcells
  have hf1 := hf 1
  have hrm := HD.out.room_le
  have hul := HD.out.used_le
  have hdl := (HD.out.ok f (by simp)).2.2
  have hlk := DskAt.look HD.out num
  rw [HN.out] at hlk
  replace hlk : (Instr.lookup 60 (.map (some mb)) (.int .i64 num) false).run Tryz.prog w = .ok (.pointer (some ⟨f.fb, 0, none⟩)) w := hlk
  obtain ⟨A, c, hrv, hne, q0, q1, q2, q3, hlc, hcc, hD, m⟩ := HD.out.short size hs
  have hfl : f.bs.length ≤ sumL (l1 ++ f :: l2) := by rw [sumL_append, sumL_cons]; omega
  obtain ⟨u, hu⟩ : ∃ u, sumL (l1 ++ f :: l2) = u := ⟨_, rfl⟩
  obtain ⟨n, hn⟩ : ∃ n, f.bs.length = n := ⟨_, rfl⟩
  obtain ⟨du, hdu⟩ : ∃ du, f.dur = du := ⟨_, rfl⟩
  rw [hu] at c1 hul hfl hD m
  rw [hn] at hs hdl q0 hlc hfl hD m
  rw [hdu] at hdl q1 hD m
  have HF : Hid (DskNext g mb room off plan (l1 ++ f :: l2) (l1.map Fl.log ++ (f.num, f.bs.take size, min f.dur size) :: l2.map Fl.log) w (cutW w g f.fb A u n size c du)) := Lib.hid ⟨l1 ++ (⟨f.num, f.fb, .slice A size c, f.bs.take size, min du size⟩ : Fl) :: l2, by rw [hdu]; simp [Fl.log], hD, m.mono (fun b hb => .inl (hb.elim (fun e => .inr (.inr ⟨f, by simp, .inl e⟩)) .inl)), by
    rintro b (e | e | ⟨d, hd, e⟩)
    · exact .inl (.inl e)
    · exact .inl (.inr (.inl e))
    · rw [List.mem_append, List.mem_cons] at hd
      rcases hd with hd | rfl | hd
      · exact .inl (.inr (.inr ⟨d, by simp [hd], e⟩))
      · refine .inl (.inr (.inr ⟨f, by simp, e.imp id (fun e => ?_)⟩))
        rw [hrv, ← e]
        exact ownBlock_slice _ _ _ _ _
      · exact .inl (.inr (.inr ⟨d, by simp [hd], e⟩))⟩
  have HNE := Lib.hid hne
  clear hf hu hn hdu hrv hD m hne
  have i1 : IntKind.i64.wrap ((n : Int) - (size : Int)) = (n : Int) - (size : Int) := IntWalk.i64_in _ (by omega)
  have i2 : IntKind.i64.wrap ((u : Int) - ((n : Int) - (size : Int))) = (u : Int) - ((n : Int) - (size : Int)) := IntWalk.i64_in _ (by omega)
  go_enter Tryz.func30, Tryz.ntmps30
  go_wp2
  go_region
  clear i1 i2
  have hne := HNE.out
  have hne2 : g ≠ f.fb := fun e => hne e.symm
  go_wp2
  all_goals
    go_end0
    exact ⟨rfl, HF.out.of_cut (by omega)⟩
/-- What cut writes where nothing is left. -/
def cut0W (w : World) (g fb : Nat) (A : Option Addr) (u n c : Nat) : World := (((w.setCell ⟨g, 1, none⟩ (.int .i64 ((u : Int) - (n : Int)))).setCell ⟨fb, 0, none⟩ (.slice A 0 c)).setCell ⟨fb, 1, none⟩ (.int .i64 0)).drew
theorem cut0W_eq (w : World) (g fb : Nat) (A : Option Addr) (u n c du : Nat) : cut0W w g fb A u n c = (cutW w g fb A u n 0 c du).drew := by
  unfold cut0W cutW
  simp
theorem DskAt.short0 {w : World} {g mb room : Nat} {off : Bool} {plan : Int} {l1 l2 : List Fl} {f : Fl} (h : DskAt w g mb room off plan (l1 ++ f :: l2)) (A : Option Addr) (c : Nat) (hrv : f.rv = .slice A f.bs.length c) :
    ∃ w4, Hid ((Builtin.delete_ #[60, 3] 0 #[.map (some mb), .int .i64 f.num]).run Tryz.prog (cut0W w g f.fb A (sumL (l1 ++ f :: l2)) f.bs.length c) = .ok (.tuple #[]) w4) ∧ DskNext g mb room off plan (l1 ++ f :: l2) (l1.map Fl.log ++ l2.map Fl.log) w w4 := by
  obtain ⟨A', c', hrv', hgne, -, -, -, -, -, -, hD, m⟩ := h.short 0 (Nat.zero_le _)
  rw [hrv] at hrv'
  injection hrv' with e1 _ e2
  subst e1 e2
  have hD' := hD.all (below_drewN (Below.refl _ (cutW w g f.fb A (sumL (l1 ++ f :: l2)) f.bs.length 0 c f.dur)) 1)
  have m' := m.drew
  have e0 : (cutW w g f.fb A (sumL (l1 ++ f :: l2)) f.bs.length 0 c f.dur).drewN 1 = (cutW w g f.fb A (sumL (l1 ++ f :: l2)) f.bs.length 0 c f.dur).drew := rfl
  rw [e0] at hD'
  rw [cut0W_eq w g f.fb A _ _ c f.dur]
  generalize (cutW w g f.fb A (sumL (l1 ++ f :: l2)) f.bs.length 0 c f.dur).drew = w3 at *
  have hm := hD'.map
  rw [List.map_append, List.map_cons] at hm
  obtain ⟨w4, hrun, hm4, hg4, -⟩ := IMap.del (P := Tryz.prog) (ty := 0) hm Tryz.underlying60 Tryz.underlying3
  have hb4 : Blk w4 g 62 (diskCells room (sumL (l1 ++ l2)) mb off plan) := by
    have e : sumL (l1 ++ (⟨f.num, f.fb, .slice A 0 c, f.bs.take 0, min f.dur 0⟩ : Fl) :: l2) = sumL (l1 ++ l2) := by rw [sumL_append, sumL_cons, sumL_append]; simp
    have := hD'.blk
    rw [e] at this
    exact this.grown hg4 (fun e => hD'.gm (Option.some.inj e))
  have m4 : Mod (fun b => f.F b ∨ b = g ∨ b = mb) w w4 := (m'.mono (G := fun b => f.F b ∨ b = g ∨ b = mb) (fun b hb => .inl (hb.elim (fun e => .inl (.inl e)) (fun e => .inr (.inl e))))).then_grown hg4 (fun b e => .inl (.inr (.inr (Option.some.inj e).symm)))
  obtain ⟨r1, r2, r3⟩ := h.drop m4 hb4 (by rw [List.map_append]; exact hm4)
  exact ⟨w4, Lib.hid hrun, _, by simp, r1, r2, fun b hb => .inl (r3 b hb)⟩
set_option maxRecDepth 100000 in
set_option maxHeartbeats 1000000 in
theorem cut_zero (g mb room : Nat) (off : Bool) (plan : Int) (l1 l2 : List Fl) (f : Fl) (num : Int) (w : World) (HD : Hid (DskAt w g mb room off plan (l1 ++ f :: l2))) (HN : Hid (findF (l1 ++ f :: l2) num = some f)) :
    Calls Tryz.prog 30 #[.pointer (some ⟨g, 0, none⟩), .int .i64 num, .int .i64 0] w fun e w' => e = .returned (.tuple #[]) ∧ DskNext g mb room off plan (l1 ++ f :: l2) (l1.map Fl.log ++ l2.map Fl.log) w w' := by
  obtain ⟨c0, c1, c2, c3, c4, hf⟩ := HD.out.dcells
  have hf1 := hf 1
  have hrm := HD.out.room_le
  have hul := HD.out.used_le
  have hnum : f.num = num := by
    obtain ⟨_, _, _, h⟩ := findF_split HN.out
    exact h
  have hlk := DskAt.look HD.out num
  rw [HN.out] at hlk
  replace hlk : (Instr.lookup 60 (.map (some mb)) (.int .i64 num) false).run Tryz.prog w = .ok (.pointer (some ⟨f.fb, 0, none⟩)) w := hlk
  obtain ⟨A, c, hrv, hne, q0, q1, q2, q3, hlc, hcc, -, -⟩ := HD.out.short 0 (Nat.zero_le _)
  obtain ⟨w4, HRUN, hfin⟩ := HD.out.short0 A c hrv
  rw [hnum] at HRUN
  have hfl : f.bs.length ≤ sumL (l1 ++ f :: l2) := by rw [sumL_append, sumL_cons]; omega
  obtain ⟨u, hu⟩ : ∃ u, sumL (l1 ++ f :: l2) = u := ⟨_, rfl⟩
  obtain ⟨n, hn⟩ : ∃ n, f.bs.length = n := ⟨_, rfl⟩
  obtain ⟨du, hdu⟩ : ∃ du, f.dur = du := ⟨_, rfl⟩
  rw [hu] at c1 hul hfl HRUN
  rw [hn] at q0 hlc hfl HRUN
  rw [hdu] at q1
  have HF := Lib.hid hfin
  have HNE := Lib.hid hne
  have hrun := HRUN.out
  unfold cut0W at hrun
  clear hf hu hn hdu hrv hne hnum hfin HRUN
  rcases Nat.eq_zero_or_pos du with h0 | h0
  · subst h0
    replace q1 : w.cell? ⟨f.fb, 1, none⟩ = some (.int .i64 0) := q1
    go_enter Tryz.func30, Tryz.ntmps30
    go_wp2
    go_region
    have hne := HNE.out
    have hne2 : g ≠ f.fb := fun e => hne e.symm
    go_wp2
    go_end0
    exact ⟨rfl, HF.out⟩
  · have hmn : min (du : Int) 0 = 0 := by omega
    go_enter Tryz.func30, Tryz.ntmps30
    go_wp2
    go_region
    have hne := HNE.out
    have hne2 : g ≠ f.fb := fun e => hne e.symm
    go_wp2
    go_end0
    exact ⟨rfl, HF.out⟩
/-- The files behind cut. -/
def cutLogs (l1 : List Fl) (f : Fl) (l2 : List Fl) (size : Nat) : List (Int × List UInt8 × Nat) := if size = 0 then l1.map Fl.log ++ l2.map Fl.log else l1.map Fl.log ++ (f.num, f.bs.take size, min f.dur size) :: l2.map Fl.log
theorem cut_any (g mb room : Nat) (off : Bool) (plan : Int) (l1 l2 : List Fl) (f : Fl) (num : Int) (size : Nat) (si : Int) (hsi : si = (size : Int)) (w : World) (HD : Hid (DskAt w g mb room off plan (l1 ++ f :: l2))) (HN : Hid (findF (l1 ++ f :: l2) num = some f)) (hs : size ≤ f.bs.length) :
    Calls Tryz.prog 30 #[.pointer (some ⟨g, 0, none⟩), .int .i64 num, .int .i64 si] w fun e w' => e = .returned (.tuple #[]) ∧ DskNext g mb room off plan (l1 ++ f :: l2) (cutLogs l1 f l2 size) w w' := by
  subst hsi
  unfold cutLogs
  rcases Nat.eq_zero_or_pos size with h0 | h0
  · subst h0
    rw [if_pos rfl]
    exact cut_zero g mb room off plan l1 l2 f num w HD HN
  · rw [if_neg (by omega)]
    exact cut_some g mb room off plan l1 l2 f num size w HD HN hs h0
set_option maxRecDepth 100000 in
set_option maxHeartbeats 1000000 in
theorem trunc_any (g mb room : Nat) (plan : Int) (l1 l2 : List Fl) (f : Fl) (num : Int) (size : Nat) (o : Bool) (w : World) (HD : Hid (DskAt w g mb room false plan (l1 ++ f :: l2))) (HN : Hid (findF (l1 ++ f :: l2) num = some f)) (h1 : 0 ≤ num) (h2 : num < 64) (hs : size ≤ f.bs.length) (HO : Hid (failOff false plan = o)) :
    Calls Tryz.prog 24 #[.pointer (some ⟨g, 0, none⟩), .int .i64 num, .int .i64 (size : Int)] w fun e w' => e = .returned (.int .i64 (if o then 23 else 0)) ∧ DskNext g mb room o (failPlan plan) (l1 ++ f :: l2) (if o then (l1 ++ f :: l2).map Fl.log else cutLogs l1 f l2 size) w w' := by
  obtain ⟨c0, c1, c2, c3, c4, hf⟩ := HD.out.dcells
  have hrm := HD.out.room_le
  have hul := HD.out.used_le
  have hlk := DskAt.look2 HD.out num
  rw [HN.out] at hlk
  replace hlk : (Instr.lookup 60 (.map (some mb)) (.int .i64 num) true).run Tryz.prog w = .ok (.tuple #[.pointer (some ⟨f.fb, 0, none⟩), .bool true]) w := hlk
  obtain ⟨A, c, hrv, -, q0, -, -, -, hlc, hcc, -, -⟩ := HD.out.short 0 (Nat.zero_le _)
  have hfl : f.bs.length ≤ sumL (l1 ++ f :: l2) := by rw [sumL_append, sumL_cons]; omega
  obtain ⟨u, hu⟩ : ∃ u, sumL (l1 ++ f :: l2) = u := ⟨_, rfl⟩
  obtain ⟨n, hn⟩ : ∃ n, f.bs.length = n := ⟨_, rfl⟩
  rw [hu] at c1 hul hfl
  rw [hn] at q0 hlc hfl
  have HNL := Lib.hid hn
  rw [hn] at hs
  clear hf hu hn hrv
  have d1 : decide ((size : Int) < 0) = false := by simp
  have d2 : ¬ n < size := by omega
  go_enter Tryz.func24, Tryz.ntmps24
  go_wp2_with (go_at_call 39; ((with_reducible refine (isFile_yes _ _ h1 h2).mono ?_); rintro e w1 ⟨rfl, rfl⟩))
  all_goals
    refine (fails_any _ _ _ _ _ _ _ HD).mono ?_
    rintro e w2 ⟨rfl, hD2, m2⟩
    rw [HO.out] at hD2 ⊢
    have HD2 := Lib.hid hD2
    have HM2 := Lib.hid m2
    clear hD2 m2 hlk q0 c0 c1 c2 c3 c4 d1 d2
    cases o with
    | true =>
      go_wp2
      go_ret
      exact ⟨rfl, l1 ++ f :: l2, by simp, HD2.out, HM2.out.mono (fun b hb => .inl (.inl hb)), fun b hb => .inl hb⟩
    | false =>
      go_wp2_with (go_at_call 30; ((with_reducible refine (cut_any _ _ _ _ _ _ _ f _ size _ rfl _ HD2 HN (by rw [HNL.out]; exact hs)).mono ?_); rintro e w3 ⟨rfl, hN3⟩; have HN3 := Lib.hid (hN3.from HM2.out (fun b hb => .inl (.inl hb))); clear hN3))
      go_ret
      exact ⟨rfl, HN3.out⟩
end Go.Proofs.YtldmokjpfnakkaaGreat

/- journal: lemmas for the laws. -/
namespace Go.Proofs.YtldmokjpfnakkaaGreat
open Go.RowKit
theorem frames_le (L : List Bz) (hs : ∀ z ∈ L, z.bs.length ≤ 10) (hn : L.length ≤ 6) : ∀ k, k ≤ L.length → (framesB 0 (bsOf (L.take k))).length ≤ 50 * k := by
  intro k
  induction k with
  | zero => intro _; simp [bsOf, framesB]
  | succ k ih =>
    intro hk
    have h1 := ih (by omega)
    rw [← List.take_append_getElem (show k < L.length by omega), bsOf_snoc, framesB_snoc, List.length_append]
    have h2 := frameB_len (k := ((0 + (bsOf (L.take k)).length : Nat) : Int)) (bs := (L[k]'(by omega)).bs) (by rw [bsOf_length, List.length_take]; exact ⟨by omega, by omega⟩) (by have := hs _ (List.getElem_mem (show k < L.length by omega)); omega)
    have h3 := hs _ (List.getElem_mem (show k < L.length by omega))
    omega
theorem rd_list {w : World} {B n : Nat} {A : Option Addr} {f : Nat → Int} (h : Rd w B A n (fun j => .int .u8 (f j))) (hf : ∀ j, j < n → 0 ≤ f j ∧ f j ≤ 255) : Rd w B A n (vByte ((List.range n).map fun j => UInt8.ofNat (f j).toNat)) :=
  h.congr (fun j hj => by
    have := hf j hj
    unfold vByte
    rw [List.getElem?_map, List.getElem?_range hj]
    simp only [Option.map_some, Option.getD_some]
    rw [ofNat_toNat (by omega)]
    congr 1
    omega)
theorem run_cut (A : Option Addr) (n c m : Nat) (mi : Int) (hmi : mi = (m : Int)) (hm : m ≤ c) (w : World) : (Instr.slice 39 (.slice A n c) none (some (.int .i64 mi)) none).run Tryz.prog w = .ok (.slice A m c) w := by
  subst hmi
  have e : A.map (fun a => a.add 0) = A := by
    cases A with
    | none => rfl
    | some a => simp [Addr.add]
  have h1 : (m : Int) ≤ (c : Int) := by omega
  have h2 := run_slice_h (P := Tryz.prog) (w := w) 39 A n c (by kernel_rfl) .i64 (m : Int) (by omega) h1
  rw [h2]
  have h3 : (sizeOf (Tryz.prog.elem 39)).run Tryz.prog w = .ok 1 w := by kernel_rfl
  rw [h3]
  simp only [Result.andThen, sliced, Nat.zero_mul, e, ite_self, Nat.sub_zero, Int.toNat_natCast]
theorem three_rows {w : World} {A1 A2 A3 : Option Addr} {n1 n2 n3 c1 c2 c3 : Nat} {b1 b2 b3 : List UInt8} (h1 : Sb w A1 n1 c1 b1) (h2 : Sb w A2 n2 c2 b2) (h3 : Sb w A3 n3 c3 b3) :
    LsRd (w.alloc (.cells #[.slice A1 n1 c1, .slice A2 n2 c2, .slice A3 n3 c3] 39)) (some ⟨w.heap.size, 0, none⟩) 3 3 [⟨A1, n1, c1, b1⟩, ⟨A2, n2, c2, b2⟩, ⟨A3, n3, c3, b3⟩] := by
  have hb := (Below.refl w.heap.size w).alloc (Nat.le_refl _) (.cells #[.slice A1 n1 c1, .slice A2 n2 c2, .slice A3 n3 c3] 39)
  have hB := Blk.new w 39 #[.slice A1 n1 c1, .slice A2 n2 c2, .slice A3 n3 c3]
  refine ⟨rfl, by decide, by decide, fun _ => ⟨_, _, rfl, by simp, fun j hj => ?_⟩, fun z hz => ?_⟩
  · rw [Nat.zero_add, hB.cell]
    rcases (show j = 0 ∨ j = 1 ∨ j = 2 by omega) with rfl | rfl | rfl <;> rfl
  · simp at hz
    rcases hz with rfl | rfl | rfl
    · exact ⟨h1.1, h1.2.1, h1.2.2.1, (h1.all hb).rd⟩
    · exact ⟨h2.1, h2.2.1, h2.2.2.1, (h2.all hb).rd⟩
    · exact ⟨h3.1, h3.2.1, h3.2.2.1, (h3.all hb).rd⟩
theorem three_sb {w : World} {A1 A2 A3 : Option Addr} {n1 n2 n3 c1 c2 c3 : Nat} {b1 b2 b3 : List UInt8} (h1 : Sb w A1 n1 c1 b1) (h2 : Sb w A2 n2 c2 b2) (h3 : Sb w A3 n3 c3 b3) :
    ∀ z ∈ ([⟨A1, n1, c1, b1⟩, ⟨A2, n2, c2, b2⟩, ⟨A3, n3, c3, b3⟩] : List Bz), Sb (w.alloc (.cells #[.slice A1 n1 c1, .slice A2 n2 c2, .slice A3 n3 c3] 39)) z.A z.n z.c z.bs := by
  have hb := (Below.refl w.heap.size w).alloc (Nat.le_refl _) (.cells #[.slice A1 n1 c1, .slice A2 n2 c2, .slice A3 n3 c3] 39)
  intro z hz
  simp at hz
  rcases hz with rfl | rfl | rfl
  · exact h1.all hb
  · exact h2.all hb
  · exact h3.all hb
theorem three_n {nR na nF : Nat} (h1 : nR ≤ 60) (h2 : na ≤ 300) (h3 : nF ≤ 50) {AR A2 AF : Option Addr} {cR c2 cF : Nat} {rsR bs2 fs : List UInt8} : ∀ z ∈ ([⟨AR, nR, cR, rsR⟩, ⟨A2, na, c2, bs2⟩, ⟨AF, nF, cF, fs⟩] : List Bz), z.n ≤ 300 := by
  intro z hz
  simp at hz
  rcases hz with rfl | rfl | rfl <;> simp only <;> omega
theorem scan_len {bs : List UInt8} {L : List Bz} {m n : Nat} (h : ScanIs bs (bsOf L) m) (hn : bs.length ≤ n) : L.length ≤ n := by
  obtain ⟨h1, r, h2, -⟩ := h
  have h3 := framesB_len (bsOf L) 0
  rw [bsOf_length] at h3
  have h4 := congrArg List.length h2
  rw [List.length_append] at h4
  omega
theorem frames_next {L : List Bz} {k : Nat} {z : Bz} (hz : L[k]? = some z) : framesB 0 (bsOf (L.take (k + 1))) = framesB 0 (bsOf (L.take k)) ++ frameB (k : Nat) z.bs := by
  obtain ⟨hk, rfl⟩ := List.getElem?_eq_some_iff.1 hz
  rw [← List.take_append_getElem hk, bsOf_snoc, framesB_snoc, bsOf_length, List.length_take, Nat.zero_add, Nat.min_eq_left (by omega)]
end Go.Proofs.YtldmokjpfnakkaaGreat
