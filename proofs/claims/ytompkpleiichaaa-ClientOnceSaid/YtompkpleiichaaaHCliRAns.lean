/- client: Accept (all cases) and Answer of the reference. -/
import Derived.Test.YtompkpleiichaaaHCliRAcc2
import Derived.Test.YtompkpleiichaaaHCliAns

namespace Go.Proofs.Ytompkpleiichaaa
open Go.RowKit

theorem raccept_any (g : Nat) (rv : Value) (rl : List RCl) (r : Rq) (w : World) (HS : Hid (RSes w g rv rl)) (hl : rl.length ≤ 1000000) (HR : Hid (r.ok w)) (h5 : r.num ≤ 9223372036854775807) (HLT : Hid (∀ s, sigR rl r.cl = some s → s.2.1 < 4611686018427387904)) :
    Calls Try.prog 31 #[.pointer (some ⟨g, 0, none⟩), .agg #[.int .i64 r.cl, .int .i64 r.num, .slice r.A r.n r.c, .int .u64 r.tag]] w (RAccPost g rv rl.length (sigR rl) r w) := by
  by_cases h : (r.cl < 1 ∨ 1073741824 < r.cl) ∨ r.num < 1 ∨ 65536 < r.n
  · exact raccept_arg g rv rl r w HS h
  · rcases idxR_cases rl r.cl with ⟨hi, hf⟩ | ⟨k, hk, hi, hf, hno, hid⟩
    · exact raccept_none g rv rl r w HS hl (by omega) (by omega) (by omega) (by omega) (Lib.hid hi) (Lib.hid hf)
    · exact raccept_joined g rv rl r k hk w HS hl HR (by omega) (by omega) (by omega) (by omega) h5 (HLT.out _ (by unfold sigR; rw [hf]; rfl)) (Lib.hid hi) (Lib.hid hf) (Lib.hid hno) (Lib.hid hid)
theorem wpList_appendNil {P : Program} {w : World} {t e size bytes : Nat} {ops : Array Oper} {rest : List Oper} {o : Oper} {a : Act} {Q : Exit → Act → World → Prop} {s x : Operand} (hT : SlT P t e size bytes) (hgd : o.guard = none)
    (ho : o.op = .call { callee := .builtin .append, args := #[s, x], argTypes := #[t, t] }) (hs : a.eval s = .slice none 0 0) {A : Option Addr} {m c : Nat} (hx : a.eval x = .slice A m c)
    (base : Nat) (news : List Value) (hr : RowT w e A news) (hl : news.length = m * size) (h1 : ∀ u ∈ news, u.oneCell' = true) (hn : m < 1099511627776) (hby : bytes ≤ 64) (hbase : base ≤ w.heap.size)
    (hK : ∀ A' cap w', w'.ownsRow base e size (.slice A' m cap) m news → Below w.heap.size w w' →
      wpList P ops Q rest (a.put o.dst (.slice A' m cap)) w') : wpList P ops Q (o :: rest) a w := by
  have hsz : 0 < size := by obtain ⟨_, _, _, _, _, _, _, _, h⟩ := hT; exact h
  obtain ⟨v', w', hrun, h2, h3, -⟩ := run_append_rows (ty := o.type) hT (World.ownsRow_nil w base e size) A m c news hl (hr.none_ hl hsz) hr.news h1 (by omega) hby hbase
  rw [Nat.zero_add, List.nil_append] at h2
  obtain ⟨A', cap, rfl⟩ := own_parts h2
  exact wpList_append_run hrun hgd ho hs hx (hK A' cap w' h2 ((Below.refl _ _).grown h3 (Nat.le_refl _) (fun k e => by simp [Value.ownBlock] at e)))
theorem own_frozen {w : World} {base e size n m c g : Nat} {xs : List Value} (h : w.ownsRow base e size (.slice (some ⟨g, 0, none⟩) m c) n xs) : ∀ o, w.frozen? ⟨g, o, none⟩ = false := by
  rcases h.2 with ⟨h2, _⟩ | ⟨g', cap, cur, h2, _, hh, _⟩
  · cases h2
  · injection h2 with h2 _ _
    injection h2 with h2
    injection h2 with h2
    subst h2
    exact fun o => by simp [World.frozen?, hh]
theorem olds_cell {w : World} {base g m c : Nat} {l : List Old} (h : w.ownsRow base 112 4 (.slice (some ⟨g, 0, none⟩) m c) m (l.flatMap Old.cells)) (hl : l.length = m) {j i : Nat} (hj : j < l.length) (hi : i < 4) : w.cell? ⟨g, j * 4 + i, none⟩ = (l[j].cells)[i]? := by
  rw [h.cellAt (j * 4 + i) (by omega), flatT_at Old.cells 4 Old.cells_length l j i hj hi]
/-- The client after its last request was answered. -/
theorem RCl.ok.answered {w w8 : World} {c0 : RCl} {g6 cap6 base j n c' : Nat} {A' : Option Addr} {bs : List UInt8} (h : c0.ok w) (hb : Below w.heap.size w w8) (hj : c0.n = j + 1) (hjl : j < c0.olds.length) (hB : Bts w8 A' n c' bs) (hn : n ≤ 1048576)
    (ho : w8.ownsRow base 112 4 (.slice (some ⟨g6, 0, none⟩) (j + 1) cap6) (j + 1) (((c0.olds.flatMap Old.cells).set (j * 4 + 2) (.bool true)).set (j * 4 + 3) (.slice A' n c'))) :
    RCl.ok w8 ⟨c0.id, c0.key, c0.last, some ⟨g6, 0, none⟩, j + 1, cap6, c0.olds.set j ⟨(c0.olds[j]).num, (c0.olds[j]).hash, true, A', n, c', bs⟩⟩ := by
  have hl := h.len
  have hcap := own_len_capR ho
  have e1 : (c0.olds.flatMap Old.cells).set (j * 4 + 2) (.bool true) = (c0.olds.set j ⟨(c0.olds[j]).num, (c0.olds[j]).hash, true, (c0.olds[j]).A, (c0.olds[j]).n, (c0.olds[j]).c, bs⟩).flatMap Old.cells := flatT_set Old.cells 4 Old.cells_length _ 2 (by decide) _ _ j hjl rfl
  have e2 : ((c0.olds.set j ⟨(c0.olds[j]).num, (c0.olds[j]).hash, true, (c0.olds[j]).A, (c0.olds[j]).n, (c0.olds[j]).c, bs⟩).flatMap Old.cells).set (j * 4 + 3) (.slice A' n c') = ((c0.olds.set j ⟨(c0.olds[j]).num, (c0.olds[j]).hash, true, (c0.olds[j]).A, (c0.olds[j]).n, (c0.olds[j]).c, bs⟩).set j ⟨(c0.olds[j]).num, (c0.olds[j]).hash, true, A', n, c', bs⟩).flatMap Old.cells :=
    flatT_set Old.cells 4 Old.cells_length _ 3 (by decide) _ _ j (by rw [List.length_set]; exact hjl) (by rw [List.getElem_set_self]; rfl)
  rw [e1, e2, List.set_set] at ho
  refine ⟨by dsimp only; rw [List.length_set]; omega, hcap.1, hcap.2, RowT.of_own ho, ?_, h.last, by have := h.few; dsimp only; omega, ?_⟩
  · intro o ho
    rcases List.mem_or_eq_of_mem_set ho with ho | rfl
    · exact ⟨(h.old o ho).1.all hb, (h.old o ho).2⟩
    · exact ⟨hB, hn⟩
  · intro k hk
    dsimp only at hk ⊢
    rw [List.getElem_set]
    have hk' : k < c0.olds.length := by rw [List.length_set] at hk; exact hk
    have hls : (c0.olds.set j ⟨(c0.olds[j]).num, (c0.olds[j]).hash, true, A', n, c', bs⟩).length = c0.olds.length := List.length_set ..
    split
    · rename_i e
      subst e
      rw [hls]
      exact h.num j hjl
    · exact (h.num k hk').trans (by rw [hls])
def anErr (σ : Int → Option CSt) (id num : Int) (n : Nat) : Int := match σ id with
  | none => 7
  | some s => ansErr s.2.1 s.2.2 num n
def anSt (σ : Int → Option CSt) (id num : Int) (n : Nat) (bs : List UInt8) : Int → Option CSt := match σ id with
  | none => σ
  | some s => upd σ id (s.1, s.2.1, ansNew s.2.1 s.2.2 num n bs)
theorem upd_same {σ : Int → Option CSt} {id : Int} {s : CSt} (h : σ id = some s) : upd σ id s = σ := by
  funext j
  unfold upd
  split
  · rename_i e
    rw [e, h]
  · rfl
theorem anSt_same {σ : Int → Option CSt} {id num : Int} {n : Nat} {bs : List UInt8} (h : anErr σ id num n ≠ 0) : anSt σ id num n bs = σ := by
  unfold anSt anErr at *
  rcases hs : σ id with _ | s
  · rfl
  · rw [hs] at h
    dsimp only at h ⊢
    unfold ansNew
    rw [if_neg h]
    exact upd_same hs
def RAnsPost (g : Nat) (rv : Value) (n0 : Nat) (σ : Int → Option CSt) (id num : Int) (n : Nat) (bs : List UInt8) (w : World) (e : Ending) (w' : World) : Prop := e = .returned (.int .i64 (anErr σ id num n)) ∧ RNext g rv n0 (anSt σ id num n bs) w w'
theorem RAnsPost.same {g : Nat} {rv : Value} {rl : List RCl} {id num x : Int} {n : Nat} {bs : List UInt8} {w w' : World} (h : RSes w g rv rl) (hb : Below w.heap.size w w') (hx : anErr (sigR rl) id num n = x) (h0 : x ≠ 0) : RAnsPost g rv rl.length (sigR rl) id num n bs w (.returned (.int .i64 x)) w' :=
  ⟨by rw [hx], by rw [anSt_same (by rw [hx]; exact h0)]; exact RNext.same h hb⟩
set_option maxRecDepth 100000 in
set_option maxHeartbeats 2000000 in
theorem ranswer_any (g : Nat) (rv : Value) (rl : List RCl) (id num : Int) (A : Option Addr) (n cc : Nat) (bs : List UInt8) (w : World) (HS : Hid (RSes w g rv rl)) (hl : rl.length ≤ 1000000) (HB : Hid (Bts w A n cc bs)) (hn : n ≤ 1048576) :
    Calls Try.prog 27 #[.pointer (some ⟨g, 0, none⟩), .int .i64 id, .int .i64 num, .slice A n cc] w (RAnsPost g rv rl.length (sigR rl) id num n bs w) := by
  have HF := Lib.hid (rfind_any g rv rl id w HS hl)
  rcases idxR_cases rl id with ⟨hi, hf⟩ | ⟨k, hk, hi, hf, hno, hid⟩
  · rw [hi] at HF
    have HE := Lib.hid (show anErr (sigR rl) id num n = 7 by unfold anErr sigR; rw [hf]; rfl)
    clear hi hf
    go_enter Try.func27, Try.ntmps27
    go_wp2_with fail
    refine HF.out.mono ?_
    rintro e w1 ⟨rfl, rfl⟩
    go_wp2
    go_ret
    exact RAnsPost.same HS.out (Below.refl _ _) HE.out (by decide)
  rw [hi] at HF
  obtain ⟨c0, hc0⟩ : ∃ c0, rl[k] = c0 := ⟨_, rfl⟩
  have HE := Lib.hid (show anErr (sigR rl) id num n = ansErr c0.last (c0.olds.map Old.log) num n by unfold anErr sigR; rw [hf, hc0]; rfl)
  obtain ⟨g1, cap, hv, t0, t1, t2, t3, tf⟩ := HS.out.row hk
  have d0 := HS.out.blk.cell 0
  simp only [List.getElem?_toArray, List.getElem?_cons_zero] at d0
  rw [hv] at d0
  have HV := Lib.hid hv
  have hcok := HS.out.ok _ (List.getElem_mem hk)
  rw [hc0] at t0 t1 t2 t3 hf hid hcok
  have HC0 := Lib.hid hc0
  have HNO := Lib.hid hno
  have HID := Lib.hid hid
  have HFF := Lib.hid hf
  clear hv hi hf hid hno hc0 tf
  have hk0 : decide ((k : Int) < 0) = false := by simp
  have hk1 : (0 : Int) ≤ (k : Int) := by omega
  have hk2 : (k : Int) < (rl.length : Int) := by omega
  have hb1 := (Below.refl w.heap.size w).alloc (Nat.le_refl _) (.cells #[.int .i64 c0.id, .int .u64 c0.key, .int .i64 c0.last, .slice c0.A c0.n c0.c] 108)
  have hq1 := Blk.new w 108 #[.int .i64 c0.id, .int .u64 c0.key, .int .i64 c0.last, .slice c0.A c0.n c0.c]
  have HCOK := Lib.hid (hcok.mod (Mod.of_below (fun _ => False) hb1) (fun _ h => h.elim) (fun _ h => h.elim))
  have HRW := Lib.hid (rwaits_any c0 _ HCOK)
  obtain ⟨wt, hwt⟩ : ∃ wt, waitsL (c0.olds.map Old.log) = wt := ⟨_, rfl⟩
  rw [hwt] at HRW
  have HWT := Lib.hid hwt
  clear hwt hcok
  go_enter Try.func27, Try.ntmps27
  go_wp2_with fail
  refine HF.out.mono ?_
  rintro e w1 ⟨rfl, rfl⟩
  go_wp2_with fail
  refine HRW.out.mono ?_
  rintro e w2 ⟨rfl, hb2⟩
  have hI2 : RSes w2 g rv rl := (HS.out.all hb1).all hb2
  have HI2 := Lib.hid hI2
  have HQ2 := Lib.hid (hq1.all hb2)
  have HC2 := Lib.hid (HCOK.out.mod (Mod.of_below (fun _ => False) hb2) (fun _ h => h.elim) (fun _ h => h.elim))
  have HB2 := Lib.hid ((HB.out.all hb1).all hb2)
  have HW2 := Lib.hid (bt hb1 hb2)
  clear hb1 hb2 hq1 HCOK HB HF HRW d0 t0 t1 t2 t3 hI2
  obtain ⟨gc, hgc⟩ : ∃ gc, w.heap.size = gc := ⟨_, rfl⟩
  rw [hgc] at HQ2 ⊢
  clear hgc
  obtain ⟨s0, s1, s2, s3, -, -, -, -⟩ := blk4 HQ2.out
  have HE0 := Lib.hid (show anErr (sigR rl) id num n = if wt = false ∨ num ≠ c0.last then 24 else if 65536 < n then 4 else 0 by rw [HE.out]; unfold ansErr; rw [HWT.out])
  clear HE
  rcases wt with _ | _
  · go_wp2
    go_ret
    exact RAnsPost.same HS.out HW2.out (by rw [HE0.out, if_pos (.inl trivial)]) (by decide)
  by_cases hnum : num = c0.last
  rotate_left
  · have hne : (num != c0.last) = true := by simpa [bne] using hnum
    have HNE := Lib.hid hnum
    clear hnum
    go_wp2
    go_ret
    exact RAnsPost.same HS.out HW2.out (by rw [HE0.out, if_pos (.inr HNE.out)]) (by decide)
  have hne : (num != c0.last) = false := by simp [hnum]
  have HNUM := Lib.hid hnum
  clear hnum
  by_cases hbig : 65536 < n
  · have hbig' : (65536 : Int) < (n : Int) := by omega
    go_wp2
    go_ret
    exact RAnsPost.same HS.out HW2.out (by rw [HE0.out, if_neg (by simp [HNUM.out]), if_pos hbig]) (by decide)
  have hbig' : ¬ ((65536 : Int) < (n : Int)) := by omega
  have HERR := Lib.hid (show anErr (sigR rl) id num n = 0 by rw [HE0.out, if_neg (by simp [HNUM.out]), if_neg hbig])
  have hpos : 0 < c0.n := by
    rw [← HC2.out.len]
    rcases hz : c0.olds with _ | ⟨x, l⟩
    · have := HWT.out
      rw [hz] at this
      simp [waitsL] at this
    · simp
  obtain ⟨j, hj⟩ : ∃ j, c0.n = j + 1 := ⟨c0.n - 1, by omega⟩
  have hjl : j < c0.olds.length := by have := HC2.out.len; omega
  have HLC := Lib.hid (show (c0.olds.flatMap Old.cells).length = (j + 1) * 4 by rw [flatT_length Old.cells 4 Old.cells_length, HC2.out.len, hj])
  have HLEN := Lib.hid (HC2.out.len.trans hj)
  have hfew := HC2.out.few
  rw [hj] at s3 hfew
  have HJ := Lib.hid hj
  have HL := Lib.hid HB2.out.1
  have hnc := HB2.out.2.1
  have hcm := HB2.out.2.2.1
  have hj0 : (0 : Int) ≤ (j : Int) := by omega
  have hj1 : (j : Int) < (j : Int) + 1 := by omega
  clear hpos hj hbig
  go_wp2_with (at_builtin; refine wpList_appendNil slT_old rfl rfl rfl rfl w2.heap.size (c0.olds.flatMap Old.cells) HC2.out.row HLC.out (old_one _) (by omega) (by decide) (Nat.le_refl _) ?_; intro A6 cap6 w6 hown6 hb6; obtain ⟨g6, hA6, hg6, -⟩ := own_some hown6 (by omega); subst hA6; have x2 := olds_cell hown6 HLEN.out hjl (i := 2) (by decide); have xf := own_frozen hown6 (j * 4 + 2); replace x2 : w6.cell? ⟨g6, j * 4 + 2, none⟩ = some (.bool (c0.olds[j]).done) := x2)
  have hs6 : Below w6.heap.size w6 w6 := Below.refl _ _
  have ho6 := (hown6.stored (j * 4 + 2) (.bool true)).1
  have hb6' : Below w2.heap.size w2 (w6.setCell ⟨g6, j * 4 + 2, none⟩ (.bool true)) := hb6.setCell (p := ⟨g6, j * 4 + 2, none⟩) hg6 _
  have hB6 := HB2.out.all hb6'
  clear hs6 x2 xf hown6 hb6
  generalize w6.setCell ⟨g6, j * 4 + 2, none⟩ (.bool true) = w7 at *
  refine (few_bytes _ _ _ n _ rfl bs _ HL hB6.rd hnc hcm (by omega)).mono ?_
  rintro e w8 ⟨A8, c8, n8, bs8, rfl, h81, h82, -, HK8, -, HE8, hown8, -, hb8⟩
  obtain ⟨hn8, hB8⟩ := few_self HK8 HE8 HL hown8
  subst hn8
  have ho8 := own_keep ho6 hb8
  have hb28 := bt hb6' hb8
  have x3 := ho8.cellAt (j * 4 + 3) (by omega)
  have xf := own_frozen ho8 (j * 4 + 3)
  rw [List.getElem?_set, if_neg (by omega), flatT_at Old.cells 4 Old.cells_length c0.olds j 3 hjl (by decide)] at x3
  replace x3 : w8.cell? ⟨g6, j * 4 + 3, none⟩ = some (.slice (c0.olds[j]).A (c0.olds[j]).n (c0.olds[j]).c) := x3
  have ho9 := (ho8.stored (j * 4 + 3) (.slice A8 n c8)).1
  have hm9 : Mod (fun b => b = g6) w8 (w8.setCell ⟨g6, j * 4 + 3, none⟩ (.slice A8 n c8)) := (Mod.refl (fun b => b = g6) w8).set (p := ⟨g6, j * 4 + 3, none⟩) (.inl rfl) _
  have hb9 : Below w2.heap.size w2 (w8.setCell ⟨g6, j * 4 + 3, none⟩ (.slice A8 n c8)) := hb28.setCell (p := ⟨g6, j * 4 + 3, none⟩) hg6 _
  have hB9 := hB8.mod hm9 (by
    rintro b rfl ht
    exact absurd (Ty.unique (Ty.of_own ho8 rfl) ht) (by decide))
  have hok9 := HC2.out.answered hb9 HJ.out hjl hB9 hn ho9
  have hS9 := HI2.out.all hb9
  have HOK9 := Lib.hid hok9
  have HS9 := Lib.hid hS9
  have HB9 := Lib.hid (bt HW2.out hb9)
  obtain ⟨g1', cap', hv', -, -, -, t3, tf⟩ := hS9.row hk
  rw [HV.out] at hv'
  injection hv' with hv' _ _
  injection hv' with hv'
  injection hv' with hv'
  subst hv'
  have tf3 := tf (k * 4 + 3)
  have d0 := hS9.blk.cell 0
  simp only [List.getElem?_toArray, List.getElem?_cons_zero] at d0
  rw [HV.out] at d0
  clear tf hok9 hS9 hb9 hB9 hm9 ho9 hb28 ho8 hown8 hb8 hB6 hb6' ho6 HK8 HE8 h81 h82 hB8 s0 s1 s2 s3
  go_wp2
  go_ret
  obtain ⟨hS, hm⟩ := HS9.out.upd3 (r' := ⟨c0.id, c0.key, c0.last, some ⟨g6, 0, none⟩, j + 1, cap6, c0.olds.set j ⟨(c0.olds[j]).num, (c0.olds[j]).hash, true, A8, n, c8, bs⟩⟩) hk HV.out (by rw [HC0.out]) (by rw [HC0.out]) (by rw [HC0.out]) HOK9.out
  refine ⟨by rw [HERR.out]; rfl, rv, _, hS, by rw [List.length_set]; omega, ?_, (Mod.of_below (RSesF g rv) HB9.out).trans hm (fun b hb => .inl hb), .inl rfl⟩
  rw [sigR_set (r := ⟨c0.id, c0.key, c0.last, some ⟨g6, 0, none⟩, j + 1, cap6, c0.olds.set j ⟨(c0.olds[j]).num, (c0.olds[j]).hash, true, A8, n, c8, bs⟩⟩) hk HNO.out (by rw [HC0.out]; exact HID.out) HID.out]
  have hs : sigR rl id = some c0.st := by unfold sigR; rw [HFF.out]; rfl
  have hns : ansErr c0.last (c0.olds.map Old.log) num n = 0 := by
    have := HERR.out
    unfold anErr at this
    rw [hs] at this
    exact this
  unfold anSt
  rw [hs]
  dsimp only [RCl.st]
  unfold ansNew
  rw [if_pos hns, List.map_set, List.length_map, HLEN.out, List.getLast?_map, List.getLast?_eq_getElem?]
  have hlast : c0.olds[c0.olds.length - 1]? = some c0.olds[j] := by
    rw [show c0.olds.length - 1 = j by have := HLEN.out; omega]
    exact List.getElem?_eq_getElem hjl
  rw [hlast]
  rfl
end Go.Proofs.Ytompkpleiichaaa
