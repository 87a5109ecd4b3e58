/- client: Got of the reference. -/
import Derived.Test.YtompkpleiichaaaHCliRef
import Derived.Test.YtompkpleiichaaaHCliAgain

namespace Go.Proofs.Ytompkpleiichaaa
open Go.RowKit

/-- append of a whole row (nil let in) onto a row of the call's own. -/
theorem run_append_rows {P : Program} {w : World} {base t e size bytes n : Nat} {v : Value} {xs : List Value} {ty : TypeId} (hT : SlT P t e size bytes) (hown : w.ownsRow base e size v n xs) (A : Option Addr) (m c : Nat) (news : List Value) (hl : news.length = m * size) (hA : A = none → m = 0)
    (hnews : ∀ ad, A = some ad → ∀ j u, news[j]? = some u → w.cell? (ad.add j) = some u) (h1 : ∀ u ∈ news, u.oneCell' = true) (hn : n + m < 1099511627776) (hby : bytes ≤ 64) (hbase : base ≤ w.heap.size) :
    ∃ v' w', (Builtin.append_ #[t, t] ty #[v, .slice A m c]).run P w = .ok v' w' ∧ w'.ownsRow base e size v' (n + m) (xs ++ news) ∧ w.grownBy w' v.ownBlock ∧ (v'.ownBlock = v.ownBlock ∨ v'.ownBlock = some w.heap.size) := by
  obtain ⟨i, z, ht, hi, hz, hs, hb, hzs, hsz⟩ := hT
  rcases A with _ | ad
  · have hm := hA rfl
    subst hm
    have hnil : news = [] := List.eq_nil_of_length_eq_zero (by simpa using hl)
    subst hnil
    refine ⟨v, w, ?_, by simpa using hown, World.grownBy.refl w _, .inl rfl⟩
    rcases hown.2 with ⟨rfl, rfl⟩ | ⟨g, cap, cur, rfl, _, _, hnc, _⟩
    · simp [Builtin.append_, run_underlying ht, sizeOf, typeInfo, hi, Builtin.lenOf, Builtin.firstCells]
    · simp [Builtin.append_, run_underlying ht, sizeOf, typeInfo, hi, Builtin.lenOf, Builtin.firstCells, hnc, storeCells]
  · have hmul : (n + m) * bytes ≤ 140737488355328 := Nat.le_trans (Nat.mul_le_mul (show n + m ≤ 1099511627776 by omega) hby) (by decide)
    obtain ⟨v', w', hrun, h2, h3, _, h5⟩ := run_append_own_at (P := P) w base t ty e i z size bytes ht hi hz hs hb hzs hsz v n xs hown ad m c news hl (hnews ad rfl) h1 (by unfold maxLen; omega) hmul hbase
    exact ⟨v', w', hrun, h2, h3, h5⟩
theorem own_len_capR {w : World} {base e size n m c : Nat} {A : Option Addr} {xs : List Value} (h : w.ownsRow base e size (.slice A m c) n xs) : n ≤ c ∧ c ≤ 9223372036854775807 := by
  rcases h.2 with ⟨h, h0⟩ | ⟨g, cap, cur, h, _, _, hnc, hm, _⟩
  · injection h with _ _ h
    omega
  · injection h with _ _ h
    unfold maxLen at hm
    omega
theorem rq_one (l : List Rq) : ∀ u ∈ l.flatMap Rq.cells, u.oneCell' = true := by
  intro u hu
  obtain ⟨a, _, hu⟩ := List.mem_flatMap.1 hu
  simp only [Rq.cells, List.mem_cons, List.not_mem_nil, or_false] at hu
  rcases hu with rfl | rfl | rfl | rfl <;> rfl

def hasN (L : List (Int × Int × List UInt8 × Int)) (num : Int) : Bool := L.any fun p => p.2.1 == num
/-- What Got answers. -/
def gotErr (last : Int) (L : List (Int × Int × List UInt8 × Int)) (num : Int) (n : Nat) : Int :=
  if num < 1 ∨ last < num then 7 else if hasN L num = false then 8 else if 65536 < n then 4 else 0
def gotNew (last : Int) (L : List (Int × Int × List UInt8 × Int)) (num : Int) (n : Nat) : List (Int × Int × List UInt8 × Int) :=
  if gotErr last L num n = 0 then L.eraseP fun p => p.2.1 == num else L
def GotPost (T E : TypeId) (g : Nat) (cl key last : Int) (rv : Value) (op : List Rq) (num : Int) (n : Nat) (w : World) (e : Ending) (w' : World) : Prop :=
  ∃ (rv' : Value) (op' : List Rq), e = .returned (.int .i64 (gotErr last (op.map Rq.log) num n)) ∧ op'.map Rq.log = gotNew last (op.map Rq.log) num n ∧ CallAt w' T E g cl key last rv' op' ∧ Mod (CallF g rv) w w' ∧ (rv'.ownBlock = rv.ownBlock ∨ ∀ b, rv'.ownBlock = some b → w.heap.size ≤ b)
theorem GotPost.same {T E : TypeId} {g : Nat} {cl key last num x : Int} {rv : Value} {op : List Rq} {n : Nat} {w0 w : World} (h : CallAt w T E g cl key last rv op) (hb : Below w0.heap.size w0 w) (hx : gotErr last (op.map Rq.log) num n = x) (h0 : x ≠ 0) : GotPost T E g cl key last rv op num n w0 (.returned (.int .i64 x)) w :=
  ⟨rv, op, by rw [hx], by unfold gotNew; rw [hx, if_neg h0], h, Mod.of_below _ hb, .inl rfl⟩
theorem erase_at {op : List Rq} {num : Int} {j : Nat} (hj : j < op.length) (hno : ∀ t (ht : t < j), (op[t]'(by omega)).num ≠ num) (he : (op[j]).num = num) :
    hasN (op.map Rq.log) num = true ∧ ((op.map Rq.log).eraseP fun p => p.2.1 == num) = (op.take j ++ op.drop (j + 1)).map Rq.log := by
  induction op generalizing j with
  | nil => simp at hj
  | cons r op ih =>
    rcases j with _ | j
    · have he' : r.num = num := he
      constructor
      · simp [hasN, Rq.log, he']
      · simp [Rq.log, he']
    · have h0 : r.num ≠ num := hno 0 (by omega)
      obtain ⟨i1, i2⟩ := ih (j := j) (by simpa using hj) (fun t ht => hno (t + 1) (by omega)) he
      constructor
      · unfold hasN at i1 ⊢
        simp only [List.map_cons, List.any_cons, i1, Bool.or_true]
      · rw [List.map_cons, List.eraseP_cons_of_neg (by simpa [Rq.log] using h0), i2]
        simp
theorem hasN_none {op : List Rq} {num : Int} (hno : ∀ t (ht : t < op.length), (op[t]).num ≠ num) : hasN (op.map Rq.log) num = false := by
  unfold hasN
  rw [List.any_eq_false]
  intro p hp
  obtain ⟨r, hr, rfl⟩ := List.mem_map.1 hp
  obtain ⟨t, ht, rfl⟩ := List.getElem_of_mem hr
  simpa [Rq.log] using hno t ht
set_option maxRecDepth 100000 in
set_option maxHeartbeats 1000000 in
theorem rgot_any (g : Nat) (cl key last : Int) (rv : Value) (op : List Rq) (num : Int) (A : Option Addr) (n c : Nat) (w : World) (HC : Hid (CallAt w 63 37 g cl key last rv op)) (hop : op.length ≤ 1000000) (hn : n ≤ 1000000) :
    Calls Try.prog 35 #[.pointer (some ⟨g, 0, none⟩), .int .i64 num, .slice A n c] w (GotPost 63 37 g cl key last rv op num n w) := by
  obtain ⟨A1, c1, rfl⟩ := own_parts HC.out.2.1
  obtain ⟨d0, d1, d2, d3, e0, e1, e2, e3⟩ := blk4 HC.out.1
  by_cases h1 : num < 1
  · go_enter Try.func35, Try.ntmps35
    go_wp2
    go_ret
    exact GotPost.same HC.out (Below.refl _ _) (by unfold gotErr; rw [if_pos (.inl h1)]) (by decide)
  by_cases h2 : last < num
  · go_enter Try.func35, Try.ntmps35
    go_wp2
    go_ret
    exact GotPost.same HC.out (Below.refl _ _) (by unfold gotErr; rw [if_pos (.inr h2)]) (by decide)
  have HE0 := Lib.hid (show gotErr last (op.map Rq.log) num n = if hasN (op.map Rq.log) num = false then 8 else if 65536 < n then 4 else 0 by unfold gotErr; rw [if_neg (by omega)])
  go_enter Try.func35, Try.ntmps35
  go_wp2
  go_loopw [7] (fun i wr => wr = w ∧ ∃ j : Nat, j ≤ op.length ∧ i = .int .i64 (j : Int) ∧ Hid (∀ t (ht : t < j) (hl : t < op.length), (op[t]).num ≠ num)) (fun i _ => op.length - (intOf i).toNat)
  case atStart => exact ⟨rfl, 0, by omega, rfl, Lib.hid (fun t ht => absurd ht (by omega))⟩
  case round =>
    obtain ⟨rfl, j, hj, rfl, HNO⟩ := hrel
    by_cases hlt : j < op.length
    · obtain ⟨g1, cap, hv, t0, t1, t2, t3⟩ := HC.out.row hlt
      injection hv with hv1 _ hv3
      subst hv1 hv3
      have hi0 : (0 : Int) ≤ (j : Int) := by omega
      have hi1 : (j : Int) < (op.length : Int) := by omega
      by_cases hnum : (op[j]).num = num
      · have hne : ((op[j]).num != num) = false := by simp [hnum]
        obtain ⟨y1, y2⟩ := erase_at hlt (fun t ht => HNO.out t ht (by omega)) hnum
        have HY1 := Lib.hid y1
        have HY2 := Lib.hid y2
        clear hnum y1 y2
        by_cases hbig : 65536 < n
        · have hbig' : (65536 : Int) < (n : Int) := by omega
          go_wp2
          go_ret
          exact GotPost.same HC.out (Below.refl _ _) (by rw [HE0.out, HY1.out, if_neg (by decide), if_pos hbig]) (by decide)
        have hbig' : ¬ ((65536 : Int) < (n : Int)) := by omega
        have HERR := Lib.hid (show gotErr last (op.map Rq.log) num n = 0 by rw [HE0.out, HY1.out, if_neg (by decide), if_neg hbig])
        have ho := HC.out.2.1
        have hlc := own_len_capR ho
        have HCE := Lib.hid (show ∀ i u, (op.flatMap Rq.cells)[i]? = some u → wr.cell? ⟨g1, i, none⟩ = some u from fun i u hu => by
          rw [ho.cellAt i (by
            have := (List.getElem?_eq_some_iff.1 hu).1
            rwa [flat_length Rq.cells 4 Rq.cells_length] at this)]
          exact hu)
        obtain ⟨v1, w1, hap1, hown1, hg1, hat1⟩ := run_append_rows (P := Try.prog) (w := wr) (base := wr.heap.size) (ty := 61) slT_rreq (World.ownsRow_nil wr _ _ _) (some ⟨g1, 0, none⟩) j c1 ((op.take j).flatMap Rq.cells) (by rw [flat_length Rq.cells 4 Rq.cells_length, List.length_take]; omega) (by intro h; cases h)
          (fun ad e i u hu => by
            cases e
            have ea : (⟨g1, 0, none⟩ : Addr).add i = ⟨g1, i, none⟩ := by unfold Addr.add; split <;> simp_all
            rw [ea]
            refine HCE.out i u ?_
            rw [← List.take_append_drop j op, List.flatMap_append]
            have hlt := (List.getElem?_eq_some_iff.1 hu).1
            rw [List.getElem?_append_left hlt]
            exact hu) (rq_one _) (by omega) (by decide) (Nat.le_refl _)
        rw [Nat.zero_add, List.nil_append] at hown1
        have hb1 : Below wr.heap.size wr w1 := (Below.refl _ _).grown hg1 (Nat.le_refl _) (fun k e => by simp [Value.ownBlock] at e)
        have hC1 := HC.out.all hb1
        obtain ⟨A2, c2, rfl⟩ := own_parts hown1
        by_cases hcap : c1 = j + 1
        · subst hcap
          have hdr : op.drop (j + 1) = [] := List.drop_eq_nil_of_le (by omega)
          obtain ⟨v2, w2, hap2, hown2, hg2, hat2⟩ := run_append_rows (P := Try.prog) (w := w1) (ty := 61) slT_rreq hown1 (some ⟨g1, 0, none⟩) 0 0 [] (by simp) (by intro h; cases h)
            (fun ad e i u hu => by simp at hu) (by simp) (by omega) (by decide) hb1.size
          rw [show (op.take j).flatMap Rq.cells ++ [] = (op.take j ++ op.drop (j + 1)).flatMap Rq.cells by rw [hdr]; simp, show j + 0 = op.length - 1 by omega] at hown2
          clear hdr
          obtain ⟨A3, c3, rfl⟩ := own_parts hown2
          have HM := Lib.hid (show Mod (CallF g (.slice (some ⟨g1, 0, none⟩) op.length (j + 1))) wr w2 from Mod.of_below _ (hb1.grown hg2 hb1.size (fun k e => (hown1.lt k e).1)))
          have hb2 : Below wr.heap.size wr w2 := hb1.grown hg2 hb1.size (fun k e => (hown1.lt k e).1)
          have hC2 := HC.out.all hb2
          have HC2 := Lib.hid hC2
          have HO2 := Lib.hid hown2
          have HA1 := Lib.hid hap1
          have HA2 := Lib.hid hap2
          have f3 := (blk4 hC2.1).2.2.2.1
          have f7 := (blk4 hC2.1).2.2.2.2.2.2.2
          have k3 := (blk4 hC1.1).2.2.2.1
          have k1 : (j : Int) ≤ ((j + 1 : Nat) : Int) := by omega
          have k2 : (j : Int) + 1 ≤ (op.length : Int) := by omega
          clear hap1 hap2 hown1 hown2 hg1 hg2 hat1 hat2 hC1 hC2 ho
          go_wp2_with (first | (at_builtin; revert HA1; intro HA1; refine wpList_append_run HA1.out rfl rfl rfl rfl ?_; clear HA1) | (at_builtin; refine wpList_append_run HA2.out rfl rfl rfl rfl ?_))
          go_ret
          have hl0 : (op.take j ++ op.drop (j + 1)).length = op.length - 1 := by rw [List.length_append, List.length_take, List.length_drop]; omega
          have hx1 := HC2.out.1
          have hms : Mod (fun b => b = g) w2 (w2.setCell ⟨g, 3, none⟩ (.slice A3 (op.length - 1) c3)) := (Mod.refl (fun b => b = g) w2).set (p := ⟨g, 3, none⟩) (.inl rfl) _
          have hnb : ∀ b, b = g → ¬ Ty w2 b 5 := by
            rintro b rfl ht
            exact absurd (Ty.unique hx1.ty ht) (by decide)
          refine ⟨.slice A3 (op.length - 1) c3, op.take j ++ op.drop (j + 1), by rw [HERR.out]; rfl, by unfold gotNew; rw [if_pos HERR.out, HY2.out], ⟨?_, ?_, ?_⟩, HM.out.set (p := ⟨g, 3, none⟩) (.inl (.inl rfl)) _, .inr (fun b hb => (HO2.out.lt b hb).1)⟩
          · have := Blk.set_ hx1 3 (.slice A3 (op.length - 1) c3)
            simpa using this
          · rw [hl0]
            exact own_lower (hms.own HO2.out (fun b hb e => absurd (Ty.unique hx1.ty (Ty.of_own HO2.out (e ▸ hb))) (by decide))) (Nat.zero_le _)
          · intro r hr
            have hm : r ∈ op := by
              rcases List.mem_append.1 hr with h | h
              · exact List.mem_of_mem_take h
              · exact List.mem_of_mem_drop h
            exact (HC2.out.2.2 r hm).mod hms hnb
        · have hcapI : ¬ ((c1 : Int) = (j : Int) + 1) := by omega
          obtain ⟨v2, w2, hap2, hown2, hg2, hat2⟩ := run_append_rows (P := Try.prog) (w := w1) (ty := 61) slT_rreq hown1 (some ⟨g1, (j + 1) * 4, none⟩) (op.length - (j + 1)) (c1 - (j + 1)) ((op.drop (j + 1)).flatMap Rq.cells) (by rw [flat_length Rq.cells 4 Rq.cells_length, List.length_drop]) (by intro h; cases h)
            (fun ad e i u hu => by
              cases e
              have hil := (List.getElem?_eq_some_iff.1 hu).1
              rw [flat_length Rq.cells 4 Rq.cells_length, List.length_drop] at hil
              have ea : (⟨g1, (j + 1) * 4, none⟩ : Addr).add i = ⟨g1, (j + 1) * 4 + i, none⟩ := by unfold Addr.add; split <;> simp_all
              rw [ea]
              have hcell : wr.cell? ⟨g1, (j + 1) * 4 + i, none⟩ = some u := HCE.out _ u (by
                rw [← List.take_append_drop (j + 1) op, List.flatMap_append, List.getElem?_append_right (by rw [flat_length Rq.cells 4 Rq.cells_length, List.length_take]; omega), flat_length Rq.cells 4 Rq.cells_length, List.length_take, show (j + 1) * 4 + i - min (j + 1) op.length * 4 = i by omega]
                exact hu)
              exact (hb1.cell (p := ⟨g1, (j + 1) * 4 + i, none⟩) (World.block_lt_of_cell? wr _ hcell)).trans hcell) (rq_one _) (by omega) (by decide) hb1.size
          rw [← List.flatMap_append, show j + (op.length - (j + 1)) = op.length - 1 by omega] at hown2
          obtain ⟨A3, c3, rfl⟩ := own_parts hown2
          have HM := Lib.hid (show Mod (CallF g (.slice (some ⟨g1, 0, none⟩) op.length c1)) wr w2 from Mod.of_below _ (hb1.grown hg2 hb1.size (fun k e => (hown1.lt k e).1)))
          have hb2 : Below wr.heap.size wr w2 := hb1.grown hg2 hb1.size (fun k e => (hown1.lt k e).1)
          have hC2 := HC.out.all hb2
          have HC2 := Lib.hid hC2
          have HO2 := Lib.hid hown2
          have HA1 := Lib.hid hap1
          have HA2 := Lib.hid hap2
          have f3 := (blk4 hC2.1).2.2.2.1
          have f7 := (blk4 hC2.1).2.2.2.2.2.2.2
          have k3 := (blk4 hC1.1).2.2.2.1
          have k1 : (j : Int) ≤ (c1 : Int) := by omega
          have k2 : (j : Int) + 1 ≤ (op.length : Int) := by omega
          clear hap1 hap2 hown1 hown2 hg1 hg2 hat1 hat2 hC1 hC2 ho
          go_wp2_with (first | (at_builtin; revert HA1; intro HA1; refine wpList_append_run HA1.out rfl rfl rfl rfl ?_; clear HA1) | (at_builtin; refine wpList_append_run HA2.out rfl rfl rfl rfl ?_))
          go_ret
          have hl0 : (op.take j ++ op.drop (j + 1)).length = op.length - 1 := by rw [List.length_append, List.length_take, List.length_drop]; omega
          have hx1 := HC2.out.1
          have hms : Mod (fun b => b = g) w2 (w2.setCell ⟨g, 3, none⟩ (.slice A3 (op.length - 1) c3)) := (Mod.refl (fun b => b = g) w2).set (p := ⟨g, 3, none⟩) (.inl rfl) _
          have hnb : ∀ b, b = g → ¬ Ty w2 b 5 := by
            rintro b rfl ht
            exact absurd (Ty.unique hx1.ty ht) (by decide)
          refine ⟨.slice A3 (op.length - 1) c3, op.take j ++ op.drop (j + 1), by rw [HERR.out]; rfl, by unfold gotNew; rw [if_pos HERR.out, HY2.out], ⟨?_, ?_, ?_⟩, HM.out.set (p := ⟨g, 3, none⟩) (.inl (.inl rfl)) _, .inr (fun b hb => (HO2.out.lt b hb).1)⟩
          · have := Blk.set_ hx1 3 (.slice A3 (op.length - 1) c3)
            simpa using this
          · rw [hl0]
            exact own_lower (hms.own HO2.out (fun b hb e => absurd (Ty.unique hx1.ty (Ty.of_own HO2.out (e ▸ hb))) (by decide))) (Nat.zero_le _)
          · intro r hr
            have hm : r ∈ op := by
              rcases List.mem_append.1 hr with h | h
              · exact List.mem_of_mem_take h
              · exact List.mem_of_mem_drop h
            exact (HC2.out.2.2 r hm).mod hms hnb
      · have hne : ((op[j]).num != num) = true := by simpa [bne] using hnum
        have HNE := Lib.hid hnum
        clear hnum
        generalize hx : (op[j]).num = x at *
        have HX := Lib.hid hx
        clear hx
        go_wp2
        exact ⟨⟨trivial, j + 1, by omega, by go_num, Lib.hid (fun t ht hl => by
          rcases Nat.lt_or_eq_of_le (Nat.lt_succ_iff.1 ht) with h | rfl
          · exact HNO.out t h hl
          · rw [HX.out]; exact HNE.out)⟩, by simp [intOf]; omega⟩
    · obtain rfl : j = op.length := by omega
      go_wp2
      go_ret
      exact GotPost.same HC.out (Below.refl _ _) (by rw [HE0.out, if_pos (hasN_none (fun t ht => HNO.out t ht ht))]) (by decide)
end Go.Proofs.Ytompkpleiichaaa
