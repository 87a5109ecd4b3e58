/- ledger: Holdings. -/
import Derived.Test.YtgjbbobphfejoaaGreatDoorHLdHold0
import Derived.Test.YtgjbbobphfejoaaGreatDoorHG16
import Derived.Test.YtgjbbobphfejoaaGreatDoorHG29

namespace Go.Proofs.YtgjbbobphfejoaaGreatDoor
open Go.RowKit

theorem nodup_len {α : Type} [DecidableEq α] : ∀ {a b : List α}, a.Nodup → (∀ x ∈ a, x ∈ b) → a.length ≤ b.length
  | [], _, _, _ => Nat.zero_le _
  | x :: a, b, h, hs => by
    rw [List.nodup_cons] at h
    have hx := hs x (by simp)
    have := nodup_len (b := b.erase x) h.2 (fun y hy => (List.mem_erase_of_ne (fun e => h.1 (by rw [← e]; exact hy))).2 (hs y (by simp [hy])))
    rw [List.length_erase_of_mem hx] at this
    have h0 : 0 < b.length := List.length_pos_of_mem hx
    simp only [List.length_cons]
    omega
theorem GMap.len {K : Type} {enc : K → Value} {P : Program} {w : World} {b : Nat} {es : List (K × Value)} {t kt e : TypeId} (h : GMap enc w b es) (ht : P.underlying t = some (.map kt e)) (ty : TypeId) : (Builtin.len_ #[t] ty #[.map (some b)]).run P w = .ok (.int .i64 (es.length : Int)) w := by
  obtain ⟨l, c, hb, hl, -⟩ := h
  have hlen : l.length = es.length := by have := congrArg List.length hl; simpa using this
  simp [Builtin.len_, run_underlying ht, MapKept.run_getObj_map hb, Result.andThen, hlen, goInt]
theorem slT_hold : SlT Tryz.prog 51 69 3 24 := SlT.of Tryz.underlying51 (by kernel_rfl) (by decide)
theorem mk_holds (n : Nat) (hn : n ≤ 1000000) (w : World) : ∃ w', (Instr.makeSlice 51 (.int .i64 0) (.int .i64 (n : Int))).run Tryz.prog w = .ok (.slice (some ⟨w.heap.size, 0, none⟩) 0 n) w' ∧ w'.ownsRow w.heap.size 69 3 (.slice (some ⟨w.heap.size, 0, none⟩) 0 n) 0 [] ∧ Below w.heap.size w w' ∧ w'.heap.size = w.heap.size + 1 := by
  have hI : (Tryz.prog.info? 69).map (fun i => (i.zero, i.size, i.bytes)) = some (some (.agg #[.int .i64 0, .int .i64 0, .int .i64 0]), 3, 24) := by kernel_rfl
  obtain ⟨i0, hi, hz0, hz1, hz2⟩ : ∃ i, Tryz.prog.info? 69 = some i ∧ i.zero = some (.agg #[.int .i64 0, .int .i64 0, .int .i64 0]) ∧ i.size = 3 ∧ i.bytes = 24 := by
    obtain ⟨i, hi, hz⟩ := Option.map_eq_some_iff.1 hI
    simp only [Prod.mk.injEq] at hz
    exact ⟨i, hi, hz.1, hz.2.1, hz.2.2⟩
  have hr := run_make (P := Tryz.prog) w 51 69 i0 _ Tryz.underlying51 hi hz0 .i64 .i64 0 (n : Int) (Int.le_refl _) (by omega) (by rw [hz2]; omega) (by omega)
  simp only [Int.toNat_zero, Int.toNat_natCast] at hr
  exact ⟨_, hr, World.ownsRow_made w _ n (Nat.le_refl _) (by unfold maxLen; omega) (by rw [size_madeCells, hz1]), (Below.refl _ _).alloc (Nat.le_refl _) _, by simp⟩
theorem own_block {w : World} {base e size n c : Nat} {A : Option Addr} {xs : List Value} (h : w.ownsRow base e size (.slice A n c) n xs) (hn : 0 < n) : ∃ g cur, A = some ⟨g, 0, none⟩ ∧ base ≤ g ∧ w.heap[g]? = some (.cells cur e (0, 0)) ∧ ∀ j, j < n * size → cur[j]? = xs[j]? := by
  rcases h.2 with ⟨h2, h0⟩ | ⟨g, cap, cur, h2, hb, hh, hnc, hm, hcs, htk⟩
  · omega
  · injection h2 with h2 h3 h4
    subst h2 h4
    refine ⟨g, cur, rfl, hb, hh, fun j hj => ?_⟩
    rw [← htk, List.getElem?_take, if_pos hj, Array.getElem?_toList]
theorem GIter.not_ty' {K : Type} {enc : K → Value} {w : World} {mb r : Nat} {es : List (K × Value)} {left : K → Bool} (h : GIter enc w mb r es left) {b : Nat} {t : TypeId} (hb : b = mb ∨ b = r) (ht : Ty w b t) : False := by
  obtain ⟨l, cl, sn, h1, -, -, -, -, h6, -⟩ := h
  obtain ⟨_, _, h7⟩ := ht
  rcases hb with e | e
  · rw [e, h1] at h7
    cases h7
  · rw [e, h6] at h7
    cases h7
theorem hold_more {es : List (LK × Value)} {left : LK → Bool} {done : List LK} {k : LK} {v : Value} (h : done.Nodup ∧ done.length ≤ es.length ∧ ∀ k, k ∈ done ↔ (∃ v, (k, v) ∈ es) ∧ left k = false) (hk : (k, v) ∈ es) (hl : left k = true) :
    (done ++ [k]).Nodup ∧ (done ++ [k]).length ≤ es.length ∧ ∀ j, j ∈ done ++ [k] ↔ (∃ v, (j, v) ∈ es) ∧ (left j && !(decide (j = k))) = false := by
  obtain ⟨h1, h2, h3⟩ := h
  have hkd : k ∉ done := fun hm => by rw [((h3 k).1 hm).2] at hl; cases hl
  have hnd : (done ++ [k]).Nodup := by
    rw [List.nodup_append]
    exact ⟨h1, by simp, fun a ha b hb e => hkd (by rw [List.mem_singleton] at hb; rw [← hb, ← e]; exact ha)⟩
  refine ⟨hnd, ?_, fun j => ?_⟩
  · have hsub : ∀ x ∈ done ++ [k], x ∈ es.map Prod.fst := fun x hx => by
      rcases List.mem_append.1 hx with hx | hx
      · obtain ⟨v', hv'⟩ := ((h3 x).1 hx).1
        exact List.mem_map.2 ⟨(x, v'), hv', rfl⟩
      · rw [List.mem_singleton] at hx
        rw [hx]
        exact List.mem_map.2 ⟨(k, v), hk, rfl⟩
    have := nodup_len hnd hsub
    simpa using this
  · rw [List.mem_append, List.mem_singleton, h3 j]
    by_cases hj : j = k
    · subst hj
      simp [hl]
      exact ⟨v, hk⟩
    · simp [hj]
def HoldPost (S : LSt) (w : World) (e : Ending) (w' : World) : Prop := ∃ (A : Option Addr) (ks : List LK) (c : Nat), e = .returned (.slice A ks.length c) ∧ HoldIs S ks ∧ ks.length ≤ c ∧ c ≤ 9223372036854775807 ∧ RowT w' 69 A (ks.flatMap (hcells S)) ∧ Below w.heap.size w w'
set_option maxRecDepth 100000 in
set_option maxHeartbeats 16000000 in
theorem holdings_any {mx : Int → Bool} (L : Led) (S : LSt) (w : World) (HL : Hid (LedAt mx w L S)) (HO : Hid (∀ k, LotsOk (S.st k) ∧ (S.st k).length ≤ 4096)) (hes : L.es.length ≤ 100000) :
    Calls Tryz.prog 12 #[.pointer (some ⟨L.gl, 0, none⟩)] w (HoldPost S w) := by
  have l5 : w.cell? ⟨L.gl, 5, none⟩ = some (.map (some L.lS)) := HL.out.c.cell 5
  have hln := fun ty => HL.out.s.len (P := Tryz.prog) Tryz.underlying83 ty
  obtain ⟨w1, hmk, hrow, hb1, hs1⟩ := mk_holds L.es.length (by omega) w
  have hl1 := HL.out.all hb1
  have m5 : w1.cell? ⟨L.gl, 5, none⟩ = some (.map (some L.lS)) := hl1.c.cell 5
  obtain ⟨w2, hrg, hi2, hb2⟩ := hl1.s.iter (P := Tryz.prog) Tryz.underlying83
  obtain ⟨r, hr⟩ : ∃ r, w1.heap.size = r := ⟨_, rfl⟩
  rw [hr] at hrg hi2
  have HR := Lib.hid (show w.heap.size ≤ r by omega)
  have HI2 := Lib.hid hi2
  have HB2 := Lib.hid (bt hb1 hb2)
  have HROW2 := Lib.hid (own_keep hrow hb2)
  have HN := Lib.hid HL.out.s.nodup
  clear hrow hb1 hs1 hl1 hi2 hb2 hr
  go_enter Tryz.func12, Tryz.ntmps12
  go_wp2
  clear l5 hln hmk m5 hrg
  go_loopw [3] (fun v3 wr => ∃ (left : LK → Bool) (done : List LK) (Ah : Option Addr) (ch : Nat), v3 = .slice Ah done.length ch ∧ Hid (GIter kEnc wr L.lS r L.es left) ∧ Hid (wr.ownsRow w.heap.size 69 3 (.slice Ah done.length ch) done.length (done.flatMap (hcells S))) ∧ Hid (Below w.heap.size w wr) ∧ Hid (done.Nodup ∧ done.length ≤ L.es.length ∧ ∀ k, k ∈ done ↔ (∃ v, (k, v) ∈ L.es) ∧ left k = false)) (fun _ wr => iterLeft wr L.lS r)
  case atStart => exact ⟨_, [], _, _, rfl, HI2, HROW2, HB2, Lib.hid ⟨by simp, by simp, fun k => by simp⟩⟩
  case round =>
    obtain ⟨left, done, Ah, ch, rfl, HI, HROWr, HBr, HD⟩ := hrel
    clear HI2 HROW2 HB2
    have HLr := Lib.hid (HL.out.all HBr.out)
    obtain ⟨nd, hnd⟩ : ∃ nd, done.length = nd := ⟨_, rfl⟩
    rw [hnd] at HROWr
    have HND := Lib.hid hnd
    rw [hnd]
    clear hnd
    rcases HI.out.next (P := Tryz.prog) (fun h => kEncOk.inj h) with ⟨hno, hnx⟩ | ⟨k, v, w', hkv, hlk, hnx, hen, hI', hg', -, hlt⟩
    · have HMEM : Hid (∀ k, k ∈ done ↔ S.st k ≠ []) := Lib.hid (fun k => by
        rw [HD.out.2.2 k]
        constructor
        · rintro ⟨⟨v, hv⟩, -⟩ e
          exact absurd (glk_of_mem HN.out hv) (by rw [HL.out.ne k e]; simp)
        · intro hne
          cases hg : glk L.es k with
          | none =>
            obtain ⟨V, hv, hV⟩ := HL.out.st k
            rw [hg] at hv
            have h0 : V = (none, 0, 0) := slV_inj hv.symm
            rw [h0] at hV
            exact absurd (List.eq_nil_of_length_eq_zero hV.1) hne
          | some v => exact ⟨⟨v, glk_mem hg⟩, hno _ (glk_mem hg)⟩)
      have HSORT : Hid (HoldIs S (sortK done)) := Lib.hid ⟨sortK_sorted HD.out.1, fun k => ((sortK_perm done).mem_iff).trans (HMEM.out k)⟩
      have HLENS : Hid ((sortK done).length = nd) := Lib.hid (by unfold sortK; rw [List.length_mergeSort]; exact HND.out)
      have hcap := own_cap HROWr.out
      have hnc : nd ≤ ch := by
        rcases HROWr.out.2 with ⟨h2, h0⟩ | ⟨g, cap, cur, h2, -, -, h3, -⟩
        · omega
        · injection h2 with _ _ h4
          omega
      clear hno
      rcases Nat.eq_zero_or_pos nd with h0 | h0
      · subst h0
        have hnil : done = [] := List.eq_nil_of_length_eq_zero HND.out
        have HSN := Lib.hid (AnyF.slices_SortFunc_none Tryz.sortFH Ah ch (.func (.func 32) #[] #[]) wr)
        have HNIL := Lib.hid hnil
        clear hnil
        go_wp2_with fail
        refine Calls.mono (f := 31) HSN.out ?_
        rintro e w5 ⟨rfl, rfl⟩
        go_wp2
        go_ret
        refine ⟨Ah, [], ch, rfl, ?_, Nat.zero_le _, hcap, RowT.nil _ _ _, HBr.out⟩
        have := HSORT.out
        rw [HNIL.out] at this
        have e : sortK [] = [] := by simp [sortK]
        rw [e] at this
        exact this
      · obtain ⟨g, cur, rfl, hgb, hblk, hcur⟩ := own_block HROWr.out h0
        have HSH := Lib.hid (sortH_any S g nd ch done cur wr h0 HND.out (by have := HD.out.2.1; have := HND.out; omega) hblk hcur)
        have HGB := Lib.hid hgb
        clear hgb hblk hcur
        go_wp2_with fail
        refine HSH.out.mono ?_
        rintro e w5 ⟨rfl, ⟨cs', hcs', hrow'⟩, hm5⟩
        have HC5 := Lib.hid hcs'
        have HRW := Lib.hid hrow'
        have HB5 : Hid (Below w.heap.size w w5) := Lib.hid (hm5.below HBr.out HBr.out.size (fun b e => by rw [e]; exact HGB.out))
        clear hcs' hrow' hm5
        go_wp2
        go_ret
        refine ⟨some ⟨g, 0, none⟩, sortK done, ch, by rw [HLENS.out]; rfl, HSORT.out, by rw [HLENS.out]; exact hnc, hcap, fun _ => ⟨g, 0, cs', (0, 0), rfl, HC5.out, fun j hj => ?_⟩, HB5.out⟩
        rw [flatT_length _ 3 (hcells_len S), HLENS.out] at hj
        rw [Nat.zero_add]
        exact HRW.out j hj
    · obtain ⟨V, hv, hV⟩ := HLr.out.st k
      rw [glk_of_mem HN.out hkv] at hv
      simp only [Option.getD_some] at hv
      obtain ⟨VA, Vn, Vc⟩ := V
      replace hv : v = .slice VA Vn Vc := hv
      subst hv
      have m1 : Mod (fun b => b = r) wr w' := Mod.of_grown hg' (fun b e => .inl (by injection e with e; exact e.symm))
      have hb2 := (Below.refl w'.heap.size w').alloc (Nat.le_refl _) (.cells #[.int .i64 (k.1.1 : Int), .int .i64 (k.2.1 : Int)] 95)
      have kk := Blk.new w' 95 #[.int .i64 (k.1.1 : Int), .int .i64 (k.2.1 : Int)]
      obtain ⟨wk, hwk⟩ : ∃ wk, w'.alloc (.cells #[.int .i64 (k.1.1 : Int), .int .i64 (k.2.1 : Int)] 95) = wk := ⟨_, rfl⟩
      obtain ⟨bk, hbk⟩ : ∃ bk, w'.heap.size = bk := ⟨_, rfl⟩
      rw [hwk] at hb2 kk
      rw [hbk] at kk
      have hiter : ∀ t, ¬ Ty wr r t := fun t ht => by
        obtain ⟨l, cl, sn, -, -, -, -, -, h6, -⟩ := HI.out
        obtain ⟨_, _, h7⟩ := ht
        rw [h6] at h7
        cases h7
      have m2 : Mod (fun b => b = r) wr wk := m1.then_below hb2
      have HBK : Hid (Below w.heap.size w wk) := Lib.hid (m2.below HBr.out HBr.out.size (fun b e => by have := HR.out; omega))
      have HROW : Hid (wk.ownsRow w.heap.size 69 3 (.slice Ah nd ch) nd (done.flatMap (hcells S))) := Lib.hid (m2.own HROWr.out (fun g hg e => hiter _ (e ▸ Ty.of_own HROWr.out hg)))
      have HIK := Lib.hid (hI'.mod (F := fun _ => False) (Mod.of_below _ hb2) (fun h => h) (fun h => h))
      have hVk : LotsAt wk VA Vn Vc (S.st k) := hV.mod m2 (fun b e => by rw [e]; exact hiter _)
      have hVn : Vn ≤ 1000000 := by rw [← hVk.1]; have := (HO.out k).2; omega
      have HOK := Lib.hid (HO.out k).1
      have hdn : nd < 1000000000 := by have := HD.out.2.1; have := HND.out; omega
      have HLT : Hid (iterLeft wk L.lS r < iterLeft wr L.lS r) := Lib.hid (by
        have e : iterLeft wk L.lS r = iterLeft w' L.lS r := by
          unfold iterLeft
          rw [hb2.block _ hI'.lt.1, hb2.block _ hI'.lt.2]
        rw [e]
        exact hlt)
      have HKV := Lib.hid hkv
      have HLK := Lib.hid hlk
      have lk := kk.lt
      have kty := kk.ty
      have hkeep : ∀ y, Mod (fun b => (Value.slice Ah nd ch).ownBlock = some b) wk y → (fun y => y.cell? ⟨bk, 0, none⟩ = some (.int .i64 (k.1.1 : Int)) ∧ y.cell? ⟨bk, 1, none⟩ = some (.int .i64 (k.2.1 : Int)) ∧ LotsAt y VA Vn Vc (S.st k)) y := fun y hy => by
        have hne : ¬ (Value.slice Ah nd ch).ownBlock = some bk := fun e => absurd (kty.unique (Ty.of_own HROW.out e)) (by decide)
        exact ⟨(hy.cell (p := ⟨bk, 0, none⟩) lk hne).trans (kk.cell 0), (hy.cell (p := ⟨bk, 1, none⟩) lk hne).trans (kk.cell 1), hVk.mod hy (fun b e ht => absurd (ht.unique (Ty.of_own HROW.out e)) (by decide))⟩
      replace hnx : ∀ ty, (Instr.next (.pointer (some ⟨r, 0, none⟩)) false ty).run Tryz.prog wr = .ok (.tuple #[.bool true, .agg #[.int .i64 (k.1.1 : Int), .int .i64 (k.2.1 : Int)], .slice VA Vn Vc]) w' := hnx
      replace hen : (Instr.entry (.pointer (some ⟨r, 0, none⟩))).run Tryz.prog w' = .ok (.tuple #[.agg #[.int .i64 (k.1.1 : Int), .int .i64 (k.2.1 : Int)], .slice VA Vn Vc]) w' := hen
      clear hkv hlk hI' hg' hlt hV m1 m2 hb2 kk hVk hiter lk kty
      go_wp2_with fail
      clear hnx hen hwk hbk
      refine wp_region_held_drew (S := (fun y => y.cell? ⟨bk, 0, none⟩ = some (.int .i64 (k.1.1 : Int)) ∧ y.cell? ⟨bk, 1, none⟩ = some (.int .i64 (k.2.1 : Int)) ∧ LotsAt y VA Vn Vc (S.st k))) (by kernel_rfl) (hkeep _ ((Mod.refl _ wk).drew)) (fun hHeld => ?_)
      refine takeI 0 (some 22) (v := ?_) ?_ ?_
      rotate_left
      · (intro o ho w hSw; obtain ⟨z0, z1, z2⟩ := hSw; cases ho; go_simp; try with_reducible rfl)
      try simp only [Act.put, pB, pC, pD]
      refine takeI 1 (some 23) (v := ?_) ?_ ?_
      rotate_left
      · (intro o ho w hSw; obtain ⟨z0, z1, z2⟩ := hSw; cases ho; go_simp; try with_reducible rfl)
      try simp only [Act.put, pB, pC, pD]
      refine takeI 2 (some 24) (v := ?_) ?_ ?_
      rotate_left
      · (intro o ho w hSw; obtain ⟨z0, z1, z2⟩ := hSw; cases ho; go_simp; try with_reducible rfl)
      try simp only [Act.put, pB, pC, pD]
      refine takeI 3 (some 25) (v := ?_) ?_ ?_
      rotate_left
      · (intro o ho w hSw; obtain ⟨z0, z1, z2⟩ := hSw; cases ho; go_simp; try with_reducible rfl)
      try simp only [Act.put, pB, pC, pD]
      refine takeI 4 (some 26) (v := ?_) ?_ ?_
      rotate_left
      · (intro o ho w hSw; obtain ⟨z0, z1, z2⟩ := hSw; cases ho; go_simp; try with_reducible rfl)
      try simp only [Act.put, pB, pC, pD]
      refine takeI 5 (some 27) (v := ?_) ?_ ?_
      rotate_left
      · (intro o ho w hSw; obtain ⟨z0, z1, z2⟩ := hSw; cases ho; go_simp; try with_reducible rfl)
      try simp only [Act.put, pB, pC, pD]
      refine wpAnyH_ready (rs := [6]) (by kernel_rfl) (by simp) ?_
      refine AllReadyH.cons rfl (fun K hK => ?_) AllReadyH.nil
      go_simp
      go_at_call 30
      (refine (total_any VA Vn Vc (S.st k) _ (Lib.hid hHeld.2.2) HOK hVn).mono ?_)
      rintro e w4 ⟨rfl, hb4⟩
      have hb4' : Below wk.heap.size wk w4 := ⟨hb4.os, hb4.tape, hb4.output, hb4.size, hb4.block⟩
      have hbz := (Below.refl w4.heap.size w4).alloc (Nat.le_refl _) (.cells #[.int .i64 (k.1.1 : Int), .int .i64 (k.2.1 : Int), .int .i64 (totL (S.st k))] 69)
      have ho4 := own_keep HROW.out hb4'
      have hoz := own_keep ho4 hbz
      obtain ⟨g5, c5, w5, hr5, ho5, hg5, hn5⟩ := run_append1b (ty := 51) slT_hold hoz (Blk.new w4 69 #[.int .i64 (k.1.1 : Int), .int .i64 (k.2.1 : Int), .int .i64 (totL (S.st k))]) rfl (by simp; exact ⟨rfl, rfl, rfl⟩) hdn (by decide) (Nat.le_trans HBK.out.size (Nat.le_trans hb4'.size hbz.size))
      have hty5 : ∀ b, (Value.slice Ah nd ch).ownBlock = some b → Ty wk b 69 := fun b hb => Ty.of_own HROW.out hb
      have m4 : Mod (fun b => (Value.slice Ah nd ch).ownBlock = some b) wk w4 := Mod.of_below _ hb4'
      have mz := m4.then_below hbz
      have m5 : Mod (fun b => (Value.slice Ah nd ch).ownBlock = some b) wk w5 := mz.trans (Mod.of_grown hg5 (fun g e => .inl e)) (fun b hb => .inl hb)
      have HRUN := Lib.hid hr5
      have HO5 := Lib.hid ho5
      have HM4 := Lib.hid m4
      have HMZ := Lib.hid mz
      have HM5 := Lib.hid m5
      have HB5 : Hid (Below w.heap.size w w5) := Lib.hid (m5.below HBK.out HBK.out.size (fun b hb => (HROW.out.lt b hb).1))
      clear hb4 hb4' hbz ho4 hoz hr5 ho5 hg5 hn5 hty5 m4 mz m5
      go_wp2
      refine hK.out _ _ ?_ (fun hH6 => ?_)
      · exact (hkeep _ HM4.out)
      clear hK K
      try simp only [Act.put, pB, pC, pD]
      refine takeI 7 (some 29) (v := ?_) ?_ ?_
      rotate_left
      · (intro o ho w hSw; obtain ⟨z0, z1, z2⟩ := hSw; cases ho; go_simp; try with_reducible rfl)
      try simp only [Act.put, pB, pC, pD]
      refine wpAnyH_ready (rs := [8]) (by kernel_rfl) (by simp) ?_
      refine AllReadyH.cons rfl (fun K hK => ?_) AllReadyH.nil
      go_simp
      refine hK.out _ _ ?_ (fun hH8 => ?_)
      · exact (hkeep _ HMZ.out)
      clear hK K
      try simp only [Act.put, pB, pC, pD]
      refine wpAnyH_ready (rs := [9]) (by kernel_rfl) (by simp) ?_
      refine AllReadyH.cons rfl (fun K hK => ?_) AllReadyH.nil
      refine step_app (t := 51) HRUN.out (by kernel_rfl) (by rfl) (by rfl) (by rfl) ?_
      (try simp only [List.getElem_toArray, List.getElem_cons_succ, List.getElem_cons_zero])
      refine hK.out _ _ ?_ (fun hH9 => ?_)
      · exact (hkeep _ HM5.out)
      clear hK K
      try simp only [Act.put, List.setIfInBounds_toArray]
      refine takeI 10 (some 3) (v := ?_) ?_ ?_
      rotate_left
      · (intro o ho w hSw; obtain ⟨z0, z1, z2⟩ := hSw; cases ho; go_simp; try with_reducible rfl)
      (try simp only [Act.put]); (try simp only [pB]); (try simp only [pD]); (try simp only [pC])
      refine wpAnyH_done (by kernel_rfl) ?_ _
      clear hHeld hH6 hH8 hH9 hkeep
      have HI5 := Lib.hid (HIK.out.mod HM5.out (fun e => HIK.out.not_ty' (.inl rfl) (Ty.of_own HROW.out e)) (fun e => HIK.out.not_ty' (.inr rfl) (Ty.of_own HROW.out e)))
      have HD5 : Hid ((done ++ [k]).Nodup ∧ (done ++ [k]).length ≤ L.es.length ∧ ∀ j, j ∈ done ++ [k] ↔ (∃ v, (j, v) ∈ L.es) ∧ (left j && !(decide (j = k))) = false) := Lib.hid (hold_more HD.out HKV.out HLK.out)
      have HL5 : Hid (iterLeft w5 L.lS r < iterLeft wr L.lS r) := Lib.hid (by
        have e : iterLeft w5 L.lS r = iterLeft wk L.lS r := by
          have h1 := HM5.out.block L.lS HIK.out.lt.1 (fun e => HIK.out.not_ty' (.inl rfl) (Ty.of_own HROW.out e))
          have h2 := HM5.out.block r HIK.out.lt.2 (fun e => HIK.out.not_ty' (.inr rfl) (Ty.of_own HROW.out e))
          unfold iterLeft
          rw [h1, h2]
        rw [e]
        exact HLT.out)
      have hnd1 : (done ++ [k]).length = nd + 1 := by rw [List.length_append, HND.out]; rfl
      have HO5' : Hid (w5.ownsRow w.heap.size 69 3 (.slice (some ⟨g5, 0, none⟩) (done ++ [k]).length c5) (done ++ [k]).length ((done ++ [k]).flatMap (hcells S))) := Lib.hid (by rw [hnd1, List.flatMap_append]; exact HO5.out)
      have HE1 := Lib.hid hnd1
      clear hnd1
      go_wp2_with fail
      exact ⟨⟨_, done ++ [k], some ⟨g5, 0, none⟩, c5, by rw [HE1.out], HI5, HO5', HB5, HD5⟩, HL5.out⟩
end Go.Proofs.YtgjbbobphfejoaaGreatDoor
