/- client: Copy of the package's Sessions. -/
import Derived.Test.YtompkpleiichaaaHCliRAns
import Derived.Test.YtompkpleiichaaaHG13
import Derived.Test.YtompkpleiichaaaHG20

namespace Go.Proofs.Ytompkpleiichaaa
open Go.RowKit

theorem makeRow {P : Program} (w : World) {t e size bytes : Nat} (hT : SlT P t e size bytes) (kl kc : IntKind) (n : Nat) (hby : bytes ≤ 64) (hn : n ≤ 1099511627776) :
    ∃ w' xs, (Instr.makeSlice t (.int kl (n : Int)) (.int kc (n : Int))).run P w = .ok (.slice (some ⟨w.heap.size, 0, none⟩) n n) w' ∧ w'.ownsRow w.heap.size e size (.slice (some ⟨w.heap.size, 0, none⟩) n n) n xs ∧ Below w.heap.size w w' ∧ w.heap.size < w'.heap.size := by
  obtain ⟨i, z, ht, hi, hz, hs, hb, hzs, hsz⟩ := hT
  have hmul : i.bytes * n ≤ 281474976710656 := by
    rw [hb]
    exact Nat.le_trans (Nat.mul_le_mul hby hn) (by decide)
  obtain ⟨w', hr, ho, hg⟩ := run_make_full (P := P) w w.heap.size t e i z size ht hi hz hs kl kc n hmul (by unfold maxLen; omega) (Nat.le_refl _)
  refine ⟨w', _, hr, ho, (Below.refl _ _).grown hg (Nat.le_refl _) (fun k e => by cases e), ?_⟩
  rcases ho.2 with ⟨h, _⟩ | ⟨g, cap, cur, h, _, hh, _⟩
  · cases h
  · injection h with h
    injection h with h
    injection h with h
    subst h
    exact (Array.getElem?_eq_some_iff.1 hh).1
/-- 'copy' of a whole row over a row of the call's own of the same length. -/
theorem run_copyRow {P : Program} {w : World} {base t e size bytes g n cap c : Nat} {xs news : List Value} {A : Option Addr} {ty : TypeId} (hT : SlT P t e size bytes) (ho : w.ownsRow base e size (.slice (some ⟨g, 0, none⟩) n cap) n xs) (hl : news.length = n * size) (hr : RowT w e A news) (h1 : ∀ u ∈ news, u.oneCell' = true) :
    ∃ w', (Builtin.copy_ #[t, t] ty #[.slice (some ⟨g, 0, none⟩) n cap, .slice A n c]).run P w = .ok (.int .i64 (n : Int)) w' ∧ w'.ownsRow base e size (.slice (some ⟨g, 0, none⟩) n cap) n news ∧ w.grownBy w' (some g) := by
  obtain ⟨ti, z, ht, hti, hz, hs, hb, hzs, hsz⟩ := hT
  have hA := hr.none_ hl hsz
  have hnews := hr.news
  obtain ⟨hlx, h2⟩ := ho
  rcases h2 with ⟨h2, h0⟩ | ⟨g', cap', cur, h2, hbg, hh, hnc, hcm, hcs, htk⟩
  · cases h2
  · injection h2 with h2 _ h3
    injection h2 with h2
    injection h2 with h2
    subst h2 h3 hs
    have hcl : cur.toList.length = cap * ti.size := by simpa using hcs
    have hncm : n * ti.size ≤ cap * ti.size := Nat.mul_le_mul_right _ hnc
    rcases A with _ | ad
    · have h0 := hA rfl
      subst h0
      have hnil : news = [] := List.eq_nil_of_length_eq_zero (by simpa using hl)
      subst hnil
      refine ⟨w, ?_, ⟨hl, .inr ⟨g, cap, cur, rfl, hbg, hh, hnc, hcm, hcs, by simp⟩⟩, World.grownBy.refl w _⟩
      simp [Builtin.copy_, run_underlying ht, sizeOf, typeInfo, hti, Builtin.lenOf, Builtin.firstCells, storeCells, goInt]
    · have hld := run_loadCells_list (P := P) w ad news (hnews ad rfl)
      have hst := run_storeCells_at P g 0 e news 0 cur w hh (by rw [← Array.length_toList, hcl, hl]; omega) h1
      refine ⟨w.setRow g (cur.toList.take (0 + 0) ++ news ++ cur.toList.drop (0 + 0 + news.length)).toArray, ?_, ⟨hl, .inr ⟨g, cap, (cur.toList.take (0 + 0) ++ news ++ cur.toList.drop (0 + 0 + news.length)).toArray, rfl, hbg, heap_setRow hh _, hnc, hcm, ?_, ?_⟩⟩, grown_setRow _ _ _⟩
      · rw [hl] at hld
        simp [Builtin.copy_, run_underlying ht, sizeOf, typeInfo, hti, Builtin.lenOf, Builtin.firstCells, goInt, hld, hst]
      · simp only [List.size_toArray, List.length_append, List.length_take, List.length_drop, hcl, hl]
        omega
      · simp only [Nat.add_zero, List.take_zero, List.nil_append]
        rw [List.take_append_of_le_length (by omega), List.take_of_length_le (by omega)]
theorem IMap.nodup' {w : World} {b : Nat} {es : List (Int × Value)} (h : IMap w b es) : (es.map Prod.fst).Nodup := by
  obtain ⟨_, _, _, _, h, _⟩ := h
  exact h
theorem findC_mem {w : World} {g mb : Nat} {cl : List Cl} (h : SesAt w g mb cl) {c : Cl} (hc : c ∈ cl) : findC cl c.id = some c := by
  have hn := IMap.nodup' h.map
  rw [List.map_map] at hn
  clear h
  unfold findC
  induction cl with
  | nil => cases hc
  | cons d cl ih =>
    rw [List.map_cons, List.nodup_cons] at hn
    rw [List.find?_cons]
    rcases List.mem_cons.1 hc with rfl | hc
    · simp
    · have hne : d.id ≠ c.id := fun e => hn.1 (List.mem_map.2 ⟨c, hc, e.symm⟩)
      rw [show (d.id == c.id) = false by simpa using hne]
      exact ih hc hn.2
theorem SesAt.addC {w w1 w' : World} {g mb : Nat} {cl : List Cl} {c : Cl} (h : SesAt w g mb cl) (hb : Below w.heap.size w w1) (hf : findC cl c.id = none) (hok : c.ok w1) (hnew : ∀ b, c.F b → w.heap.size ≤ b)
    (hm : IMap w' mb (put (cl.map fun c => (c.id, c.ptr)) c.id c.ptr)) (hg : w1.grownBy w' (some mb)) :
    SesAt w' g mb (cl ++ [c]) ∧ ∀ b, SesF g mb (cl ++ [c]) b → SesF g mb cl b ∨ w.heap.size ≤ b := by
  have hmb := h.map.lt
  have m : Mod (fun b => b = mb) w w' := (Mod.of_below _ hb).then_grown hg (fun b e => .inl (by injection e with e; exact e.symm))
  have m1 : Mod (fun b => b = mb) w1 w' := Mod.of_grown hg (fun b e => .inl (by injection e with e; exact e.symm))
  have hnt : ∀ b, b = mb → ¬ Ty w b 5 := by
    rintro b rfl
    exact h.map.not_ty
  refine ⟨⟨m.blk h.blk (fun e => by have := h.blk.ty; rw [e] at this; exact h.map.not_ty this), ?_, ?_, ?_⟩, ?_⟩
  · rw [put_none (by rw [lookup_findC, hf]; rfl)] at hm
    simpa using hm
  · intro d hd
    rw [List.mem_append, List.mem_singleton] at hd
    rcases hd with hd | rfl
    · exact (h.ok d hd).mod m (fun b hb => (h.F_ne hd b hb).2) hnt
    · exact hok.mod m1 (fun b hb e => by have := hnew b hb; omega) (fun b e => by subst e; exact (h.map.all hb).not_ty)
  · rw [List.pairwise_append]
    refine ⟨h.apart, by simp, fun d hd x hx b hb hb' => ?_⟩
    rw [List.mem_singleton] at hx
    subst hx
    have := (h.ok d hd).ltF b hb
    have := hnew b hb'
    omega
  · rintro b (e | e | ⟨d, hd, hb⟩)
    · exact .inl (.inl e)
    · exact .inl (.inr (.inl e))
    · rw [List.mem_append, List.mem_singleton] at hd
      rcases hd with hd | rfl
      · exact .inl (.inr (.inr ⟨d, hd, hb⟩))
      · exact .inr (hnew b hb)
def Cl.st (c : Cl) : CSt := (c.key, c.last, c.acc.map Acc.log)
def sigP (cl : List Cl) (id : Int) : Option CSt := (findC cl id).map Cl.st
theorem sigP_snoc {cl : List Cl} {c : Cl} (hno : findC cl c.id = none) : sigP (cl ++ [c]) = upd (sigP cl) c.id c.st := by
  funext j
  unfold sigP upd findC
  rw [List.find?_append]
  by_cases hj : j = c.id
  · subst hj
    unfold findC at hno
    simp [hno]
  · have : ¬ c.id = j := fun e => hj e.symm
    simp [hj, this]
def CopyPost (cl : List Cl) (w : World) (e : Ending) (w' : World) : Prop := ∃ g' mb' cl', e = .returned (.pointer (some ⟨g', 0, none⟩)) ∧ SesAt w' g' mb' cl' ∧ sigP cl' = sigP cl ∧ (∀ b, SesF g' mb' cl' b → w.heap.size ≤ b) ∧ Below w.heap.size w w'
theorem SesAt.not_iter {w : World} {g mb mb' r : Nat} {cl : List Cl} {es : List (Int × Value)} {left : Int → Bool} (h : SesAt w g mb cl) (hi : IIter w mb' r es left) : ∀ b, SesF g mb cl b → b ≠ r := by
  rintro b (rfl | rfl | ⟨f, hf, (rfl | e)⟩) he
  · subst he
    exact hi.not_ty h.blk.ty
  · subst he
    obtain ⟨l, c, hm⟩ := h.map.block
    obtain ⟨_, _, _, _, _, _, _, _, hh, _⟩ := hi
    rw [hm] at hh
    cases hh
  · subst he
    exact hi.not_ty (h.ok f hf).1.ty
  · subst he
    exact hi.not_ty (Ty.of_own (h.ok f hf).2.1 e)
/-- Half way through a copy. -/
structure CopyI (w0 w : World) (g mb g' mb' r : Nat) (cl cn : List Cl) (left : Int → Bool) : Prop where
  it : IIter w mb r (cl.map fun c => (c.id, c.ptr)) left
  old : SesAt w g mb cl
  new : SesAt w g' mb' cn
  ge : ∀ b, SesF g' mb' cn b → w0.heap.size ≤ b
  rge : w0.heap.size ≤ r
  below : Below w0.heap.size w0 w
  sig : ∀ id, sigP cn id = if left id then none else sigP cl id
  lt : ∀ b, SesF g mb cl b → b < w0.heap.size
set_option maxRecDepth 100000 in
set_option maxHeartbeats 2000000 in
theorem copyS_any (g mb : Nat) (cl : List Cl) (w : World) (HS : Hid (SesAt w g mb cl)) :
    Calls Try.prog 28 #[.pointer (some ⟨g, 0, none⟩)] w (CopyPost cl w) := by
  have hg := HS.out.blk.cell 0
  simp only [List.getElem?_toArray, List.getElem?_cons_zero] at hg
  go_enter Try.func28, Try.ntmps28
  go_wp2_with fail
  refine (newS_any _).mono ?_
  rintro e w1 ⟨g', mb', rfl, hg1, hm1, hS1, hb1⟩
  have hS0 := HS.out.all hb1
  have hg2 := (hb1.cell (p := ⟨g, 0, none⟩) HS.out.blk.lt).trans hg
  obtain ⟨w3, hrg, hi3, hb3⟩ := IMap.iter (P := Try.prog) hS0.map Try.underlying85
  have HI : Hid (CopyI w w3 g mb g' mb' w1.heap.size cl [] (fun _ => true)) := Lib.hid ⟨hi3, hS0.all hb3, hS1.all hb3, by
    rintro b (e | e | ⟨_, h, _⟩)
    · omega
    · omega
    · simp at h, hb1.size, bt hb1 hb3, fun id => by simp [sigP, findC], HS.out.ltF⟩
  obtain ⟨r, hr⟩ : ∃ r, w1.heap.size = r := ⟨_, rfl⟩
  rw [hr] at hrg HI
  clear hg hS1 hb1 hS0 hi3 hb3 hg1 hm1 hr
  go_wp2
  clear hg2 hrg
  go_loopw [4] (fun _ wr => ∃ left cn, Hid (CopyI w wr g mb g' mb' r cl cn left)) (fun _ wr => iterLeft wr mb r)
  case atStart => exact ⟨_, _, HI⟩
  case round =>
    obtain ⟨left, cn, HR⟩ := hrel
    clear HI
    rcases HR.out.it.next (P := Try.prog) with ⟨hno, hnx⟩ | ⟨k, v, w4, hkv, hlk, hnx, hen, hI4, hg4, -, hlt⟩
    · have HNO := Lib.hid (show ∀ c ∈ cl, left c.id = false from fun c hc => hno (c.id, c.ptr) (List.mem_map.2 ⟨c, hc, rfl⟩))
      clear hno
      go_wp2
      go_ret
      refine ⟨g', mb', cn, rfl, HR.out.new, ?_, HR.out.ge, HR.out.below⟩
      funext id
      rw [HR.out.sig id]
      split
      · rename_i hl
        unfold sigP
        rcases hf : findC cl id with _ | c
        · rfl
        · obtain ⟨l1, l2, e, hid⟩ := findC_split hf
          have := HNO.out c (by rw [e]; simp)
          rw [hid] at this
          rw [this] at hl
          cases hl
      · rfl
    · obtain ⟨c, hc, he⟩ := List.mem_map.1 hkv
      injection he with he1 he2
      subst he1 he2
      have m4 : Mod (fun b => b = r) wr w4 := Mod.of_grown hg4 (fun b e => .inl (by injection e with e; exact e.symm))
      have hr4 : ∀ b, b = r → ¬ Ty wr b 5 := by
        rintro b rfl
        exact HR.out.it.not_ty
      have hO4 := HR.out.old.mod m4 (fun b hb e => HR.out.old.not_iter HR.out.it b hb e) hr4
      have hN4 := HR.out.new.mod m4 (fun b hb e => HR.out.new.not_iter HR.out.it b hb e) hr4
      have hb4 : Below w.heap.size w w4 := m4.below HR.out.below HR.out.below.size (fun b e => by subst e; exact HR.out.rge)
      have hok := hO4.ok c hc
      obtain ⟨A5, c5, hrv⟩ := own_parts hok.2.1
      obtain ⟨s0, s1, s2, -, -, -⟩ := blk3 hok.1
      rw [hrv] at s2
      have h16 := hok.2.2.2.2
      obtain ⟨w5, xs, hmk, hown5, hb5, hlt5⟩ := makeRow (P := Try.prog) w4 slT_acc .i64 .i64 c.acc.length (by decide) (by omega)
      have hO5 := hO4.all hb5
      have hok5 := hO5.ok c hc
      have hrow5 : RowT w5 104 A5 (c.acc.flatMap Acc.cells) := by
        have := hok5.2.1
        rw [hrv] at this
        exact RowT.of_own this
      obtain ⟨w6, hcp, hown6, hg6⟩ := run_copyRow (c := c5) (ty := 3) slT_acc hown5 (by rw [flat_length Acc.cells 3 Acc.cells_length]) hrow5 (cells_one _)
      have hb46 : Below w4.heap.size w4 w6 := hb5.grown hg6 hb5.size (fun b e => by injection e with e; omega)
      have hO6 := hO4.all hb46
      have hN6 := hN4.all hb46
      have hok6 := hO6.ok c hc
      obtain ⟨s0', s1', s2', -, -, -⟩ := blk3 hok6.1
      have d6 := hN6.blk.cell 0
      simp only [List.getElem?_toArray, List.getElem?_cons_zero] at d6
      have hb67 : Below w6.heap.size w6 (w6.alloc (.cells #[.int .u64 c.key, .int .i64 c.last, .slice (some ⟨w4.heap.size, 0, none⟩) c.acc.length c.acc.length] 94)).drew := ((Below.refl w6.heap.size w6).alloc (Nat.le_refl _) _).drew
      have hN7 := hN6.all hb67
      have hO7 := hO6.all hb67
      have d7 := hN7.blk.cell 0
      simp only [List.getElem?_toArray, List.getElem?_cons_zero] at d7
      have hbs7 : Blk (w6.alloc (.cells #[.int .u64 c.key, .int .i64 c.last, .slice (some ⟨w4.heap.size, 0, none⟩) c.acc.length c.acc.length] 94)).drew w6.heap.size 94 #[.int .u64 c.key, .int .i64 c.last, .slice (some ⟨w4.heap.size, 0, none⟩) c.acc.length c.acc.length] := Blk.new w6 _ _
      have hown7 := own_keep hown6 hb67
      obtain ⟨w8, hmu, hm8, hg8, hs8⟩ := hN7.map.store Try.underlying85 Try.underlying3 c.id (.pointer (some ⟨w6.heap.size, 0, none⟩))
      have hb47 := bt hb46 hb67
      have h46 := hb46.size
      have hnone : findC cn c.id = none := by
        have := HR.out.sig c.id
        rw [hlk, if_pos rfl] at this
        unfold sigP at this
        simpa using this
      obtain ⟨hN8, hF8⟩ := SesAt.addC (c := ⟨c.id, c.key, c.last, c.acc, w6.heap.size, .slice (some ⟨w4.heap.size, 0, none⟩) c.acc.length c.acc.length⟩) hN4 hb47 hnone
        ⟨hbs7, own_lower hown7 (Nat.zero_le _), (hO7.ok c hc).2.2.1, hok.2.2.2.1, h16⟩ (by
          rintro b (e | e)
          · dsimp only at e
            omega
          · injection e with e
            dsimp only at e
            omega) hm8 hg8
      have hmbne : ∀ b, SesF g mb cl b → b ≠ mb' := fun b hb e => by
        have h1 := HR.out.lt b hb
        have h2 := HR.out.ge mb' (.inr (.inl rfl))
        omega
      have m8 : Mod (fun b => b = mb') (w6.alloc (.cells #[.int .u64 c.key, .int .i64 c.last, .slice (some ⟨w4.heap.size, 0, none⟩) c.acc.length c.acc.length] 94)).drew w8 := Mod.of_grown hg8 (fun b e => .inl (by injection e with e; exact e.symm))
      have hI7 := hI4.mod (Mod.of_below (fun _ => False) hb47) (fun h => h) (fun h => h)
      have hrmb : r ≠ mb' := fun e => hN7.not_iter hI7 mb' (.inr (.inl rfl)) e.symm
      have hI8 := hI7.mod m8 (fun e => hmbne mb (.inr (.inl rfl)) e) hrmb
      have hO8 := hO7.mod m8 hmbne (fun b e => by subst e; exact hN7.map.not_ty)
      have hb8 : Below w.heap.size w w8 := m8.below (hb4.trans (hb47.mono hb4.size)) (Nat.le_trans hb4.size hb47.size) (fun b e => by subst e; exact HR.out.ge b (.inr (.inl rfl)))
      have HNEXT : Hid (CopyI w w8 g mb g' mb' r cl (cn ++ [⟨c.id, c.key, c.last, c.acc, w6.heap.size, .slice (some ⟨w4.heap.size, 0, none⟩) c.acc.length c.acc.length⟩]) (fun j => left j && !(j == c.id))) := Lib.hid ⟨hI8, hO8, hN8, fun b hb => (hF8 b hb).elim (HR.out.ge b) (fun h => Nat.le_trans hb4.size h), HR.out.rge, hb8, fun id => by
        rw [sigP_snoc (c := ⟨c.id, c.key, c.last, c.acc, w6.heap.size, .slice (some ⟨w4.heap.size, 0, none⟩) c.acc.length c.acc.length⟩) hnone]
        unfold upd
        dsimp only
        by_cases hj : id = c.id
        · subst hj
          rw [if_pos rfl]
          simp only [BEq.rfl, Bool.not_true, Bool.and_false, Bool.false_eq_true, if_false]
          unfold sigP
          rw [findC_mem HS.out hc]
          rfl
        · rw [if_neg hj, HR.out.sig id]
          simp [hj], HR.out.lt⟩
      have HLT : Hid (iterLeft w8 mb r < iterLeft wr mb r) := Lib.hid (by
        have e : iterLeft w8 mb r = iterLeft w4 mb r := by
          unfold iterLeft
          rw [m8.block mb hI7.lt.1 (fun e => hmbne mb (.inr (.inl rfl)) e), m8.block r hI7.lt.2 hrmb, hb47.block mb hI4.lt.1, hb47.block r hI4.lt.2]
        rw [e]
        exact hlt)
      replace hnx : ∀ ty, (Instr.next (.pointer (some ⟨r, 0, none⟩)) false ty).run Try.prog wr = .ok (.tuple #[.bool true, .int .i64 c.id, .pointer (some ⟨c.sb, 0, none⟩)]) w4 := hnx
      replace hen : (Instr.entry (.pointer (some ⟨r, 0, none⟩))).run Try.prog w4 = .ok (.tuple #[.int .i64 c.id, .pointer (some ⟨c.sb, 0, none⟩)]) w4 := hen
      have s2b := (hb5.cell (p := ⟨c.sb, 2, none⟩) hok.1.lt).trans s2
      rw [hrv] at s2'
      clear hkv hlk hI4 hg4 hlt m4 hr4 hO4 hN4 hb4 hok hown5 hb5 hlt5 hO5 hok5 hrow5 hown6 hg6 hb46 hO6 hN6 hok6 hb67 hN7 hO7 hbs7 hown7 hm8 hg8 hs8 hb47 h46 hnone hN8 hF8 hmbne m8 hI7 hrmb hI8 hO8 hb8 hrv
      go_wp2
      go_region_law (fail)
      all_goals
        go_wp2
        exact ⟨⟨_, _, HNEXT⟩, HLT.out⟩
end Go.Proofs.Ytompkpleiichaaa
