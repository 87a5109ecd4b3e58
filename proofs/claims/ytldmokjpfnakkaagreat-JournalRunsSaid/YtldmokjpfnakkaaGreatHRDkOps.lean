/- worldmintref24: Sync, Truncate, Append on a disk of one file. -/
import Derived.Test.YtldmokjpfnakkaaGreatHRDk
import Derived.Test.YtldmokjpfnakkaaGreatHG31
import Derived.Deep.QuietTactic
import Derived.BigQuiet

namespace Go.Proofs.YtldmokjpfnakkaaGreat
open Go.RowKit

theorem own_frz {w : World} {base e size n m c g : Nat} {xs : List Value} (h : w.ownsRow base e size (.slice (some ⟨g, 0, none⟩) m c) n xs) (i : Nat) : w.frozen? ⟨g, i, none⟩ = false := by
  rcases h.2 with ⟨h, _⟩ | ⟨g1, cap, cur, h, _, hh, _⟩
  · cases h
  · injection h with h _ _
    injection h with h
    injection h with h _ _
    subst h
    simp [World.frozen?, hh]
theorem row2_same (z v : Value) {i : Nat} (h : i ≠ 2) : (row2 z v).set i z = row2 z v := by
  apply List.ext_getElem?
  intro j
  by_cases hj : j < 64
  · by_cases e : i = j
    · subst e
      rw [List.getElem?_set_self (by rw [row2_len]; exact hj), row2_at _ _ hj, if_neg h]
    · rw [List.getElem?_set_ne e]
  · rw [List.getElem?_eq_none (by rw [List.length_set, row2_len]; omega), List.getElem?_eq_none (by rw [row2_len]; omega)]
section
variable {w w' : World} {g gB gF room dur : Nat} {off : Bool} {plan : Int} {v : Value} {bs : List UInt8}
theorem RDk.neBF (h : RDk w g gB gF room off plan v bs dur) : gB ≠ gF ∧ g ≠ gB ∧ g ≠ gF ∧ (∀ b, v.ownBlock = some b → b ≠ g ∧ b ≠ gB ∧ b ≠ gF) := by
  refine ⟨fun e => absurd (Ty.unique h.tyB (e ▸ h.tyF)) (by decide), fun e => absurd (Ty.unique h.blk.ty (e ▸ h.tyB)) (by decide), fun e => absurd (Ty.unique h.blk.ty (e ▸ h.tyF)) (by decide), fun b hb => ⟨fun e => ?_, fun e => ?_, fun e => ?_⟩⟩
  · subst e
    exact absurd (Ty.unique h.blk.ty (h.tyV hb)) (by decide)
  · subst e
    exact absurd (Ty.unique h.tyB (h.tyV hb)) (by decide)
  · subst e
    exact absurd (Ty.unique h.tyF (h.tyV hb)) (by decide)
/-- The number of durable bytes is stored (or 0 anywhere else). -/
theorem RDk.setF (h : RDk w g gB gF room off plan v bs dur) {i d : Nat} (hd : d ≤ bs.length) (h0 : i ≠ 2 → d = 0) : w.frozen? ⟨gF, i, none⟩ = false ∧ RDk (w.setCell ⟨gF, i, none⟩ (fV d)) g gB gF room off plan v bs (if i = 2 then d else dur) ∧ Mod (fun b => b = gF) w (w.setCell ⟨gF, i, none⟩ (fV d)) := by
  obtain ⟨n1, n2, n3, n4⟩ := h.neBF
  have m : Mod (fun b => b = gF) w (w.setCell ⟨gF, i, none⟩ (fV d)) := (Mod.refl (fun b => b = gF) w).set (p := ⟨gF, i, none⟩) (.inl rfl) _
  have hs := h.firm.stored i (fV d)
  refine ⟨own_frz h.firm i, ⟨m.blk h.blk n3, m.own h.rows (fun b hb e => n1 (by injection hb with hb; exact hb.trans e)), ?_, m.own h.own (fun b hb e => (n4 b hb).2.2 e), ?_, h.room_le, h.plan_le⟩, m⟩
  · by_cases e : i = 2
    · subst e
      rw [if_pos rfl]
      have := hs.1
      rw [row2_set] at this
      exact this
    · rw [if_neg e]
      have := hs.1
      rw [h0 e, row2_same _ _ e] at this
      rw [h0 e]
      exact this
  · split
    · exact hd
    · exact h.dle
/-- The bytes are stored. -/
theorem RDk.setB (h : RDk w g gB gF room off plan v bs dur) {v' : Value} {bs' : List UInt8} (hown : w.ownsRow 0 5 1 v' bs'.length (bytesV bs')) (hd : dur ≤ bs'.length) (hr : bs'.length ≤ room) : w.frozen? ⟨gB, 2, none⟩ = false ∧ RDk (w.setCell ⟨gB, 2, none⟩ v') g gB gF room off plan v' bs' dur ∧ Mod (fun b => b = gB) w (w.setCell ⟨gB, 2, none⟩ v') := by
  obtain ⟨n1, n2, n3, n4⟩ := h.neBF
  have m : Mod (fun b => b = gB) w (w.setCell ⟨gB, 2, none⟩ v') := (Mod.refl (fun b => b = gB) w).set (p := ⟨gB, 2, none⟩) (.inl rfl) _
  have hs := h.rows.stored 2 v'
  refine ⟨own_frz h.rows 2, ⟨m.blk h.blk n2, ?_, m.own h.firm (fun b hb e => n1 (by injection hb with hb; exact (hb.trans e).symm)), m.own hown (fun b hb e => ?_), hd, ⟨h.room_le.1, hr⟩, h.plan_le⟩, m⟩
  · have := hs.1
    rw [row2_set] at this
    exact this
  · subst e
    exact absurd (Ty.unique h.tyB (Ty.of_own hown hb)) (by decide)
end
set_option maxRecDepth 100000 in
theorem rsync_any (g gB gF room dur : Nat) (plan : Int) (v : Value) (bs : List UInt8) (w : World) (HD : Hid (RDk w g gB gF room false plan v bs dur)) :
    Calls Tryz.prog 28 #[.pointer (some ⟨g, 0, none⟩)] w fun e w' => e = .returned (.int .i64 (if failOff false plan then 23 else 0)) ∧ RNext3 g gB gF room v (failOff false plan) (failPlan plan) bs (if failOff false plan then dur else bs.length) w w' := by
  obtain ⟨o, ho⟩ : ∃ o, failOff false plan = o := ⟨_, rfl⟩
  rw [ho]
  have HOO := Lib.hid ho
  clear ho
  obtain ⟨c0, c1, c2, c3, c4, f3, f4⟩ := HD.out.cells
  go_enter Tryz.func28, Tryz.ntmps28
  go_wp2_with fail
  refine (rstep_any g gB gF room dur plan v bs w HD).mono ?_
  rintro e w1 ⟨rfl, hN⟩
  rw [HOO.out] at hN ⊢
  cases o
  · obtain ⟨v1, hD1, m1, hF1⟩ := hN
    obtain ⟨A, c, rfl⟩ := hD1.slice
    have HF1 := Lib.hid hF1
    have HM1 := Lib.hid m1
    have hn : bs.length ≤ 16777216 := by have := hD1.room_le; omega
    have HD1 := Lib.hid hD1
    clear hF1 m1 hD1 c0 c1 c2 c3 c4 f3 f4 HD
    obtain ⟨n, hn'⟩ : ∃ n, bs.length = n := ⟨_, rfl⟩
    have HN := Lib.hid hn'
    rw [hn'] at HD1 HF1 hn
    clear hn'
    go_wp2
    go_loopg [4] 64 (fun gk iv wr => ∃ i : Nat, i + gk = 64 ∧ iv = .int .i64 (i : Int) ∧ Hid (RDk wr g gB gF room false (failPlan plan) (.slice A n c) bs (if 2 < i then n else dur)) ∧ Hid (Mod (fun b => b = gF) w1 wr))
    case atStart => exact ⟨0, by omega, rfl, HD1, Lib.hid (Mod.refl _ _)⟩
    case round =>
      obtain ⟨i, hi, rfl, HD, HM⟩ := hrel
      rcases Nat.lt_or_ge i 64 with hlt | hge
      · have hiI : (i : Int) < 64 := by omega
        have hi0 : (0 : Int) ≤ (i : Int) := by omega
        obtain ⟨c0, c1, c2, c3, c4, f3, f4⟩ := HD.out.cells
        have b0 := HD.out.bAt hlt
        unfold nilV at b0
        obtain ⟨n1, n2, n3, n4⟩ := HD.out.neBF
        have hs := HD.out.setF (i := i) (d := if i = 2 then n else 0) (by rw [HN.out]; split <;> omega) (fun e => if_neg e)
        obtain ⟨s1, s2, s3⟩ := hs
        have HS := Lib.hid s2
        have HMS := Lib.hid (HM.out.trans s3 (fun b hb => .inl hb))
        have HHI := Lib.hid hi
        clear s2 s3 hi n4
        unfold fV at HS HMS
        have q0 := HD.out.fAt hlt
        unfold fV at q0
        have HSZ := Lib.hid HM.out.size
        by_cases e2 : i = 2
        · subst e2
          rw [if_pos rfl] at b0 q0
          simp only [if_true] at HS HMS
          go_wp2
          go_region
          go_wp2
          go_roundg (64 - (2 + 1))
          case measure => have := HHI.out; omega
          case rel => exact ⟨3, by have := HHI.out; omega, by go_num, Lib.hid (HS.out.all ((Below.refl _ _).drew)), Lib.hid (HMS.out.then_below ((Below.refl _ _).drew))⟩
        · rw [if_neg e2] at b0 q0
          simp only [if_neg e2] at HS HMS
          have he : (if 2 < i then n else dur) = if 2 < i + 1 then n else dur := by
            by_cases h : 2 < i
            · rw [if_pos h, if_pos (by omega)]
            · rw [if_neg h, if_neg (by omega)]
          rw [he] at HS
          clear he
          go_wp2
          go_region
          go_wp2
          go_roundg (64 - (i + 1))
          case measure => have := HHI.out; omega
          case rel => exact ⟨i + 1, by have := HHI.out; omega, by go_num, Lib.hid (HS.out.all ((Below.refl _ _).drew)), Lib.hid (HMS.out.then_below ((Below.refl _ _).drew))⟩
      · obtain rfl : i = 64 := by omega
        have HDf := HD.out
        rw [if_pos (by decide)] at HDf
        have HP : Hid (RNext3 g gB gF room v false (failPlan plan) bs n w wr) := Lib.hid ⟨_, HDf, HM1.out.trans HM.out (fun b e => .inl (.inr (.inr e))), HF1.out⟩
        clear HDf
        go_wp2
        go_ret
        exact ⟨rfl, by rw [HN.out]; exact HP.out⟩
  · have HP := Lib.hid hN
    clear hN
    go_wp2
    go_ret
    exact ⟨rfl, HP.out⟩
theorem slT_u8d : SlT Tryz.prog 39 5 1 1 := SlT.of Tryz.underlying39 (by kernel_rfl) (by decide)
theorem bytesV_news {w : World} {A : Option Addr} {n : Nat} {bs : List UInt8} (h : Rd w w.heap.size A n (vByte bs)) (hl : bs.length = n) : ∀ ad, A = some ad → ∀ j u, (bytesV bs)[j]? = some u → w.cell? (ad.add j) = some u := by
  intro ad e j u hu
  unfold bytesV at hu
  have hj : j < bs.length := by
    have := (List.getElem?_eq_some_iff.1 hu).1
    simpa using this
  obtain ⟨b, off, e2, -, hc⟩ := h (by omega)
  rw [e] at e2
  injection e2 with e2
  subst e2
  have := hc j (by omega)
  rw [List.getElem?_map, List.getElem?_eq_getElem hj] at hu
  simp only [Option.map_some, Option.some.injEq] at hu
  subst hu
  have e3 : (⟨b, off, none⟩ : Addr).add j = ⟨b, off + j, none⟩ := by simp [Addr.add]
  rw [e3, this]
  unfold vByte
  simp [List.getElem?_eq_getElem hj]
theorem bytesV_one (bs : List UInt8) : ∀ u ∈ bytesV bs, u.oneCell' = true := by
  intro u hu
  unfold bytesV at hu
  obtain ⟨b, -, rfl⟩ := List.mem_map.1 hu
  rfl
theorem bytesV_len (bs : List UInt8) : (bytesV bs).length = bs.length := by unfold bytesV; simp
theorem bytesV_app (a b : List UInt8) : bytesV (a ++ b) = bytesV a ++ bytesV b := by unfold bytesV; simp
set_option maxRecDepth 100000 in
theorem rappend_full (g gB gF room dur : Nat) (plan : Int) (A : Option Addr) (n c : Nat) (bs : List UInt8) (B : Option Addr) (m cb : Nat) (w : World) (HD : Hid (RDk w g gB gF room false plan (.slice A n c) bs dur)) (hn : n ≤ 16777216) (hm : m ≤ 1000000) (hf : room < n + m) :
    Calls Tryz.prog 37 #[.pointer (some ⟨g, 0, none⟩), .int .i64 2, .slice B m cb] w fun e w' => e = .returned (.int .i64 22) ∧ Below w.heap.size w w' := by
  obtain ⟨c0, c1, c2, c3, c4, f3, f4⟩ := HD.out.cells
  have hfI : (room : Int) < (n : Int) + (m : Int) := by omega
  go_enter Tryz.func37, Tryz.ntmps37
  go_wp2
  go_quiet ((go_at_call 51; exact (rused_any g gB gF room dur false plan A n c bs _ (Lib.hid (HD.out.all (below_drewN (Below.refl _ _) _))) hn).mono (fun e w'' h => ⟨h.1, _, h.2⟩)))
  go_wp2
  go_ret
  exact ⟨rfl, below_drewN (Below.refl _ _) _⟩
theorem step_app_run {P : Program} {w w' : World} {ops : Array Oper} {o : Oper} {a : Act} {K : Act → World → Prop} {Q : Exit → Act → World → Prop} {E : Prop} {s x : Operand} {t : TypeId} {v vx v' : Value} (hrun : (Builtin.append_ #[t, t] o.type #[v, vx]).run P w = .ok v' w') (hgd : o.guard = none)
    (ho : o.op = .call { callee := .builtin .append, args := #[s, x], argTypes := #[t, t] }) (hs : a.eval s = v) (hx : a.eval x = vx) (hK : K (a.put o.dst v') w') : if Region.wanted o (yielded ops a.tmps) = true then Oper.wp P o a w K Q else E := by
  have hw : Region.wanted o (yielded ops a.tmps) = true := by simp [Region.wanted, hgd]
  rw [if_pos hw]
  unfold Oper.wp
  simp [execOp, ho, resolve, invoke, builtin, hs, hx, hrun, Result.andThen]
  exact hK
set_option maxRecDepth 100000 in
set_option maxHeartbeats 8000000 in
theorem rappend_any (g gB gF room dur : Nat) (plan : Int) (A : Option Addr) (n c : Nat) (bs : List UInt8) (B : Option Addr) (m cb : Nat) (xs : List UInt8) (o : Bool) (w : World) (HD : Hid (RDk w g gB gF room false plan (.slice A n c) bs dur)) (HR : Hid (Rd w w.heap.size B m (vByte xs))) (HX : Hid (xs.length = m)) (hn : n ≤ 16777216) (hm : m ≤ 1000000) (hf : n + m ≤ room) (HO : Hid (failOff false plan = o)) :
    Calls Tryz.prog 37 #[.pointer (some ⟨g, 0, none⟩), .int .i64 2, .slice B m cb] w fun e w' => e = .returned (.int .i64 (if o then 23 else 0)) ∧ RNext g gB gF room (.slice A n c) o (failPlan plan) (bs ++ xs) dur w w' := by
  obtain ⟨c0, c1, c2, c3, c4, f3, f4⟩ := HD.out.cells
  have hfI : ¬ ((room : Int) < (n : Int) + (m : Int)) := by omega
  go_enter Tryz.func37, Tryz.ntmps37
  go_wp2
  go_quiet ((go_at_call 51; exact (rused_any g gB gF room dur false plan A n c bs _ (Lib.hid (HD.out.all (below_drewN (Below.refl _ _) _))) hn).mono (fun e w'' h => ⟨h.1, _, h.2⟩)))
  have hbq := below_drewN (Below.refl w.heap.size w) nq
  obtain ⟨w1, hw1⟩ : ∃ w1, w1 = w.drewN nq := ⟨_, rfl⟩
  rw [← hw1] at hbq ⊢
  have hD1 := HD.out.all hbq
  have hR1 := HR.out.below hbq (Nat.le_refl _)
  obtain ⟨c0, c1, c2, c3, c4, f3, f4⟩ := hD1.cells
  have b2 := hD1.bAt (i := 2) (by omega)
  rw [if_pos rfl] at b2
  have hlen : bs.length = n := (Bts.of_own hD1.own).2.symm
  have hrd := (Bts.of_own hD1.own).1.rd
  rw [hlen] at hrd
  obtain ⟨A2, k2, w2, hrun2, hown2, hb2⟩ := app_cells (P := Tryz.prog) (ty := 39) slT_u8d (World.ownsRow_nil w1 w1.heap.size 5 1) A n c (bytesV bs) (by rw [bytesV_len, hlen, Nat.mul_one]) (fun e => by
    by_cases h0 : 0 < n
    · obtain ⟨b, off, e2, -⟩ := hrd h0
      rw [e] at e2
      cases e2
    · omega) (bytesV_news hrd hlen) (bytesV_one bs) (by omega) (by decide) (Nat.le_refl _)
  rw [Nat.zero_add, List.nil_append] at hown2
  rw [Nat.zero_add] at hrun2
  have hb3 := (Below.refl w2.heap.size w2).drew
  have hown2' := own_keep hown2 hb3
  have hR3 := (hR1.below hb2 (by have := hbq.size; omega)).below hb3 (by have h1 := hbq.size; have h2 := hb2.size; omega)
  have hR3' : Rd w2.drew w2.drew.heap.size B m (vByte xs) := by
    intro h0
    obtain ⟨b, off, e2, hlt, hc⟩ := hR3 h0
    refine ⟨b, off, e2, ?_, hc⟩
    have h1 := hbq.size
    have h2 := hb2.size
    have h3 := hb3.size
    omega
  have hs2 := hb2.size
  obtain ⟨A4, k4, w4, hrun4, hown4, hb4⟩ := app_cells (P := Tryz.prog) (ty := 39) slT_u8d hown2' B m cb (bytesV xs) (by rw [bytesV_len, HX.out, Nat.mul_one]) (fun e => by
    by_cases h0 : 0 < m
    · obtain ⟨b, off, e2, -⟩ := HR.out h0
      rw [e] at e2
      cases e2
    · omega) (bytesV_news hR3' HX.out) (bytesV_one xs) (by omega) (by decide) (by have h3 := hb3.size; omega)
  rw [← bytesV_app] at hown4
  have hlen2 : (bs ++ xs).length = n + m := by rw [List.length_append, hlen, HX.out]
  have hB4 : Below w1.heap.size w1 w4 := (hb2.trans (hb3.mono hs2)).trans hb4
  have hD4 := hD1.all hB4
  have hlt4 := hB4.size
  obtain ⟨c0', c1', c2', c3', c4', f3', f4'⟩ := hD4.cells
  have b4 := hD4.bAt (i := 2) (by omega)
  rw [if_pos rfl] at b4
  obtain ⟨s1, s2, s3⟩ := hD4.setB (v' := .slice A4 (n + m) k4) (bs' := bs ++ xs) (by rw [hlen2]; exact own_lower hown4 (Nat.zero_le _)) (by have := hD4.dle; rw [List.length_append]; omega) (by rw [hlen2]; exact hf)
  have HD5 := Lib.hid s2
  have hM5 : Mod (RDF g gB gF (.slice A n c)) w (w4.setCell ⟨gB, 2, none⟩ (.slice A4 (n + m) k4)) := ((Mod.of_below _ (bt hbq hB4)).trans s3 (fun b e => .inl (.inr (.inl e))))
  have HM5 := Lib.hid hM5
  have HF5 : Hid (∀ b, RDF g gB gF (.slice A4 (n + m) k4) b → RDF g gB gF (.slice A n c) b ∨ w.heap.size ≤ b) := Lib.hid (fun b hb => by
    rcases hb with h | h | h | h
    · exact .inl (.inl h)
    · exact .inl (.inr (.inl h))
    · exact .inl (.inr (.inr (.inl h)))
    · have h1 := (hown4.lt b h).1
      have h2 := hbq.size
      exact .inr (by omega))
  have HA4 := Lib.hid hrun4
  have hnnI : (0 : Int) ≤ (n : Int) := by omega
  obtain ⟨d0, d1, d2, d3, d4, -, -⟩ := (hD1.all hb2).cells
  clear hrd hown2 hown2' hR3 hR3' hR1 hown4 hB4 hD4 hM5 s2 s3 hb3 hb4 hs2 hlt4 hD1 hbq hw1 hlen2 c0' c2' c3' c4' f3' f4'
  clear hrun4
  go_wp2_with (at_builtin; refine wpList_append_run2 hrun2 rfl rfl rfl rfl ?_; clear hrun2)
  go_region_law (refine step_app_run HA4.out (by rfl) (by rfl) (by rfl) (by rfl) ?_)
  all_goals
    obtain ⟨w5, hw5⟩ : ∃ w5, w5 = w4.setCell ⟨gB, 2, none⟩ (.slice A4 (n + m) k4) := ⟨_, rfl⟩
    rw [← hw5] at HD5 HM5 ⊢
    clear hw5 d0 d1 d2 d3 d4 c1' b4 s1 HA4 c0 c1 c2 c3 c4 f3 f4 b2
    go_wp2_with fail
    refine (rstep_any g gB gF room dur plan _ (bs ++ xs) w5 HD5).mono ?_
    rintro e w6 ⟨rfl, hN6⟩
    obtain ⟨v6, hD6, m6, hF6⟩ := hN6.to
    rw [HO.out] at hD6 ⊢
    have HP := Lib.hid (show RNext g gB gF room (.slice A n c) o (failPlan plan) (bs ++ xs) dur w w6 from ⟨v6, hD6, HM5.out.trans m6 (fun b hb => HF5.out b hb), fun b hb => by
      rcases hF6 b hb with h | h
      · exact HF5.out b h
      · have := HM5.out.size
        exact .inr (by omega)⟩)
    clear hD6 m6 hF6 hN6 HO HD5 HM5 HF5 HD
    cases o
    · go_wp2
      go_ret
      exact ⟨rfl, HP.out⟩
    · go_wp2
      go_ret
      exact ⟨rfl, HP.out⟩
end Go.Proofs.YtldmokjpfnakkaaGreat
