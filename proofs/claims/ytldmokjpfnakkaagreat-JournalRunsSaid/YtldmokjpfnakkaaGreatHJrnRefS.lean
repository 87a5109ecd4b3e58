/- journal: the reference's first and Scan. -/
import Derived.Test.YtldmokjpfnakkaaGreatHJrnScan
import Derived.Test.YtldmokjpfnakkaaGreatHWireRefR

namespace Go.Proofs.YtldmokjpfnakkaaGreat
open Go.RowKit

theorem rfirst_no1 {k : Int} {bs : List UInt8} {n : Nat} (hk1 : -9223372036854775808 ≤ k) (hk2 : k ≤ 9223372036854775807) (hl : bs.length = n) (hn : n ≤ 9223372036854775807) (h : (readRaw bs 0).1 ≠ 0 ∨ (inRec (readRaw bs 0).2.1).1 ≠ 0) : FirstIs k bs none := by
  intro x r hx
  obtain ⟨-, -, h2, h3, h1⟩ := first_parts ⟨hk1, hk2⟩ hx (by omega)
  rw [h2] at h3
  rw [h1] at h
  dsimp only at h
  rw [h3] at h
  simp at h
theorem rfirst_no3 {k : Int} {bs rec : List UInt8} {n : Nat} (hk1 : -9223372036854775808 ≤ k) (hk2 : k ≤ 9223372036854775807) (hl : bs.length = n) (hn : n ≤ 9223372036854775807) (hr : (inRec (readRaw bs 0).2.1).2.1 = rec) (h : ¬ frameB k rec <+: bs) : FirstIs k bs none := by
  intro x r hx
  obtain ⟨-, -, h2, h3, h1⟩ := first_parts ⟨hk1, hk2⟩ hx (by omega)
  rw [h2] at h3
  rw [h1] at hr
  dsimp only at hr
  rw [h3] at hr
  subst hr
  exact h ⟨r, hx.symm⟩
def RFirstPost (Q : Nat → Prop) (k : Int) (bs : List UInt8) (w : World) (e : Ending) (w' : World) : Prop :=
  (e = .returned (.tuple #[.slice none 0 0, .bool false]) ∧ FirstIs k bs none ∧ Below w.heap.size w w') ∨
  ∃ z : Bz, e = .returned (.tuple #[.slice z.A z.n z.c, .bool true]) ∧ z.rd w' ∧ NilQ Q z.A z.c ∧ FirstIs k bs (some z.bs) ∧ Below w.heap.size w w'
set_option maxRecDepth 100000 in
set_option maxHeartbeats 1000000 in
theorem rfirst_any (Q : Nat → Prop) (k : Int) (A : Option Addr) (n c : Nat) (bs : List UInt8) (w : World) (HS : Hid (Sb w A n c bs)) (hk1 : -9223372036854775808 ≤ k) (hk2 : k ≤ 9223372036854775807) (hn : n ≤ 1099511627776) (HQ : Hid (NilQ Q A c)) :
    Calls Tryz.prog 46 #[.int .i64 k, .slice A n c] w (RFirstPost Q k bs w) := by
  have HL := Lib.hid HS.out.1
  have hnc := HS.out.2.1
  have hc := HS.out.2.2.1
  have HR := Lib.hid HS.out.rd
  have hb1 := (Below.refl w.heap.size w).alloc (Nat.le_refl _) (.cells #[.slice A n c, .int .i64 0] 101)
  have hR1 : RRdrQ Q (w.alloc (.cells #[.slice A n c, .int .i64 0] 101)) (w.heap.size + 1) w.heap.size bs 0 := ⟨by omega, by simp, A, n, c, Blk.new _ _ _, hnc, hc, fun _ => ⟨HL.out, by omega, (HR.out.all hb1).keep (fun _ _ => rfl) |>.more (by simp), HQ.out⟩⟩
  go_enter Tryz.func46, Tryz.ntmps46
  go_wp2_with fail
  refine (qraw2_any _ _ _ _ _ (Lib.hid hR1)).mono ?_
  rintro e w2 ⟨A2, n2, c2, rfl, hB2, hQ2, hR2, hg2⟩
  have hb2 := below_of_only hb1 hg2 hb1.size (Nat.le_refl _)
  obtain ⟨s1, hs1⟩ : ∃ s1, readRaw bs 0 = s1 := ⟨_, rfl⟩
  rw [hs1] at hB2 hR2
  have HS1 := Lib.hid hs1
  clear hs1 hb1 hR1 hg2
  have hz2 := hR2.lt.2
  have hn2 : n2 ≤ n := by
    have h1 := readRaw_len bs 0
    rw [HS1.out, HL.out] at h1
    have h2 := hB2.len
    simp only at h2
    omega
  have hb3 := (Below.refl w2.heap.size w2).alloc (Nat.le_refl _) (.cells #[.slice A2 n2 c2, .int .i64 0] 101)
  have hR3 : RRdrQ Q (w2.alloc (.cells #[.slice A2 n2 c2, .int .i64 0] 101)) (w2.heap.size + 1) w2.heap.size s1.2.1 0 := ⟨by omega, by simp, A2, n2, c2, Blk.new _ _ _, hB2.cap, hB2.max, fun _ => ⟨hB2.len, by omega, ((hB2.rd.more (by omega)).all hb3).keep (fun _ _ => rfl) |>.more (by simp), hQ2⟩⟩
  have hR2' := hR2.all hb3
  have hB3 := hb2.trans (hb3.mono hb2.size)
  clear hb3 hR2 hb2 hB2 hQ2
  go_wp2_with fail
  refine (qint_any _ _ _ _ _ (Lib.hid hR3)).mono ?_
  rintro e w4 ⟨rfl, hR4, hg4⟩
  have hR2 := hR2'.grown hg4 (fun r e => by injection e with e; omega)
  have hB4 := below_of_only hB3 hg4 hB3.size (by omega)
  clear hR2' hR3 hg4 hB3
  go_wp2_with fail
  refine (qraw2_any _ _ _ _ _ (Lib.hid hR4)).mono ?_
  rintro e w5 ⟨A5, n5, c5, rfl, hB5, hQ5, hR5, hg5⟩
  have hR2' := hR2.grown hg5 (fun r e => by injection e with e; omega)
  have hBB5 := below_of_only hB4 hg5 hB4.size (by omega)
  obtain ⟨s2, hs2⟩ : ∃ s2, inRec s1.2.1 = s2 := ⟨_, rfl⟩
  replace hB5 : BIn w5 (w2.heap.size + 1) (A5, n5, c5) s2.2.1 := by rw [← hs2]; exact hB5
  replace hR5 : RRdrQ Q w5 (w2.heap.size + 1) w2.heap.size s2.2.2 s2.1 := by rw [← hs2]; exact hR5
  have HS2 := Lib.hid hs2
  have hn5 : n5 ≤ n := by
    have h1 := inRec_len s1.2.1
    rw [hs2] at h1
    have h2 := readRaw_len bs 0
    rw [HS1.out, HL.out] at h2
    have h3 := hB5.len
    simp only at h3
    omega
  obtain ⟨q1, -⟩ := hR2'.err_cell
  obtain ⟨q2, -⟩ := hR5.err_cell
  have hz5 := hR5.lt.2
  clear hs2 hR2 hR4 hg5 hB4 hR2' hR5
  by_cases e1 : s1.1 = 0
  · by_cases e2 : s2.1 = 0
    · have t1 : (s1.1 != 0) = false := by simpa using e1
      have t2 : (s2.1 != 0) = false := by simpa using e2
      have HB5 := Lib.hid hB5
      have HN5 := Lib.hid (show s2.2.1.length = n5 from hB5.len)
      have hr5 : Rd w5 w5.heap.size A5 n5 (vByte s2.2.1) := hB5.rd.more hz5
      clear e1 e2 hB5
      go_wp2_with fail
      refine (rframe_any k _ n5 _ s2.2.1 _ HN5 hk1 hk2 (by omega) hr5).mono ?_
      rintro e w6 ⟨A6, n6, c6, rfl, HN6, hown6, hb6⟩
      have hB6 := hBB5.trans (hb6.mono hBB5.size)
      have hz : Bz.rd w6 ⟨A5, n5, c5, s2.2.1⟩ := Bz.rd.all (w := w5) (HB5.out.more hz5) hb6
      obtain ⟨-, hnc6, hr6⟩ := rd_bytes hown6
      have hp6 : 0 < n6 := by have := frameB_pos k s2.2.1; have := HN6.out; omega
      have hc6 := own_cap hown6
      have HZ := Lib.hid hz
      have hrb := HR.out.all hB6
      clear hb6 hown6 hr5 hz hBB5 q1 q2 t1 t2
      by_cases hlen : n6 ≤ n
      · obtain ⟨b, off, rfl, hb, -⟩ := HR.out (by omega)
        have HTK := Lib.hid (show (bs.take n6).length = n6 by rw [List.length_take, HL.out]; omega)
        have hrt : Rd w6 w6.heap.size (some ⟨b, off, none⟩) n6 (vByte (bs.take n6)) := (hrb.less hlen).congr (fun j hj => by simp [vByte, hj])
        clear hrb
        by_cases hpre : frameB k s2.2.1 = bs.take n6
        · have HP := Lib.hid hpre
          clear hpre
          go_wp2_with fail
          refine (sameBytes_true _ _ _ _ _ _ (frameB k s2.2.1) (bs.take n6) _ HP.out HN6 HTK hr6 hrt (by omega) (by omega)).mono ?_
          rintro e w7 ⟨rfl, hb7⟩
          go_wp2
          go_ret2
          refine .inr ⟨⟨A5, n5, c5, s2.2.1⟩, rfl, HZ.out.all hb7, hQ5, ⟨bs.drop n6, ?_⟩, hB6.trans (hb7.mono hB6.size)⟩
          dsimp only
          rw [HP.out, List.take_append_drop]
        · have HP := Lib.hid (show decide (frameB k s2.2.1 = bs.take n6) = false by simpa using hpre)
          have HNP := Lib.hid (show ¬ frameB k s2.2.1 <+: bs by
            intro h
            apply hpre
            rw [List.prefix_iff_eq_take, HN6.out] at h
            exact h)
          clear hpre
          go_wp2_with fail
          refine (sameBytes_list _ _ _ _ _ _ (frameB k s2.2.1) (bs.take n6) _ HN6 HTK hr6 hrt (by omega) (by omega)).mono ?_
          rintro e w7 ⟨rfl, hb7⟩
          rw [HP.out]
          go_wp2
          go_ret2
          exact .inl ⟨rfl, rfirst_no3 hk1 hk2 HL.out (by omega) (by rw [HS1.out, HS2.out]) HNP.out, hB6.trans (hb7.mono hB6.size)⟩
      · have HNP := Lib.hid (show ¬ frameB k s2.2.1 <+: bs by
          intro h
          have := h.length_le
          rw [HN6.out, HL.out] at this
          omega)
        go_wp2
        go_ret2
        exact .inl ⟨rfl, rfirst_no3 hk1 hk2 HL.out (by omega) (by rw [HS1.out, HS2.out]) HNP.out, hB6⟩
    · have t1 : (s1.1 != 0) = false := by simpa using e1
      have t2 : (s2.1 != 0) = true := by simpa using e2
      go_wp2
      go_ret2
      exact .inl ⟨rfl, rfirst_no1 hk1 hk2 HL.out (by omega) (.inr (by rw [HS1.out, HS2.out]; exact e2)), hBB5⟩
  · have t1 : (s1.1 != 0) = true := by simpa using e1
    go_wp2
    go_ret2
    exact .inl ⟨rfl, rfirst_no1 hk1 hk2 HL.out (by omega) (.inl (by rw [HS1.out]; exact e1)), hBB5⟩

def RScanPost (bs : List UInt8) (w : World) (e : Ending) (w' : World) : Prop :=
  ∃ (v : Value) (L : List Bz) (m : Nat), e = .returned (.tuple #[v, .int .i64 (m : Int)]) ∧ LsOwnR w' w.heap.size v L ∧ ScanIs bs (bsOf L) m ∧ Below w.heap.size w w'
/-- The state of the reference's Scan. -/
structure RScanI (w : World) (bs : List UInt8) (v : Value) (m : Nat) (L : List Bz) (W : World) : Prop where
  own : LsOwnR W w.heap.size v L
  low : ∀ y ∈ L, NilQ (fun b => b < w.heap.size) y.A y.c
  len : m = (framesB 0 (bsOf L)).length
  cut : bs = framesB 0 (bsOf L) ++ bs.drop m
  below : Below w.heap.size w W
theorem RScanI.all {w : World} {bs : List UInt8} {v : Value} {m : Nat} {L : List Bz} {W W' : World} (h : RScanI w bs v m L W) (hb : Below W.heap.size W W') : RScanI w bs v m L W' := ⟨h.own.all hb, h.low, h.len, h.cut, h.below.trans (hb.mono h.below.size)⟩
theorem RScanI.count {w : World} {bs : List UInt8} {v : Value} {m : Nat} {L : List Bz} {W : World} (h : RScanI w bs v m L W) : 2 * L.length ≤ m ∧ m ≤ bs.length := by
  have h1 := framesB_len (bsOf L) 0
  rw [bsOf_length, ← h.len] at h1
  have h2 := congrArg List.length h.cut
  rw [List.length_append, ← h.len] at h2
  exact ⟨h1, by omega⟩
set_option maxRecDepth 100000 in
set_option maxHeartbeats 1000000 in
theorem rscan_any (A : Option Addr) (n c : Nat) (bs : List UInt8) (w : World) (HS : Hid (Sb w A n c bs)) (hn : n ≤ 1099511627776) :
    Calls Tryz.prog 26 #[.slice A n c] w (RScanPost bs w) := by
  have HL := Lib.hid HS.out.1
  have hnc := HS.out.2.1
  have hc := HS.out.2.2.1
  go_enter Tryz.func26, Tryz.ntmps26
  go_wp2
  go_loopw [4, 5] (fun v i wr => ∃ (m k : Nat) (L : List Bz), m ≤ n ∧ k ≤ n ∧ i = .int .i64 (m : Int) ∧ (∃ A' c', v = .slice A' k c') ∧ Hid (L.length = k) ∧ Hid (RScanI w bs v m L wr)) (fun _ i _ => n - (intOf i).toNat)
  case atStart => exact ⟨0, 0, [], by omega, by omega, rfl, ⟨none, 0, rfl⟩, Lib.hid rfl, Lib.hid ⟨LsOwnR.nil _ _, fun _ h => absurd h (by simp), rfl, rfl, Below.refl _ _⟩⟩
  case round =>
    obtain ⟨m, k, L, hm, hk, rfl, ⟨A', c', rfl⟩, HK, HI⟩ := hrel
    by_cases hlt : m < n
    · obtain ⟨b, off, rfl, hbw, -⟩ := HS.out.rd (by omega)
      have HQ : Hid (NilQ (fun b => b < w.heap.size) (some ⟨b, off + m, none⟩) (c - m)) := Lib.hid (NilQ.of_ _ hbw)
      have HSB : Hid (Sb wr (some ⟨b, off + m, none⟩) (n - m) (c - m) (bs.drop m)) := Lib.hid ((HS.out.all HI.out.below).skip hm (fun _ => rfl))
      go_wp2_with fail
      refine (rfirst_any _ _ _ _ _ (bs.drop m) _ HSB (by omega) (by omega) (by omega) HQ).mono ?_
      rintro e w1 (⟨rfl, hno, hb1⟩ | ⟨z, rfl, hz, hq, hyes, hb1⟩)
      · have HN := Lib.hid hno
        have hI1 := HI.out.all hb1
        clear hno hb1
        go_wp2
        go_ret2
        exact ⟨_, L, m, rfl, hI1.own, ⟨hI1.len, bs.drop m, hI1.cut, by rw [bsOf_length, HK.out]; exact HN.out⟩, hI1.below⟩
      · have HI1 := Lib.hid (HI.out.all hb1)
        have hzn : z.n ≤ n := by
          obtain ⟨r, hr⟩ := hyes
          have h1 := congrArg List.length hr
          rw [List.length_append, List.length_drop, HL.out] at h1
          have h2 := frameB_gt (k : Int) z.bs
          have h3 := coreB_gt (k : Int) z.bs
          have h4 : z.bs.length = z.n := hz.len
          omega
        have HZL : Hid (z.bs.length = z.n) := Lib.hid hz.len
        have hrz : Rd w1 w1.heap.size z.A z.n (vByte z.bs) := hz.rd
        have HZ := Lib.hid hz
        have HY := Lib.hid hyes
        have HQZ := Lib.hid hq
        clear hz hyes hb1 hq
        go_wp2_with fail
        refine (rframe_any _ _ _ _ z.bs _ HZL (by omega) (by omega) (by omega) hrz).mono ?_
        rintro e w2 ⟨A2, n2, c2, rfl, HN2, -, hb2⟩
        have HI2 := Lib.hid (HI1.out.all hb2)
        have HZ2 := Lib.hid (HZ.out.all hb2)
        have hcnt := HI2.out.count
        rw [HL.out, HK.out] at hcnt
        obtain ⟨hd1, hd2, hd3⟩ := first_drop HY.out HN2.out.symm
        rw [List.length_drop, HL.out] at hd2
        have HD := Lib.hid hd1
        obtain ⟨g, cap, w3, hrun, hown3, hg3, -⟩ := HI2.out.own.snoc (ty := 29) z HZ2.out (by
          intro y hy b' off' e _ e2
          have h1 := (HI2.out.own.1.lt _ e2).1
          have h2 : NilQ (fun b => b < w.heap.size) y.A y.c := by
            rcases List.mem_append.1 hy with hy | hy
            · exact HI2.out.low y hy
            · simp at hy
              subst hy
              exact HQZ.out
          have := h2.2 _ e
          simp only at this
          omega) (by rw [HK.out]; omega) HI2.out.below.size
        rw [HK.out] at hrun hown3
        have HRUN := Lib.hid hrun
        have HI3 : Hid (RScanI w bs (.slice (some ⟨g, 0, none⟩) (k + 1) cap) (m + n2) (L ++ [z]) w3) := Lib.hid (by
          have hf : framesB 0 (bsOf (L ++ [z])) = framesB 0 (bsOf L) ++ frameB (k : Int) z.bs := by rw [bsOf_snoc, framesB_snoc, Nat.zero_add, bsOf_length, HK.out]
          refine ⟨hown3, ?_, ?_, ?_, ?_⟩
          · intro y hy
            rcases List.mem_append.1 hy with hy | hy
            · exact HI2.out.low y hy
            · simp at hy
              subst hy
              exact HQZ.out
          · rw [hf, List.length_append, ← HI2.out.len, HN2.out]
          · have h1 := HI2.out.cut
            rw [HD.out] at h1
            rw [hf, List.append_assoc]
            rw [List.drop_drop] at h1
            exact h1
          · exact HI2.out.below.grown hg3 HI2.out.below.size (fun r e => (HI2.out.own.1.lt r e).1))
        clear hrun hown3 hg3 hb2 hd1 hrz
        go_wp2_with (at_builtin; refine wpList_append_run HRUN.out rfl rfl rfl rfl ?_)
        exact ⟨⟨m + n2, k + 1, L ++ [z], by omega, by omega, by go_num, ⟨_, _, rfl⟩, Lib.hid (by rw [List.length_append, HK.out]; rfl), HI3⟩, by simp [intOf]; omega⟩
    · have HN : Hid (FirstIs (k : Int) (bs.drop m) none) := Lib.hid (by
        have h0 : bs.drop m = [] := List.drop_eq_nil_of_le (by rw [HL.out]; omega)
        rw [h0]
        intro x r h
        have h1 := congrArg List.length h
        rw [List.length_append] at h1
        have h2 := frameB_pos (k : Int) x
        simp at h1
        omega)
      go_wp2
      go_ret2
      exact ⟨_, L, m, rfl, HI.out.own, ⟨HI.out.len, bs.drop m, HI.out.cut, by rw [bsOf_length, HK.out]; exact HN.out⟩, HI.out.below⟩
end Go.Proofs.YtldmokjpfnakkaaGreat
