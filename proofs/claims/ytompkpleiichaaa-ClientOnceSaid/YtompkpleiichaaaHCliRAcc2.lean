/- client: Accept of the reference, of a client that has joined. -/
import Derived.Test.YtompkpleiichaaaHCliRAcc

namespace Go.Proofs.Ytompkpleiichaaa
open Go.RowKit

theorem raccept_done {w w7 : World} {g g1 cap gr gc k : Nat} {rv : Value} {rl : List RCl} {r : Rq} {c0 r' : RCl} (hI : RAccI w g rv rl gr gc r c0 w7) (hk : k < rl.length) (hv : rv = .slice (some ⟨g1, 0, none⟩) rl.length cap) (hc0 : rl[k] = c0) (hno : ∀ t (ht : t < k), (rl[t]'(by omega)).id ≠ r.cl) (hid : c0.id = r.cl) (hf : findR rl r.cl = some c0)
    (hres : acRes (sigR rl) r = (true, [], 0)) (hid' : r'.id = c0.id) (hkey' : r'.key = c0.key) (hok : r'.ok w7) (hst : (r'.last, r'.olds.map Old.log) = accNew (tagOk c0.key r) c0.last (c0.olds.map Old.log) r.num (bodyI r.bs)) :
    RAccPost g rv rl.length (sigR rl) r w (.returned (.tuple #[.bool true, .slice none 0 0, .int .i64 0])) (((w7.setCell ⟨g1, k * 4 + 3, none⟩ (.slice r'.A r'.n r'.c)).setCell ⟨g1, k * 4 + 2, none⟩ (.int .i64 r'.last)).drew) := by
  obtain ⟨hS, hm⟩ := hI.ses.upd hk hv (by rw [hc0]; exact hid') (by rw [hc0]; exact hkey') hok
  refine ⟨none, 0, 0, by rw [hres], by rw [hres]; exact Bts.nil _, rv, rl.set k r', hS.all ⟨rfl, rfl, rfl, Nat.le_refl _, fun _ _ => rfl⟩, by rw [List.length_set]; omega, ?_, ((Mod.of_below (RSesF g rv) hI.below).trans hm (fun b hb => .inl hb)).drew, .inl rfl⟩
  rw [sigR_set hk hno (by rw [hc0]; exact hid) (hid'.trans hid)]
  have hs : sigR rl r.cl = some c0.st := by unfold sigR; rw [hf]; rfl
  unfold acSt
  rw [hres, if_pos rfl, hs]
  dsimp only
  unfold RCl.st
  rw [hkey', hst]
theorem accNew_log {c0 : RCl} {num bd : Int} {r' : RCl} (hw : waitsL (c0.olds.map Old.log) = false) (hnum : num = c0.last + 1) (hl : r'.last = num) (ho : r'.olds = cut16 (c0.olds ++ [⟨num, bd, false, none, 0, 0, []⟩])) : (r'.last, r'.olds.map Old.log) = accNew true c0.last (c0.olds.map Old.log) num bd := by
  have h1 : accRes true c0.last (c0.olds.map Old.log) num bd = (true, [], 0) := by
    unfold accRes
    rw [if_neg (by decide), if_neg (by omega), if_pos hnum, hw]
    rfl
  unfold accNew
  rw [h1, if_pos rfl, hl, ho, hnum]
  unfold cut16
  rw [List.length_append, List.length_append, List.length_map]
  simp only [List.length_singleton]
  split
  · rw [List.map_tail, List.map_append]
    rfl
  · rw [List.map_append]
    rfl
set_option maxRecDepth 100000 in
set_option maxHeartbeats 2000000 in
theorem raccept_joined (g : Nat) (rv : Value) (rl : List RCl) (r : Rq) (k : Nat) (hk : k < rl.length) (w : World) (HS : Hid (RSes w g rv rl)) (hl : rl.length ≤ 1000000) (HR : Hid (r.ok w)) (h1 : 1 ≤ r.cl) (h2 : r.cl ≤ 1073741824) (h3 : 1 ≤ r.num) (h4 : r.n ≤ 65536) (h5 : r.num ≤ 9223372036854775807) (hlt : (rl[k]).last < 4611686018427387904)
    (HN : Hid (idxR rl r.cl = (k : Int))) (HF : Hid (findR rl r.cl = some rl[k])) (HNO : Hid (∀ t (ht : t < k), (rl[t]'(by omega)).id ≠ r.cl)) (HID : Hid ((rl[k]).id = r.cl)) :
    Calls Try.prog 31 #[.pointer (some ⟨g, 0, none⟩), .agg #[.int .i64 r.cl, .int .i64 r.num, .slice r.A r.n r.c, .int .u64 r.tag]] w (RAccPost g rv rl.length (sigR rl) r w) := by
  have hb1 := (Below.refl w.heap.size w).alloc (Nat.le_refl _) (.cells #[.int .i64 r.cl, .int .i64 r.num, .slice r.A r.n r.c, .int .u64 r.tag] 37)
  have hq1 := Blk.new w 37 #[.int .i64 r.cl, .int .i64 r.num, .slice r.A r.n r.c, .int .u64 r.tag]
  have HC := Lib.hid (rfind_any g rv rl r.cl _ (Lib.hid (HS.out.all hb1)) hl)
  rw [HN.out] at HC
  obtain ⟨c0, hc0⟩ : ∃ c0, rl[k] = c0 := ⟨_, rfl⟩
  have HAC := Lib.hid (show acRes (sigR rl) r = accRes (tagOk c0.key r) c0.last (c0.olds.map Old.log) r.num (bodyI r.bs) by unfold acRes sigR; rw [if_neg (by omega), HF.out, hc0]; rfl)
  have hS1 := HS.out.all hb1
  have hR1 := HR.out.all hb1
  obtain ⟨g1, cap, hv, t0, t1, t2, t3, tf⟩ := hS1.row hk
  have HOK := Lib.hid (hS1.ok _ (List.getElem_mem hk))
  rw [hc0] at t0 t1 t2 t3 HOK HID hlt
  rw [hc0] at HF
  have HC0 := Lib.hid hc0
  have d0 := hS1.blk.cell 0
  simp only [List.getElem?_toArray, List.getElem?_cons_zero] at d0
  rw [hv] at d0
  have HV := Lib.hid hv
  clear hc0 hv
  have h4' : ¬ ((65536 : Int) < (r.n : Int)) := by omega
  have hk0 : decide ((k : Int) < 0) = false := by simp
  have hk1 : (0 : Int) ≤ (k : Int) := by omega
  have hk2 : (k : Int) < (rl.length : Int) := by omega
  have e1 : decide (r.cl < 1) = false := by simpa using h1
  have e2 : decide (1073741824 < r.cl) = false := by simpa using h2
  have e3 : decide (r.num < 1) = false := by simpa using h3
  have hb2 := (Below.refl (w.alloc (.cells #[.int .i64 r.cl, .int .i64 r.num, .slice r.A r.n r.c, .int .u64 r.tag] 37)).heap.size _).alloc (Nat.le_refl _) (.cells #[.int .i64 c0.id, .int .u64 c0.key, .int .i64 c0.last, .slice c0.A c0.n c0.c] 108)
  have hq2 := hq1.all hb2
  have hqc := Blk.new (w.alloc (.cells #[.int .i64 r.cl, .int .i64 r.num, .slice r.A r.n r.c, .int .u64 r.tag] 37)) 108 #[.int .i64 c0.id, .int .u64 c0.key, .int .i64 c0.last, .slice c0.A c0.n c0.c]
  rw [alloc_size] at hqc
  have HB2 := Lib.hid (bt hb1 hb2)
  have HS2 := Lib.hid (hS1.all hb2)
  have HR2 := Lib.hid (hR1.all hb2)
  have HOK2 := Lib.hid (HOK.out.mod (Mod.of_below (fun _ => False) hb2) (fun _ h => h.elim) (fun _ h => h.elim))
  clear hb2 hS1 hR1 HOK hb1 hq1
  go_enter Try.func31, Try.ntmps31
  go_wp2_with fail
  refine HC.out.mono ?_
  rintro e w1 ⟨rfl, rfl⟩
  go_wp2
  clear d0 t0 t1 t2 t3 tf HC
  generalize (w.alloc (.cells #[.int .i64 r.cl, .int .i64 r.num, .slice r.A r.n r.c, .int .u64 r.tag] 37)).alloc (.cells #[.int .i64 c0.id, .int .u64 c0.key, .int .i64 c0.last, .slice c0.A c0.n c0.c] 108) = w2 at *
  obtain ⟨gc, hgc⟩ : ∃ gc, w.heap.size + 1 = gc := ⟨_, rfl⟩
  rw [hgc] at hqc ⊢
  obtain ⟨gr, hgr⟩ : ∃ gr, w.heap.size = gr := ⟨_, rfl⟩
  have HGE := Lib.hid (show w.heap.size ≤ gr ∧ w.heap.size ≤ gc by omega)
  rw [hgr] at hq2 ⊢
  clear hgc hgr
  have HQ := Lib.hid hq2
  have HQC := Lib.hid hqc
  obtain ⟨q0, q1, q2, q3, -, -, -, -⟩ := blk4 hq2
  obtain ⟨s0, s1, s2, s3, -, -, -, -⟩ := blk4 hqc
  clear hq2 hqc e1 e2 e3
  have HL := Lib.hid HR2.out.1.1
  have hrc := HR2.out.1.2.1
  go_region_held3 (fun w' => Below w2.heap.size w2 w' ∧ w'.cell? ⟨gr, 0, none⟩ = some (.int .i64 r.cl) ∧ w'.cell? ⟨gr, 1, none⟩ = some (.int .i64 r.num) ∧ w'.cell? ⟨gr, 2, none⟩ = some (.slice r.A r.n r.c) ∧ w'.cell? ⟨gr, 3, none⟩ = some (.int .u64 r.tag) ∧ w'.cell? ⟨gc, 0, none⟩ = some (.int .i64 c0.id) ∧ w'.cell? ⟨gc, 1, none⟩ = some (.int .u64 c0.key) ∧ w'.cell? ⟨gc, 2, none⟩ = some (.int .i64 c0.last) ∧ w'.cell? ⟨gc, 3, none⟩ = some (.slice c0.A c0.n c0.c))
    (first | with_reducible exact keepA8 (Below.refl _ w2).drew HQ.out HQC.out | with_reducible exact keepA8 hS2 HQ.out HQC.out)
    (first
      | (go_at_call 30; have hS1 := (‹Below w2.heap.size w2 _ ∧ _›).1; have hRd := (HR2.out.all hS1).1.rd; ((with_reducible refine (rtag_any _ _ _ _ _ _ r.bs _ HL hrc (by omega) hRd).mono ?_); rintro e w3 ⟨rfl, hb3⟩; have hS2 := bt hS1 hb3; clear hS1 hb3)))
  have HI3 := Lib.hid (show RAccI w g rv rl gr gc r c0 w3 from (RAccI.mk HS2.out HQ.out HQC.out HR2.out HOK2.out HB2.out).all hS2)
  clear hS2 q0 q1 q2 q3 s0 s1 s2 s3 hRd HB2 HS2 HR2 HOK2 HQ HQC
  obtain ⟨q0, q1, q2, q3, -, -, -, -⟩ := blk4 HI3.out.req
  obtain ⟨s0, s1, s2, s3, -, -, -, -⟩ := blk4 HI3.out.cli
  rcases ht : tagOk c0.key r with _ | _
  · have htn : (tagI c0.key r.cl r.num (bodyI r.bs) != r.tag) = true := by
      unfold tagOk at ht
      rw [bne_iff_ne]
      intro e
      rw [e] at ht
      simp at ht
    have HT := Lib.hid ht
    clear ht
    go_wp2
    go_ret3
    exact RAccPost.same HS.out HI3.out.below (x := (false, [], 20)) (by rw [HAC.out, HT.out]; rfl) rfl (Bts.nil _)
  have htn : (tagI c0.key r.cl r.num (bodyI r.bs) != r.tag) = false := by
    unfold tagOk at ht
    rw [beq_iff_eq] at ht
    rw [ht]
    simp
  rw [ht] at HAC
  have HT := Lib.hid ht
  clear ht
  have hla := HI3.out.cok.last
  by_cases hmore : c0.last + 1 < r.num
  · have hmore' : c0.last < r.num - 1 := by omega
    go_wp2
    go_ret3
    exact RAccPost.same HS.out HI3.out.below (x := (false, [], 3)) (by rw [HAC.out]; unfold accRes; rw [if_neg (by decide), if_pos hmore]) rfl (Bts.nil _)
  have hmore' : ¬ c0.last < r.num - 1 := by omega
  go_wp2_with fail
  refine (rbytes_any _ _ _ _ w3.heap.size r.bs _ HL (by decide) hrc (by omega) (Nat.le_refl _) HI3.out.rok.1.rd).mono ?_
  rintro e w4 ⟨rfl, hb4⟩
  have HI4 := Lib.hid (HI3.out.all hb4)
  obtain ⟨bd, hbd⟩ : ∃ bd, bodyI r.bs = bd := ⟨_, rfl⟩
  rw [show bytesI (⟨#[98, 111, 100, 121]⟩ : ByteArray).data.toList r.bs = bd from hbd]
  have HBD := Lib.hid hbd
  clear hbd hb4 q0 q1 q2 q3 s0 s1 s2 s3 HI3 htn
  rw [HBD.out] at HAC
  obtain ⟨q0, q1, q2, q3, -, -, -, -⟩ := blk4 HI4.out.req
  obtain ⟨s0, s1, s2, s3, -, -, -, -⟩ := blk4 HI4.out.cli
  have hfew := HI4.out.cok.few
  have HLEN := Lib.hid HI4.out.cok.len
  have HNUM := Lib.hid HI4.out.cok.num
  by_cases hle : r.num ≤ c0.last
  · have HACX := Lib.hid (HAC.out.trans (accRes_old (bd := bd) (by omega) hle))
    clear HAC
    go_wp2
    clear q0 q1 q2 q3 s0 s1 s2 s3
    go_loopw [10] (fun i wr => ∃ j : Nat, j ≤ c0.n ∧ i = .int .i64 (j : Int) ∧ Hid (∀ t (ht : t < j) (hl : t < c0.olds.length), (c0.olds[t]).num ≠ r.num) ∧ Hid (RAccI w g rv rl gr gc r c0 wr)) (fun i _ => c0.n - (intOf i).toNat)
    case atStart => exact ⟨0, by omega, rfl, Lib.hid (fun t ht => absurd ht (by omega)), HI4⟩
    case round =>
      obtain ⟨j, hj, rfl, HNJ, HI⟩ := hrel
      clear HI4
      obtain ⟨q0, q1, q2, q3, -, -, -, -⟩ := blk4 HI.out.req
      obtain ⟨s0, s1, s2, s3, -, -, -, -⟩ := blk4 HI.out.cli
      by_cases hjl : j < c0.n
      · have hjo : j < c0.olds.length := by rw [HLEN.out]; exact hjl
        obtain ⟨b, off, hA, hbl, -, hc⟩ := HI.out.cok.row.at_ Old.cells 4 Old.cells_length (by decide) (k := j) hjo
        obtain ⟨o, ho⟩ : ∃ o, c0.olds[j] = o := ⟨_, rfl⟩
        rw [ho] at hc
        have HO := Lib.hid ho
        have HOOK := Lib.hid (show o.ok wr from ho ▸ HI.out.cok.old _ (List.getElem_mem hjo))
        clear ho
        have x0 : wr.cell? ⟨b, off + j * 4, none⟩ = some (.int .i64 o.num) := hc 0 (by decide)
        have x1 : wr.cell? ⟨b, off + j * 4 + 1, none⟩ = some (.int .u64 o.hash) := hc 1 (by decide)
        have x2 : wr.cell? ⟨b, off + j * 4 + 2, none⟩ = some (.bool o.done) := hc 2 (by decide)
        have x3 : wr.cell? ⟨b, off + j * 4 + 3, none⟩ = some (.slice o.A o.n o.c) := hc 3 (by decide)
        have hj0 : (0 : Int) ≤ (j : Int) := by omega
        have hj1 : (j : Int) < (c0.n : Int) := by omega
        rw [hA] at s3
        clear hc
        rcases hne : (o.num != r.num) with _ | _
        · have HEQ := Lib.hid (show (c0.olds[j]).num = r.num by rw [HO.out]; simpa using hne)
          have HRES := Lib.hid (HACX.out.trans (oldRes_at HNUM.out hjo HEQ.out))
          rw [HO.out] at HRES
          go_wp2
          go_quiet (fail)
          have HIq := Lib.hid (HI.out.drewN nq)
          have HOOKq := Lib.hid (show o.ok (wr.drewN nq) from HOOK.out)
          have y1 : (wr.drewN nq).cell? ⟨b, off + j * 4 + 1, none⟩ = some (.int .u64 o.hash) := x1
          have y2 : (wr.drewN nq).cell? ⟨b, off + j * 4 + 2, none⟩ = some (.bool o.done) := x2
          have y3 : (wr.drewN nq).cell? ⟨b, off + j * 4 + 3, none⟩ = some (.slice o.A o.n o.c) := x3
          generalize wr.drewN nq = wq at *
          clear x0 x1 x2 x3 q0 q1 q2 q3 s0 s1 s2 s3 HI HOOK
          obtain ⟨s0, s1, s2, s3, -, -, -, -⟩ := blk4 HIq.out.cli
          rw [hA] at s3
          rcases hh : (o.hash != bd) with _ | _
          · have HHH := Lib.hid (show o.hash = bd by simpa using hh)
            rcases hd : o.done with _ | _
            · rw [hd] at y2
              have HD := Lib.hid hd
              clear hd
              go_wp2
              go_ret3
              exact RAccPost.same HS.out HIq.out.below (x := (false, [], 13)) (by rw [HRES.out, if_neg (by simp [HHH.out]), HD.out]; rfl) rfl (Bts.nil _)
            · rw [hd] at y2
              have HD := Lib.hid hd
              clear hd
              go_wp2
              go_quiet (fail)
              go_wp2
              go_ret3
              exact RAccPost.same HS.out (below_drewN HIq.out.below _) (x := (false, o.bs, 0)) (by rw [HRES.out, if_neg (by simp [HHH.out]), HD.out]; rfl) rfl HOOKq.out.1
          · have HHH := Lib.hid (show o.hash ≠ bd by simpa using hh)
            go_wp2
            go_ret3
            exact RAccPost.same HS.out HIq.out.below (x := (false, [], 8)) (by rw [HRES.out, if_pos HHH.out]) rfl (Bts.nil _)
        · have HNE := Lib.hid (show (c0.olds[j]).num ≠ r.num by rw [HO.out]; simpa using hne)
          go_wp2
          go_quiet (fail)
          have HIq := Lib.hid (HI.out.drewN nq)
          generalize wr.drewN nq = wq at *
          go_wp2
          exact ⟨⟨j + 1, by omega, by go_num, Lib.hid (fun t ht hl => by
            rcases Nat.lt_or_eq_of_le (Nat.lt_succ_iff.1 ht) with h | rfl
            · exact HNJ.out t h hl
            · exact HNE.out), HIq⟩, by simp [intOf]; omega⟩
      · go_wp2
        go_ret3
        exact RAccPost.same HS.out HI.out.below (x := (false, [], 14)) (by
          rw [HACX.out]
          unfold oldRes
          rw [if_pos (posL_none HNUM.out hle (fun t ht => HNJ.out t (by have := HLEN.out; omega) ht))]) rfl (Bts.nil _)
  · have HNL := Lib.hid (show r.num = c0.last + 1 by omega)
    have HACX := Lib.hid (show acRes (sigR rl) r = if waitsL (c0.olds.map Old.log) then (false, [], 13) else (true, [], 0) by rw [HAC.out]; unfold accRes; rw [if_neg (by decide), if_neg (by omega), if_pos HNL.out])
    have HRW := Lib.hid (rwaits_any c0 w4 (Lib.hid HI4.out.cok))
    clear HAC
    rcases hw : waitsL (c0.olds.map Old.log) with _ | _
    · rw [hw] at HRW HACX
      have HW := Lib.hid hw
      clear hw
      go_wp2_with fail
      refine HRW.out.mono ?_
      rintro e w5 ⟨rfl, hb5⟩
      have HI5 := Lib.hid (HI4.out.all hb5)
      clear q0 q1 q2 q3 s0 s1 s2 s3 HI4 hb5 HRW
      obtain ⟨q0, q1, q2, q3, -, -, -, -⟩ := blk4 HI5.out.req
      obtain ⟨s0, s1, s2, s3, -, -, -, -⟩ := blk4 HI5.out.cli
      go_wp2
      have HQ := Lib.hid HI5.out.req
      have HQC := Lib.hid HI5.out.cli
      have hlc : (c0.olds.flatMap Old.cells).length = c0.n * 4 := by rw [flat_length Old.cells 4 Old.cells_length, HLEN.out]
      have HLC := Lib.hid hlc
      clear hlc
      go_region_held3 (fun w' => Below w5.heap.size w5 w' ∧ w'.cell? ⟨gr, 0, none⟩ = some (.int .i64 r.cl) ∧ w'.cell? ⟨gr, 1, none⟩ = some (.int .i64 r.num) ∧ w'.cell? ⟨gr, 2, none⟩ = some (.slice r.A r.n r.c) ∧ w'.cell? ⟨gr, 3, none⟩ = some (.int .u64 r.tag) ∧ w'.cell? ⟨gc, 0, none⟩ = some (.int .i64 c0.id) ∧ w'.cell? ⟨gc, 1, none⟩ = some (.int .u64 c0.key) ∧ w'.cell? ⟨gc, 2, none⟩ = some (.int .i64 c0.last) ∧ w'.cell? ⟨gc, 3, none⟩ = some (.slice c0.A c0.n c0.c))
        (first | with_reducible exact keepA8 (Below.refl _ w5).drew HQ.out HQC.out | with_reducible exact keepA8 hS2 HQ.out HQC.out | with_reducible exact keepA8 (hS2.alloc hS2.size _) HQ.out HQC.out | with_reducible exact keepA8 ((Below.refl _ w5).alloc (Nat.le_refl _) _).drew HQ.out HQC.out)
        (first
          | (revert hown6; intro hown6; refine step_append1 (v := .slice A6 c0.n cap6) (base := w5.heap.size) (n := c0.n) (xs := c0.olds.flatMap Old.cells) slT_old (by rfl) (by rfl) (by rfl) _ (by rfl) (by first | exact hown6.alloc _ | exact hown6) #[.int .i64 r.num, .int .u64 bd, .bool false, .slice none 0 0] (by first | exact Blk.new _ _ _ | exact hqb) rfl (by simp; exact ⟨rfl, rfl, rfl, rfl⟩) (by omega) (by decide) (by first | omega | (simp; omega)) ?_; intro g7 cap7 w7 hown7 hg7 hat7; (first | have hS3 := (hS2.alloc hS2.size _).grown hg7 (by first | omega | (simp; omega)) (fun k e => (hown6.lt k e).1) | have hS3 := hS2.grown hg7 (by omega) (fun k e => (hown6.lt k e).1)); clear hS2; have hS2 := hS3; clear hS3)
          | (have hS1 := (‹Below w5.heap.size w5 _ ∧ _›).1; refine step_appendNil slT_old (by rfl) (by rfl) (by rfl) (by rfl) w5.heap.size (c0.olds.flatMap Old.cells) (HI5.out.cok.row.all hS1) HLC.out (old_one _) (by omega) (by decide) hS1.size ?_; intro A6 cap6 w6 hown6 hb6; have hS2 := bt hS1 hb6; have hz6 := hS2.size; (first | have hqb := Blk.all (Blk.new w5.drew 112 #[.int .i64 r.num, .int .u64 bd, .bool false, .slice none 0 0]) hb6 | skip); clear hS1))
      all_goals
        have HI7 := Lib.hid (HI5.out.all hS2)
        have hcap7 := own_len_capR hown7
        have HPS := Lib.hid (HI5.out.cok.pushed (bd := bd) hS2 HNL.out hlt hown7)
        have HB7 := Lib.hid hS2
        clear hS2 hg7 hat7 hown7 hown6 q0 q1 q2 q3 s0 s1 s2 s3 HQ HQC HI5 hz6
        obtain ⟨q0, q1, q2, q3, -, -, -, -⟩ := blk4 HI7.out.req
        have d0 := HI7.out.ses.blk.cell 0
        simp only [List.getElem?_toArray, List.getElem?_cons_zero] at d0
        rw [HV.out] at d0
        obtain ⟨g1', cap', hv', -, -, t2, t3, tf⟩ := HI7.out.ses.row hk
        rw [HV.out] at hv'
        injection hv' with hv' _ _
        injection hv' with hv'
        injection hv' with hv'
        subst hv'
        have tf2 := tf (k * 4 + 2)
        have tf3 := tf (k * 4 + 3)
        clear tf
        have hg1g : g1 ≠ g := HI7.out.ses.ne (by rw [HV.out]; rfl)
        by_cases h16 : c0.n < 16
        · have h16' : ¬ ((16 : Int) < (c0.n : Int) + 1) := by omega
          go_wp2
          go_region_law (fail)
          all_goals
            go_wp2
            go_ret3
            exact raccept_done (r' := ⟨c0.id, c0.key, r.num, some ⟨g7, 0, none⟩, c0.n + 1, cap7, c0.olds ++ [⟨r.num, bd, false, none, 0, 0, []⟩]⟩) HI7.out hk HV.out HC0.out HNO.out HID.out HF.out (by rw [HACX.out]; rfl) rfl rfl (HPS.out.1 h16) (by rw [HT.out, HBD.out]; exact accNew_log HW.out HNL.out rfl (by unfold cut16; rw [if_neg (by rw [List.length_append, HLEN.out, List.length_singleton]; omega)]))
        · have h16' : (16 : Int) < (c0.n : Int) + 1 := by omega
          have hc1 : (1 : Int) ≤ (cap7 : Int) := by omega
          have hc2 : ¬ ((cap7 : Int) = 1) := by omega
          have hc3 : (1 : Int) ≤ (c0.n : Int) + 1 := by omega
          go_wp2
          go_region_law (fail)
          all_goals
            go_wp2
            go_ret3
            exact raccept_done (r' := ⟨c0.id, c0.key, r.num, some ⟨g7, 4, none⟩, c0.n, cap7 - 1, (c0.olds ++ [(⟨r.num, bd, false, none, 0, 0, []⟩ : Old)]).tail⟩) HI7.out hk HV.out HC0.out HNO.out HID.out HF.out (by rw [HACX.out]; rfl) rfl rfl (HPS.out.2 (by omega)) (by rw [HT.out, HBD.out]; exact accNew_log HW.out HNL.out rfl (by unfold cut16; rw [if_pos (by rw [List.length_append, HLEN.out, List.length_singleton]; omega)]))
    · rw [hw] at HRW HACX
      clear hw
      go_wp2_with fail
      refine HRW.out.mono ?_
      rintro e w5 ⟨rfl, hb5⟩
      have HI5 := Lib.hid (HI4.out.all hb5)
      go_wp2
      go_ret3
      exact RAccPost.same HS.out HI5.out.below (x := (false, [], 13)) (by rw [HACX.out]; rfl) rfl (Bts.nil _)
end Go.Proofs.Ytompkpleiichaaa
