/- client: the reference's Encode; Decode. -/
import Derived.Test.YtompkpleiichaaaHG32
import Derived.Test.YtompkpleiichaaaHCliSend

namespace Go.Proofs.Ytompkpleiichaaa
open Go.RowKit

theorem step_append_run {P : Program} {w w' : World} {ops : Array Oper} {o : Oper} {a : Act} {K : Act → World → Prop} {Q : Exit → Act → World → Prop} {E : Prop} {s x : Operand} {t : TypeId} {v vx v' : Value} (hrun : (Builtin.append_ #[t, t] o.type #[v, vx]).run P w = .ok v' w') (hgd : o.guard = none)
    (ho : o.op = .call { callee := .builtin .append, args := #[s, x], argTypes := #[t, t] }) (hs : a.eval s = v) (hx : a.eval x = vx) (hK : K (a.put o.dst v') w') : if Region.wanted o (yielded ops a.tmps) = true then Oper.wp P o a w K Q else E := by
  have hw : Region.wanted o (yielded ops a.tmps) = true := by simp [Region.wanted, hgd]
  rw [if_pos hw]
  unfold Oper.wp
  simp [execOp, ho, resolve, invoke, builtin, hs, hx, hrun, Result.andThen]
  exact hK
theorem keep2 {wz w' : World} {g : Nat} {t : TypeId} {a b c d : Value} (h : Below wz.heap.size wz w') (h1 : Blk wz g t #[a, b, c, d]) : Below wz.heap.size wz w' ∧ w'.cell? ⟨g, 0, none⟩ = some a ∧ w'.cell? ⟨g, 1, none⟩ = some b :=
  ⟨h, (h1.all h).cell 0, (h1.all h).cell 1⟩
set_option maxRecDepth 100000 in
set_option maxHeartbeats 1000000 in
theorem rencodeR_any (r : Rq) (tagN : Nat) (w : World) (hr : Hid (r.ok w)) (hc : InI r.cl) (hnm : InI r.num) (HT : Hid (r.tag = (tagN : Int))) (ht : tagN ≤ 18446744073709551615) : Calls Try.prog 41 #[r.val] w (RetB (encR r.cl r.num r.bs tagN) w) := by
  have HL := Lib.hid hr.out.1.1
  have hn := hr.out.2
  obtain ⟨hc1, hc2⟩ := hc
  obtain ⟨hn1, hn2⟩ := hnm
  have hl1 : (encInt r.cl).length ≤ 10 := encInt_len hc1 hc2
  have hl2 : (encInt r.num).length ≤ 10 := encInt_len hn1 hn2
  have hl3 : (encRaw r.bs).length ≤ 10 + r.n := by
    unfold encRaw
    rw [List.length_append, HL.out]
    have := varint_len10 (n := r.n) (by omega)
    omega
  have hl4 := varint_len10 ht
  have hb1 := (Below.refl w.heap.size w).alloc (Nat.le_refl _) (.cells #[.int .i64 r.cl, .int .i64 r.num, .slice r.A r.n r.c, .int .u64 r.tag] 37)
  have hq := Blk.new w 37 #[.int .i64 r.cl, .int .i64 r.num, .slice r.A r.n r.c, .int .u64 r.tag]
  have hok := hr.out.all hb1
  have HQ := Lib.hid hq
  have HOK := Lib.hid hok
  have HB1 := Lib.hid hb1
  clear hb1 hok
  unfold Rq.val
  go_enter Try.func41, Try.ntmps41
  go_wp2
  generalize w.alloc (.cells #[.int .i64 r.cl, .int .i64 r.num, .slice r.A r.n r.c, .int .u64 r.tag] 37) = wz at *
  obtain ⟨q0, q1, q2, q3, -, -, -, -⟩ := blk4 hq
  go_region_held3 (fun w' => Below wz.heap.size wz w' ∧ w'.cell? ⟨w.heap.size, 0, none⟩ = some (.int .i64 r.cl) ∧ w'.cell? ⟨w.heap.size, 1, none⟩ = some (.int .i64 r.num))
    (first | with_reducible exact keep2 (Below.refl _ wz).drew HQ.out | with_reducible exact keep2 hS2 HQ.out | with_reducible exact keep2 hS3 HQ.out)
    (first
      | (go_at_call 63; have hS1 := (‹Below wz.heap.size wz _ ∧ _›).1; have hownK := hown1; ((with_reducible refine (eint_any _ _ hn1 hn2).mono ?_); rintro e wt2 ⟨A2, n2, c2, rfl, HN2, hown2, hb3⟩; have hS2 := bt hS1 hb3; replace hown1 := own_keep hown1 hb3; have hzz := hb3.size; clear hS1 hownK))
      | (go_at_call 63; have hS1 := (‹Below wz.heap.size wz _ ∧ _›).1; ((with_reducible refine (eint_any _ _ hc1 hc2).mono ?_); rintro e wt1 ⟨A1, n1, c1, rfl, HN1, hown1, hb3⟩; have hS2 := bt hS1 hb3; have hz1 := hS1.size; have hz2 := hb3.size; clear hS1 hb3))
      | (revert hown2; intro hown2; obtain ⟨A3, n3, c3, wt3, hap, HN3, hown3, hg3⟩ := own_many hown1 HN2.out (rd_bytes hown2).2.2 (by rw [← HN1.out, ← HN2.out]; omega) (by omega); refine step_append_run (t := 23) hap.out (by rfl) (by rfl) (by rfl) (by rfl) ?_; have hS3 := hS2.trans (show Below wz.heap.size wt2 wt3 from hg3)))
  replace hown3 : wt3.ownsRow wz.heap.size 5 1 (.slice A3 n3 c3) n3 ((encInt r.cl ++ encInt r.num).map fun b => Value.int .u8 ((b.toNat : Nat) : Int)) := hown3
  have HO3 := Lib.hid hown3
  have hn3 : n3 ≤ 20 := by rw [HN3.out, ← HN1.out, ← HN2.out]; omega
  have hsz3 := hS3.size
  clear hown3 hown1 hown2 hg3 hap q0 q1 q2 q3 HN1 HN2 HN3 hS2 hzz hz1 hz2 hq
  obtain ⟨q0, q1, q2, q3, -, -, -, -⟩ := blk4 (HQ.out.all hS3)
  have hr3 := HOK.out.all hS3
  go_wp2_with fail
  refine (eraw_any _ _ _ r.bs _ HL (by omega) hr3.1.rd).mono ?_
  rintro e wt4 ⟨A4, n4, c4, rfl, HN4, hown4, hb4⟩
  have hS4 := hS3.trans (hb4.mono hsz3)
  have hsz4 := hS4.size
  have hn4 : n4 ≤ 10 + r.n := by rw [← HN4.out]; exact hl3
  obtain ⟨A5, n5, c5, wt5, hap5, HN5, hown5, hg5⟩ := own_many (c := c4) (own_keep HO3.out hb4) HN4.out (rd_bytes hown4).2.2 (by omega) (by omega)
  have hS5 := hS4.trans hg5
  have hsz5 := hS5.size
  have HO5 := Lib.hid hown5
  have hn5 : n5 ≤ 30 + r.n := by rw [HN5.out]; omega
  clear hown4 hb4 q0 q1 q2 q3 hr3 HO3 hown5 hg5 HN5
  obtain ⟨q0, q1, q2, q3, -, -, -, -⟩ := blk4 (HQ.out.all hS5)
  go_wp2_with (at_builtin; refine wpList_append_run hap5.out rfl rfl rfl rfl ?_)
  refine (euint_any tagN _ HT.out _ ht).mono ?_
  rintro e wt6 ⟨A6, n6, c6, rfl, HN6, hown6, hb6⟩
  have hS6 := hS5.trans (hb6.mono hsz5)
  have hsz6 := hS6.size
  have hn6 : n6 ≤ 10 := by rw [← HN6.out]; exact hl4
  obtain ⟨A7, n7, c7, wt7, hap7, HN7, hown7, hg7⟩ := own_many (c := c6) (own_keep HO5.out hb6) HN6.out (rd_bytes hown6).2.2 (by omega) (by omega)
  have HS7 := Lib.hid (hS6.trans hg7)
  have HO7 := Lib.hid hown7
  clear hown6 hb6 q0 q1 q2 q3 HO5 hown7 hg7 hap5
  go_wp2_with (at_builtin; refine wpList_append_run hap7.out rfl rfl rfl rfl ?_)
  go_ret
  have e : [] ++ encInt r.cl ++ encInt r.num ++ encRaw r.bs ++ varint tagN = encInt r.cl ++ encInt r.num ++ encRaw r.bs ++ varint tagN := by rw [List.nil_append]
  refine ⟨A7, n7, c7, rfl, Lib.hid ?_, ?_, bt HB1.out HS7.out⟩
  · unfold encR
    rw [e]
    have := HO7.out.1
    simpa using this
  · unfold encR
    rw [e]
    exact own_lower HO7.out HB1.out.size

/-- What Decode returns. -/
def DecPost (bs : List UInt8) (w : World) (e : Ending) (w' : World) : Prop :=
  ∃ r : Rq, e = .returned (.tuple #[r.val, .int .i64 (if (decR bs).1 = 0 then 0 else 2)]) ∧ r.ok w' ∧ r.log = (if (decR bs).1 = 0 then ((decR bs).2.1, (decR bs).2.2.1, (decR bs).2.2.2.1, ((decR bs).2.2.2.2 : Int)) else (0, 0, [], 0)) ∧ Below w.heap.size w w'
theorem Rdr.ty {w : World} {B gd : Nat} {rest : List UInt8} {err : Int} (h : Rdr w B gd rest err) : Ty w gd 130 := by
  obtain ⟨-, -, A, n, c, hb, -⟩ := h
  exact hb.ty
set_option maxRecDepth 100000 in
set_option maxHeartbeats 1000000 in
theorem decodeC_any (A : Option Addr) (n c : Nat) (bs : List UInt8) (w : World) (HB : Hid (Bts w A n c bs)) (hn : n ≤ 1048576) : Calls Try.prog 45 #[.slice A n c] w (DecPost bs w) := by
  have hb1 := (Below.refl w.heap.size w).alloc (Nat.le_refl _) (.cells #[.int .i64 0, .int .i64 0, .slice none 0 0, .int .u64 0] 32)
  have hB1 := HB.out.all hb1
  have hz1 := Blk.new w 32 #[.int .i64 0, .int .i64 0, .slice none 0 0, .int .u64 0]
  have HL := Lib.hid hB1.1
  have HLEN := Lib.hid (decR_len bs)
  go_enter Try.func45, Try.ntmps45
  go_wp2_with fail
  refine (read_any _ _ _ bs _ HL hB1.rd (by omega)).mono ?_
  rintro e w2 ⟨gd, rfl, hgd, hR2, hb2, -⟩
  rw [alloc_size] at hgd
  have hz2 := hz1.all hb2
  have hbb := bt hb1 hb2
  clear hb1 hb2 hz1 hB1
  have hG := only_refl w2 (some gd)
  go_wp2_with fail
  refine (rint_any _ gd bs 0 _ (Lib.hid hR2)).mono ?_
  rintro e w3 ⟨rfl, hR3, hg3⟩
  replace hG := hG.trans hg3
  clear hg3 hR2
  obtain ⟨s1, hs1⟩ : ∃ s1, readU bs 0 = s1 := ⟨_, rfl⟩
  rw [hs1] at hR3
  rw [hs1]
  have H1 := Lib.hid hs1
  clear hs1
  go_wp2_with fail
  refine (rint_any _ gd _ _ _ (Lib.hid hR3)).mono ?_
  rintro e w4 ⟨rfl, hR4, hg4⟩
  replace hG := hG.trans hg4
  clear hg4 hR3
  obtain ⟨s2, hs2⟩ : ∃ s2, readU s1.2.2 s1.1 = s2 := ⟨_, rfl⟩
  rw [hs2] at hR4
  rw [hs2]
  have H2 := Lib.hid hs2
  clear hs2
  go_wp2_with fail
  refine (rraw_any _ gd _ _ _ (Lib.hid hR4)).mono ?_
  rintro e w5 ⟨Ar, nr, cr, rfl, hrc, hcm, -, HNR, hown5, hR5, hg5⟩
  replace hG := hG.trans hg5
  obtain ⟨s3, hs3⟩ : ∃ s3, readRaw s2.2.2 s2.1 = s3 := ⟨_, rfl⟩
  rw [hs3] at hR5 hown5 HNR
  have H3 := Lib.hid hs3
  clear hs3 hg5 hR4
  have hBT := (Bts.of_own hown5).1
  clear hown5
  go_wp2_with fail
  refine (ruint_any _ gd _ _ _ (Lib.hid hR5)).mono ?_
  rintro e w6 ⟨rfl, hR6, hg6⟩
  replace hG := hG.trans hg6
  obtain ⟨s4, hs4⟩ : ∃ s4, readU s3.2.2 s3.1 = s4 := ⟨_, rfl⟩
  rw [hs4] at hR6
  rw [hs4]
  have H4 := Lib.hid hs4
  clear hs4
  replace hBT := hBT.mod (Mod.of_grown (F := fun b => b = gd) hg6 (fun b e => .inl (by injection e with e; exact e.symm))) (by rintro b rfl ht; exact absurd (Ty.unique hR5.ty ht) (by decide))
  clear hg6 hR5
  have hz6 := hz2.grown hG (fun e => by injection e with e; omega)
  have hb6 := hbb.grown hG (by have := hbb.size; omega) (fun k e => by injection e with e; omega)
  have HD := Lib.hid (show decR bs = (endI s4.2.2 s4.1, unzigI s1.2.1, unzigI s2.2.1, s3.2.1, s4.2.1) by
    unfold decR
    dsimp only
    rw [H1.out, H2.out, H3.out, H4.out])
  clear hG hz2 hbb H1 H2 H3 H4
  have hnr : nr ≤ 1048576 := by
    have h1 := HLEN.out
    rw [HD.out] at h1
    dsimp only at h1
    have h2 := HNR.out
    have h3 := HL.out
    omega
  have hbx := (Below.refl w6.heap.size w6).alloc (Nat.le_refl _) (.cells #[.int .i64 (unzigI s1.2.1), .int .i64 (unzigI s2.2.1), .slice Ar nr cr, .int .u64 ((s4.2.1 : Nat) : Int)] 32)
  have hq7 := Blk.new w6 32 #[.int .i64 (unzigI s1.2.1), .int .i64 (unzigI s2.2.1), .slice Ar nr cr, .int .u64 ((s4.2.1 : Nat) : Int)]
  have hz7 := hz6.all hbx
  have hR7 := hR6.all hbx
  have hBT7 := hBT.all hbx
  have hb7 := bt hb6 hbx
  clear hbx hz6 hR6 hBT hb6
  go_wp2_with fail
  refine (rend_any _ gd _ _ _ (Lib.hid hR7)).mono ?_
  rintro e w8 ⟨rfl, rfl⟩
  generalize w6.alloc (.cells #[.int .i64 (unzigI s1.2.1), .int .i64 (unzigI s2.2.1), .slice Ar nr cr, .int .u64 ((s4.2.1 : Nat) : Int)] 32) = w8 at *
  generalize w6.heap.size = gq at *
  obtain ⟨q0, q1, q2, q3, -, -, -, -⟩ := blk4 hq7
  obtain ⟨y0, y1, y2, y3, v0, v1, v2, v3⟩ := blk4 hz7
  have hnb : ∀ b, b = w.heap.size → ¬ Ty w8 b 5 := by rintro b rfl ht; exact absurd (Ty.unique hz7.ty ht) (by decide)
  have HB7 := Lib.hid hb7
  have HBT := Lib.hid hBT7
  clear hb7 hBT7 hR7
  rcases hend : (endI s4.2.2 s4.1 != 0) with _ | _
  · have h0 : (decR bs).1 = 0 := by rw [HD.out]; simpa [bne] using hend
    have H0 := Lib.hid h0
    clear h0
    go_wp2
    obtain ⟨-, m8⟩ := blk_set4 hz7 (.int .i64 (unzigI s1.2.1)) (.int .i64 (unzigI s2.2.1)) (.slice Ar nr cr) (.int .u64 ((s4.2.1 : Nat) : Int))
    exact bodyPost_ret (v := .tuple #[.agg #[.int .i64 (unzigI s1.2.1), .int .i64 (unzigI s2.2.1), .slice Ar nr cr, .int .u64 ((s4.2.1 : Nat) : Int)], .int .i64 0]) (by simp [results, Try.results45, go_sem, y0, y1, y2, y3]) rfl
      ⟨⟨unzigI s1.2.1, unzigI s2.2.1, Ar, nr, cr, s3.2.1, ((s4.2.1 : Nat) : Int)⟩, by rw [if_pos H0.out]; rfl, ⟨HBT.out.mod m8 hnb, hnr⟩, by rw [if_pos H0.out, HD.out]; rfl, m8.below HB7.out HB7.out.size (by rintro b rfl; exact Nat.le_refl _)⟩
  · have h0 : (decR bs).1 ≠ 0 := by rw [HD.out]; simpa [bne] using hend
    have H0 := Lib.hid h0
    clear h0
    go_wp2
    obtain ⟨-, m8⟩ := blk_set4 hz7 (.int .i64 0) (.int .i64 0) (.slice none 0 0) (.int .u64 0)
    exact bodyPost_ret (v := .tuple #[.agg #[.int .i64 0, .int .i64 0, .slice none 0 0, .int .u64 0], .int .i64 2]) (by simp [results, Try.results45, go_sem, y0, y1, y2, y3]) rfl
      ⟨⟨0, 0, none, 0, 0, [], 0⟩, by rw [if_neg H0.out]; rfl, ⟨Bts.nil _, Nat.zero_le _⟩, by rw [if_neg H0.out]; rfl, m8.below HB7.out HB7.out.size (by rintro b rfl; exact Nat.le_refl _)⟩
end Go.Proofs.Ytompkpleiichaaa
