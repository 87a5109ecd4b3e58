/- client: requests of the package and of the reference; Same; Changed. -/
import Derived.Test.YtompkpleiichaaaHG6
import Derived.Test.YtompkpleiichaaaHLaw

namespace Go.Proofs.Ytompkpleiichaaa
open Go.RowKit

set_option maxRecDepth 100000 in
theorem request_any (r : Rq) (w : World) : Calls Try.prog 16 #[r.val] w fun e w' => e = .returned r.val ∧ Below w.heap.size w w' := by
  unfold Rq.val
  go_enter Try.func16, Try.ntmps16
  go_wp2
  exact bodyPost_ret (v := .agg #[.int .i64 r.cl, .int .i64 r.num, .slice r.A r.n r.c, .int .u64 r.tag]) (by simp [results, Try.results16, go_sem]) rfl ⟨rfl, by repeat (first | with_reducible exact Below.refl _ _ | refine Below.setCell ?_ (by simp) _ | refine Below.alloc ?_ (by simp) _)⟩
set_option maxRecDepth 100000 in
theorem ownR_any (r : Rq) (w : World) : Calls Try.prog 14 #[r.val] w fun e w' => e = .returned r.val ∧ Below w.heap.size w w' := by
  unfold Rq.val
  go_enter Try.func14, Try.ntmps14
  go_wp2
  exact bodyPost_ret (v := .agg #[.int .i64 r.cl, .int .i64 r.num, .slice r.A r.n r.c, .int .u64 r.tag]) (by simp [results, Try.results14, go_sem]) rfl ⟨rfl, by repeat (first | with_reducible exact Below.refl _ _ | refine Below.setCell ?_ (by simp) _ | refine Below.alloc ?_ (by simp) _)⟩
/-- Two requests are alike. -/
def sameR (a b : Rq) : Bool := (a.cl == b.cl) && ((a.num == b.num) && ((a.tag == b.tag) && decide (a.bs = b.bs)))
theorem sameR_iff (a b : Rq) : sameR a b = true ↔ a.log = b.log := by
  simp only [sameR, Rq.log, Bool.and_eq_true, beq_iff_eq, decide_eq_true_eq, Prod.mk.injEq]
  exact ⟨fun ⟨h1, h2, h3, h4⟩ => ⟨h1, h2, h4, h3⟩, fun ⟨h1, h2, h3, h4⟩ => ⟨h1, h2, h4, h3⟩⟩
set_option maxRecDepth 100000 in
theorem sameRq_any (a b : Rq) (w : World) (ha : Hid (a.ok w)) (hb : Hid (b.ok w)) : Calls Try.prog 17 #[a.val, b.val] w fun e w' => e = .returned (.bool (sameR a b)) ∧ Below w.heap.size w w' := by
  have hB := ((Below.refl w.heap.size w).alloc (Nat.le_refl _) (.cells #[.int .i64 a.cl, .int .i64 a.num, .slice a.A a.n a.c, .int .u64 a.tag] 37)).alloc (by simp) (.cells #[.int .i64 b.cl, .int .i64 b.num, .slice b.A b.n b.c, .int .u64 b.tag] 37)
  have HLa := Lib.hid ha.out.1.1
  have HLb := Lib.hid hb.out.1.1
  have hna : a.n ≤ 1048576 := ha.out.2
  have hnb : b.n ≤ 1048576 := hb.out.2
  have hRa := ha.out.1.rd.all hB
  have hRb := hb.out.1.rd.all hB
  unfold Rq.val
  rcases h1 : (a.cl == b.cl) with _ | _
  · go_enter Try.func17, Try.ntmps17
    go_wp2
    go_ret
    exact ⟨by unfold sameR; rw [h1]; rfl, hB⟩
  rcases h2 : (a.num == b.num) with _ | _
  · go_enter Try.func17, Try.ntmps17
    go_wp2
    go_ret
    exact ⟨by unfold sameR; rw [h1, h2]; rfl, hB⟩
  rcases h3 : (a.tag == b.tag) with _ | _
  · go_enter Try.func17, Try.ntmps17
    go_wp2
    go_ret
    exact ⟨by unfold sameR; rw [h1, h2, h3]; rfl, hB⟩
  go_enter Try.func17, Try.ntmps17
  go_wp2_with (go_at_call 32; ((with_reducible refine (sameBytes_list _ _ _ _ _ _ a.bs b.bs _ HLa HLb hRa hRb (by omega) (by omega)).mono ?_); rintro e w3 ⟨rfl, hb3⟩; replace hB := bt hB hb3; clear hb3))
  go_ret
  exact ⟨by unfold sameR; rw [h1, h2, h3]; rfl, hB⟩

theorem wrap_byteR (z : Int) : ∃ y : UInt8, IntKind.u8.wrap z = ((y.toNat : Nat) : Int) := by
  have h1 : 0 ≤ IntKind.u8.wrap z ∧ IntKind.u8.wrap z < 256 := by simp [IntKind.wrap, IntKind.bits, IntKind.signed]; omega
  refine ⟨UInt8.ofNat (IntKind.u8.wrap z).toNat, ?_⟩
  rw [UInt8.toNat_ofNat']
  omega
/-- A request with one part changed. -/
def chgB (bs : List UInt8) (d : Int) : List UInt8 := if bs.length = 0 then bs else bs.set (aroundI d bs.length).toNat (xorB (bs[(aroundI d bs.length).toNat]?.getD 0) (UInt8.ofNat (IntKind.u8.wrap ((d.tdiv 7).tmod 256)).toNat))
def chgL (r : Rq) (which d : Int) : Int × Int × List UInt8 × Int :=
  if aroundI which 4 = 0 then (wrap64 (r.cl + d), r.num, r.bs, r.tag)
  else if aroundI which 4 = 1 then (r.cl, wrap64 (r.num + d), r.bs, r.tag)
  else if aroundI which 4 = 2 then (r.cl, r.num, r.bs, toU (r.tag + toU d))
  else (r.cl, r.num, chgB r.bs d, r.tag)
set_option maxRecDepth 100000 in
set_option maxHeartbeats 1000000 in
theorem changed_any (r : Rq) (which d : Int) (w : World) (hr : Hid (r.ok w)) (h1 : -9223372036854775808 ≤ which) (h2 : which ≤ 9223372036854775807) (h3 : -9223372036854775808 ≤ d) (h4 : d ≤ 9223372036854775807) :
    Calls Try.prog 15 #[r.val, .int .i64 which, .int .i64 d] w (RqPost (chgL r which d) w) := by
  have hb2 := ((Below.refl w.heap.size w).alloc (Nat.le_refl _) (.cells #[.int .i64 r.cl, .int .i64 r.num, .slice r.A r.n r.c, .int .u64 r.tag] 37)).alloc (by simp) (.cells #[.int .i64 0, .int .i64 0, .slice none 0 0, .int .u64 0] 37)
  have hB2 := hr.out.1.all hb2
  have HN := Lib.hid hr.out.2
  unfold Rq.val
  go_enter Try.func15, Try.ntmps15
  go_wp2_with fail
  refine (around_nat _ 4 4 _ rfl h1 h2 (by decide) (by decide)).mono ?_
  rintro e w3 ⟨k, rfl, hk, HK, rfl⟩
  rcases (show k = 0 ∨ k = 1 ∨ k = 2 ∨ k = 3 by omega) with rfl | rfl | rfl | rfl
  · clear hb2 hB2
    go_wp2
    have hb := ((Below.refl w.heap.size w).alloc (Nat.le_refl _) (.cells #[.int .i64 (wrap64 (r.cl + d)), .int .i64 (r.num), .slice r.A r.n r.c, .int .u64 (r.tag)] 37)).alloc (by simp) (.cells #[.int .i64 (wrap64 (r.cl + d)), .int .i64 (r.num), .slice r.A r.n r.c, .int .u64 (r.tag)] 37)
    exact bodyPost_ret (v := .agg #[.int .i64 (wrap64 (r.cl + d)), .int .i64 (r.num), .slice r.A r.n r.c, .int .u64 (r.tag)]) (by simp [results, Try.results15, go_sem]) rfl ⟨⟨wrap64 (r.cl + d), r.num, r.A, r.n, r.c, r.bs, r.tag⟩, rfl, ⟨hr.out.1.all hb, HN.out⟩, (by unfold chgL; rw [if_pos (show aroundI which 4 = 0 from HK.out.symm)]; rfl), hb⟩
  · clear hb2 hB2
    go_wp2
    have hb := ((Below.refl w.heap.size w).alloc (Nat.le_refl _) (.cells #[.int .i64 (r.cl), .int .i64 (wrap64 (r.num + d)), .slice r.A r.n r.c, .int .u64 (r.tag)] 37)).alloc (by simp) (.cells #[.int .i64 (r.cl), .int .i64 (wrap64 (r.num + d)), .slice r.A r.n r.c, .int .u64 (r.tag)] 37)
    exact bodyPost_ret (v := .agg #[.int .i64 (r.cl), .int .i64 (wrap64 (r.num + d)), .slice r.A r.n r.c, .int .u64 (r.tag)]) (by simp [results, Try.results15, go_sem]) rfl ⟨⟨r.cl, wrap64 (r.num + d), r.A, r.n, r.c, r.bs, r.tag⟩, rfl, ⟨hr.out.1.all hb, HN.out⟩, (by unfold chgL; rw [if_neg (by rw [show aroundI which 4 = 1 from HK.out.symm]; decide), if_pos (show aroundI which 4 = 1 from HK.out.symm)]; rfl), hb⟩
  · clear hb2 hB2
    go_wp2
    have hb := ((Below.refl w.heap.size w).alloc (Nat.le_refl _) (.cells #[.int .i64 (r.cl), .int .i64 (r.num), .slice r.A r.n r.c, .int .u64 (toU (r.tag + toU d))] 37)).alloc (by simp) (.cells #[.int .i64 (r.cl), .int .i64 (r.num), .slice r.A r.n r.c, .int .u64 (toU (r.tag + toU d))] 37)
    exact bodyPost_ret (v := .agg #[.int .i64 (r.cl), .int .i64 (r.num), .slice r.A r.n r.c, .int .u64 (toU (r.tag + toU d))]) (by simp [results, Try.results15, go_sem, toU]) rfl ⟨⟨r.cl, r.num, r.A, r.n, r.c, r.bs, toU (r.tag + toU d)⟩, rfl, ⟨hr.out.1.all hb, HN.out⟩, (by unfold chgL; rw [if_neg (by rw [show aroundI which 4 = 2 from HK.out.symm]; decide), if_neg (by rw [show aroundI which 4 = 2 from HK.out.symm]; decide), if_pos (show aroundI which 4 = 2 from HK.out.symm)]; rfl), hb⟩
  · have HL := Lib.hid hB2.1
    have b2 := (Blk.new w 37 #[.int .i64 r.cl, .int .i64 r.num, .slice r.A r.n r.c, .int .u64 r.tag]).alloc (.cells #[.int .i64 0, .int .i64 0, .slice none 0 0, .int .u64 0] 37)
    have b3 := Blk.new (w.alloc (.cells #[.int .i64 r.cl, .int .i64 r.num, .slice r.A r.n r.c, .int .u64 r.tag] 37)) 37 #[.int .i64 0, .int .i64 0, .slice none 0 0, .int .u64 0]
    rw [alloc_size] at b3
    have hnc := hB2.2.1
    have hcm := hB2.2.2.1
    have hnm := HN.out
    go_wp2_with fail
    refine (few_bytes _ _ _ r.n _ rfl r.bs _ HL hB2.rd hnc hcm (by omega)).mono ?_
    rintro e w4 ⟨A', c', k', bs', rfl, hkc, hcm', -, HKK, HX', HE', hown, hrd, hb4⟩
    obtain rfl : k' = r.n := by rw [HKK.out]; omega
    have e' : bs' = r.bs := by rw [HE'.out, ← HL.out, List.take_length]
    subst e'
    replace b2 := b2.all hb4
    replace b3 := b3.all hb4
    replace hb2 := bt hb2 hb4
    clear hb4 hB2 HKK HE' HX'
    have HBT0 := Lib.hid (Bts.of_own hown).1
    by_cases h0 : r.n = 0
    · have h0' : ¬ ((0 : Int) < (r.n : Int)) := by omega
      have HBT := HBT0
      have HB2 := Lib.hid hb2
      obtain ⟨c0, c1, c2, c3, f0, f1, f2, f3⟩ := blk4 b2
      obtain ⟨d0, d1, d2, d3, e0, e1, e2, e3⟩ := blk4 b3
      have H0 := Lib.hid h0
      clear h0 hrd hown hb2
      go_wp2
      refine bodyPost_ret (v := .agg #[.int .i64 r.cl, .int .i64 r.num, .slice A' r.n c', .int .u64 r.tag]) (by simp [results, Try.results15, go_sem, d0, d1, d2, d3]) rfl ⟨⟨r.cl, r.num, A', r.n, c', r.bs, r.tag⟩, rfl, ⟨HBT.out.mod (F := fun b => b = w.heap.size ∨ b = w.heap.size + 1) (by repeat (first | with_reducible exact Mod.refl _ _ | refine Mod.set ?_ (by simp) _)) ?_, by assumption⟩, ?_, ?_⟩
      · rintro b (rfl | rfl) h
        · exact absurd (Ty.unique h b2.ty) (by decide)
        · exact absurd (Ty.unique h b3.ty) (by decide)
      · unfold chgL
        rw [if_neg (by rw [show aroundI which 4 = 3 from HK.out.symm]; decide), if_neg (by rw [show aroundI which 4 = 3 from HK.out.symm]; decide), if_neg (by rw [show aroundI which 4 = 3 from HK.out.symm]; decide)]
        unfold chgB
        rw [if_pos (by rw [HL.out, H0.out])]
        rfl
      · repeat (first | with_reducible exact HB2.out | refine Below.setCell ?_ (by simp) _)
    · have hpos : (0 : Int) < (r.n : Int) := by omega
      obtain ⟨g', rfl, hg1, hg2⟩ := own_some hown (by omega)
      go_wp2_with fail
      refine (around_nat _ r.n _ _ rfl h3 h4 (by omega) (by omega)).mono ?_
      rintro e w5 ⟨q, rfl, hq, HQ, rfl⟩
      obtain ⟨y, hy⟩ := wrap_byteR ((d.tdiv 7).tmod 256)
      have HY := Lib.hid hy
      obtain ⟨hcell, hfz⟩ := own_byte hown hq
      have hx := xor_u8 (r.bs[q]?.getD 0) y
      have hq0 : (0 : Int) ≤ (q : Int) := by omega
      have hq1 : (q : Int) < (r.n : Int) := by omega
      have hset := own_byte_set hown q (xorB (r.bs[q]?.getD 0) y)
      have HBT := Lib.hid (Bts.of_own hset).1
      have hne1 : g' ≠ w.heap.size := by rintro rfl; exact absurd (Ty.unique b2.ty (Ty.of_own hown rfl)) (by decide)
      have hne2 : g' ≠ w.heap.size + 1 := by rintro rfl; exact absurd (Ty.unique b3.ty (Ty.of_own hown rfl)) (by decide)
      have hge : w.heap.size ≤ g' := by
        have e1 := hg1
        simp at e1
        omega
      replace b2 := b2.far (p := ⟨g', q, none⟩) (Ne.symm hne1) (.int .u8 ((xorB (r.bs[q]?.getD 0) y).toNat : Nat))
      replace b3 := b3.far (p := ⟨g', q, none⟩) (Ne.symm hne2) (.int .u8 ((xorB (r.bs[q]?.getD 0) y).toNat : Nat))
      have HB2 := Lib.hid (hb2.setCell (p := ⟨g', q, none⟩) hge (.int .u8 ((xorB (r.bs[q]?.getD 0) y).toNat : Nat)))
      obtain ⟨c0, c1, c2, c3, f0, f1, f2, f3⟩ := blk4 b2
      obtain ⟨d0, d1, d2, d3, e0, e1, e2, e3⟩ := blk4 b3
      clear hset hrd hown hb2 hg1 hg2
      go_wp2
      refine bodyPost_ret (v := .agg #[.int .i64 r.cl, .int .i64 r.num, .slice (some ⟨g', 0, none⟩) r.n c', .int .u64 r.tag]) (by simp [results, Try.results15, go_sem, d0, d1, d2, d3]) rfl ⟨⟨r.cl, r.num, some ⟨g', 0, none⟩, r.n, c', r.bs.set q (xorB (r.bs[q]?.getD 0) y), r.tag⟩, rfl, ⟨HBT.out.mod (F := fun b => b = w.heap.size ∨ b = w.heap.size + 1) (by repeat (first | with_reducible exact Mod.refl _ _ | refine Mod.set ?_ (by simp) _)) ?_, by assumption⟩, ?_, ?_⟩
      · rintro b (rfl | rfl) h
        · exact absurd (Ty.unique h b2.ty) (by decide)
        · exact absurd (Ty.unique h b3.ty) (by decide)
      · unfold chgL
        rw [if_neg (by rw [show aroundI which 4 = 3 from HK.out.symm]; decide), if_neg (by rw [show aroundI which 4 = 3 from HK.out.symm]; decide), if_neg (by rw [show aroundI which 4 = 3 from HK.out.symm]; decide)]
        have hl := HL.out
        have hy' : UInt8.ofNat (IntKind.u8.wrap ((d.tdiv 7).tmod 256)).toNat = y := by rw [HY.out, Int.toNat_natCast]; exact UInt8.ofNat_toNat
        have hqq : (aroundI d (r.bs.length : Nat)).toNat = q := by rw [hl, ← HQ.out, Int.toNat_natCast]
        unfold chgB
        rw [if_neg (by omega), hqq, hy']
        rfl
      · repeat (first | with_reducible exact HB2.out | refine Below.setCell ?_ (by simp) _)
end Go.Proofs.Ytompkpleiichaaa
