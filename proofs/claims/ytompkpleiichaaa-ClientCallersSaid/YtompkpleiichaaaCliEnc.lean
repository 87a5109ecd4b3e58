/- client: Encode and Decode. -/
import Derived.Test.YtompkpleiichaaaCliRq
import Derived.Test.YtompkpleiichaaaWireRefW
import Derived.Test.YtompkpleiichaaaWireRound
namespace Go.Proofs.Ytompkpleiichaaa
open Go.RowKit

/-- The encoding of a request. -/
def encR (cl num : Int) (bs : List UInt8) (tag : Nat) : List UInt8 := [] ++ encInt cl ++ encInt num ++ encRaw bs ++ varint tag
/-- What Decode reads: the error at the end, and the four parts. -/
def decR (bs : List UInt8) : Int × Int × Int × List UInt8 × Nat :=
  let s1 := readU bs 0
  let s2 := readU s1.2.2 s1.1
  let s3 := readRaw s2.2.2 s2.1
  let s4 := readU s3.2.2 s3.1
  (endI s4.2.2 s4.1, unzigI s1.2.1, unzigI s2.2.1, s3.2.1, s4.2.1)
theorem decR_enc {cl num : Int} {bs : List UInt8} {tag : Nat} (hc : InI cl) (hn : InI num) (hb : bs.length ≤ 18446744073709551615) (ht : tag ≤ 18446744073709551615) : decR (encR cl num bs tag) = (0, cl, num, bs, tag) := by
  have e1 : readU (encR cl num bs tag) 0 = (0, zigI cl, encInt num ++ (encRaw bs ++ varint tag)) := by
    unfold readU encR
    rw [if_pos rfl, List.nil_append, List.append_assoc, List.append_assoc]
    exact decU_int hc _
  have e2 : readU (encInt num ++ (encRaw bs ++ varint tag)) 0 = (0, zigI num, encRaw bs ++ varint tag) := by
    unfold readU
    rw [if_pos rfl]
    exact decU_int hn _
  have e3 : readRaw (encRaw bs ++ varint tag) 0 = (0, bs, varint tag) := by
    unfold readRaw
    rw [if_pos rfl]
    exact decRaw_enc hb _
  have e4 : readU (varint tag) 0 = (0, tag, []) := by
    unfold readU
    rw [if_pos rfl]
    have := decU_enc ht []
    rwa [List.append_nil] at this
  simp only [decR, e1, e2, e3, e4, unzig_zig]
  rfl
theorem readU_inv {bs : List UInt8} {err : Int} (h : (readU bs err).1 = 0) : err = 0 ∧ bs = varint (readU bs err).2.1 ++ (readU bs err).2.2 := by
  obtain ⟨h1, h2⟩ := readU_ok h
  refine ⟨h1, decU_inv ?_⟩
  rw [← h2]
  exact Prod.ext h rfl
theorem readRaw_inv {bs : List UInt8} {err : Int} (h : (readRaw bs err).1 = 0) : err = 0 ∧ bs = encRaw (readRaw bs err).2.1 ++ (readRaw bs err).2.2 := by
  by_cases h1 : (readU bs err).1 = 0
  · by_cases h2 : (readU bs err).2.2.length < (readU bs err).2.1
    · rw [readRaw_more h1 h2] at h
      cases h
    · have h3 : (readU bs err).2.1 ≤ (readU bs err).2.2.length := by omega
      obtain ⟨e0, e1⟩ := readU_inv h1
      refine ⟨e0, ?_⟩
      rw [readRaw_ok h1 h3]
      dsimp only
      unfold encRaw
      rw [List.length_take, Nat.min_eq_left h3, List.append_assoc, List.take_append_drop]
      exact e1
  · rw [readRaw_err h1] at h
    exact absurd h h1
theorem endI_zero {rest : List UInt8} {err : Int} (h : endI rest err = 0) : err = 0 ∧ rest = [] := by
  unfold endI at h
  split at h
  · rename_i h0
    split at h
    · exact ⟨h0, List.eq_nil_of_length_eq_zero ‹_›⟩
    · cases h
  · rename_i h0
    exact absurd h h0
/-- One encoding. -/
theorem decR_one {bs : List UInt8} (h : (decR bs).1 = 0) : bs = encR (decR bs).2.1 (decR bs).2.2.1 (decR bs).2.2.2.1 (decR bs).2.2.2.2 := by
  unfold decR at h ⊢
  dsimp only at h ⊢
  obtain ⟨h4, r4⟩ := endI_zero h
  obtain ⟨h3, r3⟩ := readU_inv h4
  obtain ⟨h2, r2⟩ := readRaw_inv h3
  obtain ⟨h1, r1⟩ := readU_inv h2
  obtain ⟨-, r0⟩ := readU_inv h1
  rw [r4, List.append_nil] at r3
  unfold encR encInt
  rw [List.nil_append, zig_unzig, zig_unzig, List.append_assoc, List.append_assoc, ← r3, ← r2, ← r1, ← r0]
theorem decR_range (bs : List UInt8) : InI (decR bs).2.1 ∧ InI (decR bs).2.2.1 ∧ (decR bs).2.2.2.2 ≤ 18446744073709551615 := ⟨unzigI_range (readU_lt _ _), unzigI_range (readU_lt _ _), readU_lt _ _⟩
theorem readU_len (bs : List UInt8) (err : Int) : (readU bs err).2.2.length ≤ bs.length := by
  unfold readU
  split
  · exact (decU_lt bs 0 0 (by decide) (by decide)).2
  · simp
theorem readRaw_len (bs : List UInt8) (err : Int) : (readRaw bs err).2.1.length ≤ bs.length := by
  have := readU_len bs err
  by_cases h1 : (readU bs err).1 = 0
  · by_cases h2 : (readU bs err).2.2.length < (readU bs err).2.1
    · rw [readRaw_more h1 h2]; simp
    · rw [readRaw_ok h1 (by omega)]
      dsimp only
      rw [List.length_take]
      omega
  · rw [readRaw_err h1]; simp
theorem decR_len (bs : List UInt8) : (decR bs).2.2.2.1.length ≤ bs.length := by
  unfold decR
  dsimp only
  exact Nat.le_trans (readRaw_len _ _) (Nat.le_trans (readU_len _ _) (readU_len _ _))

set_option maxRecDepth 100000 in
set_option maxHeartbeats 1000000 in
theorem encodeC_any (r : Rq) (tagN : Nat) (w : World) (hr : Hid (r.ok w)) (hc : InI r.cl) (hnm : InI r.num) (HT : Hid (r.tag = (tagN : Int))) (ht : tagN ≤ 18446744073709551615) : Calls Try.prog 40 #[r.val] w (RetB (encR r.cl r.num r.bs tagN) w) := by
  have HL := Lib.hid hr.out.1.1
  have hn := hr.out.2
  have hR0 := hr.out.1.rd
  obtain ⟨hc1, hc2⟩ := hc
  obtain ⟨hn1, hn2⟩ := hnm
  have hW := Wr.new (w.alloc (.cells #[.int .i64 r.cl, .int .i64 r.num, .slice r.A r.n r.c, .int .u64 r.tag] 32))
  have hB : Below (w.heap.size + 1) (w.alloc (.cells #[.int .i64 r.cl, .int .i64 r.num, .slice r.A r.n r.c, .int .u64 r.tag] 32)) ((w.alloc (.cells #[.int .i64 r.cl, .int .i64 r.num, .slice r.A r.n r.c, .int .u64 r.tag] 32)).alloc (.cells #[.slice none 0 0] 78)) := (Below.refl _ _).alloc (by simp) _
  have hb1 := (Below.refl w.heap.size w).alloc (Nat.le_refl _) (.cells #[.int .i64 r.cl, .int .i64 r.num, .slice r.A r.n r.c, .int .u64 r.tag] 32)
  have hq := Blk.new w 32 #[.int .i64 r.cl, .int .i64 r.num, .slice r.A r.n r.c, .int .u64 r.tag]
  rw [alloc_size] at hW
  have hl1 : ([] ++ encInt r.cl).length ≤ 10 := by rw [List.nil_append]; exact encInt_len hc1 hc2
  have hl2 : ([] ++ encInt r.cl ++ encInt r.num).length ≤ 20 := by rw [List.length_append]; have := encInt_len hn1 hn2; omega
  have hl3 : ([] ++ encInt r.cl ++ encInt r.num ++ encRaw r.bs).length ≤ 2000000 := by
    rw [List.length_append]
    have h1 : (encRaw r.bs).length ≤ 10 + r.n := by
      unfold encRaw
      rw [List.length_append, HL.out]
      have := varint_len10 (n := r.n) (by omega)
      omega
    omega
  have HL4 := Lib.hid (show (encR r.cl r.num r.bs tagN).length ≤ 70368744177664 by
    unfold encR
    rw [List.length_append]
    have := varint_len10 ht
    omega)
  have HR := Lib.hid (show Rd (w.alloc (.cells #[.int .i64 r.cl, .int .i64 r.num, .slice r.A r.n r.c, .int .u64 r.tag] 32)) w.heap.size r.A r.n (vByte r.bs) from hR0.alloc (Nat.le_refl _) _)
  have HQ := Lib.hid hq
  have HW := Lib.hid hW
  have HB1 := Lib.hid hb1
  clear hR0 hq hW hb1
  unfold Rq.val
  go_enter Try.func40, Try.ntmps40
  go_wp2_with fail
  generalize w.alloc (.cells #[.int .i64 r.cl, .int .i64 r.num, .slice r.A r.n r.c, .int .u64 r.tag] 32) = w1 at *
  refine (wint_any (w.heap.size + 1) (w.heap.size + 1) [] _ _ HW hc1 hc2 (by decide)).mono ?_
  rintro e w3 ⟨rfl, hW3, hb3⟩
  replace hB := hB.trans hb3
  obtain ⟨q0, q1, q2, q3, -, -, -, -⟩ := blk4 (HQ.out.below hB (by omega))
  clear hb3 HW
  go_wp2_with fail
  refine (wint_any (w.heap.size + 1) (w.heap.size + 1) _ _ _ (Lib.hid hW3) hn1 hn2 (by omega)).mono ?_
  rintro e w4 ⟨rfl, hW4, hb4⟩
  replace hB := hB.trans hb4
  clear q0 q1 q2 q3 hb4 hW3
  obtain ⟨q0, q1, q2, q3, -, -, -, -⟩ := blk4 (HQ.out.below hB (by omega))
  go_wp2_with fail
  refine (wraw_any (w.heap.size + 1) (w.heap.size + 1) _ r.bs _ _ _ w.heap.size _ (Lib.hid hW4) HL (by omega) (HR.out.below hB (by omega)) (by omega) (by omega)).mono ?_
  rintro e w5 ⟨rfl, hW5, hb5⟩
  replace hB := hB.trans hb5
  clear q0 q1 q2 q3 hb5 hW4
  obtain ⟨q0, q1, q2, q3, -, -, -, -⟩ := blk4 (HQ.out.below hB (by omega))
  go_wp2_with fail
  refine (wuint_any (w.heap.size + 1) (w.heap.size + 1) _ tagN _ HT.out _ (Lib.hid hW5) ht (by omega)).mono ?_
  rintro e w6 ⟨rfl, hW6, hb6⟩
  replace hB := hB.trans hb6
  clear q0 q1 q2 q3 hb6 hW5
  go_wp2_with fail
  refine (wdone_any (w.heap.size + 1) (w.heap.size + 1) _ _ (Lib.hid hW6) HL4.out).mono ?_
  rintro e w7 ⟨A', n', c', rfl, -, -, HN, hown, -, hb7⟩
  have hz := hB.size
  have hz1 := HB1.out.size
  have HBF := Lib.hid (show Below w.heap.size w w7 from HB1.out.trans ((hB.mono (by omega)).trans (hb7.mono (by omega))))
  have HOW := Lib.hid (own_lower hown (show w.heap.size ≤ w6.heap.size by omega))
  clear hown hb7 hW6 hB
  go_wp2
  go_ret
  exact ⟨A', n', c', rfl, HN, HOW.out, HBF.out⟩
end Go.Proofs.Ytompkpleiichaaa
