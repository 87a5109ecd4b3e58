/- The walks of worldmintref02's encodings. -/
import Derived.Test.YtompkpleiichaaaHWireCut
import Derived.Test.YtompkpleiichaaaHCliRq
import Derived.Test.YtompkpleiichaaaHG28

namespace Go.Proofs.Ytompkpleiichaaa
open Go.RowKit

/-- A row of bytes of the call's own is returned. -/
def RetB (bs : List UInt8) (w : World) (e : Ending) (w' : World) : Prop :=
  ∃ (A : Option Addr) (n c : Nat), e = .returned (.slice A n c) ∧ Hid (bs.length = n) ∧ w'.ownsRow w.heap.size 5 1 (.slice A n c) n (bs.map fun b => Value.int .u8 ((b.toNat : Nat) : Int)) ∧ Below w.heap.size w w'
theorem fit_of_mem {vs : List V} (h : ∀ y ∈ vs, FitV y) : ∀ j : Nat, FitV (vs[j]?.getD V0) := by
  intro j
  by_cases hj : j < vs.length
  · rw [List.getElem?_eq_getElem hj]; exact h _ (List.getElem_mem _)
  · rw [List.getElem?_eq_none (by omega)]; exact fit0 0
theorem VRow.take {w : World} {B n m : Nat} {A : Option Addr} {vs : List V} (h : VRow w B A n vs) (hm : m ≤ n) : VRow w B A m (vs.take m) := by
  obtain ⟨hl, S, T, h1, h2⟩ := h
  have e : ∀ j, j < m → (vs.take m)[j]?.getD V0 = vs[j]?.getD V0 := fun j hj => by rw [List.getElem?_take, if_pos hj]
  refine ⟨by rw [List.length_take, hl]; omega, S, T, fun hn => ?_, fun j hj => ?_⟩
  · obtain ⟨b, off, e1, hb, hc⟩ := h1 (by omega)
    exact ⟨b, off, e1, hb, fun j hj i hi => by rw [e j hj]; exact hc j (by omega) i hi⟩
  · rw [e j hj]; exact h2 j (by omega)
theorem Wr.drew {w : World} {B gd : Nat} {bs : List UInt8} (h : Wr w B gd bs) : Wr w.drew B gd bs := h
/-- append of one byte. -/
theorem own_one {w : World} {base k : Nat} {v : Value} {bs : List UInt8} (h : w.ownsRow base 5 1 v k (bs.map fun b => Value.int .u8 ((b.toNat : Nat) : Int))) (x : UInt8) (xi : Int) (hx : xi = ((x.toNat : Nat) : Int)) (hk : k ≤ 35184372088832) (hbase : base ≤ w.heap.size) :
    ∃ g c w', Hid ((Builtin.append_ #[23, 23] 23 #[v, .slice (some ⟨w.heap.size, 0, none⟩) 1 1]).run Try.prog (w.alloc (.cells #[.int .u8 xi] 5)) = .ok (.slice (some ⟨g, 0, none⟩) (k + 1) c) w') ∧
      w'.ownsRow base 5 1 (.slice (some ⟨g, 0, none⟩) (k + 1) c) (k + 1) ((bs ++ [x]).map fun b => Value.int .u8 ((b.toNat : Nat) : Int)) ∧ Below base w w' := by
  subst hx
  obtain ⟨i0, hi, hz0, hz1, hz2⟩ := info_parts info_u8
  obtain ⟨g, c, w', hap, hown, hg, _, _⟩ := run_append_one (P := Try.prog) w base 23 23 5 i0 _ 1 Try.underlying23 hi hz0 hz1 hz2 rfl v k _ h (.int .u8 ((x.toNat : Nat) : Int)) rfl (by unfold maxLen; omega) (by omega) hbase
  exact ⟨g, c, w', Lib.hid hap, by rw [List.map_append]; exact hown, (Below.refl base w).grown hg hbase (fun r e => (h.lt r e).1)⟩
/-- append of many bytes. -/
theorem own_many {w : World} {base k m c : Nat} {v : Value} {bs xs : List UInt8} {A : Option Addr} (h : w.ownsRow base 5 1 v k (bs.map fun b => Value.int .u8 ((b.toNat : Nat) : Int))) (hx : xs.length = m) (hR : Rd w w.heap.size A m (vByte xs)) (hk : k + m ≤ 35184372088832) (hbase : base ≤ w.heap.size) :
    ∃ A' n' c' w', Hid ((Builtin.append_ #[23, 23] 23 #[v, .slice A m c]).run Try.prog w = .ok (.slice A' n' c') w') ∧ Hid (n' = k + m) ∧
      w'.ownsRow base 5 1 (.slice A' n' c') n' ((bs ++ xs).map fun b => Value.int .u8 ((b.toNat : Nat) : Int)) ∧ Below base w w' := by
  obtain ⟨i0, hi, hz0, hz1, hz2⟩ := info_parts info_u8
  obtain ⟨v', w', hap, hown, hg, _⟩ := run_append_rd (P := Try.prog) w base 23 23 5 i0 _ 1 Try.underlying23 hi hz0 hz1 hz2 rfl v k _ h w.heap.size A m c (vByte xs) hR hR.none_ (fun _ _ => rfl) (by unfold maxLen; omega) (by omega) hbase
  obtain ⟨A', c', rfl⟩ := own_slice hown
  have e : (List.range m).map (vByte xs) = xs.map fun b => Value.int .u8 ((b.toNat : Nat) : Int) := by
    subst hx
    refine List.ext_getElem (by simp) fun i h1 h2 => ?_
    have hi : i < xs.length := by simpa using h2
    simp [vByte, hi]
  rw [e, ← List.map_append] at hown
  exact ⟨A', k + m, c', w', Lib.hid hap, Lib.hid rfl, hown, (Below.refl base w).grown hg hbase (fun r e => (h.lt r e).1)⟩

set_option maxRecDepth 100000 in
set_option maxHeartbeats 1000000 in
theorem euint_any (n : Nat) (ni : Int) (hni : ni = (n : Int)) (w : World) (hn : n ≤ 18446744073709551615) :
    Calls Try.prog 65 #[.int .u64 ni] w (RetB (varint n) w) := by
  subst hni
  have HV := Lib.hid (varint_len10 hn)
  go_enter Try.func65, Try.ntmps65
  go_wp2
  go_loopw [0, 3] (fun v o wr => ∃ m k : Nat, ∃ pre : List UInt8, v = .int .u64 (m : Int) ∧ m ≤ 18446744073709551615 ∧ k ≤ 10 ∧ Hid (pre.length = k) ∧ Hid (pre ++ varint m = varint n) ∧ wr.ownsRow w.heap.size 5 1 o k (pre.map fun b => Value.int .u8 ((b.toNat : Nat) : Int)) ∧ Below w.heap.size w wr) (fun v _ _ => (intOf v).toNat)
  case atStart => exact ⟨n, 0, [], rfl, hn, by omega, Lib.hid rfl, Lib.hid rfl, World.ownsRow_nil _ _ _ _, Below.refl _ _⟩
  case round =>
    obtain ⟨m, k, pre, rfl, hm, hk, HK, HE, hown, hb⟩ := hrel
    obtain ⟨v3, rfl⟩ : ∃ x, x = u3 := ⟨_, rfl⟩
    by_cases hge : 128 ≤ m
    · have hk9 : k + 1 ≤ 10 := by
        have h1 := congrArg List.length HE.out
        rw [List.length_append, varint_ge hge, List.length_cons] at h1
        have := HV.out
        have := HK.out
        omega
      obtain ⟨g, c, w3, HA, hown3, hb3⟩ := own_one hown (UInt8.ofNat (m % 128 + 128)) (128 + (m : Int) % 128) (by rw [ofNat_toNat (by omega)]; omega) (by omega) hb.size
      have hge' : 127 < (m : Int) := by omega
      go_wp2_with (at_builtin; refine wpList_append_run HA.out rfl rfl rfl rfl ?_)
      exact ⟨⟨m / 128, k + 1, _, by go_num, by omega, by omega, Lib.hid (by rw [List.length_append, HK.out]; rfl), Lib.hid (by rw [← HE.out, varint_ge hge, List.append_assoc]; rfl), hown3, hb.trans hb3⟩, by simp [intOf]; omega⟩
    · obtain ⟨g, c, w3, HA, hown3, hb3⟩ := own_one hown (UInt8.ofNat m) (m : Int) (by rw [ofNat_toNat (by omega)]) (by omega) hb.size
      have hge' : (m : Int) ≤ 127 := by omega
      go_wp2_with (at_builtin; refine wpList_append_run HA.out rfl rfl rfl rfl ?_)
      go_ret
      have he : pre ++ [UInt8.ofNat m] = varint n := by rw [← HE.out, varint_lt (by omega)]
      exact ⟨_, _, _, rfl, Lib.hid (by rw [← he, List.length_append, HK.out]; rfl), by rw [← he]; exact hown3, hb.trans hb3⟩

set_option maxRecDepth 100000 in
set_option maxHeartbeats 400000 in
theorem ezig_any (n : Int) (w : World) (h1 : -9223372036854775808 ≤ n) (h2 : n ≤ 9223372036854775807) :
    Calls Try.prog 75 #[.int .i64 n] w fun e w' => e = .returned (.int .u64 ((zigI n : Nat) : Int)) ∧ w = w' := by
  by_cases h : n < 0
  · have HZ := Lib.hid (show ((zigI n : Nat) : Int) = 2 * (-(n + 1)) + 1 by unfold zigI; rw [if_pos h]; omega)
    go_enter Try.func75, Try.ntmps75
    go_wp2
    go_ret
    rw [HZ.out]
    exact ⟨rfl, rfl⟩
  · have HZ := Lib.hid (show ((zigI n : Nat) : Int) = 2 * n by unfold zigI; rw [if_neg h]; omega)
    go_enter Try.func75, Try.ntmps75
    go_wp2
    go_ret
    rw [HZ.out]
    exact ⟨rfl, rfl⟩

set_option maxRecDepth 100000 in
set_option maxHeartbeats 400000 in
theorem eint_any (n : Int) (w : World) (h1 : -9223372036854775808 ≤ n) (h2 : n ≤ 9223372036854775807) :
    Calls Try.prog 63 #[.int .i64 n] w (RetB (encInt n) w) := by
  go_enter Try.func63, Try.ntmps63
  go_wp2_with (first
    | (go_at_call 75; ((with_reducible refine (ezig_any _ _ h1 h2).mono ?_); rintro e w1 ⟨rfl, rfl⟩))
    | (go_at_call 65; ((with_reducible refine (euint_any _ _ rfl _ (zigI_lt h1 h2)).mono ?_); rintro e w1 ⟨A, m, c, rfl, q1, q2, q3⟩)))
  go_ret
  exact ⟨A, m, c, rfl, q1, q2, q3⟩

set_option maxRecDepth 100000 in
set_option maxHeartbeats 400000 in
theorem eraw_any (A : Option Addr) (m c : Nat) (bs : List UInt8) (w : World) (HX : Hid (bs.length = m)) (hm : m ≤ 17592186044416) (hR : Rd w w.heap.size A m (vByte bs)) :
    Calls Try.prog 64 #[.slice A m c] w (RetB (encRaw bs) w) := by
  go_enter Try.func64, Try.ntmps64
  go_wp2_with fail
  refine (euint_any m _ rfl _ (by omega)).mono ?_
  rintro e w1 ⟨A1, n1, c1, rfl, HX1, hown1, hb1⟩
  have hn1 : n1 ≤ 10 := by rw [← HX1.out]; exact varint_len10 (by omega)
  obtain ⟨A2, n2, c2, w2, HA, HN, hown2, hb2⟩ := own_many (c := c) hown1 HX.out (hR.all hb1) (by omega) hb1.size
  go_wp2_with (at_builtin; refine wpList_append_run HA.out rfl rfl rfl rfl ?_)
  go_ret
  have he : varint m ++ bs = encRaw bs := by unfold encRaw; rw [HX.out]
  rw [he] at hown2
  exact ⟨A2, n2, c2, rfl, Lib.hid (by have := hown2.1; simpa using this), hown2, hb1.trans hb2⟩

end Go.Proofs.Ytompkpleiichaaa

/- client: Encode and Decode. -/
namespace Go.Proofs.Ytompkpleiichaaa
open Go.RowKit

/-- The encoding of a request. -/
def encR (cl num : Int) (bs : List UInt8) (tag : Nat) : List UInt8 := [] ++ encInt cl ++ encInt num ++ encRaw bs ++ varint tag
/-- What Decode reads: the error at the end, and the four parts. -/
def decR (bs : List UInt8) : Int × Int × Int × List UInt8 × Nat :=
  let s1 := readU bs 0
  let s2 := readU s1.2.2 s1.1
  let s3 := readRaw s2.2.2 s2.1
  let s4 := readU s3.2.2 s3.1
  (endI s4.2.2 s4.1, unzigI s1.2.1, unzigI s2.2.1, s3.2.1, s4.2.1)
theorem decR_enc {cl num : Int} {bs : List UInt8} {tag : Nat} (hc : InI cl) (hn : InI num) (hb : bs.length ≤ 18446744073709551615) (ht : tag ≤ 18446744073709551615) : decR (encR cl num bs tag) = (0, cl, num, bs, tag) := by
  have e1 : readU (encR cl num bs tag) 0 = (0, zigI cl, encInt num ++ (encRaw bs ++ varint tag)) := by
    unfold readU encR
    rw [if_pos rfl, List.nil_append, List.append_assoc, List.append_assoc]
    exact decU_int hc _
  have e2 : readU (encInt num ++ (encRaw bs ++ varint tag)) 0 = (0, zigI num, encRaw bs ++ varint tag) := by
    unfold readU
    rw [if_pos rfl]
    exact decU_int hn _
  have e3 : readRaw (encRaw bs ++ varint tag) 0 = (0, bs, varint tag) := by
    unfold readRaw
    rw [if_pos rfl]
    exact decRaw_enc hb _
  have e4 : readU (varint tag) 0 = (0, tag, []) := by
    unfold readU
    rw [if_pos rfl]
    have := decU_enc ht []
    rwa [List.append_nil] at this
  simp only [decR, e1, e2, e3, e4, unzig_zig]
  rfl
theorem readU_inv {bs : List UInt8} {err : Int} (h : (readU bs err).1 = 0) : err = 0 ∧ bs = varint (readU bs err).2.1 ++ (readU bs err).2.2 := by
  obtain ⟨h1, h2⟩ := readU_ok h
  refine ⟨h1, decU_inv ?_⟩
  rw [← h2]
  exact Prod.ext h rfl
theorem readRaw_inv {bs : List UInt8} {err : Int} (h : (readRaw bs err).1 = 0) : err = 0 ∧ bs = encRaw (readRaw bs err).2.1 ++ (readRaw bs err).2.2 := by
  by_cases h1 : (readU bs err).1 = 0
  · by_cases h2 : (readU bs err).2.2.length < (readU bs err).2.1
    · rw [readRaw_more h1 h2] at h
      cases h
    · have h3 : (readU bs err).2.1 ≤ (readU bs err).2.2.length := by omega
      obtain ⟨e0, e1⟩ := readU_inv h1
      refine ⟨e0, ?_⟩
      rw [readRaw_ok h1 h3]
      dsimp only
      unfold encRaw
      rw [List.length_take, Nat.min_eq_left h3, List.append_assoc, List.take_append_drop]
      exact e1
  · rw [readRaw_err h1] at h
    exact absurd h h1
theorem endI_zero {rest : List UInt8} {err : Int} (h : endI rest err = 0) : err = 0 ∧ rest = [] := by
  unfold endI at h
  split at h
  · rename_i h0
    split at h
    · exact ⟨h0, List.eq_nil_of_length_eq_zero ‹_›⟩
    · cases h
  · rename_i h0
    exact absurd h h0
/-- One encoding. -/
theorem decR_one {bs : List UInt8} (h : (decR bs).1 = 0) : bs = encR (decR bs).2.1 (decR bs).2.2.1 (decR bs).2.2.2.1 (decR bs).2.2.2.2 := by
  unfold decR at h ⊢
  dsimp only at h ⊢
  obtain ⟨h4, r4⟩ := endI_zero h
  obtain ⟨h3, r3⟩ := readU_inv h4
  obtain ⟨h2, r2⟩ := readRaw_inv h3
  obtain ⟨h1, r1⟩ := readU_inv h2
  obtain ⟨-, r0⟩ := readU_inv h1
  rw [r4, List.append_nil] at r3
  unfold encR encInt
  rw [List.nil_append, zig_unzig, zig_unzig, List.append_assoc, List.append_assoc, ← r3, ← r2, ← r1, ← r0]
theorem decR_range (bs : List UInt8) : InI (decR bs).2.1 ∧ InI (decR bs).2.2.1 ∧ (decR bs).2.2.2.2 ≤ 18446744073709551615 := ⟨unzigI_range (readU_lt _ _), unzigI_range (readU_lt _ _), readU_lt _ _⟩
theorem readU_len (bs : List UInt8) (err : Int) : (readU bs err).2.2.length ≤ bs.length := by
  unfold readU
  split
  · exact (decU_lt bs 0 0 (by decide) (by decide)).2
  · simp
theorem readRaw_len (bs : List UInt8) (err : Int) : (readRaw bs err).2.1.length ≤ bs.length := by
  have := readU_len bs err
  by_cases h1 : (readU bs err).1 = 0
  · by_cases h2 : (readU bs err).2.2.length < (readU bs err).2.1
    · rw [readRaw_more h1 h2]; simp
    · rw [readRaw_ok h1 (by omega)]
      dsimp only
      rw [List.length_take]
      omega
  · rw [readRaw_err h1]; simp
theorem decR_len (bs : List UInt8) : (decR bs).2.2.2.1.length ≤ bs.length := by
  unfold decR
  dsimp only
  exact Nat.le_trans (readRaw_len _ _) (Nat.le_trans (readU_len _ _) (readU_len _ _))

set_option maxRecDepth 100000 in
set_option maxHeartbeats 1000000 in
theorem encodeC_any (r : Rq) (tagN : Nat) (w : World) (hr : Hid (r.ok w)) (hc : InI r.cl) (hnm : InI r.num) (HT : Hid (r.tag = (tagN : Int))) (ht : tagN ≤ 18446744073709551615) : Calls Try.prog 40 #[r.val] w (RetB (encR r.cl r.num r.bs tagN) w) := by
  have HL := Lib.hid hr.out.1.1
  have hn := hr.out.2
  have hR0 := hr.out.1.rd
  obtain ⟨hc1, hc2⟩ := hc
  obtain ⟨hn1, hn2⟩ := hnm
  have hW := Wr.new (w.alloc (.cells #[.int .i64 r.cl, .int .i64 r.num, .slice r.A r.n r.c, .int .u64 r.tag] 32))
  have hB : Below (w.heap.size + 1) (w.alloc (.cells #[.int .i64 r.cl, .int .i64 r.num, .slice r.A r.n r.c, .int .u64 r.tag] 32)) ((w.alloc (.cells #[.int .i64 r.cl, .int .i64 r.num, .slice r.A r.n r.c, .int .u64 r.tag] 32)).alloc (.cells #[.slice none 0 0] 78)) := (Below.refl _ _).alloc (by simp) _
  have hb1 := (Below.refl w.heap.size w).alloc (Nat.le_refl _) (.cells #[.int .i64 r.cl, .int .i64 r.num, .slice r.A r.n r.c, .int .u64 r.tag] 32)
  have hq := Blk.new w 32 #[.int .i64 r.cl, .int .i64 r.num, .slice r.A r.n r.c, .int .u64 r.tag]
  rw [alloc_size] at hW
  have hl1 : ([] ++ encInt r.cl).length ≤ 10 := by rw [List.nil_append]; exact encInt_len hc1 hc2
  have hl2 : ([] ++ encInt r.cl ++ encInt r.num).length ≤ 20 := by rw [List.length_append]; have := encInt_len hn1 hn2; omega
  have hl3 : ([] ++ encInt r.cl ++ encInt r.num ++ encRaw r.bs).length ≤ 2000000 := by
    rw [List.length_append]
    have h1 : (encRaw r.bs).length ≤ 10 + r.n := by
      unfold encRaw
      rw [List.length_append, HL.out]
      have := varint_len10 (n := r.n) (by omega)
      omega
    omega
  have HL4 := Lib.hid (show (encR r.cl r.num r.bs tagN).length ≤ 70368744177664 by
    unfold encR
    rw [List.length_append]
    have := varint_len10 ht
    omega)
  have HR := Lib.hid (show Rd (w.alloc (.cells #[.int .i64 r.cl, .int .i64 r.num, .slice r.A r.n r.c, .int .u64 r.tag] 32)) w.heap.size r.A r.n (vByte r.bs) from hR0.alloc (Nat.le_refl _) _)
  have HQ := Lib.hid hq
  have HW := Lib.hid hW
  have HB1 := Lib.hid hb1
  clear hR0 hq hW hb1
  unfold Rq.val
  go_enter Try.func40, Try.ntmps40
  go_wp2_with fail
  generalize w.alloc (.cells #[.int .i64 r.cl, .int .i64 r.num, .slice r.A r.n r.c, .int .u64 r.tag] 32) = w1 at *
  refine (wint_any (w.heap.size + 1) (w.heap.size + 1) [] _ _ HW hc1 hc2 (by decide)).mono ?_
  rintro e w3 ⟨rfl, hW3, hb3⟩
  replace hB := hB.trans hb3
  obtain ⟨q0, q1, q2, q3, -, -, -, -⟩ := blk4 (HQ.out.below hB (by omega))
  clear hb3 HW
  go_wp2_with fail
  refine (wint_any (w.heap.size + 1) (w.heap.size + 1) _ _ _ (Lib.hid hW3) hn1 hn2 (by omega)).mono ?_
  rintro e w4 ⟨rfl, hW4, hb4⟩
  replace hB := hB.trans hb4
  clear q0 q1 q2 q3 hb4 hW3
  obtain ⟨q0, q1, q2, q3, -, -, -, -⟩ := blk4 (HQ.out.below hB (by omega))
  go_wp2_with fail
  refine (wraw_any (w.heap.size + 1) (w.heap.size + 1) _ r.bs _ _ _ w.heap.size _ (Lib.hid hW4) HL (by omega) (HR.out.below hB (by omega)) (by omega) (by omega)).mono ?_
  rintro e w5 ⟨rfl, hW5, hb5⟩
  replace hB := hB.trans hb5
  clear q0 q1 q2 q3 hb5 hW4
  obtain ⟨q0, q1, q2, q3, -, -, -, -⟩ := blk4 (HQ.out.below hB (by omega))
  go_wp2_with fail
  refine (wuint_any (w.heap.size + 1) (w.heap.size + 1) _ tagN _ HT.out _ (Lib.hid hW5) ht (by omega)).mono ?_
  rintro e w6 ⟨rfl, hW6, hb6⟩
  replace hB := hB.trans hb6
  clear q0 q1 q2 q3 hb6 hW5
  go_wp2_with fail
  refine (wdone_any (w.heap.size + 1) (w.heap.size + 1) _ _ (Lib.hid hW6) HL4.out).mono ?_
  rintro e w7 ⟨A', n', c', rfl, -, -, HN, hown, -, hb7⟩
  have hz := hB.size
  have hz1 := HB1.out.size
  have HBF := Lib.hid (show Below w.heap.size w w7 from HB1.out.trans ((hB.mono (by omega)).trans (hb7.mono (by omega))))
  have HOW := Lib.hid (own_lower hown (show w.heap.size ≤ w6.heap.size by omega))
  clear hown hb7 hW6 hB
  go_wp2
  go_ret
  exact ⟨A', n', c', rfl, HN, HOW.out, HBF.out⟩
end Go.Proofs.Ytompkpleiichaaa
