/- The walks of worldmintref02's encodings. -/
import Derived.Test.YtahajgmmoefpjaaWireCut
namespace Go.Proofs.Ytahajgmmoefpjaa
open Go.RowKit

/-- A row of bytes of the call's own is returned. -/
def RetB (bs : List UInt8) (w : World) (e : Ending) (w' : World) : Prop :=
  ∃ (A : Option Addr) (n c : Nat), e = .returned (.slice A n c) ∧ Hid (bs.length = n) ∧ w'.ownsRow w.heap.size 5 1 (.slice A n c) n (bs.map fun b => Value.int .u8 ((b.toNat : Nat) : Int)) ∧ Below w.heap.size w w'
theorem VOwn.lt0 {w : World} {base k : Nat} {v : Value} {vs : List V} (h : VOwn w base v k vs) : ∀ r, v.ownBlock = some r → r < w.heap.size := h.lt
theorem fit_of_mem {vs : List V} (h : ∀ y ∈ vs, FitV y) : ∀ j : Nat, FitV (vs[j]?.getD V0) := by
  intro j
  by_cases hj : j < vs.length
  · rw [List.getElem?_eq_getElem hj]; exact h _ (List.getElem_mem _)
  · rw [List.getElem?_eq_none (by omega)]; exact fit0 0
theorem VRow.take {w : World} {B n m : Nat} {A : Option Addr} {vs : List V} (h : VRow w B A n vs) (hm : m ≤ n) : VRow w B A m (vs.take m) := by
  obtain ⟨hl, S, T, h1, h2⟩ := h
  have e : ∀ j, j < m → (vs.take m)[j]?.getD V0 = vs[j]?.getD V0 := fun j hj => by rw [List.getElem?_take, if_pos hj]
  refine ⟨by rw [List.length_take, hl]; omega, S, T, fun hn => ?_, fun j hj => ?_⟩
  · obtain ⟨b, off, e1, hb, hc⟩ := h1 (by omega)
    exact ⟨b, off, e1, hb, fun j hj i hi => by rw [e j hj]; exact hc j (by omega) i hi⟩
  · rw [e j hj]; exact h2 j (by omega)
theorem Wr.drew {w : World} {B gd : Nat} {bs : List UInt8} (h : Wr w B gd bs) : Wr w.drew B gd bs := h
/-- append of one byte. -/
theorem own_one {w : World} {base k : Nat} {v : Value} {bs : List UInt8} (h : w.ownsRow base 5 1 v k (bs.map fun b => Value.int .u8 ((b.toNat : Nat) : Int))) (x : UInt8) (xi : Int) (hx : xi = ((x.toNat : Nat) : Int)) (hk : k ≤ 35184372088832) (hbase : base ≤ w.heap.size) :
    ∃ g c w', Hid ((Builtin.append_ #[24, 24] 24 #[v, .slice (some ⟨w.heap.size, 0, none⟩) 1 1]).run Try.prog (w.alloc (.cells #[.int .u8 xi] 5)) = .ok (.slice (some ⟨g, 0, none⟩) (k + 1) c) w') ∧
      w'.ownsRow base 5 1 (.slice (some ⟨g, 0, none⟩) (k + 1) c) (k + 1) ((bs ++ [x]).map fun b => Value.int .u8 ((b.toNat : Nat) : Int)) ∧ Below base w w' := by
  subst hx
  obtain ⟨i0, hi, hz0, hz1, hz2⟩ := info_parts info_u8
  obtain ⟨g, c, w', hap, hown, hg, _, _⟩ := run_append_one (P := Try.prog) w base 24 24 5 i0 _ 1 Try.underlying24 hi hz0 hz1 hz2 rfl v k _ h (.int .u8 ((x.toNat : Nat) : Int)) rfl (by unfold maxLen; omega) (by omega) hbase
  exact ⟨g, c, w', Lib.hid hap, by rw [List.map_append]; exact hown, (Below.refl base w).grown hg hbase (fun r e => (h.lt r e).1)⟩
/-- append of many bytes. -/
theorem own_many {w : World} {base k m c : Nat} {v : Value} {bs xs : List UInt8} {A : Option Addr} (h : w.ownsRow base 5 1 v k (bs.map fun b => Value.int .u8 ((b.toNat : Nat) : Int))) (hx : xs.length = m) (hR : Rd w w.heap.size A m (vByte xs)) (hk : k + m ≤ 35184372088832) (hbase : base ≤ w.heap.size) :
    ∃ A' n' c' w', Hid ((Builtin.append_ #[24, 24] 24 #[v, .slice A m c]).run Try.prog w = .ok (.slice A' n' c') w') ∧ Hid (n' = k + m) ∧
      w'.ownsRow base 5 1 (.slice A' n' c') n' ((bs ++ xs).map fun b => Value.int .u8 ((b.toNat : Nat) : Int)) ∧ Below base w w' := by
  obtain ⟨i0, hi, hz0, hz1, hz2⟩ := info_parts info_u8
  obtain ⟨v', w', hap, hown, hg, _⟩ := run_append_rd (P := Try.prog) w base 24 24 5 i0 _ 1 Try.underlying24 hi hz0 hz1 hz2 rfl v k _ h w.heap.size A m c (vByte xs) hR hR.none_ (fun _ _ => rfl) (by unfold maxLen; omega) (by omega) hbase
  obtain ⟨A', c', rfl⟩ := own_slice hown
  have e : (List.range m).map (vByte xs) = xs.map fun b => Value.int .u8 ((b.toNat : Nat) : Int) := by
    subst hx
    refine List.ext_getElem (by simp) fun i h1 h2 => ?_
    have hi : i < xs.length := by simpa using h2
    simp [vByte, hi]
  rw [e, ← List.map_append] at hown
  exact ⟨A', k + m, c', w', Lib.hid hap, Lib.hid rfl, hown, (Below.refl base w).grown hg hbase (fun r e => (h.lt r e).1)⟩

set_option maxRecDepth 100000 in
set_option maxHeartbeats 1000000 in
theorem euint_any (n : Nat) (ni : Int) (hni : ni = (n : Int)) (w : World) (hn : n ≤ 18446744073709551615) :
    Calls Try.prog 44 #[.int .u64 ni] w (RetB (varint n) w) := by
  subst hni
  have HV := Lib.hid (varint_len10 hn)
  go_enter Try.func44, Try.ntmps44
  go_wp2
  go_loopw [0, 3] (fun v o wr => ∃ m k : Nat, ∃ pre : List UInt8, v = .int .u64 (m : Int) ∧ m ≤ 18446744073709551615 ∧ k ≤ 10 ∧ Hid (pre.length = k) ∧ Hid (pre ++ varint m = varint n) ∧ wr.ownsRow w.heap.size 5 1 o k (pre.map fun b => Value.int .u8 ((b.toNat : Nat) : Int)) ∧ Below w.heap.size w wr) (fun v _ _ => (intOf v).toNat)
  case atStart => exact ⟨n, 0, [], rfl, hn, by omega, Lib.hid rfl, Lib.hid rfl, World.ownsRow_nil _ _ _ _, Below.refl _ _⟩
  case round =>
    obtain ⟨m, k, pre, rfl, hm, hk, HK, HE, hown, hb⟩ := hrel
    obtain ⟨v3, rfl⟩ : ∃ x, x = u3 := ⟨_, rfl⟩
    by_cases hge : 128 ≤ m
    · have hk9 : k + 1 ≤ 10 := by
        have h1 := congrArg List.length HE.out
        rw [List.length_append, varint_ge hge, List.length_cons] at h1
        have := HV.out
        have := HK.out
        omega
      obtain ⟨g, c, w3, HA, hown3, hb3⟩ := own_one hown (UInt8.ofNat (m % 128 + 128)) (128 + (m : Int) % 128) (by rw [ofNat_toNat (by omega)]; omega) (by omega) hb.size
      have hge' : 127 < (m : Int) := by omega
      go_wp2_with (at_builtin; refine wpList_append_run HA.out rfl rfl rfl rfl ?_)
      exact ⟨⟨m / 128, k + 1, _, by go_num, by omega, by omega, Lib.hid (by rw [List.length_append, HK.out]; rfl), Lib.hid (by rw [← HE.out, varint_ge hge, List.append_assoc]; rfl), hown3, hb.trans hb3⟩, by simp [intOf]; omega⟩
    · obtain ⟨g, c, w3, HA, hown3, hb3⟩ := own_one hown (UInt8.ofNat m) (m : Int) (by rw [ofNat_toNat (by omega)]) (by omega) hb.size
      have hge' : (m : Int) ≤ 127 := by omega
      go_wp2_with (at_builtin; refine wpList_append_run HA.out rfl rfl rfl rfl ?_)
      go_ret
      have he : pre ++ [UInt8.ofNat m] = varint n := by rw [← HE.out, varint_lt (by omega)]
      exact ⟨_, _, _, rfl, Lib.hid (by rw [← he, List.length_append, HK.out]; rfl), by rw [← he]; exact hown3, hb.trans hb3⟩

set_option maxRecDepth 100000 in
set_option maxHeartbeats 400000 in
theorem ezig_any (n : Int) (w : World) (h1 : -9223372036854775808 ≤ n) (h2 : n ≤ 9223372036854775807) :
    Calls Try.prog 61 #[.int .i64 n] w fun e w' => e = .returned (.int .u64 ((zigI n : Nat) : Int)) ∧ w = w' := by
  by_cases h : n < 0
  · have HZ := Lib.hid (show ((zigI n : Nat) : Int) = 2 * (-(n + 1)) + 1 by unfold zigI; rw [if_pos h]; omega)
    go_enter Try.func61, Try.ntmps61
    go_wp2
    go_ret
    rw [HZ.out]
    exact ⟨rfl, rfl⟩
  · have HZ := Lib.hid (show ((zigI n : Nat) : Int) = 2 * n by unfold zigI; rw [if_neg h]; omega)
    go_enter Try.func61, Try.ntmps61
    go_wp2
    go_ret
    rw [HZ.out]
    exact ⟨rfl, rfl⟩

set_option maxRecDepth 100000 in
set_option maxHeartbeats 400000 in
theorem eint_any (n : Int) (w : World) (h1 : -9223372036854775808 ≤ n) (h2 : n ≤ 9223372036854775807) :
    Calls Try.prog 45 #[.int .i64 n] w (RetB (encInt n) w) := by
  go_enter Try.func45, Try.ntmps45
  go_wp2_with (first
    | (go_at_call 61; ((with_reducible refine (ezig_any _ _ h1 h2).mono ?_); rintro e w1 ⟨rfl, rfl⟩))
    | (go_at_call 44; ((with_reducible refine (euint_any _ _ rfl _ (zigI_lt h1 h2)).mono ?_); rintro e w1 ⟨A, m, c, rfl, q1, q2, q3⟩)))
  go_ret
  exact ⟨A, m, c, rfl, q1, q2, q3⟩

set_option maxRecDepth 100000 in
set_option maxHeartbeats 400000 in
theorem ebool_any (b : Bool) (w : World) : Calls Try.prog 46 #[.bool b] w (RetB (encBool b) w) := by
  cases b
  · go_enter Try.func46, Try.ntmps46
    go_wp2
    go_ret
    exact ⟨_, _, _, rfl, Lib.hid rfl, World.ownsRow_lit w #[.int .u8 0] 1 (Nat.le_refl _) (by decide) rfl, (Below.refl _ _).alloc (Nat.le_refl _) _⟩
  · go_enter Try.func46, Try.ntmps46
    go_wp2
    go_ret
    exact ⟨_, _, _, rfl, Lib.hid rfl, World.ownsRow_lit w #[.int .u8 1] 1 (Nat.le_refl _) (by decide) rfl, (Below.refl _ _).alloc (Nat.le_refl _) _⟩

set_option maxRecDepth 100000 in
set_option maxHeartbeats 400000 in
theorem eraw_any (A : Option Addr) (m c : Nat) (bs : List UInt8) (w : World) (HX : Hid (bs.length = m)) (hm : m ≤ 17592186044416) (hR : Rd w w.heap.size A m (vByte bs)) :
    Calls Try.prog 47 #[.slice A m c] w (RetB (encRaw bs) w) := by
  go_enter Try.func47, Try.ntmps47
  go_wp2_with fail
  refine (euint_any m _ rfl _ (by omega)).mono ?_
  rintro e w1 ⟨A1, n1, c1, rfl, HX1, hown1, hb1⟩
  have hn1 : n1 ≤ 10 := by rw [← HX1.out]; exact varint_len10 (by omega)
  obtain ⟨A2, n2, c2, w2, HA, HN, hown2, hb2⟩ := own_many (c := c) hown1 HX.out (hR.all hb1) (by omega) hb1.size
  go_wp2_with (at_builtin; refine wpList_append_run HA.out rfl rfl rfl rfl ?_)
  go_ret
  have he : varint m ++ bs = encRaw bs := by unfold encRaw; rw [HX.out]
  rw [he] at hown2
  exact ⟨A2, n2, c2, rfl, Lib.hid (by have := hown2.1; simpa using this), hown2, hb1.trans hb2⟩

set_option maxRecDepth 100000 in
set_option maxHeartbeats 1000000 in
theorem eints_any (A : Option Addr) (m c : Nat) (l : List Int) (w : World) (HX : Hid (l.length = m)) (hm : m ≤ 1000000000) (hR : Rd w w.heap.size A m (vInt l)) (hr : Hid (∀ j : Nat, -9223372036854775808 ≤ l[j]?.getD 0 ∧ l[j]?.getD 0 ≤ 9223372036854775807)) :
    Calls Try.prog 48 #[.slice A m c] w (RetB (encInts l) w) := by
  go_enter Try.func48, Try.ntmps48
  go_wp2_with fail
  refine (euint_any m _ rfl _ (by omega)).mono ?_
  rintro e w1 ⟨A1, n1, c1, rfl, HX1, hown1, hb1⟩
  go_wp2
  go_loopw [3, 4] (fun o v wr => ∃ k n : Nat, k ≤ m ∧ v = .int .i64 (k : Int) ∧ n ≤ 10 + 10 * k ∧ wr.ownsRow w.heap.size 5 1 o n ((encIntsTo l k).map fun b => Value.int .u8 ((b.toNat : Nat) : Int)) ∧ Below w.heap.size w wr) (fun _ v _ => m - (intOf v).toNat)
  case atStart => exact ⟨0, n1, by omega, rfl, by rw [← HX1.out]; exact varint_len10 (by omega), by rw [encIntsTo_zero, HX.out]; exact hown1, hb1⟩
  case round =>
    clear hown1 hb1
    obtain ⟨k, n, hk, rfl, hn, hown, hb⟩ := hrel
    obtain ⟨v3, rfl⟩ : ∃ x, x = u3 := ⟨_, rfl⟩
    by_cases hlt : k < m
    · obtain ⟨b, off, rfl, hbB, hc⟩ := (hR.all hb).at_ hlt
      obtain ⟨hr1, hr2⟩ := hr.out k
      have HS := Lib.hid (encIntsTo_succ l k (by rw [HX.out]; exact hlt))
      unfold vInt at hc
      generalize l[k]?.getD 0 = x at *
      go_wp2_with fail
      refine (eint_any x _ hr1 hr2).mono ?_
      rintro e w2 ⟨A2, n2, c2, rfl, HX2, hown2, hb2⟩
      have hn2 : n2 ≤ 10 := by rw [← HX2.out]; exact encInt_len hr1 hr2
      obtain ⟨A3, n3, c3, w3, HA, HN, hown3, hb3⟩ := own_many (c := c2) (own_keep hown hb2) HX2.out (rd_bytes hown2).2.2 (by omega) (Nat.le_trans hb.size hb2.size)
      go_wp2_with (at_builtin; refine wpList_append_run HA.out rfl rfl rfl rfl ?_)
      exact ⟨⟨k + 1, n3, by omega, by go_num, by have := HN.out; omega, by rw [HS.out]; exact hown3, (bt hb hb2).trans hb3⟩, by simp [intOf]; omega⟩
    · obtain rfl : k = m := by omega
      obtain ⟨A3, c3, rfl⟩ := own_slice hown
      go_wp2
      go_ret
      rw [encIntsTo_all l k (by rw [HX.out]; exact Nat.le_refl _)] at hown
      exact ⟨A3, n, c3, rfl, Lib.hid (by have := hown.1; simpa using this), hown, hb⟩

set_option maxRecDepth 100000 in
set_option maxHeartbeats 2000000 in
theorem rencode_any (A : Option Addr) (n c : Nat) (vs : List V) (w : World) (hV : VRow w w.heap.size A n vs) (hf : Hid (∀ j : Nat, FitV (vs[j]?.getD V0))) (hn : n ≤ 10000) :
    Calls Try.prog 18 #[.slice A n c] w (RetB (encTo vs n) w) := by
  have HL := Lib.hid hV.1
  go_enter Try.func18, Try.ntmps18
  go_wp2
  go_loopw [3, 4] (fun o i wr => ∃ k m : Nat, k ≤ n ∧ i = .int .i64 (k : Int) ∧ m ≤ 20000 * k ∧ wr.ownsRow w.heap.size 5 1 o m ((encTo vs k).map fun b => Value.int .u8 ((b.toNat : Nat) : Int)) ∧ Below w.heap.size w wr) (fun _ i _ => n - (intOf i).toNat)
  case atStart => exact ⟨0, 0, by omega, rfl, by omega, World.ownsRow_nil _ _ _ _, Below.refl _ _⟩
  case round =>
    obtain ⟨k, m, hk, rfl, hm, hown, hb⟩ := hrel
    obtain ⟨v3, rfl⟩ : ∃ x, x = u3 := ⟨_, rfl⟩
    by_cases hlt : k < n
    · obtain ⟨b, off, v, s, t, rfl, hbB, HV, c0, c1, c2', c3', c4', hs, ht⟩ := (hV.below hb (Nat.le_refl _)).at_ hlt
      have hfv : FitV v := by rw [HV.out]; exact hf.out k
      have hel := encV_len hfv
      have HS := Lib.hid (encTo_succ vs k (by rw [HL.out]; exact hlt))
      rw [← HV.out] at HS
      obtain ⟨s1, s2, s3⟩ := s
      obtain ⟨t1, t2, t3⟩ := t
      obtain ⟨kind, u, nn, bb, ll⟩ := v
      have hu := hfv.u
      have hn1 := hfv.n.1
      have hn2 := hfv.n.2
      have hbl := hfv.b
      have hll := hfv.l
      have HLI := Lib.hid hfv.li
      have HXb := Lib.hid hs.out.len
      have HXl := Lib.hid ht.out.len
      have hrb := (hs.out.more hb.size).rd
      have hrl := (ht.out.more hb.size).rd
      simp only at c0 c1 c2' c3' c4' hu hn1 hn2 hbl hll HLI HXb HXl hrb hrl
      have hs2 : s2 ≤ 1000 := by rw [← HXb.out]; exact hbl
      have ht2 : t2 ≤ 1000 := by rw [← HXl.out]; exact hll
      clear hfv hs ht hbl hll
      have hk0 : (0 : Int) ≤ (k : Int) := by omega
      have hk1 : (k : Int) < (n : Int) := by omega
      by_cases h0 : kind = 0
      · subst h0
        have HE := Lib.hid (show encV ⟨0, u, nn, bb, ll⟩ = varint u from rfl)
        go_wp2_with fail
        refine (euint_any u _ rfl _ hu).mono ?_
        rintro e w2 ⟨A2, n2, c2, rfl, HX2, hown2, hb2⟩
        rw [← HE.out] at HX2 hown2
        have hn2 : n2 ≤ 20000 := by rw [← HX2.out]; exact hel
        obtain ⟨A3, n3, c3, w3, HA, HN, hown3, hb3⟩ := own_many (c := c2) (own_keep hown hb2) HX2.out (rd_bytes hown2).2.2 (by omega) (Nat.le_trans hb.size hb2.size)
        clear hown2 HX2
        go_wp2_with (at_builtin; refine wpList_append_run HA.out rfl rfl rfl rfl ?_)
        exact ⟨⟨k + 1, n3, by omega, by go_num, by have := HN.out; omega, by rw [HS.out]; exact hown3, (bt hb hb2).trans hb3⟩, by simp [intOf]; omega⟩
      by_cases h1 : kind = 1
      · subst h1
        have HE := Lib.hid (show encV ⟨1, u, nn, bb, ll⟩ = encInt nn from rfl)
        go_wp2_with fail
        refine (eint_any nn _ hn1 hn2).mono ?_
        rintro e w2 ⟨A2, n2, c2, rfl, HX2, hown2, hb2⟩
        rw [← HE.out] at HX2 hown2
        have hn2 : n2 ≤ 20000 := by rw [← HX2.out]; exact hel
        obtain ⟨A3, n3, c3, w3, HA, HN, hown3, hb3⟩ := own_many (c := c2) (own_keep hown hb2) HX2.out (rd_bytes hown2).2.2 (by omega) (Nat.le_trans hb.size hb2.size)
        clear hown2 HX2
        go_wp2_with (at_builtin; refine wpList_append_run HA.out rfl rfl rfl rfl ?_)
        exact ⟨⟨k + 1, n3, by omega, by go_num, by have := HN.out; omega, by rw [HS.out]; exact hown3, (bt hb hb2).trans hb3⟩, by simp [intOf]; omega⟩
      by_cases h2 : kind = 2
      · subst h2
        have HE := Lib.hid (show encV ⟨2, u, nn, bb, ll⟩ = encBool (nn == 1) from rfl)
        go_wp2_with fail
        refine (ebool_any (nn == 1) _).mono ?_
        rintro e w2 ⟨A2, n2, c2, rfl, HX2, hown2, hb2⟩
        rw [← HE.out] at HX2 hown2
        have hn2 : n2 ≤ 20000 := by rw [← HX2.out]; exact hel
        obtain ⟨A3, n3, c3, w3, HA, HN, hown3, hb3⟩ := own_many (c := c2) (own_keep hown hb2) HX2.out (rd_bytes hown2).2.2 (by omega) (Nat.le_trans hb.size hb2.size)
        clear hown2 HX2
        go_wp2_with (at_builtin; refine wpList_append_run HA.out rfl rfl rfl rfl ?_)
        exact ⟨⟨k + 1, n3, by omega, by go_num, by have := HN.out; omega, by rw [HS.out]; exact hown3, (bt hb hb2).trans hb3⟩, by simp [intOf]; omega⟩
      by_cases h3 : kind = 3
      · subst h3
        have HE := Lib.hid (show encV ⟨3, u, nn, bb, ll⟩ = encRaw bb from rfl)
        go_wp2_with fail
        refine (eraw_any _ _ _ bb _ HXb (by omega) hrb).mono ?_
        rintro e w2 ⟨A2, n2, c2, rfl, HX2, hown2, hb2⟩
        rw [← HE.out] at HX2 hown2
        have hn2 : n2 ≤ 20000 := by rw [← HX2.out]; exact hel
        obtain ⟨A3, n3, c3, w3, HA, HN, hown3, hb3⟩ := own_many (c := c2) (own_keep hown hb2) HX2.out (rd_bytes hown2).2.2 (by omega) (Nat.le_trans hb.size hb2.size)
        clear hown2 HX2
        go_wp2_with (at_builtin; refine wpList_append_run HA.out rfl rfl rfl rfl ?_)
        exact ⟨⟨k + 1, n3, by omega, by go_num, by have := HN.out; omega, by rw [HS.out]; exact hown3, (bt hb hb2).trans hb3⟩, by simp [intOf]; omega⟩
      by_cases h4 : kind = 4
      · subst h4
        have HE := Lib.hid (show encV ⟨4, u, nn, bb, ll⟩ = encRaw bb from rfl)
        go_wp2_with fail
        refine (eraw_any _ _ _ bb _ HXb (by omega) hrb).mono ?_
        rintro e w2 ⟨A2, n2, c2, rfl, HX2, hown2, hb2⟩
        rw [← HE.out] at HX2 hown2
        have hn2 : n2 ≤ 20000 := by rw [← HX2.out]; exact hel
        obtain ⟨A3, n3, c3, w3, HA, HN, hown3, hb3⟩ := own_many (c := c2) (own_keep hown hb2) HX2.out (rd_bytes hown2).2.2 (by omega) (Nat.le_trans hb.size hb2.size)
        clear hown2 HX2
        go_wp2_with (at_builtin; refine wpList_append_run HA.out rfl rfl rfl rfl ?_)
        exact ⟨⟨k + 1, n3, by omega, by go_num, by have := HN.out; omega, by rw [HS.out]; exact hown3, (bt hb hb2).trans hb3⟩, by simp [intOf]; omega⟩
      · have q0 : (kind == 0) = false := by simpa using h0
        have q1 : (kind == 1) = false := by simpa using h1
        have q2 : (kind == 2) = false := by simpa using h2
        have q3 : (kind == 3) = false := by simpa using h3
        have q4 : (kind == 4) = false := by simpa using h4
        have HE := Lib.hid (show encV ⟨kind, u, nn, bb, ll⟩ = encInts ll by unfold encV; simp only; rw [if_neg h0, if_neg h1, if_neg h2, if_neg (by omega)])
        clear h0 h1 h2 h3 h4
        go_wp2_with fail
        refine (eints_any _ _ _ ll _ HXl (by omega) hrl HLI).mono ?_
        rintro e w2 ⟨A2, n2, c2, rfl, HX2, hown2, hb2⟩
        rw [← HE.out] at HX2 hown2
        have hn2 : n2 ≤ 20000 := by rw [← HX2.out]; exact hel
        obtain ⟨A3, n3, c3, w3, HA, HN, hown3, hb3⟩ := own_many (c := c2) (own_keep hown hb2) HX2.out (rd_bytes hown2).2.2 (by omega) (Nat.le_trans hb.size hb2.size)
        clear hown2 HX2
        go_wp2_with (at_builtin; refine wpList_append_run HA.out rfl rfl rfl rfl ?_)
        exact ⟨⟨k + 1, n3, by omega, by go_num, by have := HN.out; omega, by rw [HS.out]; exact hown3, (bt hb hb2).trans hb3⟩, by simp [intOf]; omega⟩
    · obtain rfl : k = n := by omega
      obtain ⟨A3, c3, rfl⟩ := own_slice hown
      go_wp2
      go_ret
      exact ⟨A3, m, c3, rfl, Lib.hid (by have := hown.1; simpa using this), hown, hb⟩
end Go.Proofs.Ytahajgmmoefpjaa
