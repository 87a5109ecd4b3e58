/- journal: the reference's Core and Frame; bytes.HasPrefix. -/
import Derived.Test.YtldmokjpfnakkaaJrnFrame
import Derived.Test.YtldmokjpfnakkaaJrnRows
namespace Go.Proofs.Ytldmokjpfnakkaa
open Go.RowKit

set_option maxRecDepth 100000 in
set_option maxHeartbeats 1000000 in
theorem rcore_any (k : Int) (A : Option Addr) (n c : Nat) (bs : List UInt8) (w : World) (HL : Hid (bs.length = n)) (hk1 : -9223372036854775808 ≤ k) (hk2 : k ≤ 9223372036854775807) (hn : n ≤ 1099511627776) (hR : Rd w w.heap.size A n (vByte bs)) :
    Calls Try.prog 38 #[.int .i64 k, .slice A n c] w (RetB (coreB k bs) w) := by
  have HR := Lib.hid hR
  clear hR
  have HK := Lib.hid (encRaw_len (bs := bs) (by rw [HL.out]; omega))
  have hl1 : (encInt k).length ≤ 10 := encInt_len hk1 hk2
  go_enter Try.func38, Try.ntmps38
  go_wp2_with fail
  refine (eint_any _ _ hk1 hk2).mono ?_
  rintro e w1 ⟨A1, n1, c1, rfl, HN1, hown1, hb1⟩
  have hz1 := hb1.size
  go_wp2_with fail
  refine (eraw_any _ _ _ bs _ HL (by omega) (HR.out.all hb1)).mono ?_
  rintro e w2 ⟨A2, n2, c2, rfl, HN2, hown2, hb2⟩
  have hz2 := hb2.size
  obtain ⟨A3, n3, c3, w3, hap, HN3, hown3, hg3⟩ := own_many (c := c2) (own_keep hown1 hb2) HN2.out (rd_bytes hown2).2.2 (by rw [← HN1.out, ← HN2.out]; have := HK.out; have := HL.out; omega) (by omega)
  have HO := Lib.hid hown3
  have HG := Lib.hid ((hb1.trans (hb2.mono hz1)).trans hg3)
  clear hown1 hown2 hown3 hb1 hb2 hg3
  go_wp2_with (at_builtin; refine wpList_append_run hap.out rfl rfl rfl rfl ?_)
  go_ret
  refine ⟨A3, n3, c3, rfl, Lib.hid ?_, HO.out, HG.out⟩
  have := HO.out.1
  simpa [coreB] using this

set_option maxRecDepth 100000 in
set_option maxHeartbeats 1000000 in
theorem rframe_any (k : Int) (A : Option Addr) (n c : Nat) (bs : List UInt8) (w : World) (HL : Hid (bs.length = n)) (hk1 : -9223372036854775808 ≤ k) (hk2 : k ≤ 9223372036854775807) (hn : n ≤ 1099511627776) (hR : Rd w w.heap.size A n (vByte bs)) :
    Calls Try.prog 13 #[.int .i64 k, .slice A n c] w (RetB (frameB k bs) w) := by
  have HR := Lib.hid hR
  clear hR
  have HK := Lib.hid (coreB_len (k := k) (bs := bs) ⟨hk1, hk2⟩ (by rw [HL.out]; omega))
  have HK2 := Lib.hid (encRaw_len (bs := coreB k bs) (by have := HK.out; have := HL.out; omega))
  have HK3 := Lib.hid (varint_len10 (recN_lt (coreB k bs)))
  go_enter Try.func13, Try.ntmps13
  go_wp2_with fail
  refine (rcore_any k _ n _ bs _ HL hk1 hk2 hn HR.out).mono ?_
  rintro e w1 ⟨A1, n1, c1, rfl, HN1, hown1, hb1⟩
  have hz1 := hb1.size
  have hn1 : n1 ≤ n + 20 := by have := HK.out; have := HL.out; have := HN1.out; omega
  obtain ⟨-, hnc1, hr1⟩ := rd_bytes hown1
  clear hown1
  go_wp2_with fail
  refine (eraw_any _ _ _ (coreB k bs) _ HN1 (by omega) hr1).mono ?_
  rintro e w2 ⟨A2, n2, c2, rfl, HN2, hown2, hb2⟩
  have hz2 := hb2.size
  have hr2 := hr1.all hb2
  have hB2 := hb1.trans (hb2.mono hz1)
  have hn2 : n2 ≤ n + 30 := by have := HK2.out; have := HN1.out; have := HN2.out; omega
  clear hr1 hb1 hb2
  go_wp2_with fail
  refine (rbytes_any _ _ n1 _ _ (coreB k bs) _ HN1 (by decide) (by omega) (by omega) (Nat.le_refl _) hr2).mono ?_
  rintro e w3 ⟨rfl, hb3⟩
  have hz3 := hb3.size
  replace hown2 := own_keep hown2 hb3
  have hB3 := hB2.trans (hb3.mono (by omega))
  clear hB2 hb3 hr2
  go_wp2_with fail
  refine (euint_any (recN (coreB k bs)) _ (recN_eq _) _ (recN_lt _)).mono ?_
  rintro e w4 ⟨A4, n4, c4, rfl, HN4, hown4, hb4⟩
  have hz4 := hb4.size
  have hn4 : n4 ≤ 10 := by have := HK3.out; have := HN4.out; omega
  obtain ⟨A5, n5, c5, w5, hap, HN5, hown5, hg5⟩ := own_many (c := c4) (own_keep hown2 hb4) HN4.out (rd_bytes hown4).2.2 (by omega) (by omega)
  have HO := Lib.hid (own_lower hown5 (show w.heap.size ≤ w1.heap.size from hz1))
  have HG := Lib.hid ((hB3.trans (hb4.mono (by omega))).trans (hg5.mono hz1))
  clear hown2 hown4 hown5 hB3 hb4 hg5
  go_wp2_with (at_builtin; refine wpList_append_run hap.out rfl rfl rfl rfl ?_)
  go_ret
  refine ⟨A5, n5, c5, rfl, Lib.hid ?_, HO.out, HG.out⟩
  have := HO.out.1
  simpa [frameB] using this

/-- A prefix, decided. -/
def preB (xs ys : List UInt8) : Bool := decide (ys <+: xs)
set_option maxRecDepth 100000 in
set_option maxHeartbeats 400000 in
theorem bequal_any (A A' : Option Addr) (n m c c' : Nat) (xs ys : List UInt8) (w : World) (hx : xs.length = n) (hy : ys.length = m) (hR : Rd w w.heap.size A n (vByte xs)) (hR' : Rd w w.heap.size A' m (vByte ys)) :
    Calls Try.prog 82 #[.slice A n c, .slice A' m c'] w fun e w' => e = .returned (.bool (decide (xs = ys))) ∧ w = w' := by
  have h1 := conv_str (P := Try.prog) (c := c) (src := 23) (dst := 9) Try.underlying23 Try.underlying5 Try.underlying9 hx hR
  have h2 := conv_str (P := Try.prog) (c := c') (src := 23) (dst := 9) Try.underlying23 Try.underlying5 Try.underlying9 hy hR'
  clear hR hR' hx hy
  go_enter Try.func82, Try.ntmps82
  go_wp2
  go_ret
  refine ⟨?_, rfl⟩
  show Ending.returned (.bool (xs == ys)) = _
  congr 2
  rw [Bool.eq_iff_iff]
  simp
set_option maxRecDepth 100000 in
set_option maxHeartbeats 400000 in
theorem hasPre_any (A A' : Option Addr) (n m c c' : Nat) (xs ys : List UInt8) (w : World) (hx : Hid (xs.length = n)) (hy : Hid (ys.length = m)) (hnc : n ≤ c) (_hc : c ≤ 9223372036854775807) (hm : 0 < m) (hR : Rd w w.heap.size A n (vByte xs)) (hR' : Rd w w.heap.size A' m (vByte ys)) :
    Calls Try.prog 74 #[.slice A n c, .slice A' m c'] w fun e w' => e = .returned (.bool (preB xs ys)) ∧ w = w' := by
  by_cases hmn : m ≤ n
  · obtain ⟨b, off, rfl, hb, hcl⟩ := hR (by omega)
    have HR : Hid (Rd w w.heap.size (some ⟨b, off, none⟩) m (vByte (xs.take m))) := Lib.hid ((hR.less hmn).congr (fun j hj => by simp [vByte, hj]))
    have HR' := Lib.hid hR'
    have HP := Lib.hid (show preB xs ys = decide (xs.take m = ys) by
      unfold preB
      rw [decide_eq_decide, List.prefix_iff_eq_take, hy.out]
      exact eq_comm)
    have HX := Lib.hid (show (xs.take m).length = m by rw [List.length_take, hx.out]; omega)
    clear hR hR' hcl
    go_enter Try.func74, Try.ntmps74
    go_wp2_with (go_at_call 82; ((with_reducible refine (bequal_any _ _ _ _ _ _ (xs.take m) ys _ HX.out hy.out HR.out HR'.out).mono ?_); rintro e w2 ⟨rfl, rfl⟩))
    go_ret
    rw [HP.out]
    exact ⟨rfl, rfl⟩
  · have HP := Lib.hid (show preB xs ys = false by
      unfold preB
      rw [decide_eq_false_iff_not]
      intro hp
      have := hp.length_le
      rw [hx.out, hy.out] at this
      omega)
    clear hR hR'
    have h1 : decide (m ≤ n) = false := by simpa using hmn
    go_enter Try.func74, Try.ntmps74
    go_wp2
    go_ret
    rw [HP.out]
    exact ⟨rfl, rfl⟩
end Go.Proofs.Ytldmokjpfnakkaa
