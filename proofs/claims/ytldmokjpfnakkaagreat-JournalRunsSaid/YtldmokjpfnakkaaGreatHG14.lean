/- journal: the walk of Frame; the reference's Core and Frame. -/
import Derived.Test.YtldmokjpfnakkaaGreatHG8
import Derived.Test.YtldmokjpfnakkaaGreatHG12
import Derived.Test.YtldmokjpfnakkaaGreatHG13
import Derived.Test.YtldmokjpfnakkaaGreatHG3

namespace Go.Proofs.YtldmokjpfnakkaaGreat
open Go.RowKit

theorem Wr.mod {w w' : World} {B gd : Nat} {bs : List UInt8} {F : Nat → Prop} (h : Wr w B gd bs) (m : Mod F w w') (hF : ∀ b, b < w.heap.size → ¬ F b) : Wr w' B gd bs := by
  obtain ⟨h0, A, n, c, h1, h2, h3⟩ := h
  exact ⟨h0, A, n, c, h1, m.blk h2 (hF _ h2.lt), m.own h3 (fun g e => hF g (h3.lt g e).2)⟩
set_option maxRecDepth 100000 in
set_option maxHeartbeats 1000000 in
theorem frame_any (k : Int) (A : Option Addr) (n c : Nat) (bs : List UInt8) (w : World) (HL : Hid (bs.length = n)) (hk1 : -9223372036854775808 ≤ k) (hk2 : k ≤ 9223372036854775807) (hn : n ≤ 1099511627776) (hR : Rd w w.heap.size A n (vByte bs)) :
    Calls Tryz.prog 35 #[.int .i64 k, .slice A n c] w (RetB (frameB k bs) w) := by
  have HR := Lib.hid hR
  clear hR
  have HK := Lib.hid (coreB_len (k := k) (bs := bs) ⟨hk1, hk2⟩ (by rw [HL.out]; omega))
  have hl1 : (encInt k).length ≤ 10 := encInt_len hk1 hk2
  have HW1 := Lib.hid (Wr.new w)
  have HB1 := Lib.hid ((Below.refl w.heap.size w).alloc (Nat.le_refl _) (.cells #[.slice none 0 0] 75))
  have hsz : (w.alloc (.cells #[.slice none 0 0] 75)).heap.size = w.heap.size + 1 := World.size_alloc _ _
  have HSZ := Lib.hid hsz
  clear hsz
  go_enter Tryz.func35, Tryz.ntmps35
  go_wp2_with fail
  refine (wint_any w.heap.size w.heap.size [] k _ HW1 hk1 hk2 (by simp)).mono ?_
  rintro e w2 ⟨rfl, hW2, hb2⟩
  have hB2 := HB1.out.trans hb2
  have hz2 := hW2.lt.2
  clear hb2
  go_wp2_with fail
  refine (wraw_any w.heap.size w.heap.size _ bs _ n _ w.heap.size _ (Lib.hid hW2) HL (by omega) (HR.out.below hB2 (Nat.le_refl _)) (Nat.le_refl _) (by simp only [List.nil_append]; omega)).mono ?_
  rintro e w3 ⟨rfl, hW3, hb3⟩
  have hB3 := hB2.trans hb3
  have hz3 := hW3.lt.2
  replace hW3 : Wr w3 w.heap.size w.heap.size (coreB k bs) := by simpa [coreB] using hW3
  clear hb3 hB2 hz2 hW2 HW1 HB1 HSZ
  have hb4 := (Below.refl w3.heap.size w3).alloc (Nat.le_refl _) (.cells #[.slice none 0 0] 75)
  have hV4 := WrV.new w3
  have hW4 := hW3.all hb4
  have hB4 := hB3.trans (hb4.mono (by omega))
  have hsz4 : (w3.alloc (.cells #[.slice none 0 0] 75)).heap.size = w3.heap.size + 1 := World.size_alloc _ _
  have HSZ4 := Lib.hid hsz4
  clear hb4 hsz4
  go_wp2_with fail
  generalize w3.alloc (.cells #[.slice none 0 0] 75) = w4 at *
  refine (wdone_any w.heap.size w.heap.size (coreB k bs) _ (Lib.hid hW4) (by have := HK.out; have := HL.out; omega)).mono ?_
  rintro e w5 ⟨A5, n5, c5, rfl, hnc5, hc5, HN5, hown5, hR5, hb5⟩
  have hn5 : n5 ≤ n + 20 := by have := HK.out; have := HL.out; have := HN5.out; omega
  have hV5 := hV4.all hb5
  have hW5 := hW4.all hb5
  have hB5 := hB4.trans (hb5.mono (by have := HSZ4.out; omega))
  have hF5 : ∀ b off, A5 = some ⟨b, off, none⟩ → 0 < n5 → ¬ WF w3.heap.size (.slice none 0 0) b := by
    intro b off e hp hf
    obtain ⟨g, eg, hg, _⟩ := own_some hown5 hp
    rw [e] at eg
    injection eg with eg
    injection eg with eg _ _
    rcases hf with rfl | hf
    · have := HSZ4.out
      omega
    · cases hf
  have HF5 := Lib.hid hF5
  clear hF5 hown5 hb5 hV4 hW4 hB4
  go_wp2_with fail
  refine (wrawV_any w3.heap.size _ [] (coreB k bs) _ n5 _ _ (Lib.hid hV5) HN5 (by omega) hR5 HF5.out (by simp)).mono ?_
  rintro e w6 ⟨rfl, v6, hV6, m6, o6⟩
  have hW6 : Wr w6 w.heap.size w.heap.size (coreB k bs) := by
    obtain ⟨h0, A, n, c, h1, h2, h3⟩ := hW3
    obtain ⟨g0, A', n', c', g1, g2, g3⟩ := hW5
    exact ⟨g0, A', n', c', g1, m6.blk g2 (by
      rintro (e | e)
      · have := h2.lt
        omega
      · cases e), m6.own g3 (by
      rintro g e (e2 | e2)
      · exact absurd (Ty.of_own g3 e) (fun ht => by rw [e2] at ht; exact absurd (Ty.unique hV5.1.ty ht) (by decide))
      · cases e2)⟩
  have hB6 := m6.below hB5 hB5.size (by
    rintro b (rfl | e)
    · have := hB3.size; exact this
    · cases e)
  have hV6' : WrV w6 w3.heap.size v6 (encRaw (coreB k bs)) := by simpa using hV6
  have HO6 : Hid (∀ b, v6.ownBlock = some b → w.heap.size ≤ b) := Lib.hid (fun b e => by
    rcases o6 with o | o
    · rw [o] at e
      cases e
    · have := o b e
      have := hB5.size
      omega)
  clear hV6 m6 hV5 hW5 hB5 hR5 HF5 HN5 o6
  go_wp2_with fail
  refine (wdone_any w.heap.size w.heap.size (coreB k bs) _ (Lib.hid hW6) (by have := HK.out; have := HL.out; omega)).mono ?_
  rintro e w7 ⟨A7, n7, c7, rfl, hnc7, hc7, HN7, hown7, hR7, hb7⟩
  have hn7 : n7 ≤ n + 20 := by have := HK.out; have := HL.out; have := HN7.out; omega
  have hV7 := hV6'.all hb7
  have hB7 := hB6.trans (hb7.mono hB6.size)
  clear hown7 hb7 hV6' hB6 hW6
  go_wp2_with fail
  refine (hbytes_any _ _ n7 _ _ (coreB k bs) _ HN7 (by decide) (by omega) (by omega) (Nat.le_refl _) hR7).mono ?_
  rintro e w8 ⟨rfl, hb8⟩
  have hV8 := hV7.all hb8
  have hB8 := hB7.trans (hb8.mono hB7.size)
  clear hb8 hV7 hB7 hR7
  go_wp2_with fail
  refine (wuintV_any w3.heap.size v6 (encRaw (coreB k bs)) (recN (coreB k bs)) _ (recN_eq _) _ (Lib.hid hV8) (recN_lt _) (by have := (encRaw_len (bs := coreB k bs) (by have := HN7.out; omega)).2; have := HN7.out; omega)).mono ?_
  rintro e w9 ⟨rfl, v9, hV9, m9, o9⟩
  have hB9 := m9.below hB8 hB8.size (by
    rintro b (rfl | e)
    · have := hB3.size; exact this
    · exact HO6.out b e)
  go_wp2_with fail
  refine (wdone_any 0 w3.heap.size (frameB k bs) _ (Lib.hid hV9.wr) (by have := frameB_len (k := k) (bs := bs) ⟨hk1, hk2⟩ (by rw [HL.out]; omega); have := HL.out; omega)).mono ?_
  rintro e w10 ⟨A10, n10, c10, rfl, hnc10, hc10, HN10, hown10, hR10, hb10⟩
  go_wp2
  go_ret
  exact ⟨A10, n10, c10, rfl, HN10, own_lower hown10 hB9.size, hB9.trans (hb10.mono hB9.size)⟩
end Go.Proofs.YtldmokjpfnakkaaGreat

/- journal: the reference's Core and Frame; bytes.HasPrefix. -/
namespace Go.Proofs.YtldmokjpfnakkaaGreat
open Go.RowKit

set_option maxRecDepth 100000 in
set_option maxHeartbeats 1000000 in
theorem rcore_any (k : Int) (A : Option Addr) (n c : Nat) (bs : List UInt8) (w : World) (HL : Hid (bs.length = n)) (hk1 : -9223372036854775808 ≤ k) (hk2 : k ≤ 9223372036854775807) (hn : n ≤ 1099511627776) (hR : Rd w w.heap.size A n (vByte bs)) :
    Calls Tryz.prog 52 #[.int .i64 k, .slice A n c] w (RetB (coreB k bs) w) := by
  have HR := Lib.hid hR
  clear hR
  have HK := Lib.hid (encRaw_len (bs := bs) (by rw [HL.out]; omega))
  have hl1 : (encInt k).length ≤ 10 := encInt_len hk1 hk2
  go_enter Tryz.func52, Tryz.ntmps52
  go_wp2_with fail
  refine (eint_any _ _ hk1 hk2).mono ?_
  rintro e w1 ⟨A1, n1, c1, rfl, HN1, hown1, hb1⟩
  have hz1 := hb1.size
  go_wp2_with fail
  refine (eraw_any _ _ _ bs _ HL (by omega) (HR.out.all hb1)).mono ?_
  rintro e w2 ⟨A2, n2, c2, rfl, HN2, hown2, hb2⟩
  have hz2 := hb2.size
  obtain ⟨A3, n3, c3, w3, hap, HN3, hown3, hg3⟩ := own_many (c := c2) (own_keep hown1 hb2) HN2.out (rd_bytes hown2).2.2 (by rw [← HN1.out, ← HN2.out]; have := HK.out; have := HL.out; omega) (by omega)
  have HO := Lib.hid hown3
  have HG := Lib.hid ((hb1.trans (hb2.mono hz1)).trans hg3)
  clear hown1 hown2 hown3 hb1 hb2 hg3
  go_wp2_with (at_builtin; refine wpList_append_run hap.out rfl rfl rfl rfl ?_)
  go_ret
  refine ⟨A3, n3, c3, rfl, Lib.hid ?_, HO.out, HG.out⟩
  have := HO.out.1
  simpa [coreB] using this

set_option maxRecDepth 100000 in
set_option maxHeartbeats 1000000 in
theorem rframe_any (k : Int) (A : Option Addr) (n c : Nat) (bs : List UInt8) (w : World) (HL : Hid (bs.length = n)) (hk1 : -9223372036854775808 ≤ k) (hk2 : k ≤ 9223372036854775807) (hn : n ≤ 1099511627776) (hR : Rd w w.heap.size A n (vByte bs)) :
    Calls Tryz.prog 38 #[.int .i64 k, .slice A n c] w (RetB (frameB k bs) w) := by
  have HR := Lib.hid hR
  clear hR
  have HK := Lib.hid (coreB_len (k := k) (bs := bs) ⟨hk1, hk2⟩ (by rw [HL.out]; omega))
  have HK2 := Lib.hid (encRaw_len (bs := coreB k bs) (by have := HK.out; have := HL.out; omega))
  have HK3 := Lib.hid (varint_len10 (recN_lt (coreB k bs)))
  go_enter Tryz.func38, Tryz.ntmps38
  go_wp2_with fail
  refine (rcore_any k _ n _ bs _ HL hk1 hk2 hn HR.out).mono ?_
  rintro e w1 ⟨A1, n1, c1, rfl, HN1, hown1, hb1⟩
  have hz1 := hb1.size
  have hn1 : n1 ≤ n + 20 := by have := HK.out; have := HL.out; have := HN1.out; omega
  obtain ⟨-, hnc1, hr1⟩ := rd_bytes hown1
  clear hown1
  go_wp2_with fail
  refine (eraw_any _ _ _ (coreB k bs) _ HN1 (by omega) hr1).mono ?_
  rintro e w2 ⟨A2, n2, c2, rfl, HN2, hown2, hb2⟩
  have hz2 := hb2.size
  have hr2 := hr1.all hb2
  have hB2 := hb1.trans (hb2.mono hz1)
  have hn2 : n2 ≤ n + 30 := by have := HK2.out; have := HN1.out; have := HN2.out; omega
  clear hr1 hb1 hb2
  go_wp2_with fail
  refine (rbytes_any _ _ n1 _ _ (coreB k bs) _ HN1 (by decide) (by omega) (by omega) (Nat.le_refl _) hr2).mono ?_
  rintro e w3 ⟨rfl, hb3⟩
  have hz3 := hb3.size
  replace hown2 := own_keep hown2 hb3
  have hB3 := hB2.trans (hb3.mono (by omega))
  clear hB2 hb3 hr2
  go_wp2_with fail
  refine (euint_any (recN (coreB k bs)) _ (recN_eq _) _ (recN_lt _)).mono ?_
  rintro e w4 ⟨A4, n4, c4, rfl, HN4, hown4, hb4⟩
  have hz4 := hb4.size
  have hn4 : n4 ≤ 10 := by have := HK3.out; have := HN4.out; omega
  obtain ⟨A5, n5, c5, w5, hap, HN5, hown5, hg5⟩ := own_many (c := c4) (own_keep hown2 hb4) HN4.out (rd_bytes hown4).2.2 (by omega) (by omega)
  have HO := Lib.hid (own_lower hown5 (show w.heap.size ≤ w1.heap.size from hz1))
  have HG := Lib.hid ((hB3.trans (hb4.mono (by omega))).trans (hg5.mono hz1))
  clear hown2 hown4 hown5 hB3 hb4 hg5
  go_wp2_with (at_builtin; refine wpList_append_run hap.out rfl rfl rfl rfl ?_)
  go_ret
  refine ⟨A5, n5, c5, rfl, Lib.hid ?_, HO.out, HG.out⟩
  have := HO.out.1
  simpa [frameB] using this

/-- A prefix, decided. -/
def preB (xs ys : List UInt8) : Bool := decide (ys <+: xs)
set_option maxRecDepth 100000 in
set_option maxHeartbeats 400000 in
theorem bequal_any (A A' : Option Addr) (n m c c' : Nat) (xs ys : List UInt8) (w : World) (hx : xs.length = n) (hy : ys.length = m) (hR : Rd w w.heap.size A n (vByte xs)) (hR' : Rd w w.heap.size A' m (vByte ys)) :
    Calls Tryz.prog 89 #[.slice A n c, .slice A' m c'] w fun e w' => e = .returned (.bool (decide (xs = ys))) ∧ w = w' := by
  have h1 := conv_str (P := Tryz.prog) (c := c) (src := 39) (dst := 9) Tryz.underlying39 Tryz.underlying5 Tryz.underlying9 hx hR
  have h2 := conv_str (P := Tryz.prog) (c := c') (src := 39) (dst := 9) Tryz.underlying39 Tryz.underlying5 Tryz.underlying9 hy hR'
  clear hR hR' hx hy
  go_enter Tryz.func89, Tryz.ntmps89
  go_wp2
  go_ret
  refine ⟨?_, rfl⟩
  show Ending.returned (.bool (xs == ys)) = _
  congr 2
  rw [Bool.eq_iff_iff]
  simp
set_option maxRecDepth 100000 in
set_option maxHeartbeats 400000 in
theorem hasPre_any (A A' : Option Addr) (n m c c' : Nat) (xs ys : List UInt8) (w : World) (hx : Hid (xs.length = n)) (hy : Hid (ys.length = m)) (hnc : n ≤ c) (_hc : c ≤ 9223372036854775807) (hm : 0 < m) (hR : Rd w w.heap.size A n (vByte xs)) (hR' : Rd w w.heap.size A' m (vByte ys)) :
    Calls Tryz.prog 77 #[.slice A n c, .slice A' m c'] w fun e w' => e = .returned (.bool (preB xs ys)) ∧ w = w' := by
  by_cases hmn : m ≤ n
  · obtain ⟨b, off, rfl, hb, hcl⟩ := hR (by omega)
    have HR : Hid (Rd w w.heap.size (some ⟨b, off, none⟩) m (vByte (xs.take m))) := Lib.hid ((hR.less hmn).congr (fun j hj => by simp [vByte, hj]))
    have HR' := Lib.hid hR'
    have HP := Lib.hid (show preB xs ys = decide (xs.take m = ys) by
      unfold preB
      rw [decide_eq_decide, List.prefix_iff_eq_take, hy.out]
      exact eq_comm)
    have HX := Lib.hid (show (xs.take m).length = m by rw [List.length_take, hx.out]; omega)
    clear hR hR' hcl
    go_enter Tryz.func77, Tryz.ntmps77
    go_wp2_with (go_at_call 89; ((with_reducible refine (bequal_any _ _ _ _ _ _ (xs.take m) ys _ HX.out hy.out HR.out HR'.out).mono ?_); rintro e w2 ⟨rfl, rfl⟩))
    go_ret
    rw [HP.out]
    exact ⟨rfl, rfl⟩
  · have HP := Lib.hid (show preB xs ys = false by
      unfold preB
      rw [decide_eq_false_iff_not]
      intro hp
      have := hp.length_le
      rw [hx.out, hy.out] at this
      omega)
    clear hR hR'
    have h1 : decide (m ≤ n) = false := by simpa using hmn
    go_enter Tryz.func77, Tryz.ntmps77
    go_wp2
    go_ret
    rw [HP.out]
    exact ⟨rfl, rfl⟩
end Go.Proofs.YtldmokjpfnakkaaGreat
