/- For every request, bytes and change of its encoding worldmintlaw37.ClientBytes returns true. No condition. -/
import Derived.Test.YtompkpleiichaaaCliLives
import Derived.Test.YtompkpleiichaaaCliRq
import Derived.Test.YtompkpleiichaaaHashInj
import Derived.Test.YtompkpleiichaaaCliDec
import Derived.Test.YtompkpleiichaaaLawClientLies
import Derived.Test.YtompkpleiichaaaLaw
namespace Go.Proofs.Ytompkpleiichaaa
open Go.ChangeShapes Go.WideShapes Go.ChangeAt Go.RowKit Go.ChangeMaps

theorem keepFive {wz w' : World} {g gl j : Nat} {t : TypeId} {a b c d v : Value} (h : Below wz.heap.size wz w') (h1 : Blk wz g t #[a, b, c, d]) (hl : gl < wz.heap.size) (hc : wz.cell? ⟨gl, j, none⟩ = some v) :
    Below wz.heap.size wz w' ∧ w'.cell? ⟨g, 0, none⟩ = some a ∧ w'.cell? ⟨g, 1, none⟩ = some b ∧ w'.cell? ⟨g, 2, none⟩ = some c ∧ w'.cell? ⟨g, 3, none⟩ = some d ∧ w'.cell? ⟨gl, j, none⟩ = some v :=
  ⟨h, (h1.all h).cell 0, (h1.all h).cell 1, (h1.all h).cell 2, (h1.all h).cell 3, (h.cell (p := ⟨gl, j, none⟩) hl).trans hc⟩
theorem Bts.take {w : World} {A : Option Addr} {n c m : Nat} {bs : List UInt8} (h : Bts w A n c bs) (hm : m ≤ n) : Bts w A m c (bs.take m) := by
  refine ⟨by rw [List.length_take, h.1]; omega, by have := h.2.1; omega, h.2.2.1, fun h0 => ?_⟩
  obtain ⟨b, off, cs, fr, e, hh, hc⟩ := h.2.2.2 (by omega)
  refine ⟨b, off, cs, fr, e, hh, fun j hj => ?_⟩
  rw [hc j (by omega)]
  unfold vByte
  rw [List.getElem?_take, if_pos hj]
theorem five (w : World) {A0 A1 A2 A3 A4 : Option Addr} {n0 n1 n2 n3 n4 c0 c1 c2 c3 c4 : Nat} {l0 l1 l2 l3 l4 : List UInt8} (h0 : Bts w A0 n0 c0 l0) (h1 : Bts w A1 n1 c1 l1) (h2 : Bts w A2 n2 c2 l2) (h3 : Bts w A3 n3 c3 l3) (h4 : Bts w A4 n4 c4 l4) (b0 : n0 ≤ 1000) (b1 : n1 ≤ 1000) (b2 : n2 ≤ 1000) (b3 : n3 ≤ 1000) (b4 : n4 ≤ 1000) :
    ∀ i, i < 5 → ∃ A n c bs, (w.alloc (.cells #[.slice A0 n0 c0, .slice A1 n1 c1, .slice A2 n2 c2, .slice A3 n3 c3, .slice A4 n4 c4] 23)).cell? ⟨w.heap.size, i, none⟩ = some (.slice A n c) ∧ Bts (w.alloc (.cells #[.slice A0 n0 c0, .slice A1 n1 c1, .slice A2 n2 c2, .slice A3 n3 c3, .slice A4 n4 c4] 23)) A n c bs ∧ n ≤ 1000 ∧ (i = 0 → bs = l0) := by
  intro i hi
  have hb := (Below.refl w.heap.size w).alloc (Nat.le_refl _) (.cells #[.slice A0 n0 c0, .slice A1 n1 c1, .slice A2 n2 c2, .slice A3 n3 c3, .slice A4 n4 c4] 23)
  have hB := Blk.new w 23 #[.slice A0 n0 c0, .slice A1 n1 c1, .slice A2 n2 c2, .slice A3 n3 c3, .slice A4 n4 c4]
  rcases (show i = 0 ∨ i = 1 ∨ i = 2 ∨ i = 3 ∨ i = 4 by omega) with rfl | rfl | rfl | rfl | rfl
  · exact ⟨_, _, _, _, hB.cell 0, h0.all hb, b0, fun _ => rfl⟩
  · exact ⟨_, _, _, _, hB.cell 1, h1.all hb, b1, fun h => by cases h⟩
  · exact ⟨_, _, _, _, hB.cell 2, h2.all hb, b2, fun h => by cases h⟩
  · exact ⟨_, _, _, _, hB.cell 3, h3.all hb, b3, fun h => by cases h⟩
  · exact ⟨_, _, _, _, hB.cell 4, h4.all hb, b4, fun h => by cases h⟩
theorem slT_u8 : SlT Try.prog 23 5 1 1 := SlT.of Try.underlying23 (by kernel_rfl) (by decide)
theorem tag_nat (key cl num body : Int) : ∃ n : Nat, tagI key cl num body = (n : Int) ∧ n ≤ 18446744073709551615 := by
  have h := mixI_in (mixAll (mixI (mixI (mixAll 0 (wordsI tagB)) (tagB.length : Nat)) ([toI key, cl, num, toI body].length : Nat)) ([toI key, cl, num, toI body].map toU)) 0
  obtain ⟨n, hn⟩ := Int.eq_ofNat_of_zero_le h.1
  refine ⟨n, hn, ?_⟩
  have h2 := h.2
  rw [hn] at h2
  omega
theorem encR_pos (cl num : Int) (bs : List UInt8) (tag : Nat) : 0 < (encR cl num bs tag).length := by
  unfold encR
  rw [List.length_append]
  have := varint_pos tag
  omega
theorem RetB.bts {bs : List UInt8} {w w' : World} {e : Ending} (h : RetB bs w e w') : ∃ (A : Option Addr) (n c : Nat), e = .returned (.slice A n c) ∧ bs.length = n ∧ Bts w' A n c bs ∧ Below w.heap.size w w' := by
  obtain ⟨A, n, c, rfl, HN, ho, hb⟩ := h
  exact ⟨A, n, c, rfl, HN.out, (Bts.of_own ho).1, hb⟩

set_option maxRecDepth 100000 in
set_option maxHeartbeats 8000000 in
theorem ClientBytes_walk (W : World) (a0 : Int) (ha0 : Hid ((Lit.int .i64 a0).wf = true)) (a1 : Int) (ha1 : Hid ((Lit.int .i64 a1).wf = true)) (A2 : Option Addr) (n2 c2 : Nat) (f2 : Nat → Int) (hA2 : A2 = none → n2 = 0) (hn2 : n2 ≤ c2) (hc2 : c2 ≤ 9223372036854775807) (hR2 : Rd W W.heap.size A2 n2 (fun j => .int .u8 (f2 j))) (hw2 : Hid (∀ j, j < n2 → (Lit.int .u8 (f2 j)).wf = true)) (a3 : Int) (_ha3 : Hid ((Lit.int .u64 a3).wf = true)) (A4 : Option Addr) (n4 c4 : Nat) (f4 : Nat → Int) (hA4 : A4 = none → n4 = 0) (hn4 : n4 ≤ c4) (hc4 : c4 ≤ 9223372036854775807) (hR4 : Rd W W.heap.size A4 n4 (fun j => .int .u8 (f4 j))) (hw4 : Hid (∀ j, j < n4 → (Lit.int .u8 (f4 j)).wf = true)) (a5 : Int) (ha5 : Hid ((Lit.int .i64 a5).wf = true)) (a6 : Int) (ha6 : Hid ((Lit.int .u8 a6).wf = true)) :
    Calls Try.prog 7 #[.int .i64 a0, .int .i64 a1, .slice A2 n2 c2, .int .u64 a3, .slice A4 n4 c4, .int .i64 a5, .int .u8 a6] W fun e w' => e = .returned (.bool true) ∧ Below W.heap.size W w' := by
  obtain ⟨hr00, hr01⟩ := wf_i64 ha0.out
  obtain ⟨hr10, hr11⟩ := wf_i64 ha1.out
  obtain ⟨hr50, hr51⟩ := wf_i64 ha5.out
  obtain ⟨by6, hby⟩ := byte_of_wf ha6.out
  subst hby
  have hb := Below.refl W.heap.size W
  go_enter Try.func7, Try.ntmps7
  go_wp2_with fail
  refine (few_list _ _ _ 30 30 rfl _ _ hA2 hR2 hn2 hc2 (by decide) (bytes_wf hw2)).mono ?_
  rintro e w1 ⟨As, cs, n, bs, rfl, -, -, hn30, -, -, -, hown, -, hb1⟩
  have hBT := (Bts.of_own hown).1
  have HLN := Lib.hid hBT.1
  have hnc := hBT.2.1
  replace hb := bt hb hb1
  clear hb1 hown
  go_wp2_with fail
  refine (ctag_any _ _ _ _ _ _ bs _ HLN hnc (by omega) hBT.rd).mono ?_
  rintro e w2 ⟨rfl, hb2⟩
  replace hb := bt hb hb2
  replace hBT := hBT.all hb2
  clear hb2
  obtain ⟨tg, htg, htl⟩ := tag_nat a3 a0 a1 (bodyI bs)
  have HTG := Lib.hid htg
  rw [htg]
  clear htg
  obtain ⟨r, hrd⟩ : ∃ r : Rq, r = ⟨a0, a1, As, n, cs, bs, (tg : Int)⟩ := ⟨_, rfl⟩
  have HRD := Lib.hid hrd
  have hbq := (Below.refl w2.heap.size w2).alloc (Nat.le_refl _) (.cells #[.int .i64 a0, .int .i64 a1, .slice As n cs, .int .u64 (tg : Int)] 32)
  have hq := Blk.new w2 32 #[.int .i64 a0, .int .i64 a1, .slice As n cs, .int .u64 (tg : Int)]
  replace hb := bt hb hbq
  replace hBT := hBT.all hbq
  clear hbq hrd
  have hI0 : InI a0 := ⟨hr00, hr01⟩
  have hI1 : InI a1 := ⟨hr10, hr11⟩
  obtain ⟨q0, q1, q2, q3, -, -, -, -⟩ := blk4 hq
  go_wp2_with fail
  generalize w2.alloc (.cells #[.int .i64 a0, .int .i64 a1, .slice As n cs, .int .u64 (tg : Int)] 32) = w3 at *
  generalize w2.heap.size = gr at *
  refine (encodeC_any ⟨a0, a1, As, n, cs, bs, (tg : Int)⟩ tg _ (Lib.hid ⟨hBT, show n ≤ 1048576 by omega⟩) hI0 hI1 (Lib.hid rfl) htl).mono ?_
  intro e w4 hp
  obtain ⟨Ac, nc, cc, rfl, hlen, hBC, hb4⟩ := hp.bts
  dsimp only at hlen hBC
  obtain ⟨code, hcode⟩ : ∃ code, encR a0 a1 bs tg = code := ⟨_, rfl⟩
  have HCODE := Lib.hid hcode
  have hpos := encR_pos a0 a1 bs tg
  rw [hcode] at hlen hBC hpos
  have hcl : code.length ≤ 100 := by
    rw [← hcode]
    unfold encR encRaw
    simp only [List.length_append, List.length_nil]
    have h1 := encInt_len hr00 hr01
    have h2 := encInt_len hr10 hr11
    have h3 := varint_len10 htl
    have h4 := varint_len10 (n := bs.length) (by have := HLN.out; omega)
    have h5 := HLN.out
    omega
  clear hcode hp
  replace hb := bt hb hb4
  replace hBT := hBT.all hb4
  replace hq := hq.all hb4
  clear hb4 q0 q1 q2 q3
  obtain ⟨q0, q1, q2, q3, -, -, -, -⟩ := blk4 hq
  go_wp2_with fail
  refine (rtag_any _ _ _ _ _ _ bs _ HLN hnc (by omega) hBT.rd).mono ?_
  rintro e w5 ⟨rfl, hb5⟩
  rw [HTG.out]
  replace hb := bt hb hb5
  replace hBT := hBT.all hb5
  replace hBC := hBC.all hb5
  replace hq := hq.all hb5
  clear hb5 q0 q1 q2 q3
  obtain ⟨q0, q1, q2, q3, -, -, -, -⟩ := blk4 hq
  go_wp2_with fail
  refine (request_agg _ _ _ _ _ _ _).mono ?_
  rintro e w6 ⟨rfl, hb6⟩
  replace hb := bt hb hb6
  replace hBT := hBT.all hb6
  replace hBC := hBC.all hb6
  replace hq := hq.all hb6
  clear hb6 q0 q1 q2 q3
  go_wp2_with fail
  refine (rencodeR_any ⟨a0, a1, As, n, cs, bs, (tg : Int)⟩ tg _ (Lib.hid ⟨hBT, show n ≤ 1048576 by omega⟩) hI0 hI1 (Lib.hid rfl) htl).mono ?_
  intro e w7 hp
  obtain ⟨Ad, nd, cd, rfl, hlen2, hBD, hb7⟩ := hp.bts
  dsimp only at hlen2 hBD
  rw [HCODE.out] at hlen2 hBD
  replace hb := bt hb hb7
  replace hBT := hBT.all hb7
  replace hBC := hBC.all hb7
  replace hq := hq.all hb7
  clear hb7 hp
  have HLC := Lib.hid hlen
  have HLD := Lib.hid hlen2
  have hnc0 : ((nc : Int) == 0) = false := by simp; omega
  have hnc1 : nc ≤ 100 := by omega
  have hnc2 : 0 < nc := by omega
  have hnd1 : nd ≤ 100 := by omega
  clear hlen hlen2
  obtain ⟨gC, oC, csC, frC, hAc, -⟩ := hBC.2.2.2 hnc2
  subst hAc
  have hCc := hBC.2.1
  have hCm := hBC.2.2.1
  go_wp2_with fail
  refine (sameBytes_true _ _ _ _ _ _ code code _ rfl HLC HLD hBC.rd hBD.rd (by omega) (by omega)).mono ?_
  rintro e w8 ⟨rfl, hb8⟩
  replace hb := bt hb hb8
  replace hBT := hBT.all hb8
  replace hBC := hBC.all hb8
  replace hq := hq.all hb8
  clear hb8 hBD HLD
  have hl1 : ([] ++ encInt a0).length ≤ 10 := by rw [List.nil_append]; exact encInt_len hr00 hr01
  have hl2 : ([] ++ encInt a0 ++ encInt a1).length ≤ 20 := by rw [List.length_append]; have := encInt_len hr10 hr11; omega
  have hl3 : ([] ++ encInt a0 ++ encInt a1 ++ encRaw bs).length ≤ 100 := by
    have h1 := HCODE.out
    unfold encR at h1
    have h2 := congrArg List.length h1
    rw [List.length_append] at h2
    omega
  have hW := (Below.refl w8.heap.size w8).alloc (Nat.le_refl _) (.cells #[.slice none 0 0] 78)
  go_wp2_with fail
  refine (wint_any w8.heap.size w8.heap.size [] _ _ (Lib.hid (Wr.new w8)) hr00 hr01 (by decide)).mono ?_
  rintro e w9 ⟨rfl, hW9, hb9⟩
  replace hW := hW.trans hb9
  clear hb9
  go_wp2_with fail
  refine (wint_any w8.heap.size w8.heap.size _ _ _ (Lib.hid hW9) hr10 hr11 (by omega)).mono ?_
  rintro e w10 ⟨rfl, hW10, hb10⟩
  replace hW := hW.trans hb10
  clear hb10 hW9
  go_wp2_with fail
  refine (wraw_any w8.heap.size w8.heap.size _ bs _ _ _ w8.heap.size _ (Lib.hid hW10) HLN (by omega) (hBT.rd.below hW (Nat.le_refl _)) (Nat.le_refl _) (by omega)).mono ?_
  rintro e w11 ⟨rfl, hW11, hb11⟩
  replace hW := hW.trans hb11
  clear hb11 hW10
  go_wp2_with fail
  refine (wuint_any w8.heap.size w8.heap.size _ tg _ rfl _ (Lib.hid hW11) htl (by omega)).mono ?_
  rintro e w12 ⟨rfl, hW12, hb12⟩
  replace hW := hW.trans hb12
  clear hb12 hW11
  replace hW12 : Wr w12 w8.heap.size w8.heap.size code := by rw [← HCODE.out]; exact hW12
  replace hb := bt hb hW
  replace hBT := hBT.all hW
  replace hBC := hBC.all hW
  replace hq := hq.all hW
  clear hW hl1 hl2 hl3
  generalize w8.heap.size = gw at *
  go_wp2_with fail
  refine (few_bytes _ _ _ nc _ rfl code _ HLC hBC.rd hCc hCm (by omega)).mono ?_
  rintro e w13 ⟨Ax, cx, nx, xs, rfl, hxc, hxm, -, HKX, HLX, HEX, hownx, -, hb13⟩
  obtain rfl : nx = nc := by rw [HKX.out]; omega
  obtain ⟨gx, rfl, hgx1, hgx2⟩ := own_some hownx hnc2
  have hgw := hW12.lt.2
  clear HKX HEX
  go_wp2_with fail
  refine (around_nat _ nx _ _ rfl hr50 hr51 hnc2 (by omega)).mono ?_
  rintro e w14 ⟨k, rfl, hk, -, rfl⟩
  obtain ⟨hcellx, hfx⟩ := own_byte hownx hk
  have hk0 : (0 : Int) ≤ (k : Int) := by omega
  have hk1 : (k : Int) < (nx : Int) := by omega
  have hset := own_byte_set hownx k by6
  have hBX := (Bts.of_own hset).1
  have hbx : Below w12.heap.size w12 (w13.setCell ⟨gx, k, none⟩ (.int .u8 ((by6.toNat : Nat) : Int))) := hb13.setCell hgx1 _
  replace hb := bt hb hbx
  replace hBT := hBT.all hbx
  replace hBC := hBC.all hbx
  replace hq := hq.all hbx
  replace hW12 := hW12.all hbx
  have HLX2 := Lib.hid (show (xs.set k by6).length = nx by rw [List.length_set]; exact HLX.out)
  generalize xs.set k by6 = ys at *
  clear hset hbx hb13 hownx HLX
  have m1 : IntKind.i64.wrap ((nx : Int) - 1) = (nx : Int) - 1 := IntWalk.i64_in _ (by omega)
  have m2 : (0 : Int) ≤ (nx : Int) - 1 := by omega
  have m3 : ((nx : Int) - 1).toNat = nx - 1 := by omega
  have m4 : (nx : Int) - 1 ≤ (cc : Int) := by omega
  have m5 : (1 : Int) ≤ (nx : Int) := by omega
  have m6 : (nx : Int) ≤ (cc : Int) + 1 := by omega
  have m7 : nx ≤ cc + 1 := by omega
  have m8 : nx - 1 ≤ cc := by omega
  have m9 : 1 ≤ nx := by omega
  go_wp2
  clear hcellx hfx
  generalize w13.setCell ⟨gx, k, none⟩ (.int .u8 ((by6.toNat : Nat) : Int)) = wy at *
  have HBY := Lib.hid hb
  have HBC := Lib.hid hBC
  go_region_held3 (fun w' => Below wy.heap.size wy w')
    (first | with_reducible exact (Below.refl _ wy).drew | with_reducible exact hS9 | with_reducible exact hS2 | (repeat (first | with_reducible exact hS9 | with_reducible exact hS2 | with_reducible exact Below.refl _ wy | refine Below.alloc ?_ (by first | (simp; done) | omega | (simp; omega)) _ | refine Below.drew ?_)))
    (first
      | (go_at_call 13; have hS1 := (‹Below wy.heap.size wy _›); have hkk := hownR; ((with_reducible refine (few_bytes _ _ _ nx _ rfl code _ HLC (HBC.out.all hS1).rd hCc hCm (by omega)).mono ?_); rintro e wF ⟨AF, cF, nF, zs, rfl, -, -, hnF, HKF, HLF, HEF, hownF, -, hb3⟩; have hS2 := bt hS1 hb3; have hz3 := hb3.size; (first | have hRF := (show Below wR.heap.size wR wF from hb3) | have hRF := (show Below wR.heap.size wR wF from bt ((Below.refl _ wR).alloc (Nat.le_refl _) _) hb3)); have hzF := hRF.size; (first | have hqb := Blk.all hqb hb3 | have hqb := Blk.all (Blk.new _ 5 #[.int .u8 ((by6.toNat : Nat) : Int)]) hb3 | have hqb := Blk.all (show Blk (wy.alloc (.cells #[.int .u8 ((by6.toNat : Nat) : Int)] 5)).drew wy.heap.size 5 #[.int .u8 ((by6.toNat : Nat) : Int)] from Blk.new wy _ _) hb3 | skip); have hz1 := hS2.size; clear hS1 hkk))
      | (go_at_call 13; have hS1 := (‹Below wy.heap.size wy _›); ((with_reducible refine (few_list _ _ _ 40 40 rfl _ _ hA4 ((hR4.below (bt HBY.out hS1) (Nat.le_refl _)).more (bt HBY.out hS1).size) hn4 hc4 (by decide) (bytes_wf hw4)).mono ?_); rintro e wR ⟨AR, cR, nR, rs, rfl, -, -, hnR, -, -, -, hownR, -, hb3⟩; have hS2 := bt hS1 hb3; have hBR := (Bts.of_own hownR).1; (first | have hqb := Blk.all hqb hb3 | have hqb := Blk.all (Blk.new _ 5 #[.int .u8 ((by6.toNat : Nat) : Int)]) hb3 | have hqb := Blk.all (show Blk (wy.alloc (.cells #[.int .u8 ((by6.toNat : Nat) : Int)] 5)).drew wy.heap.size 5 #[.int .u8 ((by6.toNat : Nat) : Int)] from Blk.new wy _ _) hb3 | skip); have hz1 := hS2.size; clear hS1 hb3))
      | (revert hownF; intro hownF; refine step_append1 (v := .slice AF nF cF) slT_u8 (by rfl) (by rfl) (by rfl) _ (by rfl) (by first | exact hownF.alloc _ | exact hownF) #[.int .u8 ((by6.toNat : Nat) : Int)] (by first | exact Blk.new _ _ _ | exact hqb) rfl (by simp; rfl) (by omega) (by decide) (by first | omega | (simp at *; omega)) ?_; intro g5 cap5 wA hoA hgA hatA; (first | have hS9 := (hS2.alloc (by omega) _).grown hgA (by simp; omega) (fun k e => by have := (hownF.lt k e).1; first | omega | (simp at this; omega)) | have hS9 := hS2.grown hgA (by omega) (fun k e => by have := (hownF.lt k e).1; first | omega | (simp at this; omega))); (first | have hRA := (hRF.alloc (by omega) _).grown hgA (by simp; omega) (fun k e => by have := (hownF.lt k e).1; first | omega | (simp at this; omega)) | have hRA := hRF.grown hgA (by omega) (fun k e => by have := (hownF.lt k e).1; first | omega | (simp at this; omega))); have hz9 := hS9.size))
  all_goals
    have z0 := hBC.all hS9
    have z1 := hBR.all hRA
    have z2 := hBX.all hS9
    have z3 := z0.take (m := nx - 1) (by omega)
    have z4 : Bts wA (some ⟨g5, 0, none⟩) (nF + 1) cap5 (zs ++ [by6]) := (Bts.of_own (bs := zs ++ [by6]) (by rw [List.map_append]; exact hoA)).1
    have HV := Lib.hid (five wA z0 z1 z2 z3 z4 (by omega) (by omega) (by omega) (by omega) (by omega))
    have hbL := (Below.refl wA.heap.size wA).alloc (Nat.le_refl _) (.cells #[.slice (some ⟨gC, oC, none⟩) nx cc, .slice AR nR cR, .slice (some ⟨gx, 0, none⟩) nx cx, .slice (some ⟨gC, oC, none⟩) (nx - 1) cc, .slice (some ⟨g5, 0, none⟩) (nF + 1) cap5] 23)
    have hSL := bt hS9 hbL
    have hb' := bt hb hSL
    have hBC' := hBC.all hSL
    have hBT' := hBT.all hSL
    have hq' := hq.all hSL
    have hW' := hW12.all hSL
    clear z0 z1 z2 z3 z4 hbL hSL hS9 hBC hBT hq hW12 hoA hgA hatA hownF hownR hBR hBX hb m1 m2 m3 m4 m5 m6 m7 m8 m9 HBY HBC hRA hRF hS2
    go_wp2
    generalize wA.alloc (.cells #[.slice (some ⟨gC, oC, none⟩) nx cc, .slice AR nR cR, .slice (some ⟨gx, 0, none⟩) nx cx, .slice (some ⟨gC, oC, none⟩) (nx - 1) cc, .slice (some ⟨g5, 0, none⟩) (nF + 1) cap5] 23) = wL at *
    generalize wA.heap.size = gl at *
    have HBP := Lib.hid hb'
    have HBC := Lib.hid hBC'
    have HBT := Lib.hid hBT'
    have HQ := Lib.hid hq'
    have HW := Lib.hid hW'
    clear hb' hBC' hBT' hq' hW'
    go_loopw [22] (fun i wr => ∃ j : Nat, j ≤ 5 ∧ i = .int .i64 (j : Int) ∧ Below wL.heap.size wL wr) (fun i _ => 5 - (intOf i).toNat)
    case atStart => exact ⟨0, by omega, rfl, Below.refl _ _⟩
    case round =>
      obtain ⟨j, hj, rfl, hbr⟩ := hrel
      by_cases hlt : j < 5
      · obtain ⟨Aj, nj, cj, bj, hcj, hBj, hnj, hj0⟩ := HV.out j hlt
        have hgl : gl < wL.heap.size := World.block_lt_of_cell? wL _ hcj
        have HCJ := Lib.hid hcj
        have HBJ := Lib.hid hBj
        have hcr := (hbr.cell (p := ⟨gl, j, none⟩) hgl).trans hcj
        have hBr := hBj.all hbr
        have hi0 : (0 : Int) ≤ (j : Int) := by omega
        have hi1 : (j : Int) < 5 := by omega
        have HJ0 := Lib.hid (show (decR bj).1 ≠ 0 → ((j : Int) == 0) = false from fun h => by
          rcases Nat.eq_zero_or_pos j with h0 | h0
          · rw [hj0 h0, ← HCODE.out, decR_enc hI0 hI1 (by have := HLN.out; omega) htl] at h
            exact absurd rfl h
          · simp; omega)
        clear hcj hBj hj0
        go_wp2_with fail
        refine (decodeC_any _ _ _ bj _ (Lib.hid hBr) (by omega)).mono ?_
        rintro e w20 ⟨x, rfl, hok, hlog, hb20⟩
        have hb21 := bt hbr hb20
        have hbq := (Below.refl w20.heap.size w20).alloc (Nat.le_refl _) (.cells #[.int .i64 x.cl, .int .i64 x.num, .slice x.A x.n x.c, .int .u64 x.tag] 32)
        have hq20 := Blk.new w20 32 #[.int .i64 x.cl, .int .i64 x.num, .slice x.A x.n x.c, .int .u64 x.tag]
        have hok2 := hok.all hbq
        have hb22 := bt hb21 hbq
        clear hcr hBr hbr hb20 hb21 hbq hok
        unfold Rq.val
        by_cases hd : (decR bj).1 = 0
        · rw [if_pos hd] at hlog
          rw [if_pos hd]
          obtain ⟨xl1, xl2, xl3, xl4⟩ := Rq.log_eq hlog
          obtain ⟨rg1, rg2, rg3⟩ := decR_range bj
          have HONE := Lib.hid (show encR x.cl x.num x.bs (decR bj).2.2.2.2 = bj by rw [xl1, xl2, xl3]; exact (decR_one hd).symm)
          have HX4 := Lib.hid xl4
          have hxi1 : InI x.cl := by rw [xl1]; exact rg1
          have hxi2 : InI x.num := by rw [xl2]; exact rg2
          clear hlog xl1 xl2 xl3 xl4 hd HJ0 rg1 rg2
          obtain ⟨q0, q1, q2, q3, -, -, -, -⟩ := blk4 hq20
          go_wp2
          generalize w20.alloc (.cells #[.int .i64 x.cl, .int .i64 x.num, .slice x.A x.n x.c, .int .u64 x.tag] 32) = w21 at *
          generalize w20.heap.size = gq at *
          have HQ2 := Lib.hid hq20
          have HOK2 := Lib.hid hok2
          have HB22 := Lib.hid hb22
          have hcj := (hb22.cell (p := ⟨gl, j, none⟩) hgl).trans HCJ.out
          have HCJ2 := Lib.hid hcj
          have hgl2 : gl < w21.heap.size := Nat.lt_of_lt_of_le hgl hb22.size
          have HLJ := Lib.hid HBJ.out.1
          clear hq20 hok2 hb22
          go_region_held3 (fun w' => Below w21.heap.size w21 w' ∧ w'.cell? ⟨gq, 0, none⟩ = some (.int .i64 x.cl) ∧ w'.cell? ⟨gq, 1, none⟩ = some (.int .i64 x.num) ∧ w'.cell? ⟨gq, 2, none⟩ = some (.slice x.A x.n x.c) ∧ w'.cell? ⟨gq, 3, none⟩ = some (.int .u64 x.tag) ∧ w'.cell? ⟨gl, j, none⟩ = some (.slice Aj nj cj))
            (first | with_reducible exact keepFive (Below.refl _ w21).drew HQ2.out hgl2 HCJ2.out | with_reducible exact keepFive hS2 HQ2.out hgl2 HCJ2.out)
            (first
              | (go_at_call 40; have hS1 := (‹Below w21.heap.size w21 _ ∧ _›).1; ((refine (encodeC_any x (decR bj).2.2.2.2 _ (Lib.hid (HOK2.out.all hS1)) hxi1 hxi2 HX4 rg3).mono ?_); rintro e wE ⟨AE, nE, cE, rfl, HNE, hownE, hb3⟩; have hS2 := bt hS1 hb3; clear hS1 hb3))
              | (go_at_call 32; have hS1 := (‹Below w21.heap.size w21 _ ∧ _›).1; have hNE := HNE.out; rw [HONE.out] at hNE hownE; ((refine (sameBytes_true _ _ _ _ _ _ bj bj _ rfl (Lib.hid hNE) HLJ (rd_bytes hownE).2.2 ((HBJ.out.all HB22.out).all hS1).rd (by rw [← hNE, HLJ.out]; omega) (by omega)).mono ?_); rintro e wS ⟨rfl, hb3⟩; have hS2 := bt hS1 hb3; clear hS1 hb3)))
          have hbS := bt HB22.out hS2
          clear hS2 q0 q1 q2 q3 hcj
          go_wp2
          exact ⟨⟨j + 1, by omega, by go_num, hbS⟩, by simp [intOf]; omega⟩
        · rw [if_neg hd] at hlog
          rw [if_neg hd]
          have hj0 := HJ0.out hd
          have HSM := Lib.hid (show sameR x ⟨0, 0, none, 0, 0, [], 0⟩ = true from (sameR_iff _ _).2 hlog)
          clear hlog hd HJ0
          obtain ⟨q0, q1, q2, q3, -, -, -, -⟩ := blk4 hq20
          go_wp2_with fail
          generalize w20.alloc (.cells #[.int .i64 x.cl, .int .i64 x.num, .slice x.A x.n x.c, .int .u64 x.tag] 32) = w21 at *
          generalize w20.heap.size = gq at *
          refine (request_agg _ _ _ _ _ _ _).mono ?_
          rintro e w23 ⟨rfl, hb23⟩
          replace hb22 := bt hb22 hb23
          replace hok2 := hok2.all hb23
          clear hb23 q0 q1 q2 q3 hq20
          go_wp2_with fail
          refine (sameRq_any x ⟨0, 0, none, 0, 0, [], 0⟩ _ (Lib.hid hok2) (Lib.hid ⟨Bts.nil _, Nat.zero_le _⟩)).mono ?_
          rw [HSM.out]
          rintro e w24 ⟨rfl, hb24⟩
          replace hb22 := bt hb22 hb24
          clear hb24 hok2
          go_wp2
          go_quiet (fail)
          go_wp2
          exact ⟨⟨j + 1, by omega, by go_num, below_drewN hb22 _⟩, by simp [intOf]; omega⟩
      · obtain rfl : j = 5 := by omega
        clear HV
        go_wp2_with fail
        refine (decodeC_any _ _ _ code _ (Lib.hid (HBC.out.all hbr)) (by omega)).mono ?_
        rintro e w20 ⟨x, rfl, hok, hlog, hb20⟩
        have HDC := Lib.hid (show decR code = (0, a0, a1, bs, tg) by rw [← HCODE.out]; exact decR_enc hI0 hI1 (by have := HLN.out; omega) htl)
        rw [HDC.out, if_pos rfl] at hlog
        rw [HDC.out, if_pos rfl]
        have hb21 := bt hbr hb20
        have hbq := (Below.refl w20.heap.size w20).alloc (Nat.le_refl _) (.cells #[.int .i64 x.cl, .int .i64 x.num, .slice x.A x.n x.c, .int .u64 x.tag] 32)
        have hq20 := Blk.new w20 32 #[.int .i64 x.cl, .int .i64 x.num, .slice x.A x.n x.c, .int .u64 x.tag]
        have hok2 := hok.all hbq
        have hb22 := bt hb21 hbq
        have HSM := Lib.hid (show sameR x ⟨a0, a1, As, n, cs, bs, (tg : Int)⟩ = true from (sameR_iff _ _).2 hlog)
        have hqr := HQ.out.all hb22
        have hBT2 := HBT.out.all hb22
        clear hbr hb20 hb21 hbq hok hlog
        unfold Rq.val
        go_wp2
        generalize w20.alloc (.cells #[.int .i64 x.cl, .int .i64 x.num, .slice x.A x.n x.c, .int .u64 x.tag] 32) = w21 at *
        generalize w20.heap.size = gq at *
        obtain ⟨q0, q1, q2, q3, -, -, -, -⟩ := blk4 hq20
        obtain ⟨s0, s1, s2, s3, -, -, -, -⟩ := blk4 hqr
        have HQ2 := Lib.hid hq20
        have HQR := Lib.hid hqr
        have HOK2 := Lib.hid hok2
        have HBT2 := Lib.hid hBT2
        have HBC2 := Lib.hid (HBC.out.all hb22)
        have HW2 := Lib.hid (HW.out.all hb22)
        have HB22 := Lib.hid (bt HBP.out hb22)
        clear hq20 hok2 hb22 hqr hBT2
        go_region_held3 (fun w' => Below w21.heap.size w21 w' ∧ w'.cell? ⟨gq, 0, none⟩ = some (.int .i64 x.cl) ∧ w'.cell? ⟨gq, 1, none⟩ = some (.int .i64 x.num) ∧ w'.cell? ⟨gq, 2, none⟩ = some (.slice x.A x.n x.c) ∧ w'.cell? ⟨gq, 3, none⟩ = some (.int .u64 x.tag) ∧ w'.cell? ⟨gr, 0, none⟩ = some (.int .i64 a0) ∧ w'.cell? ⟨gr, 1, none⟩ = some (.int .i64 a1) ∧ w'.cell? ⟨gr, 2, none⟩ = some (.slice As n cs) ∧ w'.cell? ⟨gr, 3, none⟩ = some (.int .u64 (tg : Int)))
          (first | with_reducible exact keepTwo (Below.refl _ w21).drew HQ2.out HQR.out | with_reducible exact keepTwo hS2 HQ2.out HQR.out)
          (first
            | (go_at_call 16; have hS1 := (‹Below w21.heap.size w21 _ ∧ _›).1; ((with_reducible refine (request_agg _ _ _ _ _ _ _).mono ?_); rintro e wt ⟨rfl, hb3⟩; have hS2 := bt hS1 hb3; clear hS1 hb3))
            | (go_at_call 17; have hS1 := (‹Below w21.heap.size w21 _ ∧ _›).1; ((refine (sameRq_any x ⟨a0, a1, As, n, cs, bs, (tg : Int)⟩ _ (Lib.hid (HOK2.out.all hS1)) (Lib.hid ⟨HBT2.out.all hS1, show n ≤ 1048576 by omega⟩)).mono ?_); rw [HSM.out]; rintro e wt ⟨rfl, hb3⟩; have hS2 := bt hS1 hb3; clear hS1 hb3))
            | (go_at_call 46; have hS1 := (‹Below w21.heap.size w21 _ ∧ _›).1; ((with_reducible refine (wdone_any gw gw code _ (Lib.hid (HW2.out.all hS1)) (by omega)).mono ?_); rintro e wt ⟨AD, nD, cD, rfl, -, -, HND, -, hRD, hb3⟩; have hS2 := bt hS1 hb3; clear hS1 hb3))
            | (go_at_call 32; have hS1 := (‹Below w21.heap.size w21 _ ∧ _›).1; ((refine (sameBytes_true _ _ _ _ _ _ code code _ rfl HND HLC hRD (HBC2.out.all hS1).rd (by rw [← HND.out]; omega) (by omega)).mono ?_); rintro e wt ⟨rfl, hb3⟩; have hS2 := bt hS1 hb3; clear hS1 hb3))
            | (go_at_call 21; have hS1 := (‹Below w21.heap.size w21 _ ∧ _›).1; ((with_reducible refine (lives37_any _).mono ?_); rintro e wt ⟨rfl, hb3⟩; have hS2 := bt hS1 hb3; clear hS1 hb3)))
        have hbS := bt HB22.out hS2
        clear hS2 q0 q1 q2 q3 s0 s1 s2 s3
        go_wp2
        go_ret
        exact ⟨rfl, hbS⟩

set_option maxRecDepth 100000 in
theorem ClientBytes_lifted (os : Os) (started : os.Started) (H : Type) (enc : TypeId × Value → H) :
    ReturnsInHanded {} Try.checked os 7 .any (Rows.clientBytesSpec.pre6 enc Try.prog Try.f7 Rows.clientBytesRow.domain false) (Rows.clientBytesSpec.post enc Try.prog Try.f7 false true false false) := by
  refine returnsInHanded_of_change (C := Try.checked) Try.own started (by kernel_rfl) Try.func7
    (ChangeSpec.witness6 (enc := enc) (C := Try.checked) false ⟨#[], #[.int .i64 0, .int .i64 0, .slice none 0 0, .int .u64 0, .slice none 0 0, .int .i64 0, .int .u8 0], []⟩ 8 (by kernel_rfl) (by kernel_rfl) (by kernel_rfl) (by kernel_rfl)) ?_
  intro W base args ds gs before hval0 hW _ _
  have hval : ∀ (j : Nat) t v, Try.f7.params[j]? = some t → args[j]? = some v → Value.okWide Try.prog W .any base t v := hval0
  have hW' := hW
  obtain ⟨p, q, hT0, hV, rfl, hfz, hnd⟩ := hW
  have hT : DataW.TrodAll enc Try.prog W 0 (fun _ => true) true Try.f7.params.toList args.toList ds p := hT0
  rw [Try.params7] at hT hval
  obtain ⟨v0, vs0, d0, ds0, p0, q0, hargs0, rfl, rfl, h0, r0⟩ := trodAll_cons hT
  obtain ⟨v1, vs1, d1, ds1, p1, q1, hargs1, rfl, rfl, h1, r1⟩ := trodAll_cons r0
  obtain ⟨v2, vs2, d2, ds2, p2, q2, hargs2, rfl, rfl, h2, r2⟩ := trodAll_cons r1
  obtain ⟨v3, vs3, d3, ds3, p3, q3, hargs3, rfl, rfl, h3, r3⟩ := trodAll_cons r2
  obtain ⟨v4, vs4, d4, ds4, p4, q4, hargs4, rfl, rfl, h4, r4⟩ := trodAll_cons r3
  obtain ⟨v5, vs5, d5, ds5, p5, q5, hargs5, rfl, rfl, h5, r5⟩ := trodAll_cons r4
  obtain ⟨v6, vs6, d6, ds6, p6, q6, hargs6, rfl, rfl, h6, r6⟩ := trodAll_cons r5
  obtain ⟨rfl, rfl, rfl⟩ := trodAll_nil r6
  obtain rfl : args = #[v0, v1, v2, v3, v4, v5, v6] := by cases args; simp_all
  obtain ⟨a0, rfl, -, -, w0⟩ := open_int Try.underlying3 (hval 0 3 v0 rfl rfl) h0
  obtain ⟨a1, rfl, -, -, w1⟩ := open_int Try.underlying3 (hval 1 3 v1 rfl rfl) h1
  obtain ⟨A2, n2, c2, f2, rfl, hA2, hn2, hc2, hR2, hw2⟩ := open_sl Try.underlying23 Try.underlying5 (by kernel_rfl) (hval 2 23 v2 rfl rfl) h2
  obtain ⟨a3, rfl, -, -, w3⟩ := open_int Try.underlying22 (hval 3 22 v3 rfl rfl) h3
  obtain ⟨A4, n4, c4, f4, rfl, hA4, hn4, hc4, hR4, hw4⟩ := open_sl Try.underlying23 Try.underlying5 (by kernel_rfl) (hval 4 23 v4 rfl rfl) h4
  obtain ⟨a5, rfl, -, -, w5⟩ := open_int Try.underlying3 (hval 5 3 v5 rfl rfl) h5
  obtain ⟨a6, rfl, -, -, w6⟩ := open_int Try.underlying5 (hval 6 5 v6 rfl rfl) h6
  refine (ClientBytes_walk W a0 w0 a1 w1 A2 n2 c2 f2 hA2 hn2 hc2 hR2 hw2 a3 w3 A4 n4 c4 f4 hA4 hn4 hc4 hR4 hw4 a5 w5 a6 w6).mono fun e W' ⟨he, hb⟩ => ?_
  subst he
  exact ⟨_, rfl, law_post Try.laidOut (by kernel_rfl) (by kernel_rfl) Try.underlying4 rfl hW' rfl hb⟩

theorem ClientBytes_holds : Rows.ClientBytesSaid :=
  OpenClaim.holds_of_wide 7 Try.f7 rfl rfl rfl rfl rfl rfl rfl ⟨rfl, rfl, rfl, rfl, rfl⟩ rfl rfl rfl rfl rfl (by kernel_rfl) Try.func7 (by kernel_rfl)
    (of_decide_eq_true (by kernel_rfl)) (by unfold Func.isWrapper; first | (rw [if_pos (by decide +kernel)]; kernel_rfl) | (rw [if_neg (by decide +kernel)]; exact ⟨rfl, rfl⟩))
    (fun os started H enc _ => ClientBytes_lifted os started H enc)

end Go.Proofs.Ytompkpleiichaaa
