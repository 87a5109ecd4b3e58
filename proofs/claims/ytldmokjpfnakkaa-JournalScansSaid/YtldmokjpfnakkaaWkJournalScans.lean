/- The walk of JournalScans. -/
import Derived.Test.YtldmokjpfnakkaaJrnLives
import Derived.Test.YtldmokjpfnakkaaRefHelp2
import Derived.Test.YtldmokjpfnakkaaLaw
namespace Go.Proofs.Ytldmokjpfnakkaa
open Go.ChangeShapes Go.WideShapes Go.ChangeAt Go.RowKit Go.ChangeMaps

theorem frames_le (L : List Bz) (hs : ∀ z ∈ L, z.bs.length ≤ 10) (hn : L.length ≤ 6) : ∀ k, k ≤ L.length → (framesB 0 (bsOf (L.take k))).length ≤ 50 * k := by
  intro k
  induction k with
  | zero => intro _; simp [bsOf, framesB]
  | succ k ih =>
    intro hk
    have h1 := ih (by omega)
    rw [← List.take_append_getElem (show k < L.length by omega), bsOf_snoc, framesB_snoc, List.length_append]
    have h2 := frameB_len (k := ((0 + (bsOf (L.take k)).length : Nat) : Int)) (bs := (L[k]'(by omega)).bs) (by rw [bsOf_length, List.length_take]; exact ⟨by omega, by omega⟩) (by have := hs _ (List.getElem_mem (show k < L.length by omega)); omega)
    have h3 := hs _ (List.getElem_mem (show k < L.length by omega))
    omega
theorem rd_list {w : World} {B n : Nat} {A : Option Addr} {f : Nat → Int} (h : Rd w B A n (fun j => .int .u8 (f j))) (hf : ∀ j, j < n → 0 ≤ f j ∧ f j ≤ 255) : Rd w B A n (vByte ((List.range n).map fun j => UInt8.ofNat (f j).toNat)) :=
  h.congr (fun j hj => by
    have := hf j hj
    unfold vByte
    rw [List.getElem?_map, List.getElem?_range hj]
    simp only [Option.map_some, Option.getD_some]
    rw [ofNat_toNat (by omega)]
    congr 1
    omega)
theorem run_cut (A : Option Addr) (n c m : Nat) (mi : Int) (hmi : mi = (m : Int)) (hm : m ≤ c) (w : World) : (Instr.slice 23 (.slice A n c) none (some (.int .i64 mi)) none).run Try.prog w = .ok (.slice A m c) w := by
  subst hmi
  have e : A.map (fun a => a.add 0) = A := by
    cases A with
    | none => rfl
    | some a => simp [Addr.add]
  have h1 : (m : Int) ≤ (c : Int) := by omega
  have h2 := run_slice_h (P := Try.prog) (w := w) 23 A n c (by kernel_rfl) .i64 (m : Int) (by omega) h1
  rw [h2]
  have h3 : (sizeOf (Try.prog.elem 23)).run Try.prog w = .ok 1 w := by kernel_rfl
  rw [h3]
  simp only [Result.andThen, sliced, Nat.zero_mul, e, ite_self, Nat.sub_zero, Int.toNat_natCast]
theorem three_rows {w : World} {A1 A2 A3 : Option Addr} {n1 n2 n3 c1 c2 c3 : Nat} {b1 b2 b3 : List UInt8} (h1 : Sb w A1 n1 c1 b1) (h2 : Sb w A2 n2 c2 b2) (h3 : Sb w A3 n3 c3 b3) :
    LsRd (w.alloc (.cells #[.slice A1 n1 c1, .slice A2 n2 c2, .slice A3 n3 c3] 23)) (some ⟨w.heap.size, 0, none⟩) 3 3 [⟨A1, n1, c1, b1⟩, ⟨A2, n2, c2, b2⟩, ⟨A3, n3, c3, b3⟩] := by
  have hb := (Below.refl w.heap.size w).alloc (Nat.le_refl _) (.cells #[.slice A1 n1 c1, .slice A2 n2 c2, .slice A3 n3 c3] 23)
  have hB := Blk.new w 23 #[.slice A1 n1 c1, .slice A2 n2 c2, .slice A3 n3 c3]
  refine ⟨rfl, by decide, by decide, fun _ => ⟨_, _, rfl, by simp, fun j hj => ?_⟩, fun z hz => ?_⟩
  · rw [Nat.zero_add, hB.cell]
    rcases (show j = 0 ∨ j = 1 ∨ j = 2 by omega) with rfl | rfl | rfl <;> rfl
  · simp at hz
    rcases hz with rfl | rfl | rfl
    · exact ⟨h1.1, h1.2.1, h1.2.2.1, (h1.all hb).rd⟩
    · exact ⟨h2.1, h2.2.1, h2.2.2.1, (h2.all hb).rd⟩
    · exact ⟨h3.1, h3.2.1, h3.2.2.1, (h3.all hb).rd⟩
theorem three_sb {w : World} {A1 A2 A3 : Option Addr} {n1 n2 n3 c1 c2 c3 : Nat} {b1 b2 b3 : List UInt8} (h1 : Sb w A1 n1 c1 b1) (h2 : Sb w A2 n2 c2 b2) (h3 : Sb w A3 n3 c3 b3) :
    ∀ z ∈ ([⟨A1, n1, c1, b1⟩, ⟨A2, n2, c2, b2⟩, ⟨A3, n3, c3, b3⟩] : List Bz), Sb (w.alloc (.cells #[.slice A1 n1 c1, .slice A2 n2 c2, .slice A3 n3 c3] 23)) z.A z.n z.c z.bs := by
  have hb := (Below.refl w.heap.size w).alloc (Nat.le_refl _) (.cells #[.slice A1 n1 c1, .slice A2 n2 c2, .slice A3 n3 c3] 23)
  intro z hz
  simp at hz
  rcases hz with rfl | rfl | rfl
  · exact h1.all hb
  · exact h2.all hb
  · exact h3.all hb
theorem three_n {nR na nF : Nat} (h1 : nR ≤ 60) (h2 : na ≤ 300) (h3 : nF ≤ 50) {AR A2 AF : Option Addr} {cR c2 cF : Nat} {rsR bs2 fs : List UInt8} : ∀ z ∈ ([⟨AR, nR, cR, rsR⟩, ⟨A2, na, c2, bs2⟩, ⟨AF, nF, cF, fs⟩] : List Bz), z.n ≤ 300 := by
  intro z hz
  simp at hz
  rcases hz with rfl | rfl | rfl <;> simp only <;> omega
theorem scan_len {bs : List UInt8} {L : List Bz} {m n : Nat} (h : ScanIs bs (bsOf L) m) (hn : bs.length ≤ n) : L.length ≤ n := by
  obtain ⟨h1, r, h2, -⟩ := h
  have h3 := framesB_len (bsOf L) 0
  rw [bsOf_length] at h3
  have h4 := congrArg List.length h2
  rw [List.length_append] at h4
  omega
theorem frames_next {L : List Bz} {k : Nat} {z : Bz} (hz : L[k]? = some z) : framesB 0 (bsOf (L.take (k + 1))) = framesB 0 (bsOf (L.take k)) ++ frameB (k : Nat) z.bs := by
  obtain ⟨hk, rfl⟩ := List.getElem?_eq_some_iff.1 hz
  rw [← List.take_append_getElem hk, bsOf_snoc, framesB_snoc, bsOf_length, List.length_take, Nat.zero_add, Nat.min_eq_left (by omega)]

set_option maxRecDepth 100000 in
set_option maxHeartbeats 8000000 in
theorem JournalScans_walk (W : World) (A0 : Option Addr) (n0 c0 : Nat) (f0 : Nat → Int) (hA0 : A0 = none → n0 = 0) (hn0 : n0 ≤ c0) (hc0 : c0 ≤ 9223372036854775807) (hR0 : Rd W W.heap.size A0 n0 (fun j => .int .u8 (f0 j))) (hw0 : Hid (∀ j, j < n0 → (Lit.int .u8 (f0 j)).wf = true)) (A1 : Option Addr) (n1 c1 : Nat) (f1 : Nat → Int) (_hA1 : A1 = none → n1 = 0) (hn1 : n1 ≤ c1) (_hc1 : c1 ≤ 9223372036854775807) (hR1 : Rd W W.heap.size A1 n1 (fun j => .int .i64 (f1 j))) (hw1 : Hid (∀ j, j < n1 → (Lit.int .i64 (f1 j)).wf = true)) (a2 : Int) (ha2 : Hid ((Lit.int .i64 a2).wf = true)) (a3 : Int) (ha3 : Hid ((Lit.int .u8 a3).wf = true)) :
    Calls Try.prog 4 #[.slice A0 n0 c0, .slice A1 n1 c1, .int .i64 a2, .int .u8 a3] W fun e w' => e = .returned (.bool true) ∧ Below W.heap.size W w' := by
  have hb := Below.refl W.heap.size W
  go_enter Try.func4, Try.ntmps4
  clear hb
  go_wp2_with fail
  refine (records_any _ _ _ f1 _ hR1 (by omega) (Lib.hid (fun j hj => wf_i64 (hw1.out j hj)))).mono ?_
  rintro e w1 ⟨v1, L1, rfl, hL1, hrs1, hb1⟩
  obtain ⟨A9, c9, rfl⟩ := hL1.slice
  have hlx : L1.length = min n1 6 := by rw [← bsOf_length, hrs1, recsOf_len]
  obtain ⟨nx, hnx⟩ : ∃ nx, L1.length = nx := ⟨_, rfl⟩
  rw [hnx] at hL1 ⊢
  have hnx6 : nx ≤ 6 := by omega
  have HNX := Lib.hid hnx
  have HX := Lib.hid hL1.r.rd
  have HRS := Lib.hid hrs1
  have HSM : Hid (∀ z ∈ L1, z.bs.length ≤ 10) := Lib.hid (fun z hz => recsOf_small n1 f1 z.bs (by rw [← hrs1]; exact List.mem_map.2 ⟨z, hz, rfl⟩))
  clear hnx hlx hrs1
  have HR0 := Lib.hid (hR0.all hb1)
  have HRW := Lib.hid (rd_list HR0.out (bytes_wf hw0))
  have HRL := Lib.hid (show ((List.range n0).map fun j => UInt8.ofNat (f0 j).toNat).length = n0 by simp)
  generalize ((List.range n0).map fun j => UInt8.ofNat (f0 j).toNat) = rs at *
  clear hL1
  go_wp2
  go_loopw [10, 11] (fun v i wr => ∃ (k na : Nat), k ≤ nx ∧ na ≤ 50 * k ∧ i = .int .i64 (k : Int) ∧ Hid ((framesB 0 (bsOf (L1.take k))).length = na) ∧ wr.ownsRow w1.heap.size 5 1 v na ((framesB 0 (bsOf (L1.take k))).map fun b => Value.int .u8 ((b.toNat : Nat) : Int)) ∧ Below w1.heap.size w1 wr) (fun _ i _ => nx - (intOf i).toNat)
  case atStart => exact ⟨0, 0, by omega, by omega, rfl, Lib.hid rfl, World.ownsRow_nil _ _ _ _, Below.refl _ _⟩
  case round =>
    obtain ⟨k, na, hk, hna, rfl, HNA, hown, hb⟩ := hrel
    obtain ⟨v10, rfl⟩ : ∃ x, x = u10 := ⟨_, rfl⟩
    by_cases hlt : k < nx
    · obtain ⟨b, off, z, rfl, hbl, hcz, hz, hrz⟩ := (HX.out.all hb).cell hlt
      have HZ := Lib.hid hz
      have HZN := Lib.hid hrz.len
      have hzn : z.n ≤ 10 := by
        have := HSM.out z (List.mem_of_getElem? hz)
        have := hrz.len
        omega
      have hrd := hrz.rd
      clear hz hrz
      go_wp2_with fail
      refine (rframe_any _ _ _ _ z.bs _ HZN (by omega) (by omega) (by omega) hrd).mono ?_
      rintro e w2 ⟨A2, n2, c2, rfl, HN2, hown2, hb2⟩
      have hn2 : n2 ≤ 50 := by
        have := frameB_len (k := (k : Int)) (bs := z.bs) ⟨by omega, by omega⟩ (by have := HZN.out; omega)
        have := HN2.out
        have := HZN.out
        omega
      have hx2 := hb.trans (hb2.mono hb.size)
      obtain ⟨A3, n3, c3, w3, HA, HN3, hown3, hb3⟩ := own_many (c := c2) (own_keep hown hb2) HN2.out (rd_bytes hown2).2.2 (by omega) hx2.size
      have HNX3 := Lib.hid (frames_next HZ.out)
      have HO3 := Lib.hid (show w3.ownsRow w1.heap.size 5 1 (.slice A3 n3 c3) n3 ((framesB 0 (bsOf (L1.take (k + 1)))).map fun b => Value.int .u8 ((b.toNat : Nat) : Int)) by rw [HNX3.out]; exact hown3)
      have HN33 := Lib.hid (show (framesB 0 (bsOf (L1.take (k + 1)))).length = n3 by rw [HNX3.out, List.length_append, HNA.out, HN2.out, HN3.out])
      have hn3 : n3 ≤ 50 * (k + 1) := by rw [HN3.out]; omega
      have HX3 := Lib.hid (hx2.trans hb3)
      clear hown hown2 hown3 hb2 hb3 hx2 HNX3 hrd hb
      go_wp2_with (at_builtin; refine wpList_append_run HA.out rfl rfl rfl rfl ?_)
      exact ⟨⟨k + 1, n3, by omega, hn3, by go_num, HN33, HO3.out, HX3.out⟩, by simp [intOf]; omega⟩
    · obtain rfl : k = nx := by omega
      obtain ⟨A10, c10, rfl⟩ := own_slice hown
      --@1
      obtain ⟨bs2, hbs2⟩ : ∃ bs2, framesB 0 (bsOf (List.take k L1)) = bs2 := ⟨_, rfl⟩
      rw [hbs2] at hown HNA
      have hsz1 := hb.size
      clear hbs2
      obtain ⟨y3, rfl⟩ := byte_of_wf ha3.out
      obtain ⟨bit1, bit2⟩ := wf_i64 ha2.out
      by_cases hna0 : 0 < na
      · obtain ⟨g, rfl, hga, hgb⟩ := own_some hown hna0
        go_wp2_with fail
        refine (around_nat a2 na _ _ rfl bit1 bit2 hna0 (by omega)).mono ?_
        rintro e w2 ⟨j, rfl, hj, -, rfl⟩
        obtain ⟨hcl, hfz⟩ := own_byte hown hj
        go_wp2_with fail
        have hown2 := own_byte_set hown j y3
        have hx2 := hb.setCell (p := ⟨g, j, none⟩) hga (.int .u8 ((y3.toNat : Nat) : Int))
        have HL2 := Lib.hid (show (bs2.set j y3).length = na by rw [List.length_set]; exact HNA.out)
        clear hown hb HNA hcl hfz
        generalize wr.setCell ⟨g, j, none⟩ (.int .u8 ((y3.toNat : Nat) : Int)) = w2 at *
        generalize bs2.set j y3 = bs3 at *
        have HBX := Lib.hid hx2
        --@2
        obtain ⟨m5, hm5, hm5n⟩ : ∃ m5 : Nat, (if (5 : Int) < (n0 : Int) then (5 : Int) else (n0 : Int)) = (m5 : Int) ∧ m5 ≤ n0 ∧ m5 ≤ 5 := ⟨min n0 5, by split <;> omega, by omega, by omega⟩
        have i2 := run_cut A0 n0 c0 m5 m5 rfl (by omega)
        have HT5 := Lib.hid (show (rs.take m5).length = m5 by rw [List.length_take, HRL.out]; omega)
        have HR5 := Lib.hid (show Rd w1 w1.heap.size A0 m5 (vByte (rs.take m5)) from (HRW.out.less hm5n.1).congr (fun j hj => by simp [vByte, hj]))
        have hm55 : m5 ≤ 1099511627776 := by omega
        go_region_held3 (fun w' => Below w2.heap.size w2 w')
          (first | with_reducible exact (Below.refl _ w2).drew | with_reducible exact hS2 | with_reducible exact hS2.alloc hS2.size _)
          (first
            | (go_at_call 10; have hS1 := (‹Below w2.heap.size w2 _›); have hkk := hSF; ((with_reducible refine (few_list _ _ _ 60 60 rfl _ _ hA0 ((HR0.out.below (bt HBX.out hS1) (Nat.le_refl _)).more (bt HBX.out hS1).size) hn0 hc0 (by decide) (bytes_wf hw0)).mono ?_); rintro e wR ⟨AR, cR, nR, rsR, rfl, -, -, hnR, -, -, -, hownR, -, hb3⟩; have hS2 := bt hS1 hb3; have hSR := Sb.own hownR; replace hSF := Sb.all hSF hb3; clear hS1 hb3 hownR hkk))
            | (go_at_call 10; have hS1 := (‹Below w2.heap.size w2 _›); ((with_reducible refine (few_list _ _ _ 60 60 rfl _ _ hA0 ((HR0.out.below (bt HBX.out hS1) (Nat.le_refl _)).more (bt HBX.out hS1).size) hn0 hc0 (by decide) (bytes_wf hw0)).mono ?_); rintro e wR ⟨AR, cR, nR, rsR, rfl, -, -, hnR, -, -, -, hownR, -, hb3⟩; have hS2 := bt hS1 hb3; have hSR := Sb.own hownR; clear hS1 hb3 hownR))
            | (go_at_call 13; have hS1 := (‹Below w2.heap.size w2 _›); have hkk := hSR; ((with_reducible refine (rframe_any 1 _ _ _ _ _ HT5 (by decide) (by decide) hm55 ((HR5.out.below (bt HBX.out hS1) (Nat.le_refl _)).more (bt HBX.out hS1).size)).mono ?_); rintro e wF ⟨AF, nF, cF, rfl, HNF, hownF, hb3⟩; have hS2 := bt hS1 hb3; have hSF := Sb.own hownF; replace hSR := Sb.all hSR hb3; clear hS1 hb3 hownF hkk))
            | (go_at_call 13; have hS1 := (‹Below w2.heap.size w2 _›); ((with_reducible refine (rframe_any 1 _ _ _ _ _ HT5 (by decide) (by decide) hm55 ((HR5.out.below (bt HBX.out hS1) (Nat.le_refl _)).more (bt HBX.out hS1).size)).mono ?_); rintro e wF ⟨AF, nF, cF, rfl, HNF, hownF, hb3⟩; have hS2 := bt hS1 hb3; have hSF := Sb.own hownF; clear hS1 hb3 hownF)))
        --@3
        all_goals (
          clear i2 hm5
          have HLS := Lib.hid (three_rows hSR ((Sb.own hown2).all hS2) hSF)
          have HSS := Lib.hid (three_sb hSR ((Sb.own hown2).all hS2) hSF)
          have hBW := bt (bt hb1 HBX.out) ‹Below w2.heap.size w2 (World.alloc _ _)›
          have hn1' : nR ≤ 60 := by omega
          have hn2' : na ≤ 300 := by omega
          have hn3' : nF ≤ 50 := by
            have h1 := frameB_len (k := 1) (bs := rs.take m5) ⟨by decide, by decide⟩ (by rw [HT5.out]; omega)
            rw [HT5.out] at h1
            have := HNF.out
            omega
          have HSN := Lib.hid (three_n hn1' hn2' hn3' (AR := AR) (cR := cR) (rsR := rsR) (A2 := some ⟨g, 0, none⟩) (c2 := c10) (bs2 := bs3) (AF := AF) (cF := cF) (fs := frameB 1 (rs.take m5)))
          clear hSR hown2 hSF hx2 HBX hb1
          generalize ([⟨AR, nR, cR, rsR⟩, ⟨some ⟨g, 0, none⟩, na, c10, bs3⟩, ⟨AF, nF, cF, frameB 1 (rs.take m5)⟩] : List Bz) = L3 at *
          (first | generalize wF.alloc (.cells #[.slice AR nR cR, .slice (some ⟨g, 0, none⟩) na c10, .slice AF nF cF] 23) = wz at * | generalize wR.alloc (.cells #[.slice AR nR cR, .slice (some ⟨g, 0, none⟩) na c10, .slice AF nF cF] 23) = wz at *)
          (first | generalize wF.heap.size = gl at * | generalize wR.heap.size = gl at *)
          go_wp2
          go_loopw [13] (fun i wr => ∃ q : Nat, q ≤ 3 ∧ i = .int .i64 (q : Int) ∧ Below wz.heap.size wz wr) (fun i _ => 3 - (intOf i).toNat)
          case atStart => exact ⟨0, by omega, rfl, Below.refl _ _⟩
          case round =>
            obtain ⟨q, hq, rfl, hbq⟩ := hrel
            obtain ⟨wo, hwo⟩ : ∃ wo : World, wo = wr := ⟨_, rfl⟩
            subst hwo
            by_cases hlt3 : q < 3
            · obtain ⟨b, off, z, hbe, hbl, hcz, hz, -⟩ := (HLS.out.all hbq).cell hlt3
              injection hbe with hbe
              injection hbe with hbe1 hbe2 _
              subst hbe1 hbe2
              rw [Nat.zero_add] at hcz
              have hzm := List.mem_of_getElem? hz
              have HZS := Lib.hid ((HSS.out z hzm).all hbq)
              have hzn := HSN.out z hzm
              have HZL := Lib.hid (HSS.out z hzm).1
              have HZQ := Lib.hid hz
              clear hz hzm hbl
              go_wp2_with fail
              refine (scan_any _ _ _ _ _ HZS (by omega)).mono ?_
              rintro e w14 ⟨v14, L14, m14, rfl, hL14, hs14, hb14⟩
              obtain ⟨A14, c14, rfl⟩ := hL14.slice
              have hB14 := bt hbq hb14
              obtain ⟨b', off', z', hbe, -, hcz', hz', -⟩ := (HLS.out.all hB14).cell hlt3
              injection hbe with hbe
              injection hbe with hbe1 hbe2 _
              subst hbe1 hbe2
              rw [Nat.zero_add] at hcz'
              rw [HZQ.out] at hz'
              injection hz' with hz'
              subst hz'
              have HZS' := Lib.hid (HZS.out.all hb14)
              have hl14 : L14.length ≤ 300 := scan_len hs14 (by rw [HZL.out]; exact hzn)
              have HS14 := Lib.hid hs14
              have HL14 := Lib.hid hL14
              clear hb14 hs14 hcz hL14
              go_wp2_with fail
              refine (rscan_any _ _ _ _ _ HZS' (by omega)).mono ?_
              rintro e w15 ⟨v15, L15, m15, rfl, hL15, hs15, hb15⟩
              obtain ⟨A15, c15, rfl⟩ := hL15.slice
              have hB15 := bt hB14 hb15
              have hl15 : L15.length ≤ 300 := scan_len hs15 (by rw [HZL.out]; exact hzn)
              obtain ⟨e1, e2⟩ := ScanIs.unique (by rw [HZL.out]; omega) HS14.out hs15
              subst e2
              have HE1 := Lib.hid e1
              have hR14 := Lib.hid ((HL14.out.all hb15).r.rd)
              have hR15 := Lib.hid (hL15.rd)
              clear hb15 hs15 hL15 e1 hcz' hB14
              go_wp2_with fail
              refine (sameLists_any _ _ _ _ _ _ L14 L15 _ hR14 hR15 (by omega) (by omega)).mono ?_
              rintro e w16 ⟨rfl, hb16⟩
              have hd : decide (bsOf L14 = bsOf L15) = true := by rw [decide_eq_true_iff]; exact HE1.out
              rw [hd]
              clear hd
              go_wp2
              exact ⟨⟨q + 1, by omega, by go_num, bt hB15 hb16⟩, by simp [intOf]; omega⟩
            · obtain rfl : q = 3 := by omega
              go_wp2_with fail
              refine (jlives_any _).mono ?_
              rintro e w17 ⟨rfl, hb17⟩
              go_wp2
              go_ret
              exact ⟨rfl, bt (bt hBW hbq) hb17⟩)
      · have hown2 := hown
        have hx2 := hb
        have HL2 := HNA
        go_wp2
        clear hown hb HNA
        generalize wr = w2 at *
        generalize bs2 = bs3 at *
        have HBX := Lib.hid hx2
        
        obtain ⟨m5, hm5, hm5n⟩ : ∃ m5 : Nat, (if (5 : Int) < (n0 : Int) then (5 : Int) else (n0 : Int)) = (m5 : Int) ∧ m5 ≤ n0 ∧ m5 ≤ 5 := ⟨min n0 5, by split <;> omega, by omega, by omega⟩
        have i2 := run_cut A0 n0 c0 m5 m5 rfl (by omega)
        have HT5 := Lib.hid (show (rs.take m5).length = m5 by rw [List.length_take, HRL.out]; omega)
        have HR5 := Lib.hid (show Rd w1 w1.heap.size A0 m5 (vByte (rs.take m5)) from (HRW.out.less hm5n.1).congr (fun j hj => by simp [vByte, hj]))
        have hm55 : m5 ≤ 1099511627776 := by omega
        go_region_held3 (fun w' => Below w2.heap.size w2 w')
          (first | with_reducible exact (Below.refl _ w2).drew | with_reducible exact hS2 | with_reducible exact hS2.alloc hS2.size _)
          (first
            | (go_at_call 10; have hS1 := (‹Below w2.heap.size w2 _›); have hkk := hSF; ((with_reducible refine (few_list _ _ _ 60 60 rfl _ _ hA0 ((HR0.out.below (bt HBX.out hS1) (Nat.le_refl _)).more (bt HBX.out hS1).size) hn0 hc0 (by decide) (bytes_wf hw0)).mono ?_); rintro e wR ⟨AR, cR, nR, rsR, rfl, -, -, hnR, -, -, -, hownR, -, hb3⟩; have hS2 := bt hS1 hb3; have hSR := Sb.own hownR; replace hSF := Sb.all hSF hb3; clear hS1 hb3 hownR hkk))
            | (go_at_call 10; have hS1 := (‹Below w2.heap.size w2 _›); ((with_reducible refine (few_list _ _ _ 60 60 rfl _ _ hA0 ((HR0.out.below (bt HBX.out hS1) (Nat.le_refl _)).more (bt HBX.out hS1).size) hn0 hc0 (by decide) (bytes_wf hw0)).mono ?_); rintro e wR ⟨AR, cR, nR, rsR, rfl, -, -, hnR, -, -, -, hownR, -, hb3⟩; have hS2 := bt hS1 hb3; have hSR := Sb.own hownR; clear hS1 hb3 hownR))
            | (go_at_call 13; have hS1 := (‹Below w2.heap.size w2 _›); have hkk := hSR; ((with_reducible refine (rframe_any 1 _ _ _ _ _ HT5 (by decide) (by decide) hm55 ((HR5.out.below (bt HBX.out hS1) (Nat.le_refl _)).more (bt HBX.out hS1).size)).mono ?_); rintro e wF ⟨AF, nF, cF, rfl, HNF, hownF, hb3⟩; have hS2 := bt hS1 hb3; have hSF := Sb.own hownF; replace hSR := Sb.all hSR hb3; clear hS1 hb3 hownF hkk))
            | (go_at_call 13; have hS1 := (‹Below w2.heap.size w2 _›); ((with_reducible refine (rframe_any 1 _ _ _ _ _ HT5 (by decide) (by decide) hm55 ((HR5.out.below (bt HBX.out hS1) (Nat.le_refl _)).more (bt HBX.out hS1).size)).mono ?_); rintro e wF ⟨AF, nF, cF, rfl, HNF, hownF, hb3⟩; have hS2 := bt hS1 hb3; have hSF := Sb.own hownF; clear hS1 hb3 hownF)))
        
        all_goals (
          clear i2 hm5
          have HLS := Lib.hid (three_rows hSR ((Sb.own hown2).all hS2) hSF)
          have HSS := Lib.hid (three_sb hSR ((Sb.own hown2).all hS2) hSF)
          have hBW := bt (bt hb1 HBX.out) ‹Below w2.heap.size w2 (World.alloc _ _)›
          have hn1' : nR ≤ 60 := by omega
          have hn2' : na ≤ 300 := by omega
          have hn3' : nF ≤ 50 := by
            have h1 := frameB_len (k := 1) (bs := rs.take m5) ⟨by decide, by decide⟩ (by rw [HT5.out]; omega)
            rw [HT5.out] at h1
            have := HNF.out
            omega
          have HSN := Lib.hid (three_n hn1' hn2' hn3' (AR := AR) (cR := cR) (rsR := rsR) (A2 := A10) (c2 := c10) (bs2 := bs3) (AF := AF) (cF := cF) (fs := frameB 1 (rs.take m5)))
          clear hSR hown2 hSF hx2 HBX hb1
          generalize ([⟨AR, nR, cR, rsR⟩, ⟨A10, na, c10, bs3⟩, ⟨AF, nF, cF, frameB 1 (rs.take m5)⟩] : List Bz) = L3 at *
          (first | generalize wF.alloc (.cells #[.slice AR nR cR, .slice A10 na c10, .slice AF nF cF] 23) = wz at * | generalize wR.alloc (.cells #[.slice AR nR cR, .slice A10 na c10, .slice AF nF cF] 23) = wz at *)
          (first | generalize wF.heap.size = gl at * | generalize wR.heap.size = gl at *)
          go_wp2
          go_loopw [13] (fun i wr => ∃ q : Nat, q ≤ 3 ∧ i = .int .i64 (q : Int) ∧ Below wz.heap.size wz wr) (fun i _ => 3 - (intOf i).toNat)
          case atStart => exact ⟨0, by omega, rfl, Below.refl _ _⟩
          case round =>
            obtain ⟨q, hq, rfl, hbq⟩ := hrel
            obtain ⟨wo, hwo⟩ : ∃ wo : World, wo = wr := ⟨_, rfl⟩
            subst hwo
            by_cases hlt3 : q < 3
            · obtain ⟨b, off, z, hbe, hbl, hcz, hz, -⟩ := (HLS.out.all hbq).cell hlt3
              injection hbe with hbe
              injection hbe with hbe1 hbe2 _
              subst hbe1 hbe2
              rw [Nat.zero_add] at hcz
              have hzm := List.mem_of_getElem? hz
              have HZS := Lib.hid ((HSS.out z hzm).all hbq)
              have hzn := HSN.out z hzm
              have HZL := Lib.hid (HSS.out z hzm).1
              have HZQ := Lib.hid hz
              clear hz hzm hbl
              go_wp2_with fail
              refine (scan_any _ _ _ _ _ HZS (by omega)).mono ?_
              rintro e w14 ⟨v14, L14, m14, rfl, hL14, hs14, hb14⟩
              obtain ⟨A14, c14, rfl⟩ := hL14.slice
              have hB14 := bt hbq hb14
              obtain ⟨b', off', z', hbe, -, hcz', hz', -⟩ := (HLS.out.all hB14).cell hlt3
              injection hbe with hbe
              injection hbe with hbe1 hbe2 _
              subst hbe1 hbe2
              rw [Nat.zero_add] at hcz'
              rw [HZQ.out] at hz'
              injection hz' with hz'
              subst hz'
              have HZS' := Lib.hid (HZS.out.all hb14)
              have hl14 : L14.length ≤ 300 := scan_len hs14 (by rw [HZL.out]; exact hzn)
              have HS14 := Lib.hid hs14
              have HL14 := Lib.hid hL14
              clear hb14 hs14 hcz hL14
              go_wp2_with fail
              refine (rscan_any _ _ _ _ _ HZS' (by omega)).mono ?_
              rintro e w15 ⟨v15, L15, m15, rfl, hL15, hs15, hb15⟩
              obtain ⟨A15, c15, rfl⟩ := hL15.slice
              have hB15 := bt hB14 hb15
              have hl15 : L15.length ≤ 300 := scan_len hs15 (by rw [HZL.out]; exact hzn)
              obtain ⟨e1, e2⟩ := ScanIs.unique (by rw [HZL.out]; omega) HS14.out hs15
              subst e2
              have HE1 := Lib.hid e1
              have hR14 := Lib.hid ((HL14.out.all hb15).r.rd)
              have hR15 := Lib.hid (hL15.rd)
              clear hb15 hs15 hL15 e1 hcz' hB14
              go_wp2_with fail
              refine (sameLists_any _ _ _ _ _ _ L14 L15 _ hR14 hR15 (by omega) (by omega)).mono ?_
              rintro e w16 ⟨rfl, hb16⟩
              have hd : decide (bsOf L14 = bsOf L15) = true := by rw [decide_eq_true_iff]; exact HE1.out
              rw [hd]
              clear hd
              go_wp2
              exact ⟨⟨q + 1, by omega, by go_num, bt hB15 hb16⟩, by simp [intOf]; omega⟩
            · obtain rfl : q = 3 := by omega
              go_wp2_with fail
              refine (jlives_any _).mono ?_
              rintro e w17 ⟨rfl, hb17⟩
              go_wp2
              go_ret
              exact ⟨rfl, bt (bt hBW hbq) hb17⟩)

end Go.Proofs.Ytldmokjpfnakkaa
