/- worldmintref24: Crash on a disk of one file. -/
import Derived.Test.YtldmokjpfnakkaaGreatHG33
import Derived.Test.YtldmokjpfnakkaaGreatHG39
import Derived.Deep.DeepCutAuto
import Derived.BigRegion
import Derived.Deep.CutBlock

namespace Go.Proofs.YtldmokjpfnakkaaGreat
open Go.RowKit

theorem rdB_take {w : World} {B n m : Nat} {A : Option Addr} {bs : List UInt8} (h : Rd w B A n (vByte bs)) (hm : m ≤ n) (hl : bs.length = n) : Rd w B A m (vByte (bs.take m)) := by
  intro h0
  obtain ⟨b, off, e, hlt, hc⟩ := h (by omega)
  refine ⟨b, off, e, hlt, fun j hj => ?_⟩
  rw [hc j (by omega)]
  unfold vByte
  rw [List.getElem?_take_of_lt hj]
/-- The bytes while the bit is sought: j bytes have been passed. -/
def flB (bs : List UInt8) (dur kp : Nat) (at0 : Int) (j : Nat) : List UInt8 := if 0 ≤ at0 ∧ at0 < 8 * (j : Int) then flipAt (bs.take (dur + kp)) dur at0.toNat else bs.take (dur + kp)
theorem flB_len {bs : List UInt8} {dur kp : Nat} {at0 : Int} {j : Nat} (h : dur + kp ≤ bs.length) : (flB bs dur kp at0 j).length = dur + kp := by
  unfold flB flipAt
  split
  · rw [List.length_set, List.length_take]; omega
  · rw [List.length_take]; omega
theorem flB_zero {bs : List UInt8} {dur kp : Nat} {at0 : Int} : flB bs dur kp at0 0 = bs.take (dur + kp) := by
  unfold flB
  rw [if_neg (by omega)]
theorem flB_skip {bs : List UInt8} {dur kp : Nat} {at0 : Int} {j : Nat} (h : at0 - 8 * (j : Int) < 0 ∨ 8 ≤ at0 - 8 * (j : Int)) : flB bs dur kp at0 (j + 1) = flB bs dur kp at0 j := by
  unfold flB
  by_cases h1 : 0 ≤ at0 ∧ at0 < 8 * (j : Int)
  · rw [if_pos h1, if_pos ⟨h1.1, by omega⟩]
  · rw [if_neg h1, if_neg (by omega)]
theorem flB_turn {bs : List UInt8} {dur kp : Nat} {at0 : Int} {j r : Nat} (h : at0 - 8 * (j : Int) = (r : Int)) (hr : r < 8) : flB bs dur kp at0 j = bs.take (dur + kp) ∧ flB bs dur kp at0 (j + 1) = (bs.take (dur + kp)).set (dur + j) (xorB ((bs.take (dur + kp))[dur + j]?.getD 0) (UInt8.ofNat (128 / 2 ^ r))) := by
  have e1 : at0.toNat / 8 = j := by omega
  have e2 : at0.toNat % 8 = r := by omega
  unfold flB
  rw [if_neg (by omega), if_pos ⟨by omega, by omega⟩]
  unfold flipAt
  rw [e1, e2]
  exact ⟨rfl, rfl⟩
theorem RDk.byte {w : World} {g gB gF room dur fr n c : Nat} {off : Bool} {plan : Int} {bs : List UInt8} (h : RDk w g gB gF room off plan (.slice (some ⟨fr, 0, none⟩) n c) bs dur) (j : Nat) (x : UInt8) :
    w.frozen? ⟨fr, j, none⟩ = false ∧ RDk (w.setCell ⟨fr, j, none⟩ (.int .u8 ((x.toNat : Nat) : Int))) g gB gF room off plan (.slice (some ⟨fr, 0, none⟩) n c) (bs.set j x) dur ∧ Mod (fun b => b = fr) w (w.setCell ⟨fr, j, none⟩ (.int .u8 ((x.toNat : Nat) : Int))) := by
  obtain ⟨-, -, -, n4⟩ := h.neBF
  obtain ⟨n1, n2, n3⟩ := n4 fr rfl
  have m : Mod (fun b => b = fr) w (w.setCell ⟨fr, j, none⟩ (.int .u8 ((x.toNat : Nat) : Int))) := (Mod.refl (fun b => b = fr) w).set (p := ⟨fr, j, none⟩) (.inl rfl) _
  have hn : n = bs.length := (Bts.of_own h.own).2
  subst hn
  have hs := own_byte_set h.own j x
  refine ⟨own_frz h.own j, ⟨m.blk h.blk (fun e => n1 e.symm), m.own h.rows (fun b hb e => n2 (by injection hb with hb; exact (hb.trans e).symm)), m.own h.firm (fun b hb e => n3 (by injection hb with hb; exact (hb.trans e).symm)), ?_, by rw [List.length_set]; exact h.dle, by rw [List.length_set]; exact h.room_le, h.plan_le⟩, m⟩
  rw [List.length_set]
  exact hs
theorem shl_byte : ∀ r : Fin 8, IntKind.u8.wrap (2 ^ min (7 - (r.val : Int)).toNat 8) = (((UInt8.ofNat (128 / 2 ^ r.val)).toNat : Nat) : Int) := by decide
theorem shl_byte2 : ∀ r : Fin 8, IntKind.u8.wrap (2 ^ (7 - r.val)) = (((UInt8.ofNat (128 / 2 ^ r.val)).toNat : Nat) : Int) := by decide
/-- What the last loop and the power add. -/
theorem RNext.trans' {w w1 w2 w3 : World} {g gB gF room dur dur1 : Nat} {off off' : Bool} {plan plan' : Int} {v v1 : Value} {b7 : List UInt8} (h : RDk w1 g gB gF room off plan v1 b7 dur ∧ Mod (RDF g gB gF v) w w1 ∧ ∀ b, RDF g gB gF v1 b → RDF g gB gF v b ∨ w.heap.size ≤ b) (m : Mod (fun b => b = gF) w1 w2) (h3 : RNext3 g gB gF room v1 off' plan' b7 dur1 w2 w3) : RNext g gB gF room v off' plan' b7 dur1 w w3 := by
  obtain ⟨hD, m1, hF⟩ := h
  obtain ⟨v3, hD3, m3, hF3⟩ := h3.to
  have m2 := m1.trans (m.mono (G := RDF g gB gF v1) (fun b e => .inl (.inr (.inr (.inl e))))) (fun b hb => hF b hb)
  refine ⟨v3, hD3, m2.trans m3 (fun b hb => hF b hb), fun b hb => ?_⟩
  rcases hF3 b hb with h | h
  · exact hF b h
  · have := m2.size
    exact .inr (by omega)
set_option maxRecDepth 100000 in
set_option maxHeartbeats 8000000 in
theorem rcrash_any (g gB gF room dur : Nat) (off : Bool) (plan : Int) (A : Option Addr) (n c : Nat) (bs : List UInt8) (K : Option Addr) (ck : Nat) (kx flip : Int) (w : World) (HD : Hid (RDk w g gB gF room off plan (.slice A n c) bs dur)) (HK : Hid (Rd w w.heap.size K 1 (vInt [kx]))) (hk1 : -9223372036854775808 ≤ kx) (hk2 : kx ≤ 9223372036854775807) (hf1 : -1000 ≤ flip) (hf2 : flip ≤ 1000) :
    Calls Tryz.prog 12 #[.pointer (some ⟨g, 0, none⟩), .slice K 1 ck, .int .i64 flip] w fun e w' => e = .returned (.tuple #[]) ∧ RNext g gB gF room (.slice A n c) false (-1) (crB bs dur kx flip) (crB bs dur kx flip).length w w' := by
  have HN : Hid (bs.length = n) := Lib.hid (Bts.of_own HD.out.own).2.symm
  have hn24 : n ≤ 16777216 := by have := HD.out.room_le; have := HN.out; omega
  have hdn : dur ≤ n := by have := HD.out.dle; have := HN.out; omega
  go_enter Tryz.func12, Tryz.ntmps12
  go_wp2_with fail
  refine (rfiles_any g gB gF room dur off plan A n c bs w HD).mono ?_
  rintro e w1 ⟨v1, rfl, A6, q6, c6, rfl, hq6, hown6, hb1⟩
  by_cases hn0 : 0 < n
  · have hc := cnt_hi (n := n) (i := 64) (by omega) hn0
    rw [hc.1] at hq6
    subst hq6
    rw [hc.2] at hown6
    obtain ⟨gl, rfl, hgl, hlt, hcl⟩ := one_cell hown6
    obtain ⟨ga, oa, rfl, hla, hka⟩ := HK.out (by decide)
    have hk0 := (hb1.cell (p := ⟨ga, oa + 0, none⟩) hla).trans (hka 0 (by decide))
    unfold vInt at hk0
    simp only [List.getElem?_cons_zero, Option.getD_some, Nat.add_zero] at hk0
    have HD1 := Lib.hid (HD.out.all hb1)
    have HB1 := Lib.hid hb1
    clear hc hown6 hka
    obtain ⟨kp, hkp⟩ : ∃ kp, keptB [kx] n dur = kp := ⟨_, rfl⟩
    have hkle : kp ≤ n - dur := by rw [← hkp]; exact keptB_le _ _ _
    have hkI : max 0 (min kx ((n : Int) - (dur : Int))) = (kp : Int) := by rw [← hkp]; show max 0 (min kx ((n : Int) - (dur : Int))) = (((max 0 (min kx ((n : Int) - (dur : Int)))).toNat : Nat) : Int); omega
    have HKP := Lib.hid hkp
    obtain ⟨hcl, htl⟩ := hcl
    have H6 := Lib.hid (show w1.cell? ⟨gl, 0, none⟩ = some (.int .i64 2) ∧ w1.cell? ⟨ga, oa, none⟩ = some (.int .i64 kx) from ⟨hcl, hk0⟩)
    clear hkp HD hb1 hk0 hcl HK
    obtain ⟨at0, hat0⟩ : ∃ at0 : Int, at0 = if 0 ≤ flip ∧ 0 < kp then flip % (8 * (kp : Int)) else -1 := ⟨_, rfl⟩
    have hat1 : -1 ≤ at0 ∧ (at0 < 8 * (kp : Int)) := by
      rw [hat0]
      by_cases h : 0 ≤ flip ∧ 0 < kp
      · rw [if_pos h]
        have h1 := Int.emod_nonneg flip (b := 8 * (kp : Int)) (by omega)
        have h2 := Int.emod_lt_of_pos flip (b := 8 * (kp : Int)) (by omega)
        omega
      · rw [if_neg h]
        omega
    have HAT := Lib.hid hat0
    have HCR : Hid (flB bs dur kp at0 kp = crB bs dur kx flip) := Lib.hid (by
      unfold flB crB
      rw [HN.out, HKP.out, if_neg (show ¬ n = 0 by omega)]
      by_cases h : 0 ≤ flip ∧ 0 < kp
      · rw [if_pos h, if_pos ⟨by rw [hat0, if_pos h]; exact Int.emod_nonneg _ (by omega), hat1.2⟩, hat0, if_pos h]
      · rw [if_neg h, if_neg (by rw [hat0, if_neg h]; omega)])
    clear hat0
    go_upto_block 0 with fail
    go_cut [7] (fun mv wx => mv = .int .i64 (kp : Int) ∧ Hid (RNext g gB gF room (.slice A n c) off plan (bs.take (dur + kp)) dur w wx) ∧ Hid (wx.cell? ⟨gl, 0, none⟩ = some (.int .i64 2)))
    case first =>
      go_wp2
      go_loopg [7, 8] 1   (fun gk mv iv wr => (gk = 1 ∧ iv = .int .i64 0 ∧ mv = .int .i64 0 ∧ wr = w1) ∨ (gk = 0 ∧ iv = .int .i64 1 ∧ mv = .int .i64 (kp : Int) ∧ Hid (RNext g gB gF room (.slice A n c) off plan (bs.take (dur + kp)) dur w wr) ∧ Hid (wr.cell? ⟨gl, 0, none⟩ = some (.int .i64 2))))
      case atStart => exact .inl ⟨rfl, rfl, rfl, rfl⟩
      case round =>
        rcases hrel with ⟨rfl, rfl, rfl, rfl⟩ | ⟨rfl, rfl, rfl, HN1, HC1⟩
        · obtain ⟨x0, x1⟩ := H6.out
          obtain ⟨c0, c1, c2, c3, c4, f3, f4⟩ := HD1.out.cells
          have b2 := HD1.out.bAt (i := 2) (by omega)
          have q2 := HD1.out.fAt (i := 2) (by omega)
          rw [if_pos rfl] at b2 q2
          unfold fV at q2
          have hw : IntKind.i64.wrap ((n : Int) - (dur : Int)) = (n : Int) - (dur : Int) := IntWalk.i64_in _ (by omega)
          go_upto_region 8 with (fail)
          go_region
          go_upto_region 10 with (fail)
          obtain ⟨w2, hw2⟩ : ∃ w2, w2 = wr.drew := ⟨_, rfl⟩
          rw [← hw2]
          have hb2 : Below wr.heap.size wr w2 := by rw [hw2]; exact (Below.refl _ _).drew
          have hD2 := HD1.out.all hb2
          have hb3 := (Below.refl w2.heap.size w2).drew
          have hD3 := hD2.all hb3
          have hrd := (Bts.of_own hD3.own).1.rd
          rw [HN.out] at hrd
          have htk : (bs.take (dur + kp)).length = dur + kp := by rw [List.length_take, HN.out]; omega
          have hrt := rdB_take (m := dur + kp) hrd (by omega) HN.out
          obtain ⟨A4, k4, w4, hrun4, hown4, hb4⟩ := app_cells (P := Tryz.prog) (ty := 39) slT_u8d (World.ownsRow_nil w2.drew w2.drew.heap.size 5 1) A (dur + kp) c (bytesV (bs.take (dur + kp))) (by rw [bytesV_len, htk, Nat.mul_one]) (fun e => by
            by_cases h0 : 0 < dur + kp
            · obtain ⟨b, off, e2, -⟩ := hrt h0
              rw [e] at e2
              cases e2
            · omega) (bytesV_news hrt htk) (bytesV_one _) (by omega) (by decide) (Nat.le_refl _)
          rw [Nat.zero_add] at hrun4 hown4
          rw [List.nil_append] at hown4
          have hD4 := hD3.all hb4
          obtain ⟨s1, s2, s3⟩ := hD4.setB (v' := .slice A4 (dur + kp) k4) (bs' := bs.take (dur + kp)) (by rw [htk]; exact own_lower hown4 (Nat.zero_le _)) (by rw [htk]; omega) (by rw [htk]; have := hD4.room_le.2; rw [HN.out] at this; omega)
          have hcap := (Bts.of_own hD2.own).1.2.1
          rw [HN.out] at hcap
          have HA4 := Lib.hid hrun4
          obtain ⟨d0, d1, d2, d3, d4, -, -⟩ := hD2.cells
          obtain ⟨e0, e1, e2, e3, e4, -, -⟩ := hD4.cells
          have b2' := hD2.bAt (i := 2) (by omega)
          have q2' := hD2.fAt (i := 2) (by omega)
          have b4 := hD4.bAt (i := 2) (by omega)
          rw [if_pos rfl] at b2' q2' b4
          unfold fV at q2'
          have hw' : IntKind.i64.wrap ((dur : Int) + (kp : Int)) = (dur : Int) + (kp : Int) := IntWalk.i64_in _ (by omega)
          have hbd1 : (0 : Int) ≤ (dur : Int) + (kp : Int) := by omega
          have hbd2 : (dur : Int) + (kp : Int) ≤ (c : Int) := by omega
          have htn : ((dur : Int) + (kp : Int)).toNat = dur + kp := by omega
          have HS3 := Lib.hid (show w2.drew.cell? ⟨g, 1, none⟩ = some (.slice (some ⟨gB, 0, none⟩) 64 64) ∧ w2.drew.cell? ⟨gB, 2, none⟩ = some (.slice A n c) ∧ w2.drew.cell? ⟨g, 2, none⟩ = some (.slice (some ⟨gF, 0, none⟩) 64 64) ∧ w2.drew.cell? ⟨gF, 2, none⟩ = some (.int .i64 (dur : Int)) by
            obtain ⟨y0, y1, y2, y3, y4, -, -⟩ := hD3.cells
            have y5 := hD3.bAt (i := 2) (by omega)
            have y6 := hD3.fAt (i := 2) (by omega)
            rw [if_pos rfl] at y5 y6
            exact ⟨y1, y5, y2, y6⟩)
          have q4 := hD4.fAt (i := 2) (by omega)
          rw [if_pos rfl] at q4
          have HS4 := Lib.hid (show w4.cell? ⟨g, 1, none⟩ = some (.slice (some ⟨gB, 0, none⟩) 64 64) ∧ w4.cell? ⟨gB, 2, none⟩ = some (.slice A n c) ∧ w4.cell? ⟨g, 2, none⟩ = some (.slice (some ⟨gF, 0, none⟩) 64 64) ∧ w4.cell? ⟨gF, 2, none⟩ = some (.int .i64 (dur : Int)) from ⟨e1, b4, e2, q4⟩)
          clear q4
          have hB4 : Below wr.heap.size wr w4 := bt (bt hb2 hb3) hb4
          have HD5 := Lib.hid s2
          have hlB := hB4.size
          have HP : Hid (RNext g gB gF room (.slice A n c) off plan (bs.take (dur + kp)) dur w (w4.setCell ⟨gB, 2, none⟩ (.slice A4 (dur + kp) k4))) := Lib.hid ⟨_, s2, (Mod.of_below _ (bt HB1.out hB4)).trans s3 (fun b e => .inl (.inr (.inl e))), fun b hb => by
            rcases hb with h | h | h | h
            · exact .inl (.inl h)
            · exact .inl (.inr (.inl h))
            · exact .inl (.inr (.inr (.inl h)))
            · have h1 := (hown4.lt b h).1
              have h2 := (bt hb2 hb3).size
              have h3 := HB1.out.size
              exact .inr (by omega)⟩
          have HC : Hid ((w4.setCell ⟨gB, 2, none⟩ (.slice A4 (dur + kp) k4)).cell? ⟨gl, 0, none⟩ = some (.int .i64 2)) := Lib.hid ((s3.block gl (by omega) (fun e => by
            have h1 := HD1.out.tyB
            rw [← e] at h1
            exact absurd (Ty.unique h1 htl) (by decide)) |> fun h => by
              have h2 := (hB4.cell (p := ⟨gl, 0, none⟩) hlt).trans x0
              simp only [World.cell?] at h2 ⊢
              rw [h]
              exact h2))
          clear hB4 hlB HD5
          clear hb2 hD2 hb3 hD3 hrd hrt hown4 hb4 hD4 s2 s3 hrun4 hw2 c0 c1 c2 c3 c4 f3 f4 b2 q2 x0 x1 htk
          refine beginG (S := (fun x => x.cell? ⟨g, 1, none⟩ = some (.slice (some ⟨gB, 0, none⟩) 64 64) ∧ x.cell? ⟨gB, 2, none⟩ = some (.slice A n c) ∧ x.cell? ⟨g, 2, none⟩ = some (.slice (some ⟨gF, 0, none⟩) 64 64) ∧ x.cell? ⟨gF, 2, none⟩ = some (.int .i64 (dur : Int)))) 25 (by kernel_rfl) HS3.out (fun hHeld => ?_)
          refine takeG 0 (some 55) (v := ?_) (by rfl) (by rfl) (by kernel_rfl) (by kernel_rfl) (by decide) (by kernel_rfl) (by kernel_rfl) (fun _ _ _ h => h) ?_ (by assumption) ?_
          rotate_left
          · (intro o ho w hSw; obtain ⟨z0, z1, z2, z3⟩ := hSw; cases ho; go_simp; try with_reducible rfl)
          try simp only [Act.put, List.setIfInBounds_toArray, List.set_cons_zero, List.set_cons_succ]
          refine takeG 1 (some 56) (v := ?_) (by rfl) (by rfl) (by kernel_rfl) (by kernel_rfl) (by decide) (by kernel_rfl) (by kernel_rfl) (fun _ _ _ h => h) ?_ (by assumption) ?_
          rotate_left
          · (intro o ho w hSw; obtain ⟨z0, z1, z2, z3⟩ := hSw; cases ho; go_simp; try with_reducible rfl)
          try simp only [Act.put, List.setIfInBounds_toArray, List.set_cons_zero, List.set_cons_succ]
          refine takeG 2 (some 57) (v := ?_) (by rfl) (by rfl) (by kernel_rfl) (by kernel_rfl) (by decide) (by kernel_rfl) (by kernel_rfl) (fun _ _ _ h => h) ?_ (by assumption) ?_
          rotate_left
          · (intro o ho w hSw; obtain ⟨z0, z1, z2, z3⟩ := hSw; cases ho; go_simp; try with_reducible rfl)
          try simp only [Act.put, List.setIfInBounds_toArray, List.set_cons_zero, List.set_cons_succ]
          refine takeG 3 (some 58) (v := ?_) (by rfl) (by rfl) (by kernel_rfl) (by kernel_rfl) (by decide) (by kernel_rfl) (by kernel_rfl) (fun _ _ _ h => h) ?_ (by assumption) ?_
          rotate_left
          · (intro o ho w hSw; obtain ⟨z0, z1, z2, z3⟩ := hSw; cases ho; go_simp; try with_reducible rfl)
          try simp only [Act.put, List.setIfInBounds_toArray, List.set_cons_zero, List.set_cons_succ]
          refine takeG 4 (some 59) (v := ?_) (by rfl) (by rfl) (by kernel_rfl) (by kernel_rfl) (by decide) (by kernel_rfl) (by kernel_rfl) (fun _ _ _ h => h) ?_ (by assumption) ?_
          rotate_left
          · (intro o ho w hSw; obtain ⟨z0, z1, z2, z3⟩ := hSw; cases ho; go_simp; try with_reducible rfl)
          try simp only [Act.put, List.setIfInBounds_toArray, List.set_cons_zero, List.set_cons_succ]
          refine takeG 5 (some 60) (v := ?_) (by rfl) (by rfl) (by kernel_rfl) (by kernel_rfl) (by decide) (by kernel_rfl) (by kernel_rfl) (fun _ _ _ h => h) ?_ (by assumption) ?_
          rotate_left
          · (intro o ho w hSw; obtain ⟨z0, z1, z2, z3⟩ := hSw; cases ho; go_simp; try with_reducible rfl)
          try simp only [Act.put, List.setIfInBounds_toArray, List.set_cons_zero, List.set_cons_succ]
          refine takeG 6 (some 61) (v := ?_) (by rfl) (by rfl) (by kernel_rfl) (by kernel_rfl) (by decide) (by kernel_rfl) (by kernel_rfl) (fun _ _ _ h => h) ?_ (by assumption) ?_
          rotate_left
          · (intro o ho w hSw; obtain ⟨z0, z1, z2, z3⟩ := hSw; cases ho; go_simp; try with_reducible rfl)
          try simp only [Act.put, List.setIfInBounds_toArray, List.set_cons_zero, List.set_cons_succ]
          refine takeG 7 (some 62) (v := ?_) (by rfl) (by rfl) (by kernel_rfl) (by kernel_rfl) (by decide) (by kernel_rfl) (by kernel_rfl) (fun _ _ _ h => h) ?_ (by assumption) ?_
          rotate_left
          · (intro o ho w hSw; obtain ⟨z0, z1, z2, z3⟩ := hSw; cases ho; go_simp; try with_reducible rfl)
          try simp only [Act.put, List.setIfInBounds_toArray, List.set_cons_zero, List.set_cons_succ]
          refine takeG 8 (some 63) (v := ?_) (by rfl) (by rfl) (by kernel_rfl) (by kernel_rfl) (by decide) (by kernel_rfl) (by kernel_rfl) (fun _ _ _ h => h) ?_ (by assumption) ?_
          rotate_left
          · (intro o ho w hSw; obtain ⟨z0, z1, z2, z3⟩ := hSw; cases ho; go_simp; try with_reducible rfl)
          try simp only [Act.put, List.setIfInBounds_toArray, List.set_cons_zero, List.set_cons_succ]
          refine takeG 9 (some 64) (v := ?_) (by rfl) (by rfl) (by kernel_rfl) (by kernel_rfl) (by decide) (by kernel_rfl) (by kernel_rfl) (fun _ _ _ h => h) ?_ (by assumption) ?_
          rotate_left
          · (intro o ho w hSw; obtain ⟨z0, z1, z2, z3⟩ := hSw; cases ho; go_simp; try with_reducible rfl)
          try simp only [Act.put, List.setIfInBounds_toArray, List.set_cons_zero, List.set_cons_succ]
          refine takeG 10 (some 65) (v := ?_) (by rfl) (by rfl) (by kernel_rfl) (by kernel_rfl) (by decide) (by kernel_rfl) (by kernel_rfl) (fun _ _ _ h => h) ?_ (by assumption) ?_
          rotate_left
          · (intro o ho w hSw; obtain ⟨z0, z1, z2, z3⟩ := hSw; cases ho; go_simp; try with_reducible rfl)
          try simp only [Act.put, List.setIfInBounds_toArray, List.set_cons_zero, List.set_cons_succ]
          refine takeG 11 (some 66) (v := ?_) (by rfl) (by rfl) (by kernel_rfl) (by kernel_rfl) (by decide) (by kernel_rfl) (by kernel_rfl) (fun _ _ _ h => h) ?_ (by assumption) ?_
          rotate_left
          · (intro o ho w hSw; obtain ⟨z0, z1, z2, z3⟩ := hSw; cases ho; go_simp; try with_reducible rfl)
          try simp only [Act.put, List.setIfInBounds_toArray, List.set_cons_zero, List.set_cons_succ]
          refine takeG 12 (some 67) (v := ?_) (by rfl) (by rfl) (by kernel_rfl) (by kernel_rfl) (by decide) (by kernel_rfl) (by kernel_rfl) (fun _ _ _ h => h) ?_ (by assumption) ?_
          rotate_left
          · (intro o ho w hSw; obtain ⟨z0, z1, z2, z3⟩ := hSw; cases ho; go_simp; try with_reducible rfl)
          try simp only [Act.put, List.setIfInBounds_toArray, List.set_cons_zero, List.set_cons_succ]
          refine takeG 13 (some 68) (v := ?_) (by rfl) (by rfl) (by kernel_rfl) (by kernel_rfl) (by decide) (by kernel_rfl) (by kernel_rfl) (fun _ _ _ h => h) ?_ (by assumption) ?_
          rotate_left
          · (intro o ho w hSw; obtain ⟨z0, z1, z2, z3⟩ := hSw; cases ho; go_simp; try with_reducible rfl)
          try simp only [Act.put, List.setIfInBounds_toArray, List.set_cons_zero, List.set_cons_succ]
          refine takeG 14 (some 69) (v := ?_) (by rfl) (by rfl) (by kernel_rfl) (by kernel_rfl) (by decide) (by kernel_rfl) (by kernel_rfl) (fun _ _ _ h => h) ?_ (by assumption) ?_
          rotate_left
          · (intro o ho w hSw; obtain ⟨z0, z1, z2, z3⟩ := hSw; cases ho; go_simp; try with_reducible rfl)
          try simp only [Act.put, List.setIfInBounds_toArray, List.set_cons_zero, List.set_cons_succ]
          refine takeG 15 (some 70) (v := ?_) (by rfl) (by rfl) (by kernel_rfl) (by kernel_rfl) (by decide) (by kernel_rfl) (by kernel_rfl) (fun _ _ _ h => h) ?_ (by assumption) ?_
          rotate_left
          · (intro o ho w hSw; obtain ⟨z0, z1, z2, z3⟩ := hSw; cases ho; go_simp; try with_reducible rfl)
          try simp only [Act.put, List.setIfInBounds_toArray, List.set_cons_zero, List.set_cons_succ]
          refine takeG 16 (some 71) (v := ?_) (by rfl) (by rfl) (by kernel_rfl) (by kernel_rfl) (by decide) (by kernel_rfl) (by kernel_rfl) (fun _ _ _ h => h) ?_ (by assumption) ?_
          rotate_left
          · (intro o ho w hSw; obtain ⟨z0, z1, z2, z3⟩ := hSw; cases ho; go_simp; try with_reducible rfl)
          try simp only [Act.put, List.setIfInBounds_toArray, List.set_cons_zero, List.set_cons_succ]
          refine takeG 17 (some 72) (v := ?_) (by rfl) (by rfl) (by kernel_rfl) (by kernel_rfl) (by decide) (by kernel_rfl) (by kernel_rfl) (fun _ _ _ h => h) ?_ (by assumption) ?_
          rotate_left
          · (intro o ho w hSw; obtain ⟨z0, z1, z2, z3⟩ := hSw; cases ho; go_simp; try with_reducible rfl)
          try simp only [Act.put, List.setIfInBounds_toArray, List.set_cons_zero, List.set_cons_succ]
          refine takeG 18 (some 73) (v := ?_) (by rfl) (by rfl) (by kernel_rfl) (by kernel_rfl) (by decide) (by kernel_rfl) (by kernel_rfl) (fun _ _ _ h => h) ?_ (by assumption) ?_
          rotate_left
          · (intro o ho w hSw; obtain ⟨z0, z1, z2, z3⟩ := hSw; cases ho; go_simp; try with_reducible rfl)
          try simp only [Act.put, List.setIfInBounds_toArray, List.set_cons_zero, List.set_cons_succ]
          refine takeG 19 (some 74) (v := ?_) (by rfl) (by rfl) (by kernel_rfl) (by kernel_rfl) (by decide) (by kernel_rfl) (by kernel_rfl) (fun _ _ _ h => h) ?_ (by assumption) ?_
          rotate_left
          · (intro o ho w hSw; obtain ⟨z0, z1, z2, z3⟩ := hSw; cases ho; go_simp; try with_reducible rfl)
          try simp only [Act.put, List.setIfInBounds_toArray, List.set_cons_zero, List.set_cons_succ]
          refine takeG 20 (some 75) (v := ?_) (by rfl) (by rfl) (by kernel_rfl) (by kernel_rfl) (by decide) (by kernel_rfl) (by kernel_rfl) (fun _ _ _ h => h) ?_ (by assumption) ?_
          rotate_left
          · (intro o ho w hSw; obtain ⟨z0, z1, z2, z3⟩ := hSw; cases ho; go_simp; try with_reducible rfl)
          try simp only [Act.put, List.setIfInBounds_toArray, List.set_cons_zero, List.set_cons_succ]
          refine takeG 21 (some 76) (v := ?_) (by rfl) (by rfl) (by kernel_rfl) (by kernel_rfl) (by decide) (by kernel_rfl) (by kernel_rfl) (fun _ _ _ h => h) ?_ (by assumption) ?_
          rotate_left
          · (intro o ho w hSw; obtain ⟨z0, z1, z2, z3⟩ := hSw; cases ho; go_simp; try with_reducible rfl)
          try simp only [Act.put, List.setIfInBounds_toArray, List.set_cons_zero, List.set_cons_succ]
          refine takeG 22 (some 77) (v := ?_) (by rfl) (by rfl) (by kernel_rfl) (by kernel_rfl) (by decide) (by kernel_rfl) (by kernel_rfl) (fun _ _ _ h => h) ?_ (by assumption) ?_
          rotate_left
          · (intro o ho w hSw; obtain ⟨z0, z1, z2, z3⟩ := hSw; cases ho; go_simp; try with_reducible rfl)
          try simp only [Act.put, List.setIfInBounds_toArray, List.set_cons_zero, List.set_cons_succ]
          refine readyG (i := 23) (by kernel_rfl) rfl (fun K hK => ?_)
          refine step_app (t := 39) HA4.out (by kernel_rfl) (by rfl) (by rfl) (by rfl) ?_
          refine hK.out _ _ ?_ (fun hHa => ?_)
          · exact HS4.out
          clear hK K
          (try simp only [Act.put]); (try simp only [List.setIfInBounds_toArray]); (try simp only [List.set_cons_succ]); (try simp only [List.set_cons_zero])
          refine takeG 24 (some 79) (v := ?_) (by rfl) (by rfl) (by kernel_rfl) (by kernel_rfl) (by decide) (by kernel_rfl) (by kernel_rfl) (fun _ _ _ h => h) ?_ (by assumption) ?_
          rotate_left
          · (intro o ho w hSw; obtain ⟨z0, z1, z2, z3⟩ := hSw; cases ho; go_simp; try with_reducible rfl)
          (try simp only [Act.put]); (try simp only [List.setIfInBounds_toArray]); (try simp only [List.set_cons_succ]); (try simp only [List.set_cons_zero])
          refine lastG (by kernel_rfl) rfl (fun K hK => ?_)
          go_simp
          refine hK.out _ _ ?_
          clear hK K
          (try simp only [Act.put]); (try simp only [List.setIfInBounds_toArray]); (try simp only [List.set_cons_succ]); (try simp only [List.set_cons_zero])
          refine doneG (by kernel_rfl) ?_ _
          go_wp2
          go_roundg 0
          case measure => omega
          case rel => exact .inr ⟨rfl, by go_num, by go_num, HP, HC⟩
        · go_wp2
          go_meet
          exact ⟨rfl, HN1, HC1⟩
    case rest =>
      obtain ⟨rfl, HN1, HC1⟩ := hcut
      have hkp0 : (0 : Int) ≤ (kp : Int) := by omega
      go_upto_region 13 with fail
      go_cut [88] (fun v wx => v = .bool (decide (0 ≤ flip ∧ 0 < kp)) ∧ wx = wc)
      case first =>
        by_cases hfl : 0 ≤ flip
        · by_cases hkp : 0 < kp
          · have HD1 := Lib.hid (show decide (0 ≤ flip ∧ 0 < kp) = true by simp [hfl, hkp])
            have hk : (0 : Int) < (kp : Int) := by omega
            go_wp2
            go_meet
            exact ⟨by rw [HD1.out], rfl⟩
          · have HD1 := Lib.hid (show decide (0 ≤ flip ∧ 0 < kp) = false by simp [hkp])
            go_wp2
            go_meet
            exact ⟨by rw [HD1.out], rfl⟩
        · have HD1 := Lib.hid (show decide (0 ≤ flip ∧ 0 < kp) = false by simp [hfl])
          have hf3 : decide (0 ≤ flip) = false := by simpa using hfl
          go_wp2
          go_meet
          exact ⟨by rw [HD1.out], rfl⟩
      case rest =>
        obtain ⟨rfl, rfl⟩ := hcut
        go_upto_if 88 with fail
        go_cut [12] (fun v wx => v = .int .i64 at0 ∧ wx = wc)
        case first =>
          by_cases hb : 0 ≤ flip ∧ 0 < kp
          · have hdb : decide (0 ≤ flip ∧ 0 < kp) = true := by rw [decide_eq_true_iff]; exact hb
            rw [hdb]
            have HAB : Hid (at0 = flip % (8 * (kp : Int))) := Lib.hid (by rw [HAT.out, if_pos hb])
            obtain ⟨hf0, hkp1⟩ := hb
            have hml : 0 < 8 * (kp : Int) := by omega
            have i1 : IntKind.i64.wrap (8 * (kp : Int)) = 8 * (kp : Int) := IntWalk.i64_in _ (by omega)
            clear hdb hat1
            go_wp2
            go_meet
            exact ⟨by rw [HAB.out], rfl⟩
          · have hdb : decide (0 ≤ flip ∧ 0 < kp) = false := by rw [decide_eq_false_iff_not]; exact hb
            rw [hdb]
            have HAB : Hid (at0 = -1) := Lib.hid (by rw [HAT.out, if_neg hb])
            clear hb hdb hat1
            go_wp2
            go_meet
            exact ⟨by rw [HAB.out], rfl⟩
        case rest =>
          obtain ⟨rfl, rfl⟩ := hcut
          go_upto_block 2 with fail
          go_cut [12] (fun _ wx => Hid (RNext g gB gF room (.slice A n c) off plan (flB bs dur kp at0 kp) dur w wx))
          case first =>
            have HN0 : Hid (RNext g gB gF room (.slice A n c) off plan (flB bs dur kp at0 0) dur w wc) := Lib.hid (by rw [flB_zero]; exact HN1.out)
            have HCW := HC1
            clear HN1 HC1
            go_wp2
            go_loopg [12, 13] 1 (fun gk av iv wr => (gk = 1 ∧ iv = .int .i64 0 ∧ av = .int .i64 at0 ∧ wr = wc) ∨ (gk = 0 ∧ iv = .int .i64 1 ∧ Hid (RNext g gB gF room (.slice A n c) off plan (flB bs dur kp at0 kp) dur w wr)))
            case atStart => exact .inl ⟨rfl, rfl, rfl, rfl⟩
            case round =>
              rcases hrel with ⟨rfl, rfl, rfl, rfl⟩ | ⟨rfl, rfl, HN2⟩
              · have x0 := HCW.out
                obtain ⟨v0, hD0, m0, hF0⟩ := HN0.out
                obtain ⟨c0, c1, c2, c3, c4, f3, f4⟩ := hD0.cells
                have q2 := hD0.fAt (i := 2) (by omega)
                rw [if_pos rfl] at q2
                unfold fV at q2
                clear hD0 m0 hF0
                go_wp2
                clear c0 c1 c2 c3 c4 f3 f4 q2 x0
                go_loopg [12, 15] kp (fun gk av kv w9 => ∃ j : Nat, j + gk = kp ∧ kv = .int .i64 ((dur + j : Nat) : Int) ∧ av = .int .i64 (at0 - 8 * (j : Int)) ∧ Hid (RNext g gB gF room (.slice A n c) off plan (flB bs dur kp at0 j) dur w w9))
                case atStart => exact ⟨0, by omega, by simp, by simp, HN0⟩
                case round =>
                  obtain ⟨j, hj, hkv, hav, HN3⟩ := hrel
                  obtain ⟨q, hq⟩ : ∃ q, dur + j = q := ⟨_, rfl⟩
                  obtain ⟨a, ha⟩ : ∃ a, at0 - 8 * (j : Int) = a := ⟨_, rfl⟩
                  rw [hq] at hkv
                  rw [ha] at hav
                  subst hkv hav
                  have HHJ := Lib.hid hj
                  have HQ := Lib.hid hq
                  have HA := Lib.hid ha
                  obtain ⟨v7, hD7, m7, hF7⟩ := HN3.out
                  obtain ⟨A7, c7, rfl⟩ := hD7.slice
                  have hl7 : (flB bs dur kp at0 j).length = dur + kp := flB_len (by rw [HN.out]; omega)
                  obtain ⟨c0, c1, c2, c3, c4, f3, f4⟩ := hD7.cells
                  have b2 := hD7.bAt (i := 2) (by omega)
                  rw [if_pos rfl, hl7] at b2
                  obtain ⟨n7, hn7⟩ : ∃ n7, dur + kp = n7 := ⟨_, rfl⟩
                  rw [hn7] at b2 hl7
                  rw [hl7] at hD7 hF7
                  have HN7 := Lib.hid hn7
                  have HL7 := Lib.hid hl7
                  have HM7 := Lib.hid (And.intro m7 hF7)
                  have hqb : q ≤ 16777216 := by omega
                  have hqn : j < kp ↔ (q : Int) < (n7 : Int) := by omega
                  have ha1 : -1 - 8 * (j : Int) ≤ a := by omega
                  have hja : (j : Int) ≤ 16777216 := by omega
                  have haw : IntKind.i64.wrap (a - 8) = a - 8 := IntWalk.i64_in _ (by omega)
                  have HD7 := Lib.hid hD7
                  have HNXT : Hid (a - 8 = at0 - 8 * ((j + 1 : Nat) : Int)) := Lib.hid (by omega)
                  clear hD7 m7 hF7 hj hq ha hn7 hl7 hat1
                  by_cases hlt : j < kp
                  · have hltI : (q : Int) < (n7 : Int) := hqn.1 hlt
                    have hq0 : (0 : Int) ≤ (q : Int) := by omega
                    have HLT := Lib.hid hlt
                    clear hqn hlt
                    rcases Int.lt_or_le a 0 with hneg | hge
                    · have hP : RNext g gB gF room (.slice A n c) off plan (flB bs dur kp at0 (j + 1)) dur w wr := by rw [flB_skip (.inl (by have := HA.out; omega))]; exact HN3.out
                      have HP := Lib.hid hP
                      have hdec : decide (0 ≤ a) = false := by simp; omega
                      clear hP
                      go_wp2
                      go_roundg (kp - (j + 1))
                      case measure => have := HHJ.out; have := HLT.out; omega
                      case rel => exact ⟨j + 1, by have := HHJ.out; have := HLT.out; omega, by have := HQ.out; go_num, by rw [HNXT.out], HP⟩
                    · rcases Int.lt_or_le a 8 with h8 | h8
                      · obtain ⟨r, rfl⟩ : ∃ r : Nat, a = (r : Int) := ⟨a.toNat, by omega⟩
                        have hr8 : r < 8 := by omega
                        obtain ⟨fl1, fl2⟩ := flB_turn (bs := bs) (dur := dur) (kp := kp) HA.out hr8
                        obtain ⟨fr, rfl, hfr1, hfr2⟩ := own_some HD7.out.own (by rw [HL7.out]; omega)
                        have hown7 := HD7.out.own
                        rw [HL7.out] at hown7
                        obtain ⟨hc1, hc2⟩ := own_byte hown7 (j := q) (by omega)
                        obtain ⟨y, hy⟩ : ∃ y, (flB bs dur kp at0 j)[q]?.getD 0 = y := ⟨_, rfl⟩
                        rw [hy] at hc1
                        rw [HQ.out, ← fl1, hy] at fl2
                        have hbw := (Below.refl wr.heap.size wr).drew
                        have hD8 := HD7.out.all hbw
                        obtain ⟨-, s2, s3⟩ := hD8.byte q (xorB y (UInt8.ofNat (128 / 2 ^ r)))
                        rw [← fl2] at s2
                        have HTO : Hid (RNext g gB gF room (.slice A n c) off plan (flB bs dur kp at0 (j + 1)) dur w (wr.drew.setCell ⟨fr, q, none⟩ (.int .u8 (((xorB y (UInt8.ofNat (128 / 2 ^ r))).toNat : Nat) : Int)))) := Lib.hid ⟨_, s2, (HM7.out.1.then_below hbw).trans s3 (fun b e => HM7.out.2 b (by subst e; exact .inr (.inr (.inr rfl)))), fun b hb => HM7.out.2 b hb⟩
                        have hcap := (Bts.of_own hown7).1.2.1
                        have hcap2 := (Bts.of_own hown7).1.2.2.1
                        have HS7 := Lib.hid (show wr.drew.cell? ⟨g, 1, none⟩ = some (.slice (some ⟨gB, 0, none⟩) 64 64) ∧ wr.drew.cell? ⟨gB, 2, none⟩ = some (.slice (some ⟨fr, 0, none⟩) n7 c7) ∧ wr.drew.cell? ⟨fr, q, none⟩ = some (.int .u8 ((y.toNat : Nat) : Int)) from ⟨c1, b2, hc1⟩)
                        obtain ⟨t, ht⟩ : ∃ t, UInt8.ofNat (128 / 2 ^ r) = t := ⟨_, rfl⟩
                        rw [ht] at HTO
                        have hw7 : IntKind.i64.wrap (7 - (r : Int)) = 7 - (r : Int) := IntWalk.i64_in _ (by omega)
                        have hw8 : IntKind.u64.wrap (7 - (r : Int)) = 7 - (r : Int) := IntWalk.u64_in _ (by omega)
                        have hsh : IntKind.u8.wrap (2 ^ min (7 - (r : Int)).toNat 8) = ((t.toNat : Nat) : Int) := by
                          rw [← ht]
                          have := shl_byte ⟨r, hr8⟩
                          exact this
                        have HT2 : Hid (RNext g gB gF room (.slice A n c) off plan (flB bs dur kp at0 (j + 1)) dur w (wr.setCell ⟨fr, q, none⟩ (.int .u8 (bits BinOp.xor IntKind.u8 ((y.toNat : Nat) : Int) (IntKind.u8.wrap (2 ^ (7 - r)))))).drew) := Lib.hid (by
                          have e := shl_byte2 ⟨r, hr8⟩
                          dsimp only at e
                          rw [e, ht, xor_u8]
                          exact HTO.out)
                        clear hown7 hy hbw hD8 s2 s3 fl1 fl2 ht HTO
                        go_upto_region 23 with (fail)
                        refine beginG (S := (fun x => x.cell? ⟨g, 1, none⟩ = some (.slice (some ⟨gB, 0, none⟩) 64 64) ∧ x.cell? ⟨gB, 2, none⟩ = some (.slice (some ⟨fr, 0, none⟩) n7 c7) ∧ x.cell? ⟨fr, q, none⟩ = some (.int .u8 ((y.toNat : Nat) : Int)))) 24 (by kernel_rfl) HS7.out (fun hHeld => ?_)
                        refine takeG 0 (some 128) (v := ?_) (by rfl) (by rfl) (by kernel_rfl) (by kernel_rfl) (by decide) (by kernel_rfl) (by kernel_rfl) (fun _ _ _ h => h) ?_ (by assumption) ?_
                        rotate_left
                        · (intro o ho w hSw; obtain ⟨z0, z1, z2⟩ := hSw; cases ho; go_simp; try with_reducible rfl)
                        try simp only [Act.put, List.setIfInBounds_toArray, List.set_cons_zero, List.set_cons_succ]
                        refine takeG 1 (some 129) (v := ?_) (by rfl) (by rfl) (by kernel_rfl) (by kernel_rfl) (by decide) (by kernel_rfl) (by kernel_rfl) (fun _ _ _ h => h) ?_ (by assumption) ?_
                        rotate_left
                        · (intro o ho w hSw; obtain ⟨z0, z1, z2⟩ := hSw; cases ho; go_simp; try with_reducible rfl)
                        try simp only [Act.put, List.setIfInBounds_toArray, List.set_cons_zero, List.set_cons_succ]
                        refine takeG 2 (some 130) (v := ?_) (by rfl) (by rfl) (by kernel_rfl) (by kernel_rfl) (by decide) (by kernel_rfl) (by kernel_rfl) (fun _ _ _ h => h) ?_ (by assumption) ?_
                        rotate_left
                        · (intro o ho w hSw; obtain ⟨z0, z1, z2⟩ := hSw; cases ho; go_simp; try with_reducible rfl)
                        try simp only [Act.put, List.setIfInBounds_toArray, List.set_cons_zero, List.set_cons_succ]
                        refine takeG 3 (some 131) (v := ?_) (by rfl) (by rfl) (by kernel_rfl) (by kernel_rfl) (by decide) (by kernel_rfl) (by kernel_rfl) (fun _ _ _ h => h) ?_ (by assumption) ?_
                        rotate_left
                        · (intro o ho w hSw; obtain ⟨z0, z1, z2⟩ := hSw; cases ho; go_simp; try with_reducible rfl)
                        try simp only [Act.put, List.setIfInBounds_toArray, List.set_cons_zero, List.set_cons_succ]
                        refine takeG 4 (some 132) (v := ?_) (by rfl) (by rfl) (by kernel_rfl) (by kernel_rfl) (by decide) (by kernel_rfl) (by kernel_rfl) (fun _ _ _ h => h) ?_ (by assumption) ?_
                        rotate_left
                        · (intro o ho w hSw; obtain ⟨z0, z1, z2⟩ := hSw; cases ho; go_simp; try with_reducible rfl)
                        try simp only [Act.put, List.setIfInBounds_toArray, List.set_cons_zero, List.set_cons_succ]
                        refine takeG 5 (some 133) (v := ?_) (by rfl) (by rfl) (by kernel_rfl) (by kernel_rfl) (by decide) (by kernel_rfl) (by kernel_rfl) (fun _ _ _ h => h) ?_ (by assumption) ?_
                        rotate_left
                        · (intro o ho w hSw; obtain ⟨z0, z1, z2⟩ := hSw; cases ho; go_simp; try with_reducible rfl)
                        try simp only [Act.put, List.setIfInBounds_toArray, List.set_cons_zero, List.set_cons_succ]
                        refine takeG 6 (some 134) (v := ?_) (by rfl) (by rfl) (by kernel_rfl) (by kernel_rfl) (by decide) (by kernel_rfl) (by kernel_rfl) (fun _ _ _ h => h) ?_ (by assumption) ?_
                        rotate_left
                        · (intro o ho w hSw; obtain ⟨z0, z1, z2⟩ := hSw; cases ho; go_simp; try with_reducible rfl)
                        try simp only [Act.put, List.setIfInBounds_toArray, List.set_cons_zero, List.set_cons_succ]
                        refine takeG 7 (some 135) (v := ?_) (by rfl) (by rfl) (by kernel_rfl) (by kernel_rfl) (by decide) (by kernel_rfl) (by kernel_rfl) (fun _ _ _ h => h) ?_ (by assumption) ?_
                        rotate_left
                        · (intro o ho w hSw; obtain ⟨z0, z1, z2⟩ := hSw; cases ho; go_simp; try with_reducible rfl)
                        try simp only [Act.put, List.setIfInBounds_toArray, List.set_cons_zero, List.set_cons_succ]
                        refine takeG 8 (some 136) (v := ?_) (by rfl) (by rfl) (by kernel_rfl) (by kernel_rfl) (by decide) (by kernel_rfl) (by kernel_rfl) (fun _ _ _ h => h) ?_ (by assumption) ?_
                        rotate_left
                        · (intro o ho w hSw; obtain ⟨z0, z1, z2⟩ := hSw; cases ho; go_simp; try with_reducible rfl)
                        try simp only [Act.put, List.setIfInBounds_toArray, List.set_cons_zero, List.set_cons_succ]
                        refine takeG 9 (some 137) (v := ?_) (by rfl) (by rfl) (by kernel_rfl) (by kernel_rfl) (by decide) (by kernel_rfl) (by kernel_rfl) (fun _ _ _ h => h) ?_ (by assumption) ?_
                        rotate_left
                        · (intro o ho w hSw; obtain ⟨z0, z1, z2⟩ := hSw; cases ho; go_simp; try with_reducible rfl)
                        try simp only [Act.put, List.setIfInBounds_toArray, List.set_cons_zero, List.set_cons_succ]
                        refine takeG 10 (some 138) (v := ?_) (by rfl) (by rfl) (by kernel_rfl) (by kernel_rfl) (by decide) (by kernel_rfl) (by kernel_rfl) (fun _ _ _ h => h) ?_ (by assumption) ?_
                        rotate_left
                        · (intro o ho w hSw; obtain ⟨z0, z1, z2⟩ := hSw; cases ho; go_simp; try with_reducible rfl)
                        try simp only [Act.put, List.setIfInBounds_toArray, List.set_cons_zero, List.set_cons_succ]
                        refine takeG 11 (some 139) (v := ?_) (by rfl) (by rfl) (by kernel_rfl) (by kernel_rfl) (by decide) (by kernel_rfl) (by kernel_rfl) (fun _ _ _ h => h) ?_ (by assumption) ?_
                        rotate_left
                        · (intro o ho w hSw; obtain ⟨z0, z1, z2⟩ := hSw; cases ho; go_simp; try with_reducible rfl)
                        try simp only [Act.put, List.setIfInBounds_toArray, List.set_cons_zero, List.set_cons_succ]
                        refine takeG 12 (some 140) (v := ?_) (by rfl) (by rfl) (by kernel_rfl) (by kernel_rfl) (by decide) (by kernel_rfl) (by kernel_rfl) (fun _ _ _ h => h) ?_ (by assumption) ?_
                        rotate_left
                        · (intro o ho w hSw; obtain ⟨z0, z1, z2⟩ := hSw; cases ho; go_simp; try with_reducible rfl)
                        try simp only [Act.put, List.setIfInBounds_toArray, List.set_cons_zero, List.set_cons_succ]
                        refine takeG 13 (some 141) (v := ?_) (by rfl) (by rfl) (by kernel_rfl) (by kernel_rfl) (by decide) (by kernel_rfl) (by kernel_rfl) (fun _ _ _ h => h) ?_ (by assumption) ?_
                        rotate_left
                        · (intro o ho w hSw; obtain ⟨z0, z1, z2⟩ := hSw; cases ho; go_simp; try with_reducible rfl)
                        try simp only [Act.put, List.setIfInBounds_toArray, List.set_cons_zero, List.set_cons_succ]
                        refine takeG 14 (some 142) (v := ?_) (by rfl) (by rfl) (by kernel_rfl) (by kernel_rfl) (by decide) (by kernel_rfl) (by kernel_rfl) (fun _ _ _ h => h) ?_ (by assumption) ?_
                        rotate_left
                        · (intro o ho w hSw; obtain ⟨z0, z1, z2⟩ := hSw; cases ho; go_simp; try with_reducible rfl)
                        try simp only [Act.put, List.setIfInBounds_toArray, List.set_cons_zero, List.set_cons_succ]
                        refine takeG 15 (some 143) (v := ?_) (by rfl) (by rfl) (by kernel_rfl) (by kernel_rfl) (by decide) (by kernel_rfl) (by kernel_rfl) (fun _ _ _ h => h) ?_ (by assumption) ?_
                        rotate_left
                        · (intro o ho w hSw; obtain ⟨z0, z1, z2⟩ := hSw; cases ho; go_simp; try with_reducible rfl)
                        try simp only [Act.put, List.setIfInBounds_toArray, List.set_cons_zero, List.set_cons_succ]
                        refine takeG 16 (some 144) (v := ?_) (by rfl) (by rfl) (by kernel_rfl) (by kernel_rfl) (by decide) (by kernel_rfl) (by kernel_rfl) (fun _ _ _ h => h) ?_ (by assumption) ?_
                        rotate_left
                        · (intro o ho w hSw; obtain ⟨z0, z1, z2⟩ := hSw; cases ho; go_simp; try with_reducible rfl)
                        try simp only [Act.put, List.setIfInBounds_toArray, List.set_cons_zero, List.set_cons_succ]
                        refine takeG 17 (some 145) (v := ?_) (by rfl) (by rfl) (by kernel_rfl) (by kernel_rfl) (by decide) (by kernel_rfl) (by kernel_rfl) (fun _ _ _ h => h) ?_ (by assumption) ?_
                        rotate_left
                        · (intro o ho w hSw; obtain ⟨z0, z1, z2⟩ := hSw; cases ho; go_simp; try with_reducible rfl)
                        try simp only [Act.put, List.setIfInBounds_toArray, List.set_cons_zero, List.set_cons_succ]
                        refine takeG 18 (some 146) (v := ?_) (by rfl) (by rfl) (by kernel_rfl) (by kernel_rfl) (by decide) (by kernel_rfl) (by kernel_rfl) (fun _ _ _ h => h) ?_ (by assumption) ?_
                        rotate_left
                        · (intro o ho w hSw; obtain ⟨z0, z1, z2⟩ := hSw; cases ho; go_simp; try with_reducible rfl)
                        try simp only [Act.put, List.setIfInBounds_toArray, List.set_cons_zero, List.set_cons_succ]
                        refine takeG 19 (some 147) (v := ?_) (by rfl) (by rfl) (by kernel_rfl) (by kernel_rfl) (by decide) (by kernel_rfl) (by kernel_rfl) (fun _ _ _ h => h) ?_ (by assumption) ?_
                        rotate_left
                        · (intro o ho w hSw; obtain ⟨z0, z1, z2⟩ := hSw; cases ho; go_simp; try with_reducible rfl)
                        try simp only [Act.put, List.setIfInBounds_toArray, List.set_cons_zero, List.set_cons_succ]
                        refine takeG 20 (some 148) (v := ?_) (by rfl) (by rfl) (by kernel_rfl) (by kernel_rfl) (by decide) (by kernel_rfl) (by kernel_rfl) (fun _ _ _ h => h) ?_ (by assumption) ?_
                        rotate_left
                        · (intro o ho w hSw; obtain ⟨z0, z1, z2⟩ := hSw; cases ho; go_simp; try with_reducible rfl)
                        try simp only [Act.put, List.setIfInBounds_toArray, List.set_cons_zero, List.set_cons_succ]
                        refine takeG 21 (some 149) (v := ?_) (by rfl) (by rfl) (by kernel_rfl) (by kernel_rfl) (by decide) (by kernel_rfl) (by kernel_rfl) (fun _ _ _ h => h) ?_ (by assumption) ?_
                        rotate_left
                        · (intro o ho w hSw; obtain ⟨z0, z1, z2⟩ := hSw; cases ho; go_simp; try with_reducible rfl)
                        try simp only [Act.put, List.setIfInBounds_toArray, List.set_cons_zero, List.set_cons_succ]
                        refine takeG 22 (some 150) (v := ?_) (by rfl) (by rfl) (by kernel_rfl) (by kernel_rfl) (by decide) (by kernel_rfl) (by kernel_rfl) (fun _ _ _ h => h) ?_ (by assumption) ?_
                        rotate_left
                        · (intro o ho w hSw; obtain ⟨z0, z1, z2⟩ := hSw; cases ho; go_simp; try with_reducible rfl)
                        try simp only [Act.put, List.setIfInBounds_toArray, List.set_cons_zero, List.set_cons_succ]
                        refine takeG 23 (some 151) (v := ?_) (by rfl) (by rfl) (by kernel_rfl) (by kernel_rfl) (by decide) (by kernel_rfl) (by kernel_rfl) (fun _ _ _ h => h) ?_ (by assumption) ?_
                        rotate_left
                        · (intro o ho w hSw; obtain ⟨z0, z1, z2⟩ := hSw; cases ho; go_simp; try with_reducible rfl)
                        try simp only [Act.put, List.setIfInBounds_toArray, List.set_cons_zero, List.set_cons_succ]
                        refine lastG (by kernel_rfl) rfl (fun K hK => ?_)
                        go_simp
                        refine hK.out _ _ ?_
                        clear hK K
                        (try simp only [Act.put]); (try simp only [List.setIfInBounds_toArray]); (try simp only [List.set_cons_succ]); (try simp only [List.set_cons_zero])
                        refine doneG (by kernel_rfl) ?_ _
                        go_wp2
                        go_roundg (kp - (j + 1))
                        case measure => have := HHJ.out; have := HLT.out; omega
                        case rel => exact ⟨j + 1, by have := HHJ.out; have := HLT.out; omega, by have := HQ.out; go_num, by rw [HNXT.out], HT2⟩
                      · have hP : RNext g gB gF room (.slice A n c) off plan (flB bs dur kp at0 (j + 1)) dur w wr := by rw [flB_skip (.inr (by have := HA.out; omega))]; exact HN3.out
                        have HP := Lib.hid hP
                        have hdec : decide (a < 8) = false := by simp; omega
                        clear hP
                        go_wp2
                        go_roundg (kp - (j + 1))
                        case measure => have := HHJ.out; have := HLT.out; omega
                        case rel => exact ⟨j + 1, by have := HHJ.out; have := HLT.out; omega, by have := HQ.out; go_num, by rw [HNXT.out], HP⟩
                  · obtain rfl : j = kp := by have := HHJ.out; omega
                    have hltI : ¬ ((q : Int) < (n7 : Int)) := by omega
                    clear hqn
                    go_wp2
                    go_roundg 0
                    case measure => omega
                    case rel => exact .inr ⟨rfl, by go_num, HN3⟩
              · go_wp2
                go_meet
                exact HN2
          case rest =>
            obtain ⟨v7, hD7, m7, hF7⟩ := hcut.out
            obtain ⟨A7, c7, rfl⟩ := hD7.slice
            have HL7 : Hid ((flB bs dur kp at0 kp).length = dur + kp) := Lib.hid (flB_len (by rw [HN.out]; omega))
            obtain ⟨b7, hb7⟩ : ∃ b7, flB bs dur kp at0 kp = b7 := ⟨_, rfl⟩
            obtain ⟨n7, hn7⟩ : ∃ n7, b7.length = n7 := ⟨_, rfl⟩
            rw [hb7] at hD7 HL7 HCR hF7
            rw [hn7] at hD7 hF7
            have HN7 := Lib.hid hn7
            have hn72 : n7 ≤ 16777216 := by have := HL7.out; omega
            have hdn7 : dur ≤ n7 := by have := HL7.out; omega
            have HD7 := Lib.hid (show RDk wc g gB gF room off plan (.slice A7 n7 c7) b7 (if 2 < 0 then n7 else dur) from hD7)
            have HNX : Hid (RDk wc g gB gF room off plan (.slice A7 n7 c7) b7 dur ∧ Mod (RDF g gB gF (.slice A n c)) w wc ∧ ∀ b, RDF g gB gF (.slice A7 n7 c7) b → RDF g gB gF (.slice A n c) b ∨ w.heap.size ≤ b) := Lib.hid ⟨hD7, m7, hF7⟩
            clear hb7 hn7 hD7 m7 hF7 hcut
            go_wp2
            go_loopg [16] 64 (fun gk iv wr => ∃ i : Nat, i + gk = 64 ∧ iv = .int .i64 (i : Int) ∧ Hid (RDk wr g gB gF room off plan (.slice A7 n7 c7) b7 (if 2 < i then n7 else dur)) ∧ Hid (Mod (fun b => b = gF) wc wr))
            case atStart => exact ⟨0, by omega, rfl, HD7, Lib.hid (Mod.refl _ _)⟩
            case round =>
              obtain ⟨i, hi, rfl, HDi, HMi⟩ := hrel
              rcases Nat.lt_or_ge i 64 with hlt | hge
              · have hiI : (i : Int) < 64 := by omega
                have hi0 : (0 : Int) ≤ (i : Int) := by omega
                obtain ⟨c0, c1, c2, c3, c4, f3, f4⟩ := HDi.out.cells
                have b0 := HDi.out.bAt hlt
                unfold nilV at b0
                obtain ⟨n1, n2, n3, n4⟩ := HDi.out.neBF
                have hs := HDi.out.setF (i := i) (d := if i = 2 then n7 else 0) (by rw [HN7.out]; split <;> omega) (fun e => if_neg e)
                obtain ⟨s1, s2, s3⟩ := hs
                have HS := Lib.hid s2
                have HMS := Lib.hid (HMi.out.trans s3 (fun b hb => .inl hb))
                have HHI := Lib.hid hi
                clear s2 s3 hi n4
                unfold fV at HS HMS
                have q0 := HDi.out.fAt hlt
                unfold fV at q0
                have HSZ := Lib.hid HMi.out.size
                by_cases e2 : i = 2
                · subst e2
                  rw [if_pos rfl] at b0 q0
                  simp only [if_true] at HS HMS
                  go_wp2
                  go_region
                  go_wp2
                  go_roundg (64 - (2 + 1))
                  case measure => have := HHI.out; omega
                  case rel => exact ⟨3, by have := HHI.out; omega, by go_num, Lib.hid (HS.out.all ((Below.refl _ _).drew)), Lib.hid (HMS.out.then_below ((Below.refl _ _).drew))⟩
                · rw [if_neg e2] at b0 q0
                  simp only [if_neg e2] at HS HMS
                  have he : (if 2 < i then n7 else dur) = if 2 < i + 1 then n7 else dur := by
                    by_cases h : 2 < i
                    · rw [if_pos h, if_pos (by omega)]
                    · rw [if_neg h, if_neg (by omega)]
                  rw [he] at HS
                  clear he
                  go_wp2
                  go_region
                  go_wp2
                  go_roundg (64 - (i + 1))
                  case measure => have := HHI.out; omega
                  case rel => exact ⟨i + 1, by have := HHI.out; omega, by go_num, Lib.hid (HS.out.all ((Below.refl _ _).drew)), Lib.hid (HMS.out.then_below ((Below.refl _ _).drew))⟩
              · obtain rfl : i = 64 := by omega
                have HDf := HDi.out
                rw [if_pos (by decide)] at HDf
                obtain ⟨c0, c1, c2, c3, c4, f3, f4⟩ := HDf.cells
                have hb1' : Blk (wr.setCell ⟨g, 3, none⟩ (.bool false)) g 50 #[.int .i64 (room : Int), .slice (some ⟨gB, 0, none⟩) 64 64, .slice (some ⟨gF, 0, none⟩) 64 64, .bool false, .int .i64 plan] := by simpa using Blk.set_ HDf.blk 3 (.bool false)
                have hb2' : Blk ((wr.setCell ⟨g, 3, none⟩ (.bool false)).setCell ⟨g, 4, none⟩ (.int .i64 (-1))) g 50 #[.int .i64 (room : Int), .slice (some ⟨gB, 0, none⟩) 64 64, .slice (some ⟨gF, 0, none⟩) 64 64, .bool false, .int .i64 (-1)] := by simpa using Blk.set_ hb1' 4 (.int .i64 (-1))
                have m1 := ((Mod.refl (fun b => b = g) wr).set (p := ⟨g, 3, none⟩) (.inl rfl) (.bool false)).set (p := ⟨g, 4, none⟩) (.inl rfl) (.int .i64 (-1))
                have HP := Lib.hid (HDf.power false (-1) ⟨by omega, by omega⟩ hb2' m1).2
                have HFIN : Hid (RNext g gB gF room (.slice A n c) false (-1) (crB bs dur kx flip) (crB bs dur kx flip).length w ((wr.setCell ⟨g, 3, none⟩ (.bool false)).setCell ⟨g, 4, none⟩ (.int .i64 (-1)))) := Lib.hid (by
                  rw [← HCR.out]
                  have e7 : b7.length = n7 := HN7.out
                  rw [e7]
                  exact RNext.trans' HNX.out HMi.out HP.out)
                clear hb1' hb2' m1 HDf
                go_wp2
                go_end0
                exact ⟨rfl, HFIN.out⟩
  · obtain rfl : n = 0 := by omega
    have hc := cnt_lo (n := 0) (i := 64) (.inr rfl)
    rw [hc.1] at hq6
    subst hq6
    have HB1 := Lib.hid hb1
    have hdur : dur = 0 := by omega
    have HD7 : Hid (RDk w1 g gB gF room off plan (.slice A 0 c) bs (if 2 < 0 then 0 else dur)) := Lib.hid (HD.out.all hb1)
    have HNX : Hid (RDk w1 g gB gF room off plan (.slice A 0 c) bs dur ∧ Mod (RDF g gB gF (.slice A 0 c)) w w1 ∧ ∀ b, RDF g gB gF (.slice A 0 c) b → RDF g gB gF (.slice A 0 c) b ∨ w.heap.size ≤ b) := Lib.hid ⟨HD.out.all hb1, Mod.of_below _ hb1, fun _ h => .inl h⟩
    have HCR : Hid (bs = crB bs dur kx flip) := Lib.hid (by unfold crB; rw [if_pos HN.out]; exact List.eq_nil_of_length_eq_zero HN.out)
    have HN7 := HN
    have hdn7 : dur ≤ 0 := hdn
    clear hb1 hown6 hc HD HK hn24 hn0
    go_wp2
    refine wp_loop_rounds 1 ?_
    rw [rounds_succ]
    go_upto_region 13 with fail
    go_cut [88] (fun v wx => v = .bool false ∧ wx = w1)
    case first =>
      by_cases hfl : 0 ≤ flip
      · go_wp2
        go_meet
        exact ⟨rfl, rfl⟩
      · have hf3 : decide (0 ≤ flip) = false := by simpa using hfl
        go_wp2
        go_meet
        exact ⟨rfl, rfl⟩
    case rest =>
      obtain ⟨rfl, hwc⟩ := hcut
      subst hwc
      go_wp2
      refine wp_loop_rounds 1 ?_
      rw [rounds_succ]
      go_wp2
      go_loopg [16] 64 (fun gk iv wr => ∃ i : Nat, i + gk = 64 ∧ iv = .int .i64 (i : Int) ∧ Hid (RDk wr g gB gF room off plan (.slice A 0 c) bs (if 2 < i then 0 else dur)) ∧ Hid (Mod (fun b => b = gF) wc wr))
      case atStart => exact ⟨0, by omega, rfl, HD7, Lib.hid (Mod.refl _ _)⟩
      case round =>
        obtain ⟨i, hi, rfl, HDi, HMi⟩ := hrel
        rcases Nat.lt_or_ge i 64 with hlt | hge
        · have hiI : (i : Int) < 64 := by omega
          have hi0 : (0 : Int) ≤ (i : Int) := by omega
          obtain ⟨c0, c1, c2, c3, c4, f3, f4⟩ := HDi.out.cells
          have b0 := HDi.out.bAt hlt
          unfold nilV at b0
          obtain ⟨n1, n2, n3, n4⟩ := HDi.out.neBF
          have hs := HDi.out.setF (i := i) (d := if i = 2 then 0 else 0) (by rw [HN7.out]; split <;> omega) (fun e => if_neg e)
          obtain ⟨s1, s2, s3⟩ := hs
          have HS := Lib.hid s2
          have HMS := Lib.hid (HMi.out.trans s3 (fun b hb => .inl hb))
          have HHI := Lib.hid hi
          clear s2 s3 hi n4
          unfold fV at HS HMS
          have q0 := HDi.out.fAt hlt
          unfold fV at q0
          have HSZ := Lib.hid HMi.out.size
          by_cases e2 : i = 2
          · subst e2
            rw [if_pos rfl] at b0 q0
            simp only [if_true] at HS HMS
            go_wp2
            go_region
            go_wp2
            go_roundg (64 - (2 + 1))
            case measure => have := HHI.out; omega
            case rel => exact ⟨3, by have := HHI.out; omega, by go_num, Lib.hid (HS.out.all ((Below.refl _ _).drew)), Lib.hid (HMS.out.then_below ((Below.refl _ _).drew))⟩
          · rw [if_neg e2] at b0 q0
            simp only [if_neg e2] at HS HMS
            have he : (if 2 < i then 0 else dur) = if 2 < i + 1 then 0 else dur := by
              by_cases h : 2 < i
              · rw [if_pos h, if_pos (by omega)]
              · rw [if_neg h, if_neg (by omega)]
            rw [he] at HS
            clear he
            go_wp2
            go_region
            go_wp2
            go_roundg (64 - (i + 1))
            case measure => have := HHI.out; omega
            case rel => exact ⟨i + 1, by have := HHI.out; omega, by go_num, Lib.hid (HS.out.all ((Below.refl _ _).drew)), Lib.hid (HMS.out.then_below ((Below.refl _ _).drew))⟩
        · obtain rfl : i = 64 := by omega
          have HDf := HDi.out
          rw [if_pos (by decide)] at HDf
          obtain ⟨c0, c1, c2, c3, c4, f3, f4⟩ := HDf.cells
          have hb1' : Blk (wr.setCell ⟨g, 3, none⟩ (.bool false)) g 50 #[.int .i64 (room : Int), .slice (some ⟨gB, 0, none⟩) 64 64, .slice (some ⟨gF, 0, none⟩) 64 64, .bool false, .int .i64 plan] := by simpa using Blk.set_ HDf.blk 3 (.bool false)
          have hb2' : Blk ((wr.setCell ⟨g, 3, none⟩ (.bool false)).setCell ⟨g, 4, none⟩ (.int .i64 (-1))) g 50 #[.int .i64 (room : Int), .slice (some ⟨gB, 0, none⟩) 64 64, .slice (some ⟨gF, 0, none⟩) 64 64, .bool false, .int .i64 (-1)] := by simpa using Blk.set_ hb1' 4 (.int .i64 (-1))
          have m1 := ((Mod.refl (fun b => b = g) wr).set (p := ⟨g, 3, none⟩) (.inl rfl) (.bool false)).set (p := ⟨g, 4, none⟩) (.inl rfl) (.int .i64 (-1))
          have HP := Lib.hid (HDf.power false (-1) ⟨by omega, by omega⟩ hb2' m1).2
          have HFIN : Hid (RNext g gB gF room (.slice A 0 c) false (-1) (crB bs dur kx flip) (crB bs dur kx flip).length w ((wr.setCell ⟨g, 3, none⟩ (.bool false)).setCell ⟨g, 4, none⟩ (.int .i64 (-1)))) := Lib.hid (by
            rw [← HCR.out]
            have e7 : bs.length = 0 := HN7.out
            rw [e7]
            exact RNext.trans' HNX.out HMi.out HP.out)
          clear hb1' hb2' m1 HDf
          go_wp2
          go_end0
          exact ⟨rfl, HFIN.out⟩
end Go.Proofs.YtldmokjpfnakkaaGreat
