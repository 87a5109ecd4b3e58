/- For every list of numbers worldmintlaw29.ProofLeaf returns true: a single leaf is accepted exactly if its bound is at most the value. No condition. -/
import Derived.Test.YtikfcpkobgejmaaGProofRefuses13

/- clear: Bound; what it says of a leaf. -/
namespace Go.Proofs.Ytikfcpkobgejmaa
open Go.RowKit

theorem rep0 (m k : Nat) : (List.replicate m (0 : Int))[k]?.getD 0 = 0 := by
  rw [List.getElem?_replicate]
  split <;> rfl
theorem poss0 {L : List Bd} {k : Nat} (hk : k < L.length) : possB L (List.replicate L.length 0) (k : Int) = true := by
  rw [possB_in hk, rep0]
  have ht : takenB L (List.replicate L.length 0) L[k] = false := by
    unfold takenB
    rw [List.any_eq_false]
    intro i _
    rw [rep0]
    simp
  rw [ht]
  rfl
theorem win0 (L : List Bd) (m : Nat) : ∀ k, winSum L (List.replicate m 0) k = 0
  | 0 => rfl
  | k + 1 => by rw [winSum_succ, win0 L m k, rep0]; rfl
theorem lots0 (L : List Bd) (m : Nat) : ∀ k, winLots L (List.replicate m 0) k = []
  | 0 => rfl
  | k + 1 => by rw [winLots_succ, lots0 L m k, rep0]; rfl
theorem bound0 (L : List Bd) (P : List Int) : boundP L (List.replicate L.length 0) P = freeSum P [] P.length + (surF L (List.replicate L.length 0) P L.length).2 := by
  unfold boundP
  rw [win0, lots0, Int.zero_add]
set_option maxRecDepth 100000 in
set_option maxHeartbeats 8000000 in
theorem cbound_any (n : Nat) (A : Option Addr) (m c : Nat) (Ap : Option Addr) (np cp : Nat) (L : List Bd) (P : List Int) (w : World) (HL : Hid (Bds w (A, m, c) L)) (HP : Hid (NIn w w.heap.size (Ap, np, cp) P)) (HV : Hid (validE (n : Int) L = 0)) (hnp : np = n) (hm : m ≤ 10) (hn : n ≤ 8) (HB : Hid (BidsOk n L)) (HQ : Hid (PriOk P)) :
    Calls Try.prog 25 #[.int .i64 (n : Int), .slice A m c, .slice Ap np cp] w fun e w' => e = .returned (.tuple #[.int .i64 (boundP L (List.replicate L.length 0) P), .int .i64 0]) ∧ Below w.heap.size w w' := by
  subst hnp
  rw [bound0]
  have HLEN := Lib.hid HL.out.rows.len
  have HPL := Lib.hid HP.out.len
  dsimp only at HLEN HPL
  have HVA := Lib.hid (valid_any (np : Int) (A, m, c) L w HL)
  rw [HV.out] at HVA
  unfold slV at HVA
  dsimp only at HVA
  have HRES : Hid (freeSum P [] P.length + (surF L (List.replicate L.length 0) P L.length).2 = freeSum P [] np + (surF L (List.replicate L.length 0) P m).2) := Lib.hid (by rw [HPL.out, HLEN.out])
  rw [HRES.out]
  have HPO : Hid (∀ q, q < m → possB L (List.replicate L.length 0) (q : Int) = true) := Lib.hid (fun q hq => poss0 (by rw [HLEN.out]; exact hq))
  clear HRES
  obtain ⟨D, hD⟩ : ∃ D, List.replicate L.length (0 : Int) = D := ⟨_, rfl⟩
  rw [hD] at HPO ⊢
  clear hD
  have hmk := @run_makeMap Try.prog
  have HMK := Lib.hid hmk
  clear hmk
  go_enter Try.func25, Try.ntmps25
  go_wp2_with fail
  refine HVA.out.mono ?_
  rintro e w1 ⟨rfl, hb1⟩
  have HB1 := Lib.hid hb1
  clear hb1 HVA
  have hnn : ((np : Int) != (np : Int)) = false := by simp
  go_wp2
  go_loop [9, 31] (fun v i => ∃ j : Nat, j ≤ np ∧ i = .int .i64 (j : Int) ∧ v = .int .i64 (freeSum P [] j)) (fun _ i => np - (intOf i).toNat)
  case atStart => exact ⟨0, by omega, rfl, by simp [freeSum]⟩
  case round =>
    obtain ⟨j, hj, rfl, rfl⟩ := hrel
    have hf := freeSum_ok HQ.out [] j
    have HSF := Lib.hid (freeSum_succ P [] j)
    obtain ⟨fs, hfs⟩ : ∃ fs, freeSum P [] j = fs := ⟨_, rfl⟩
    rw [hfs] at hf HSF ⊢
    have HFS := Lib.hid hfs
    clear hfs
    by_cases hlt2 : j < np
    · obtain ⟨b2, o2, hA2, -, hc2⟩ := (NIn.all HP.out HB1.out).cell (k := j) hlt2
      dsimp only at hA2
      subst hA2
      have hpj := pri_at HQ.out j
      obtain ⟨pj, hpj2⟩ : ∃ pj, P[j]?.getD 0 = pj := ⟨_, rfl⟩
      rw [hpj2] at hc2 hpj HSF
      have HF2 : Hid (freeSum P [] (j + 1) = fs + pj) := Lib.hid (by rw [HSF.out, if_neg (by simp)])
      have hji : (j : Int) < (np : Int) := by omega
      obtain ⟨hp1, hp2⟩ := hpj
      have hp3 : ¬ pj < 0 := by omega
      have hp4 : ¬ (1099511627776 : Int) < pj := by omega
      clear hpj2 HSF
      go_wp2
      exact ⟨⟨j + 1, by omega, by go_num, by rw [HF2.out]⟩, by simp [intOf]; omega⟩
    obtain rfl : j = np := by omega
    have HM0 := Lib.hid (MapI.new w1)
    have HB2 := Lib.hid (HB1.out.alloc HB1.out.size (.map #[] 0))
    obtain ⟨hf1, hf2⟩ := hf
    have hf3 : fs ≤ 8796093022208 := by omega
    have hmk := HMK.out
    clear HSF hf2
    go_wp2
    obtain ⟨sm, hsm⟩ : ∃ sm, w1.heap.size = sm := ⟨_, rfl⟩
    have hsw : w.heap.size ≤ sm := by have := HB1.out.size; omega
    have HM0 : Hid (MapI (w1.alloc (.map #[] 0)) sm (fun _ => 0)) := by rw [← hsm]; exact HM0
    rw [hsm]
    generalize w1.alloc (.map #[] 0) = w2 at *
    clear hmk hsm HMK HB1
    go_loopw [9, 48] (fun v i wr => ∃ q : Nat, q ≤ m ∧ i = .int .i64 (q : Int) ∧ v = .int .i64 (fs + (surF L D P q).2) ∧ Hid (MapI wr sm (surF L D P q).1) ∧ Hid (Below w.heap.size w wr)) (fun _ i _ => m - (intOf i).toNat)
    case atStart => exact ⟨0, by omega, rfl, by simp [surF], HM0, HB2⟩
    case round =>
      obtain ⟨q, hq, rfl, rfl, HM, HBW⟩ := hrel
      have hsu := surF_ok HB.out HQ.out D q
      by_cases hlt3 : q < m
      rotate_left
      · obtain rfl : q = m := by omega
        have HE : Hid (freeSum P [] j + (surF L D P q).2 = fs + (surF L D P q).2) := Lib.hid (by rw [HFS.out])
        go_wp2
        exact bodyPost_ret (v := .tuple #[.int .i64 (fs + (surF L D P q).2), .int .i64 0]) (by simp [results, Try.results25, go_sem]) rfl ⟨by rw [HE.out], HBW.out⟩
      obtain ⟨b, off, bi, pr, sA, sn, sc, lots, rfl, hbw, c0, c1, c2, hin, he⟩ := HL.out.get (k := q) (by rw [HLEN.out]; exact hlt3)
      have hbo := bd_ok HB.out q
      have how := ownB_ok HB.out HQ.out q
      have hfb := hsu.1 bi
      have hsu2 := hsu.2
      have HNX : Hid (surF L D P (q + 1) = if possB L D (q : Int) = true ∧ (surF L D P q).1 bi < ownB ⟨bi, pr, (sA, sn, sc), lots⟩ P then (fun y => if y = bi then ownB ⟨bi, pr, (sA, sn, sc), lots⟩ P else (surF L D P q).1 y, (surF L D P q).2 + (ownB ⟨bi, pr, (sA, sn, sc), lots⟩ P - (surF L D P q).1 bi)) else surF L D P q) := Lib.hid (by
        conv => lhs; unfold surF
        rw [he])
      rw [he] at hbo how
      dsimp only at hbo
      obtain ⟨hp0, hp1, hs8, -, hlx⟩ := hbo
      have HLX := Lib.hid hlx
      have HOW : Hid (ownB ⟨bi, pr, (sA, sn, sc), lots⟩ P = pr - costTo P lots lots.length) := Lib.hid rfl
      obtain ⟨own, hown⟩ : ∃ own, ownB ⟨bi, pr, (sA, sn, sc), lots⟩ P = own := ⟨_, rfl⟩
      rw [hown] at how HOW HNX
      obtain ⟨fb, hfb2⟩ : ∃ fb, (surF L D P q).1 bi = fb := ⟨_, rfl⟩
      rw [hfb2] at hfb HNX
      obtain ⟨sq, hsq⟩ : ∃ sq, (surF L D P q).2 = sq := ⟨_, rfl⟩
      rw [hsq] at hsu2 HNX ⊢
      have HFB := Lib.hid hfb2
      have HSQ := Lib.hid hsq
      have q0 := (HBW.out.cell (p := ⟨b, off + q * 3, none⟩) hbw).trans c0
      have q1 := (HBW.out.cell (p := ⟨b, off + q * 3 + 1, none⟩) hbw).trans c1
      have q2 := (HBW.out.cell (p := ⟨b, off + q * 3 + 2, none⟩) hbw).trans c2
      have hbx := (Below.refl wr.heap.size wr).alloc (Nat.le_refl _) (.cells #[.int .i64 bi, .int .i64 pr, .slice sA sn sc] 70)
      have HB3 : Hid (Below w.heap.size w (wr.alloc (.cells #[.int .i64 bi, .int .i64 pr, .slice sA sn sc] 70))) := Lib.hid (bt HBW.out hbx)
      have HK3 := Lib.hid (Blk.new wr 70 #[.int .i64 bi, .int .i64 pr, .slice sA sn sc])
      have HM3 := Lib.hid (HM.out.all hbx)
      have HIN := Lib.hid hin
      have hlen := hin.len
      dsimp only at hlen
      have HSN := Lib.hid hlen
      have HPS := Lib.hid (HPO.out q hlt3)
      have hqi : (q : Int) < (m : Int) := by omega
      clear he hin c0 c1 c2 hlen hown hfb2 hsq hsu hbx hlx
      go_wp2
      obtain ⟨gx, hgx⟩ : ∃ gx, wr.heap.size = gx := ⟨_, rfl⟩
      obtain ⟨w3, hw3⟩ : ∃ w3, wr.alloc (.cells #[.int .i64 bi, .int .i64 pr, .slice sA sn sc] 70) = w3 := ⟨_, rfl⟩
      rw [hw3] at HB3 HK3 HM3 ⊢
      rw [hgx] at HK3 ⊢
      have x0 := HK3.out.cell 0
      simp at x0
      clear hw3 hgx q0 q1 q2
      go_loop [15, 57] (fun v i => ∃ t : Nat, t ≤ sn ∧ i = .int .i64 (t : Int) ∧ v = .int .i64 (pr - costTo P lots t)) (fun _ i => sn - (intOf i).toNat)
      case atStart => exact ⟨0, by omega, rfl, by simp [costTo]⟩
      case round =>
        obtain ⟨t, ht, rfl, rfl⟩ := hrel
        have hct := costTo_ok HQ.out lots t
        by_cases hlt4 : t < sn
        · have htl : t < lots.length := by rw [HSN.out]; exact hlt4
          have hcs := costTo_succ (P := P) htl
          obtain ⟨b2, o2, hA2, -, hc2⟩ := (NIn.all HIN.out HB3.out).cell (k := t) hlt4
          dsimp only at hA2
          subst hA2
          have hxm := HLX.out _ (List.getElem_mem htl)
          obtain ⟨x, hx⟩ : ∃ x, lots[t]?.getD 0 = x := ⟨_, rfl⟩
          have hx' : lots[t] = x := by
            rw [List.getElem?_eq_getElem htl] at hx
            exact hx
          rw [hx'] at hxm
          rw [hx] at hc2 hcs
          obtain ⟨xn, rfl⟩ : ∃ xn : Nat, x = (xn : Int) := ⟨x.toNat, by omega⟩
          have hxj : xn < j := by omega
          obtain ⟨b3, o3, hA3, -, hc3⟩ := (NIn.all HP.out HB3.out).cell (k := xn) hxj
          dsimp only at hA3
          subst hA3
          have hpx := pri_at HQ.out xn
          have e1 : ((xn : Int)).toNat = xn := by omega
          rw [e1] at hcs
          obtain ⟨px, hpx2⟩ : ∃ px, P[xn]?.getD 0 = px := ⟨_, rfl⟩
          rw [hpx2] at hc3 hcs hpx
          obtain ⟨ct, hct2⟩ : ∃ ct, costTo P lots t = ct := ⟨_, rfl⟩
          rw [hct2] at hct hcs ⊢
          have HCS := Lib.hid hcs
          have ht8 : (t : Int) ≤ 8 := by omega
          have hxi : (xn : Int) < (j : Int) := by omega
          have hti : (t : Int) < (sn : Int) := by omega
          clear hcs hx hx' hpx2 hct2 e1 hxm htl
          go_wp2
          exact ⟨⟨t + 1, by omega, by go_num, by rw [HCS.out, Int.sub_sub]⟩, by simp [intOf]; omega⟩
        · obtain rfl : t = sn := by omega
          have hoe : pr - costTo P lots t = own := by rw [HOW.out, HSN.out]
          rw [hoe]
          have hlk := HM3.out.look bi
          rw [HFB.out] at hlk
          clear hoe hct
          by_cases hmore : fb < own
          · obtain ⟨w5, hst5, hm5, hg5, hz5⟩ := HM3.out.add bi own
            have HN2 : Hid (surF L D P (q + 1) = (fun y => if y = bi then own else (surF L D P q).1 y, sq + (own - fb))) := Lib.hid (by rw [HNX.out, if_pos ⟨HPS.out, hmore⟩])
            have HM4 : Hid (MapI w5 sm (surF L D P (q + 1)).1) := Lib.hid (by rw [HN2.out]; exact hm5)
            have HB5 : Hid (Below w.heap.size w w5) := Lib.hid (below_of_only HB3.out hg5 HB3.out.size hsw)
            have hmo : 0 < own - fb := by omega
            have hq10 : (q : Int) ≤ 10 := by omega
            clear hm5 hg5 hz5 HNX
            go_wp2
            exact ⟨⟨q + 1, by omega, by go_num, by rw [HN2.out]; go_num, HM4, HB5⟩, by simp [intOf]; omega⟩
          · have HN2 : Hid (surF L D P (q + 1) = surF L D P q) := Lib.hid (by rw [HNX.out, if_neg (fun h => hmore h.2)])
            have HM4 : Hid (MapI w3 sm (surF L D P (q + 1)).1) := Lib.hid (by rw [HN2.out]; exact HM3.out)
            have hmo : ¬ 0 < own - fb := by omega
            clear HNX
            go_wp2
            exact ⟨⟨q + 1, by omega, by go_num, by rw [HN2.out, HSQ.out], HM4, HB3⟩, by simp [intOf]; omega⟩
/-- A single leaf is accepted exactly if its bound is at most the value. -/
theorem leaf_check {n : Nat} {L : List Bd} {win P : List Int} {s : Sl} (hv : validE (n : Int) L = 0) (hf : feasB L win = true) (hp : priB P = true) (hn : P.length = n) :
    checkE (n : Int) L win (valueB L win) [⟨-1, 0, 0, s, P⟩] = if boundP L (List.replicate L.length 0) P ≤ valueB L win then 0 else 20 := by
  unfold checkE
  rw [if_pos hv, if_pos hf, if_neg (by simp)]
  have ht : treeB [⟨-1, 0, 0, s, P⟩] = true := rfl
  have hh : holdsF n L (valueB L win) [⟨-1, 0, 0, s, P⟩] 1 0 (List.replicate L.length 0) = decide (boundP L (List.replicate L.length 0) P ≤ valueB L win) := by
    show (if (-1 : Int) = -1 then _ else _) = _
    rw [if_pos rfl]
    show leafB n L (List.replicate L.length 0) (valueB L win) ⟨-1, 0, 0, s, P⟩ = _
    simp only [leafB]
    rw [hp, hn]
    simp
  have hpb : proofB (n : Int).toNat L win (valueB L win) [⟨-1, 0, 0, s, P⟩] = decide (boundP L (List.replicate L.length 0) P ≤ valueB L win) := by
    unfold proofB
    rw [Int.toNat_natCast, ht]
    show (decide _ && (true && holdsF n L (valueB L win) [⟨-1, 0, 0, s, P⟩] 1 0 (List.replicate L.length 0))) = _
    rw [hh]
    simp
  rw [hpb]
  by_cases h : boundP L (List.replicate L.length 0) P ≤ valueB L win
  · rw [if_pos h, decide_eq_true h, if_pos rfl]
  · rw [if_neg h, decide_eq_false h, if_neg (by simp)]
end Go.Proofs.Ytikfcpkobgejmaa

/- reference: Win returns a feasible choice. -/
namespace Go.Proofs.Ytikfcpkobgejmaa
open Go.RowKit

theorem feasGo_take {L : List Bd} : ∀ (C : List Int) (q : Nat) (last : Int) (seen : List Bd), feasGo L last seen C = true → feasGo L last seen (C.take q) = true
  | [], q, _, _, _ => by rw [List.take_nil]; rfl
  | i :: t, 0, _, _, _ => rfl
  | i :: t, q + 1, last, seen, h => by
    rw [List.take_succ_cons]
    simp only [feasGo] at h ⊢
    split at h
    · cases h
    · rename_i h1
      rw [if_neg h1]
      split at h
      · cases h
      · rename_i b hb
        split at h
        · cases h
        · rename_i h2
          rw [if_neg h2]
          exact feasGo_take t q i _ h
theorem feasB_take {L : List Bd} {C : List Int} (q : Nat) (h : feasB L C = true) : feasB L (C.take q) = true := feasGo_take C q _ _ h
theorem NIn.take {w : World} {B n c : Nat} {A : Option Addr} {xs : List Int} (h : NIn w B (A, n, c) xs) (q : Nat) (hq : q ≤ n) : NIn w B (A, q, c) (xs.take q) := by
  have hl := h.len
  have hc := h.cap
  dsimp only at hl hc
  refine ⟨by rw [List.length_take]; dsimp only; omega, by dsimp only; omega, h.max, fun h0 => ?_⟩
  obtain ⟨b, off, e, hb, hcell⟩ := h.rd (show 0 < n by dsimp only at h0; omega)
  refine ⟨b, off, e, hb, fun j hj => ?_⟩
  dsimp only at hj
  rw [hcell j (by dsimp only; omega)]
  simp [vInt, hj]
theorem td4_ok (x : Int) (h1 : -9223372036854775808 ≤ x) (h2 : x ≤ 9223372036854775807) : -9223372036854775808 ≤ x.tdiv 4 ∧ x.tdiv 4 ≤ 9223372036854775807 := by
  rcases Int.le_total 0 x with h | h
  · have := td_ok x 4 h (by omega)
    omega
  · obtain ⟨y, hy⟩ : ∃ y, -x = y := ⟨_, rfl⟩
    obtain rfl : x = -y := by omega
    have := td_ok y 4 (by omega) (by omega)
    rw [Int.neg_tdiv]
    omega
def WinPost (L : List Bd) (m : Nat) (w : World) (e : Ending) (w' : World) : Prop := ∃ A' k c' C, e = .returned (.slice A' k c') ∧ NIn w' w'.heap.size (A', k, c') C ∧ feasB L C = true ∧ k ≤ m ∧ Below w.heap.size w w'
set_option maxHeartbeats 4000000 in
theorem rwin_any (n : Nat) (A : Option Addr) (m c : Nat) (L : List Bd) (kk : Int) (w : World) (HL : Hid (Bds w (A, m, c) L)) (HV : Hid (validE (n : Int) L = 0)) (hk1 : -9223372036854775808 ≤ kk) (hk2 : kk ≤ 9223372036854775807) :
    Calls Try.prog 12 #[.int .i64 (n : Int), .slice A m c, .int .i64 kk] w (WinPost L m w) := by
  have hm : m ≤ 10 := by
    have := (valid_ok HV.out HL.out).2.2.1
    rw [HL.out.rows.len] at this
    exact this
  have HOK := Lib.hid (BidsOk.of_valid HV.out HL.out)
  have hk4 := td4_ok kk hk1 hk2
  go_enter Try.func12, Try.ntmps12
  go_wp2_with fail
  refine (rBest_any n A m c L w HL HV).mono ?_
  rintro e w2 ⟨A1, k1, c1, C1, rfl, h1, h2, h3, hb2⟩
  have HC1 := Lib.hid h1
  have HF1 := Lib.hid h2
  have HB2 := Lib.hid hb2
  obtain ⟨v, hv⟩ : ∃ v, valueB L C1 = v := ⟨_, rfl⟩
  rw [hv]
  clear h1 h2 hb2 hv
  go_wp2_with fail
  refine (around_nat kk 4 4 w2 (by rfl) hk1 hk2 (by omega) (by omega)).mono ?_
  rintro e w3 ⟨r, rfl, hr, -, rfl⟩
  have HW1 : Hid (WinPost L m w (.returned (.slice A1 k1 c1)) w2) := Lib.hid ⟨A1, k1, c1, C1, rfl, HC1.out, HF1.out, h3, HB2.out⟩
  obtain ⟨kq, hkq⟩ : ∃ q, kk.tdiv 4 = q := ⟨_, rfl⟩
  rw [hkq] at hk4
  clear hk1 hk2
  by_cases h0 : 0 < r
  · have h0i : (0 : Int) < (r : Int) := by omega
    go_wp2
    go_ret
    exact HW1.out
  have h0i : ¬ (0 : Int) < (r : Int) := by omega
  clear HW1
  go_wp2_with fail
  refine (around_nat kq 1024 1024 w2 (by rfl) hk4.1 hk4.2 (by omega) (by omega)).mono ?_
  rintro e w3 ⟨b, rfl, hb, -, rfl⟩
  go_wp2_with fail
  refine (choice_any (b : Int) m w2 (by omega) (by omega) (by omega)).mono ?_
  rintro e w4 ⟨A2, k2, c2, C2, rfl, hO2, hl2, hk2, hlb2, hb4⟩
  have HC2 := Lib.hid hO2.nin
  have HB4 := Lib.hid (bt HB2.out hb4)
  have HC14 := Lib.hid (NIn.all HC1.out hb4)
  clear hO2 hl2 hlb2 hb4 HC1 HB2
  go_wp2_with fail
  refine (rfeas_any A m c A2 k2 c2 L C2 w4 (Lib.hid (HL.out.all HB4.out)) HC2 (by omega) (Lib.hid (fun b hb => by have := (HOK.out b hb).2.2.1; omega))).mono ?_
  rintro e w5 ⟨rfl, hb5⟩
  have HB5 := Lib.hid (bt HB4.out hb5)
  have HC15 := Lib.hid (NIn.all HC14.out hb5)
  have HC25 := Lib.hid (NIn.all HC2.out hb5)
  clear hb5 HB4 HC14 HC2
  obtain ⟨fb, hfb⟩ : ∃ fb, feasB L C2 = fb := ⟨_, rfl⟩
  have HFF := Lib.hid hfb
  rw [hfb]
  clear hfb
  cases fb with
  | true =>
    have HW1 : Hid (WinPost L m w (.returned (.slice A2 k2 c2)) w5) := Lib.hid ⟨A2, k2, c2, C2, rfl, HC25.out, HFF.out, hk2, HB5.out⟩
    go_wp2
    go_ret
    exact HW1.out
  | false =>
    have HW1 : Hid (WinPost L m w (.returned (.slice A1 (k1 / 2) c1)) w5) := Lib.hid ⟨A1, k1 / 2, c1, C1.take (k1 / 2), rfl, NIn.take HC15.out _ (by omega), feasB_take _ HF1.out, by omega, HB5.out⟩
    have hcap := HC15.out.cap
    have hmax := HC15.out.max
    dsimp only at hcap hmax
    have htd : (k1 : Int).tdiv 2 = ((k1 / 2 : Nat) : Int) := by rw [Int.tdiv_eq_ediv_of_nonneg (by omega)]; rfl
    obtain ⟨kh, hkh⟩ : ∃ kh, k1 / 2 = kh := ⟨_, rfl⟩
    rw [hkh] at htd HW1
    have hkc : kh ≤ c1 := by omega
    have hkc2 : (kh : Int) ≤ (c1 : Int) := by omega
    clear hkh
    rcases A1 with _ | ⟨bA, oA, sp⟩
    · have h01 := NIn.none_ HC15.out rfl
      dsimp only at h01
      have hkh0 : kh = 0 := by
        rw [h01] at htd
        simp at htd
        omega
      clear htd
      subst h01 hkh0
      go_wp2
      go_ret
      exact HW1.out
    · go_wp2
      go_ret
      exact HW1.out
end Go.Proofs.Ytikfcpkobgejmaa

/- For every list of numbers worldmintlaw29.ProofLeaf returns true: a single leaf is accepted exactly if its bound is at most the value. No condition. -/
namespace Go.Proofs.Ytikfcpkobgejmaa
open Go.ChangeShapes Go.WideShapes Go.ChangeAt Go.RowKit Go.ChangeMaps


set_option maxRecDepth 100000 in
set_option maxHeartbeats 8000000 in
theorem ProofLeaf_walk (W : World) (a0 : Int) (ha0 : Hid ((Lit.int .i64 a0).wf = true)) (A1 : Option Addr) (n1 c1 : Nat) (f1 : Nat → Int) (_hA1 : A1 = none → n1 = 0) (_hn1 : n1 ≤ c1) (_hc1 : c1 ≤ 9223372036854775807) (hR1 : Rd W W.heap.size A1 n1 (fun j => .int .i64 (f1 j))) (hw1 : Hid (∀ j, j < n1 → (Lit.int .i64 (f1 j)).wf = true)) (A2 : Option Addr) (n2 c2 : Nat) (f2 : Nat → Int) (_hA2 : A2 = none → n2 = 0) (_hn2 : n2 ≤ c2) (_hc2 : c2 ≤ 9223372036854775807) (hR2 : Rd W W.heap.size A2 n2 (fun j => .int .i64 (f2 j))) (hw2 : Hid (∀ j, j < n2 → (Lit.int .i64 (f2 j)).wf = true)) (a3 : Int) (ha3 : Hid ((Lit.int .i64 a3).wf = true)) :
    Calls Try.prog 5 #[.int .i64 a0, .slice A1 n1 c1, .slice A2 n2 c2, .int .i64 a3] W fun e w' => e = .returned (.bool true) ∧ Below W.heap.size W w' := by
  obtain ⟨p00, p01⟩ := wf_i64 ha0.out
  obtain ⟨p30, p31⟩ := wf_i64 ha3.out
  have HR1 := Lib.hid hR1
  have HR2 := Lib.hid hR2
  have HW1 : Hid (∀ j, j < n1 → -9223372036854775808 ≤ f1 j ∧ f1 j ≤ 9223372036854775807) := Lib.hid (fun j hj => wf_i64 (hw1.out j hj))
  have HW2 : Hid (∀ j, j < n2 → -9223372036854775808 ≤ f2 j ∧ f2 j ≤ 9223372036854775807) := Lib.hid (fun j hj => wf_i64 (hw2.out j hj))
  clear hR1 hR2 hw1 hw2 ha0 ha3
  go_enter Try.func5, Try.ntmps5
  go_wp2_with fail
  refine (lots27_any a0 W p00 p01).mono ?_
  rintro e w1 ⟨k, rfl, hk1, hk8, rfl⟩
  go_wp2_with fail
  refine (bids_any k A1 n1 c1 f1 8 8 (by rfl) W hk1 hk8 (by omega) HR1.out HW1).mono ?_
  rintro e w2 ⟨Aa, ca, La, rfl, hla, hoa, hOa, hva, hb2⟩
  have HBA2 : Hid (Bds w2 (Aa, La.length, ca) La) := Lib.hid (Bds.of_own hoa (fun b hb => (hOa b hb).ok))
  have HVA : Hid (validE (k : Int) La = 0) := Lib.hid (by
    unfold validE
    rw [if_neg (by omega), if_neg (by omega)]
    exact hva)
  have HOK := Lib.hid (BidsOk.of_valid HVA.out HBA2.out)
  obtain ⟨m, hm⟩ : ∃ m, La.length = m := ⟨_, rfl⟩
  have HLam := Lib.hid hm
  rw [hm] at HBA2 hla ⊢
  have HB2 := Lib.hid hb2
  clear hoa hOa hva hb2 hm
  go_wp2_with fail
  refine (given_any Aa m ca La w2 HBA2 (by omega)).mono ?_
  rintro e w3 ⟨Ag, cg, rfl, hog, hb3⟩
  rw [HLam.out] at hog ⊢
  have HG3 : Hid (Bds w3 (Ag, m, cg) La) := Lib.hid (Bds.of_own hog (fun b hb => (HBA2.out.ok b hb).all hb3))
  have HBA3 := Lib.hid (HBA2.out.all hb3)
  have HB3 := Lib.hid (bt HB2.out hb3)
  clear hog hb3 HBA2 HB2
  go_wp2_with fail
  refine (rwin_any k Aa m ca La a3 w3 HBA3 HVA p30 p31).mono ?_
  rintro e w4 ⟨Aw, nw, cw, win, rfl, hW4, hfe, hnw, hb4⟩
  have HW4 := Lib.hid hW4
  have HFE := Lib.hid hfe
  have HG4 := Lib.hid (HG3.out.all hb4)
  have HB4 := Lib.hid (bt HB3.out hb4)
  clear hW4 hfe hb4 HBA3 HB3 HG3
  go_wp2_with fail
  refine (lots28_any k A2 n2 c2 f2 w4 hk8 (HR2.out.all HB4.out) HW2).mono ?_
  rintro e w5 ⟨Ap, cp, P, rfl, hoP, hlP, hxP, hb5⟩
  have HP5 := Lib.hid hoP.nin
  have HG5 := Lib.hid (HG4.out.all hb5)
  have HW5 := Lib.hid (NIn.all HW4.out hb5)
  have HB5 := Lib.hid (bt HB4.out hb5)
  have HPR : Hid (priB P = true) := Lib.hid (by
    unfold priB
    rw [List.all_eq_true]
    intro x hx
    have := hxP x hx
    simp
    omega)
  have HPL := Lib.hid hlP
  clear hoP hlP hxP hb5 HG4 HW4 HB4
  go_wp2_with fail
  refine (cbound_any k Ag m cg Ap k cp La P w5 HG5 HP5 HVA rfl (by omega) hk8 HOK (Lib.hid (priB_ok HPR.out))).mono ?_
  rintro e w6 ⟨rfl, hb6⟩
  have HG6 := Lib.hid (HG5.out.all hb6)
  have HW6 := Lib.hid (NIn.all HW5.out hb6)
  have HP6 := Lib.hid (NIn.all HP5.out hb6)
  have HB6 := Lib.hid (bt HB5.out hb6)
  have hcz := leaf_check (s := (Ap, k, cp)) HVA.out HFE.out HPR.out HPL.out
  have HVL := Lib.hid (value_any (Ag, m, cg) (Aw, nw, cw) La win w6 HG6 HW6 (Lib.hid HOK.out.prices) (by dsimp only; omega))
  unfold slV at HVL
  dsimp only at HVL
  obtain ⟨v, hv⟩ : ∃ v, valueB La win = v := ⟨_, rfl⟩
  obtain ⟨bv, hbv⟩ : ∃ b, boundP La (List.replicate La.length 0) P = b := ⟨_, rfl⟩
  rw [hv, hbv] at hcz
  rw [hv] at HVL
  rw [hbv]
  have HC0 := Lib.hid hcz
  clear hcz hv hbv hb6 HG5 HW5 HP5 HB5
  go_wp2_with (go_at_call 26; (with_reducible refine HVL.out.mono ?_); rintro e w7 ⟨rfl, rfl⟩)
  obtain ⟨gm, hgm⟩ : ∃ gm, w6.heap.size = gm := ⟨_, rfl⟩
  obtain ⟨w8, hw8⟩ : ∃ w8, (w6.alloc (.cells #[.int .i64 (-1), .int .i64 0, .int .i64 0, .slice Ap k cp] 55)).alloc (.cells #[.int .i64 v, .slice (some ⟨gm, 0, none⟩) 1 1] 44) = w8 := ⟨_, rfl⟩
  have hkm : Blk w8 gm 55 #[.int .i64 (-1), .int .i64 0, .int .i64 0, .slice Ap k cp] := by
    rw [← hw8, ← hgm]
    exact Blk.alloc (Blk.new _ _ _) _
  have HKQ : Hid (Blk w8 (gm + 1) 44 #[.int .i64 v, .slice (some ⟨gm, 0, none⟩) 1 1]) := Lib.hid (by
    rw [← hw8]
    exact Blk.new' _ _ _ (by rw [World.size_alloc, hgm]))
  have hb8 : Below w6.heap.size w6 w8 := by
    rw [← hw8]
    exact ((Below.refl _ _).alloc (Nat.le_refl _) _).alloc (by simp) _
  have HNM : Hid (Nds w8 (some ⟨gm, 0, none⟩, 1, 1) [⟨-1, 0, 0, (Ap, k, cp), P⟩]) := Lib.hid ⟨Rows.of_blk hkm Nd.cells_length rfl rfl (by decide), fun b hb => by
    rw [List.mem_singleton] at hb
    subst hb
    exact NIn.all HP6.out hb8⟩
  have HG := Lib.hid (HG6.out.all hb8)
  have HW := Lib.hid (NIn.all HW6.out hb8)
  have HB8 := Lib.hid (bt HB6.out hb8)
  rw [hgm]
  rw [hw8]
  obtain ⟨gq, hgq⟩ : ∃ gq, gm + 1 = gq := ⟨_, rfl⟩
  rw [hgq] at HKQ ⊢
  clear hgm hw8 hkm hb8 HP6 HG6 HW6 HB6 HVL hgq
  have hS10 : Below w8.heap.size w8 w8.drew := below_drewN (Below.refl _ _) 1
  obtain ⟨ck, hck⟩ : ∃ ck, checkE (k : Int) La win v [⟨-1, 0, 0, (Ap, k, cp), P⟩] = ck := ⟨_, rfl⟩
  have HCZ := Lib.hid hck
  rw [hck] at HC0
  clear hck
  by_cases hle : bv ≤ v
  · have hc0 : ck = 0 := by rw [HC0.out, if_pos hle]
    subst hc0
    refine wp_region_held_drew (S := (fun w' => w'.cell? ⟨gq, 0, none⟩ = some (.int .i64 v) ∧ w'.cell? ⟨gq, 1, none⟩ = some (.slice (some ⟨gm, 0, none⟩) 1 1))) (by kernel_rfl) ⟨(HKQ.out.all hS10).cell 0, (HKQ.out.all hS10).cell 1⟩ (fun hHeld => ?_)
    refine takeH 0 (some 45) (v := ?_) (by rfl) (by rfl) (by kernel_rfl) (by kernel_rfl) (by kernel_rfl) (fun _ _ _ h => h) ?_ (by assumption) ?_
    rotate_left
    · (intro o ho w hSw; obtain ⟨z0, z1⟩ := hSw; cases ho; go_simp; try with_reducible rfl)
    try simp only [Act.put, List.setIfInBounds_toArray, List.set_cons_zero, List.set_cons_succ]
    refine takeH 1 (some 46) (v := ?_) (by rfl) (by rfl) (by kernel_rfl) (by kernel_rfl) (by kernel_rfl) (fun _ _ _ h => h) ?_ (by assumption) ?_
    rotate_left
    · (intro o ho w hSw; obtain ⟨z0, z1⟩ := hSw; cases ho; go_simp; try with_reducible rfl)
    try simp only [Act.put, List.setIfInBounds_toArray, List.set_cons_zero, List.set_cons_succ]
    refine takeH 2 (some 47) (v := ?_) (by rfl) (by rfl) (by kernel_rfl) (by kernel_rfl) (by kernel_rfl) (fun _ _ _ h => h) ?_ (by assumption) ?_
    rotate_left
    · (intro o ho w hSw; obtain ⟨z0, z1⟩ := hSw; cases ho; go_simp; try with_reducible rfl)
    try simp only [Act.put, List.setIfInBounds_toArray, List.set_cons_zero, List.set_cons_succ]
    first
    | refine skipH 3 (some 48) (by rfl) (by rfl) (by kernel_rfl) (by kernel_rfl) (by kernel_rfl) (fun _ _ _ h => h) (by assumption) ?_
    | refine takeH 3 (some 48) (v := ?_) (by rfl) (by rfl) (by kernel_rfl) (by kernel_rfl) (by kernel_rfl) (fun _ _ _ h => h) ?_ (by assumption) ?_
      rotate_left
      · (intro o ho w hSw; obtain ⟨z0, z1⟩ := hSw; cases ho; go_simp; try with_reducible rfl)
    try simp only [Act.put, List.setIfInBounds_toArray, List.set_cons_zero, List.set_cons_succ]
    first
    | refine skipH 4 (some 49) (by rfl) (by rfl) (by kernel_rfl) (by kernel_rfl) (by kernel_rfl) (fun _ _ _ h => h) (by assumption) ?_
    | refine takeH 4 (some 49) (v := ?_) (by rfl) (by rfl) (by kernel_rfl) (by kernel_rfl) (by kernel_rfl) (fun _ _ _ h => h) ?_ (by assumption) ?_
      rotate_left
      · (intro o ho w hSw; obtain ⟨z0, z1⟩ := hSw; cases ho; go_simp; try with_reducible rfl)
    try simp only [Act.put, List.setIfInBounds_toArray, List.set_cons_zero, List.set_cons_succ]
    first
    | refine skipH 5 (some 50) (by rfl) (by rfl) (by kernel_rfl) (by kernel_rfl) (by kernel_rfl) (fun _ _ _ h => h) (by assumption) ?_
    | refine takeH 5 (some 50) (v := ?_) (by rfl) (by rfl) (by kernel_rfl) (by kernel_rfl) (by kernel_rfl) (fun _ _ _ h => h) ?_ (by assumption) ?_
      rotate_left
      · (intro o ho w hSw; obtain ⟨z0, z1⟩ := hSw; cases ho; go_simp; try with_reducible rfl)
    try simp only [Act.put, List.setIfInBounds_toArray, List.set_cons_zero, List.set_cons_succ]
    first
    | refine skipH 6 (some 51) (by rfl) (by rfl) (by kernel_rfl) (by kernel_rfl) (by kernel_rfl) (fun _ _ _ h => h) (by assumption) ?_
    | refine takeH 6 (some 51) (v := ?_) (by rfl) (by rfl) (by kernel_rfl) (by kernel_rfl) (by kernel_rfl) (fun _ _ _ h => h) ?_ (by assumption) ?_
      rotate_left
      · (intro o ho w hSw; obtain ⟨z0, z1⟩ := hSw; cases ho; go_simp; try with_reducible rfl)
    try simp only [Act.put, List.setIfInBounds_toArray, List.set_cons_zero, List.set_cons_succ]
    first
    | refine skipH 9 (some 54) (by rfl) (by rfl) (by kernel_rfl) (by kernel_rfl) (by kernel_rfl) (fun _ _ _ h => h) (by assumption) ?_
    | refine takeH 9 (some 54) (v := ?_) (by rfl) (by rfl) (by kernel_rfl) (by kernel_rfl) (by kernel_rfl) (fun _ _ _ h => h) ?_ (by assumption) ?_
      rotate_left
      · (intro o ho w hSw; obtain ⟨z0, z1⟩ := hSw; cases ho; go_simp; try with_reducible rfl)
    try simp only [Act.put, List.setIfInBounds_toArray, List.set_cons_zero, List.set_cons_succ]
    first
    | refine skipH 10 (some 55) (by rfl) (by rfl) (by kernel_rfl) (by kernel_rfl) (by kernel_rfl) (fun _ _ _ h => h) (by assumption) ?_
    | refine takeH 10 (some 55) (v := ?_) (by rfl) (by rfl) (by kernel_rfl) (by kernel_rfl) (by kernel_rfl) (fun _ _ _ h => h) ?_ (by assumption) ?_
      rotate_left
      · (intro o ho w hSw; obtain ⟨z0, z1⟩ := hSw; cases ho; go_simp; try with_reducible rfl)
    try simp only [Act.put, List.setIfInBounds_toArray, List.set_cons_zero, List.set_cons_succ]
    first
    | refine skipH 11 (some 56) (by rfl) (by rfl) (by kernel_rfl) (by kernel_rfl) (by kernel_rfl) (fun _ _ _ h => h) (by assumption) ?_
    | refine takeH 11 (some 56) (v := ?_) (by rfl) (by rfl) (by kernel_rfl) (by kernel_rfl) (by kernel_rfl) (fun _ _ _ h => h) ?_ (by assumption) ?_
      rotate_left
      · (intro o ho w hSw; obtain ⟨z0, z1⟩ := hSw; cases ho; go_simp; try with_reducible rfl)
    try simp only [Act.put, List.setIfInBounds_toArray, List.set_cons_zero, List.set_cons_succ]
    first
    | refine skipH 12 (some 57) (by rfl) (by rfl) (by kernel_rfl) (by kernel_rfl) (by kernel_rfl) (fun _ _ _ h => h) (by assumption) ?_
    | refine takeH 12 (some 57) (v := .bool true) (by rfl) (by rfl) (by kernel_rfl) (by kernel_rfl) (by kernel_rfl) (fun _ _ _ h => h) ?_ (by assumption) ?_
      skip
      · (intro o ho w hSw; obtain ⟨z0, z1⟩ := hSw; cases ho; go_simp; try with_reducible rfl)
    try simp only [Act.put, List.setIfInBounds_toArray, List.set_cons_zero, List.set_cons_succ]
    refine wpAnyH_ready (rs := [7]) (by kernel_rfl) (by simp) ?_
    refine AllReadyH.cons rfl (fun K hK => ?_) AllReadyH.nil
    go_simp
    go_at_call 18
    (refine (check_any (k : Int) Ag m cg Aw nw cw v (some ⟨gm, 0, none⟩) 1 1 La win [⟨-1, 0, 0, (Ap, k, cp), P⟩] _ (Lib.hid (HG.out.all hS10)) (Lib.hid (NIn.all HW.out hS10)) (Lib.hid (HNM.out.all hS10)) (by omega)).mono ?_)
    rw [HCZ.out]
    rintro e w11 ⟨rfl, hb11⟩
    have hS11 := bt hS10 hb11
    clear hb11
    go_wp2
    refine hK.out _ _ ?_ (fun hh7 => ?_)
    · exact ⟨(HKQ.out.all hS11).cell 0, (HKQ.out.all hS11).cell 1⟩
    clear hK K
    try simp only [Act.put, List.setIfInBounds_toArray, List.set_cons_zero, List.set_cons_succ]
    first
    | refine skipH 8 (some 53) (by rfl) (by rfl) (by kernel_rfl) (by kernel_rfl) (by kernel_rfl) (fun _ _ _ h => h) (by assumption) ?_
    | refine takeH 8 (some 53) (v := .bool true) (by rfl) (by rfl) (by kernel_rfl) (by kernel_rfl) (by kernel_rfl) (fun _ _ _ h => h) ?_ (by assumption) ?_
      skip
      · (intro o ho w hSw; obtain ⟨z0, z1⟩ := hSw; cases ho; go_simp; try with_reducible rfl)
    try simp only [Act.put, List.setIfInBounds_toArray, List.set_cons_zero, List.set_cons_succ]
    first
    | refine skipH 13 (some 58) (by rfl) (by rfl) (by kernel_rfl) (by kernel_rfl) (by kernel_rfl) (fun _ _ _ h => h) (by assumption) ?_
    | refine takeH 13 (some 58) (v := .bool true) (by rfl) (by rfl) (by kernel_rfl) (by kernel_rfl) (by kernel_rfl) (fun _ _ _ h => h) ?_ (by assumption) ?_
      skip
      · (intro o ho w hSw; obtain ⟨z0, z1⟩ := hSw; cases ho; go_simp; try with_reducible rfl)
    try simp only [Act.put, List.setIfInBounds_toArray, List.set_cons_zero, List.set_cons_succ]
    refine takeH 14 (some 59) (v := ?_) (by rfl) (by rfl) (by kernel_rfl) (by kernel_rfl) (by kernel_rfl) (fun _ _ _ h => h) ?_ (by assumption) ?_
    rotate_left
    · (intro o ho w hSw; obtain ⟨z0, z1⟩ := hSw; cases ho; go_simp; try with_reducible rfl)
    try simp only [Act.put, List.setIfInBounds_toArray, List.set_cons_zero, List.set_cons_succ]
    refine takeH 15 (some 60) (v := ?_) (by rfl) (by rfl) (by kernel_rfl) (by kernel_rfl) (by kernel_rfl) (fun _ _ _ h => h) ?_ (by assumption) ?_
    rotate_left
    · (intro o ho w hSw; obtain ⟨z0, z1⟩ := hSw; cases ho; go_simp; try with_reducible rfl)
    try simp only [Act.put, List.setIfInBounds_toArray, List.set_cons_zero, List.set_cons_succ]
    refine wpAnyH_ready (rs := [16]) (by kernel_rfl) (by simp) ?_
    refine AllReadyH.cons rfl (fun K hK => ?_) AllReadyH.nil
    go_simp
    go_at_call 22
    (refine (lives_any _).mono ?_)
    rintro e w12 ⟨rfl, hb12⟩
    have hS12 := bt hS11 hb12
    clear hb12
    go_wp2
    refine hK.out _ _ ?_ (fun hh16 => ?_)
    · exact ⟨(HKQ.out.all hS12).cell 0, (HKQ.out.all hS12).cell 1⟩
    clear hK K
    try simp only [Act.put, List.setIfInBounds_toArray, List.set_cons_zero, List.set_cons_succ]
    refine takeH 17 (some 62) (v := ?_) (by rfl) (by rfl) (by kernel_rfl) (by kernel_rfl) (by kernel_rfl) (fun _ _ _ h => h) ?_ (by assumption) ?_
    rotate_left
    · (intro o ho w hSw; obtain ⟨z0, z1⟩ := hSw; cases ho; go_simp; try with_reducible rfl)
    try simp only [Act.put, List.setIfInBounds_toArray, List.set_cons_zero, List.set_cons_succ]
    refine takeH 18 (some 8) (v := ?_) (by rfl) (by rfl) (by kernel_rfl) (by kernel_rfl) (by kernel_rfl) (fun _ _ _ h => h) ?_ (by assumption) ?_
    rotate_left
    · (intro o ho w hSw; obtain ⟨z0, z1⟩ := hSw; cases ho; go_simp; try with_reducible rfl)
    try simp only [Act.put, List.setIfInBounds_toArray, List.set_cons_zero, List.set_cons_succ]
    refine wpAnyH_done (by kernel_rfl) ?_ _
    have HEND := Lib.hid (bt HB8.out hS12)
    clear hS10 hS11 hS12 hh7 hh16 hHeld
    go_wp2
    go_ret
    exact ⟨rfl, HEND.out⟩
  · have hc0 : ck = 20 := by rw [HC0.out, if_neg hle]
    subst hc0
    refine wp_region_held_drew (S := (fun w' => w'.cell? ⟨gq, 0, none⟩ = some (.int .i64 v) ∧ w'.cell? ⟨gq, 1, none⟩ = some (.slice (some ⟨gm, 0, none⟩) 1 1))) (by kernel_rfl) ⟨(HKQ.out.all hS10).cell 0, (HKQ.out.all hS10).cell 1⟩ (fun hHeld => ?_)
    refine takeH 0 (some 45) (v := ?_) (by rfl) (by rfl) (by kernel_rfl) (by kernel_rfl) (by kernel_rfl) (fun _ _ _ h => h) ?_ (by assumption) ?_
    rotate_left
    · (intro o ho w hSw; obtain ⟨z0, z1⟩ := hSw; cases ho; go_simp; try with_reducible rfl)
    try simp only [Act.put, List.setIfInBounds_toArray, List.set_cons_zero, List.set_cons_succ]
    refine takeH 1 (some 46) (v := ?_) (by rfl) (by rfl) (by kernel_rfl) (by kernel_rfl) (by kernel_rfl) (fun _ _ _ h => h) ?_ (by assumption) ?_
    rotate_left
    · (intro o ho w hSw; obtain ⟨z0, z1⟩ := hSw; cases ho; go_simp; try with_reducible rfl)
    try simp only [Act.put, List.setIfInBounds_toArray, List.set_cons_zero, List.set_cons_succ]
    refine takeH 2 (some 47) (v := ?_) (by rfl) (by rfl) (by kernel_rfl) (by kernel_rfl) (by kernel_rfl) (fun _ _ _ h => h) ?_ (by assumption) ?_
    rotate_left
    · (intro o ho w hSw; obtain ⟨z0, z1⟩ := hSw; cases ho; go_simp; try with_reducible rfl)
    try simp only [Act.put, List.setIfInBounds_toArray, List.set_cons_zero, List.set_cons_succ]
    first
    | refine skipH 3 (some 48) (by rfl) (by rfl) (by kernel_rfl) (by kernel_rfl) (by kernel_rfl) (fun _ _ _ h => h) (by assumption) ?_
    | refine takeH 3 (some 48) (v := ?_) (by rfl) (by rfl) (by kernel_rfl) (by kernel_rfl) (by kernel_rfl) (fun _ _ _ h => h) ?_ (by assumption) ?_
      rotate_left
      · (intro o ho w hSw; obtain ⟨z0, z1⟩ := hSw; cases ho; go_simp; try with_reducible rfl)
    try simp only [Act.put, List.setIfInBounds_toArray, List.set_cons_zero, List.set_cons_succ]
    first
    | refine skipH 4 (some 49) (by rfl) (by rfl) (by kernel_rfl) (by kernel_rfl) (by kernel_rfl) (fun _ _ _ h => h) (by assumption) ?_
    | refine takeH 4 (some 49) (v := ?_) (by rfl) (by rfl) (by kernel_rfl) (by kernel_rfl) (by kernel_rfl) (fun _ _ _ h => h) ?_ (by assumption) ?_
      rotate_left
      · (intro o ho w hSw; obtain ⟨z0, z1⟩ := hSw; cases ho; go_simp; try with_reducible rfl)
    try simp only [Act.put, List.setIfInBounds_toArray, List.set_cons_zero, List.set_cons_succ]
    first
    | refine skipH 5 (some 50) (by rfl) (by rfl) (by kernel_rfl) (by kernel_rfl) (by kernel_rfl) (fun _ _ _ h => h) (by assumption) ?_
    | refine takeH 5 (some 50) (v := ?_) (by rfl) (by rfl) (by kernel_rfl) (by kernel_rfl) (by kernel_rfl) (fun _ _ _ h => h) ?_ (by assumption) ?_
      rotate_left
      · (intro o ho w hSw; obtain ⟨z0, z1⟩ := hSw; cases ho; go_simp; try with_reducible rfl)
    try simp only [Act.put, List.setIfInBounds_toArray, List.set_cons_zero, List.set_cons_succ]
    first
    | refine skipH 6 (some 51) (by rfl) (by rfl) (by kernel_rfl) (by kernel_rfl) (by kernel_rfl) (fun _ _ _ h => h) (by assumption) ?_
    | refine takeH 6 (some 51) (v := ?_) (by rfl) (by rfl) (by kernel_rfl) (by kernel_rfl) (by kernel_rfl) (fun _ _ _ h => h) ?_ (by assumption) ?_
      rotate_left
      · (intro o ho w hSw; obtain ⟨z0, z1⟩ := hSw; cases ho; go_simp; try with_reducible rfl)
    try simp only [Act.put, List.setIfInBounds_toArray, List.set_cons_zero, List.set_cons_succ]
    first
    | refine skipH 9 (some 54) (by rfl) (by rfl) (by kernel_rfl) (by kernel_rfl) (by kernel_rfl) (fun _ _ _ h => h) (by assumption) ?_
    | refine takeH 9 (some 54) (v := ?_) (by rfl) (by rfl) (by kernel_rfl) (by kernel_rfl) (by kernel_rfl) (fun _ _ _ h => h) ?_ (by assumption) ?_
      rotate_left
      · (intro o ho w hSw; obtain ⟨z0, z1⟩ := hSw; cases ho; go_simp; try with_reducible rfl)
    try simp only [Act.put, List.setIfInBounds_toArray, List.set_cons_zero, List.set_cons_succ]
    first
    | refine skipH 10 (some 55) (by rfl) (by rfl) (by kernel_rfl) (by kernel_rfl) (by kernel_rfl) (fun _ _ _ h => h) (by assumption) ?_
    | refine takeH 10 (some 55) (v := ?_) (by rfl) (by rfl) (by kernel_rfl) (by kernel_rfl) (by kernel_rfl) (fun _ _ _ h => h) ?_ (by assumption) ?_
      rotate_left
      · (intro o ho w hSw; obtain ⟨z0, z1⟩ := hSw; cases ho; go_simp; try with_reducible rfl)
    try simp only [Act.put, List.setIfInBounds_toArray, List.set_cons_zero, List.set_cons_succ]
    first
    | refine skipH 11 (some 56) (by rfl) (by rfl) (by kernel_rfl) (by kernel_rfl) (by kernel_rfl) (fun _ _ _ h => h) (by assumption) ?_
    | refine takeH 11 (some 56) (v := ?_) (by rfl) (by rfl) (by kernel_rfl) (by kernel_rfl) (by kernel_rfl) (fun _ _ _ h => h) ?_ (by assumption) ?_
      rotate_left
      · (intro o ho w hSw; obtain ⟨z0, z1⟩ := hSw; cases ho; go_simp; try with_reducible rfl)
    try simp only [Act.put, List.setIfInBounds_toArray, List.set_cons_zero, List.set_cons_succ]
    first
    | refine skipH 12 (some 57) (by rfl) (by rfl) (by kernel_rfl) (by kernel_rfl) (by kernel_rfl) (fun _ _ _ h => h) (by assumption) ?_
    | refine takeH 12 (some 57) (v := .bool false) (by rfl) (by rfl) (by kernel_rfl) (by kernel_rfl) (by kernel_rfl) (fun _ _ _ h => h) ?_ (by assumption) ?_
      skip
      · (intro o ho w hSw; obtain ⟨z0, z1⟩ := hSw; cases ho; go_simp; try with_reducible rfl)
    try simp only [Act.put, List.setIfInBounds_toArray, List.set_cons_zero, List.set_cons_succ]
    refine wpAnyH_ready (rs := [7]) (by kernel_rfl) (by simp) ?_
    refine AllReadyH.cons rfl (fun K hK => ?_) AllReadyH.nil
    go_simp
    go_at_call 18
    (refine (check_any (k : Int) Ag m cg Aw nw cw v (some ⟨gm, 0, none⟩) 1 1 La win [⟨-1, 0, 0, (Ap, k, cp), P⟩] _ (Lib.hid (HG.out.all hS10)) (Lib.hid (NIn.all HW.out hS10)) (Lib.hid (HNM.out.all hS10)) (by omega)).mono ?_)
    rw [HCZ.out]
    rintro e w11 ⟨rfl, hb11⟩
    have hS11 := bt hS10 hb11
    clear hb11
    go_wp2
    refine hK.out _ _ ?_ (fun hh7 => ?_)
    · exact ⟨(HKQ.out.all hS11).cell 0, (HKQ.out.all hS11).cell 1⟩
    clear hK K
    try simp only [Act.put, List.setIfInBounds_toArray, List.set_cons_zero, List.set_cons_succ]
    first
    | refine skipH 8 (some 53) (by rfl) (by rfl) (by kernel_rfl) (by kernel_rfl) (by kernel_rfl) (fun _ _ _ h => h) (by assumption) ?_
    | refine takeH 8 (some 53) (v := .bool false) (by rfl) (by rfl) (by kernel_rfl) (by kernel_rfl) (by kernel_rfl) (fun _ _ _ h => h) ?_ (by assumption) ?_
      skip
      · (intro o ho w hSw; obtain ⟨z0, z1⟩ := hSw; cases ho; go_simp; try with_reducible rfl)
    try simp only [Act.put, List.setIfInBounds_toArray, List.set_cons_zero, List.set_cons_succ]
    first
    | refine skipH 13 (some 58) (by rfl) (by rfl) (by kernel_rfl) (by kernel_rfl) (by kernel_rfl) (fun _ _ _ h => h) (by assumption) ?_
    | refine takeH 13 (some 58) (v := .bool true) (by rfl) (by rfl) (by kernel_rfl) (by kernel_rfl) (by kernel_rfl) (fun _ _ _ h => h) ?_ (by assumption) ?_
      skip
      · (intro o ho w hSw; obtain ⟨z0, z1⟩ := hSw; cases ho; go_simp; try with_reducible rfl)
    try simp only [Act.put, List.setIfInBounds_toArray, List.set_cons_zero, List.set_cons_succ]
    refine takeH 14 (some 59) (v := ?_) (by rfl) (by rfl) (by kernel_rfl) (by kernel_rfl) (by kernel_rfl) (fun _ _ _ h => h) ?_ (by assumption) ?_
    rotate_left
    · (intro o ho w hSw; obtain ⟨z0, z1⟩ := hSw; cases ho; go_simp; try with_reducible rfl)
    try simp only [Act.put, List.setIfInBounds_toArray, List.set_cons_zero, List.set_cons_succ]
    refine takeH 15 (some 60) (v := ?_) (by rfl) (by rfl) (by kernel_rfl) (by kernel_rfl) (by kernel_rfl) (fun _ _ _ h => h) ?_ (by assumption) ?_
    rotate_left
    · (intro o ho w hSw; obtain ⟨z0, z1⟩ := hSw; cases ho; go_simp; try with_reducible rfl)
    try simp only [Act.put, List.setIfInBounds_toArray, List.set_cons_zero, List.set_cons_succ]
    refine wpAnyH_ready (rs := [16]) (by kernel_rfl) (by simp) ?_
    refine AllReadyH.cons rfl (fun K hK => ?_) AllReadyH.nil
    go_simp
    go_at_call 22
    (refine (lives_any _).mono ?_)
    rintro e w12 ⟨rfl, hb12⟩
    have hS12 := bt hS11 hb12
    clear hb12
    go_wp2
    refine hK.out _ _ ?_ (fun hh16 => ?_)
    · exact ⟨(HKQ.out.all hS12).cell 0, (HKQ.out.all hS12).cell 1⟩
    clear hK K
    try simp only [Act.put, List.setIfInBounds_toArray, List.set_cons_zero, List.set_cons_succ]
    refine takeH 17 (some 62) (v := ?_) (by rfl) (by rfl) (by kernel_rfl) (by kernel_rfl) (by kernel_rfl) (fun _ _ _ h => h) ?_ (by assumption) ?_
    rotate_left
    · (intro o ho w hSw; obtain ⟨z0, z1⟩ := hSw; cases ho; go_simp; try with_reducible rfl)
    try simp only [Act.put, List.setIfInBounds_toArray, List.set_cons_zero, List.set_cons_succ]
    refine takeH 18 (some 8) (v := ?_) (by rfl) (by rfl) (by kernel_rfl) (by kernel_rfl) (by kernel_rfl) (fun _ _ _ h => h) ?_ (by assumption) ?_
    rotate_left
    · (intro o ho w hSw; obtain ⟨z0, z1⟩ := hSw; cases ho; go_simp; try with_reducible rfl)
    try simp only [Act.put, List.setIfInBounds_toArray, List.set_cons_zero, List.set_cons_succ]
    refine wpAnyH_done (by kernel_rfl) ?_ _
    have HEND := Lib.hid (bt HB8.out hS12)
    clear hS10 hS11 hS12 hh7 hh16 hHeld
    go_wp2
    go_ret
    exact ⟨rfl, HEND.out⟩

set_option maxRecDepth 100000 in
theorem ProofLeaf_lifted (os : Os) (started : os.Started) (H : Type) (enc : TypeId × Value → H) :
    ReturnsInHanded {} Try.checked os 5 .any (Rows.proofLeafSpec.pre6 enc Try.prog Try.f5 Rows.proofLeafRow.domain false) (Rows.proofLeafSpec.post enc Try.prog Try.f5 false true false false) := by
  refine returnsInHanded_of_change (C := Try.checked) Try.own started (by kernel_rfl) Try.func5
    (ChangeSpec.witness6 (enc := enc) (C := Try.checked) false ⟨#[], #[.int .i64 0, .slice none 0 0, .slice none 0 0, .int .i64 0], []⟩ 8 (by kernel_rfl) (by kernel_rfl) (by kernel_rfl) (by kernel_rfl)) ?_
  intro W base args ds gs before hval0 hW _ _
  have hval : ∀ (j : Nat) t v, Try.f5.params[j]? = some t → args[j]? = some v → Value.okWide Try.prog W .any base t v := hval0
  have hW' := hW
  obtain ⟨p, q, hT0, hV, rfl, hfz, hnd⟩ := hW
  have hT : DataW.TrodAll enc Try.prog W 0 (fun _ => true) true Try.f5.params.toList args.toList ds p := hT0
  rw [Try.params5] at hT hval
  obtain ⟨v0, vs0, d0, ds0, p0, q0, hargs0, rfl, rfl, h0, r0⟩ := trodAll_cons hT
  obtain ⟨v1, vs1, d1, ds1, p1, q1, hargs1, rfl, rfl, h1, r1⟩ := trodAll_cons r0
  obtain ⟨v2, vs2, d2, ds2, p2, q2, hargs2, rfl, rfl, h2, r2⟩ := trodAll_cons r1
  obtain ⟨v3, vs3, d3, ds3, p3, q3, hargs3, rfl, rfl, h3, r3⟩ := trodAll_cons r2
  obtain ⟨rfl, rfl, rfl⟩ := trodAll_nil r3
  obtain rfl : args = #[v0, v1, v2, v3] := by cases args; simp_all
  obtain ⟨a0, rfl, -, -, w0⟩ := open_int Try.underlying3 (hval 0 3 v0 rfl rfl) h0
  obtain ⟨A1, n1, c1, f1, rfl, hA1, hn1, hc1, hR1, hw1⟩ := open_sl Try.underlying22 Try.underlying3 (by kernel_rfl) (hval 1 22 v1 rfl rfl) h1
  obtain ⟨A2, n2, c2, f2, rfl, hA2, hn2, hc2, hR2, hw2⟩ := open_sl Try.underlying22 Try.underlying3 (by kernel_rfl) (hval 2 22 v2 rfl rfl) h2
  obtain ⟨a3, rfl, -, -, w3⟩ := open_int Try.underlying3 (hval 3 3 v3 rfl rfl) h3
  refine (ProofLeaf_walk W a0 w0 A1 n1 c1 f1 hA1 hn1 hc1 hR1 hw1 A2 n2 c2 f2 hA2 hn2 hc2 hR2 hw2 a3 w3).mono fun e W' ⟨he, hb⟩ => ?_
  subst he
  exact ⟨_, rfl, law_post Try.laidOut (by kernel_rfl) (by kernel_rfl) Try.underlying4 rfl hW' rfl hb⟩

theorem ProofLeaf_holds : Rows.ProofLeafSaid :=
  OpenClaim.holds_of_wide 5 Try.f5 rfl rfl rfl rfl rfl rfl rfl ⟨rfl, rfl, rfl, rfl, rfl⟩ rfl rfl rfl rfl rfl (by kernel_rfl) Try.func5 (by kernel_rfl)
    (of_decide_eq_true (by kernel_rfl)) (by unfold Func.isWrapper; first | (rw [if_pos (by decide +kernel)]; kernel_rfl) | (rw [if_neg (by decide +kernel)]; exact ⟨rfl, rfl⟩))
    (fun os started H enc _ => ProofLeaf_lifted os started H enc)

end Go.Proofs.Ytikfcpkobgejmaa
