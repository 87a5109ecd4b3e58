/- Part 3 of the texts that ProofChecks needs: PfValid PfTree PfTreeW PfHoldsA PfLeafF PfLeafT PfLeafO PfNodeA. -/
import Derived.Deep.RegionHeld3
import Derived.Deep.RegionWith
import Derived.Test.YtikfcpkobgejmaaGProofChecks2

/- bids: Valid. -/
namespace Go.Proofs.Ytikfcpkobgejmaa
open Go.RowKit

def lotsBad (n : Int) : Int → List Int → Bool
  | _, [] => false
  | last, x :: t => decide (x ≤ last) || decide (n ≤ x) || lotsBad n x t
def bidE (n : Int) (b : Bd) : Int := if b.bidder < 1 ∨ 1073741824 < b.bidder then 1 else if b.price < 1 ∨ 1099511627776 < b.price then 5 else if b.lots = [] then 1 else if lotsBad n (-1) b.lots then 1 else 0
def firstE (n : Int) : List Bd → Int
  | [] => 0
  | b :: t => if bidE n b = 0 then firstE n t else bidE n b
/-- What Valid returns. -/
def validE (n : Int) (L : List Bd) : Int := if n < 1 ∨ 8 < n then 5 else if 10 < L.length then 4 else firstE n L
theorem drop_at {α : Type} {L : List α} {k : Nat} (hk : k < L.length) : L.drop k = L[k] :: L.drop (k + 1) := List.drop_eq_getElem_cons hk
theorem firstE_next {n : Int} {L : List Bd} {k : Nat} (hk : k < L.length) (h : bidE n L[k] = 0) : firstE n (L.drop k) = firstE n (L.drop (k + 1)) := by
  rw [drop_at hk]
  show (if bidE n L[k] = 0 then _ else _) = _
  rw [if_pos h]
theorem firstE_stop {n : Int} {L : List Bd} {k : Nat} (hk : k < L.length) (h : bidE n L[k] ≠ 0) : firstE n (L.drop k) = bidE n L[k] := by
  rw [drop_at hk]
  show (if bidE n L[k] = 0 then _ else _) = _
  rw [if_neg h]
set_option maxRecDepth 100000 in
set_option maxHeartbeats 2000000 in
theorem valid_any (n : Int) (s : Sl) (L : List Bd) (w : World) (HL : Hid (Bds w s L)) :
    Calls Try.prog 47 #[.int .i64 n, slV s] w fun e w' => e = .returned (.int .i64 (validE n L)) ∧ Below w.heap.size w w' := by
  obtain ⟨A, m, c⟩ := s
  unfold slV
  dsimp only
  have hm := HL.out.rows.len
  dsimp only at hm
  by_cases h1 : n < 1
  · have HV := Lib.hid (show validE n L = 5 by unfold validE; rw [if_pos (.inl h1)])
    go_enter Try.func47, Try.ntmps47
    go_wp2
    go_ret
    rw [HV.out]
    exact ⟨rfl, Below.refl _ _⟩
  by_cases h2 : 8 < n
  · have HV := Lib.hid (show validE n L = 5 by unfold validE; rw [if_pos (.inr h2)])
    go_enter Try.func47, Try.ntmps47
    go_wp2
    go_ret
    rw [HV.out]
    exact ⟨rfl, Below.refl _ _⟩
  by_cases h3 : 10 < m
  · have HV := Lib.hid (show validE n L = 4 by unfold validE; rw [if_neg (by omega), if_pos (by omega)])
    have h3' : (10 : Int) < (m : Int) := by omega
    go_enter Try.func47, Try.ntmps47
    go_wp2
    go_ret
    rw [HV.out]
    exact ⟨rfl, Below.refl _ _⟩
  have HV := Lib.hid (show validE n L = firstE n L by unfold validE; rw [if_neg (by omega), if_neg (by omega)])
  have h3' : ¬ ((10 : Int) < (m : Int)) := by omega
  have HM := Lib.hid hm
  clear hm
  go_enter Try.func47, Try.ntmps47
  go_wp2
  go_loopw [21] (fun i wr => ∃ k : Nat, k ≤ m ∧ i = .int .i64 (k : Int) ∧ Hid (firstE n L = firstE n (L.drop k)) ∧ Hid (Below w.heap.size w wr)) (fun i _ => m - (intOf i).toNat)
  case atStart => exact ⟨0, by omega, rfl, Lib.hid rfl, Lib.hid (Below.refl _ _)⟩
  case round =>
    obtain ⟨k, hk, rfl, HF, HB⟩ := hrel
    by_cases hlt : k < m
    · have hkl : k < L.length := by rw [HM.out]; exact hlt
      obtain ⟨b, off, hA, hbl, q0, q1, q2, hok⟩ := (HL.out.all HB.out).cell hkl
      dsimp only at hA
      subst hA
      have HST := fun h => Lib.hid (firstE_stop (n := n) hkl h)
      have HNX := fun h => Lib.hid (firstE_next (n := n) hkl h)
      obtain ⟨bk, hbk⟩ : ∃ bk, L[k] = bk := ⟨_, rfl⟩
      rw [hbk] at q0 q1 q2 hok HST HNX
      obtain ⟨bi, pr, ⟨sA, sn, sc⟩, ls⟩ := bk
      unfold slV at q2
      dsimp only at q0 q1 q2
      have hsl := hok.len
      have hsn1 := hok.cap
      have hsn2 := hok.max
      dsimp only at hsl hsn1 hsn2
      have hsn : sn ≤ 9223372036854775807 := Nat.le_trans hsn1 hsn2
      clear hsn1 hsn2
      have HOK := Lib.hid hok
      have HB1 : Hid (Below w.heap.size w (wr.alloc (.cells #[.int .i64 bi, .int .i64 pr, .slice sA sn sc] 70))) := Lib.hid (HB.out.alloc HB.out.size _)
      clear hok hkl hbk
      have fin : ∀ e : Int, e ≠ 0 → bidE n ⟨bi, pr, (sA, sn, sc), ls⟩ = e → validE n L = e := fun e he hb => by
        rw [HV.out, HF.out, (HST (by rw [hb]; exact he)).out, hb]
      have FIN := Lib.hid fin
      clear fin HST
      by_cases b1 : bi < 1
      · have HE := Lib.hid (FIN.out 1 (by decide) (by unfold bidE; rw [if_pos (.inl b1)]))
        clear FIN HNX hsl
        go_wp2
        go_ret
        rw [HE.out]
        exact ⟨rfl, HB1.out⟩
      by_cases b2 : 1073741824 < bi
      · have HE := Lib.hid (FIN.out 1 (by decide) (by unfold bidE; rw [if_pos (.inr b2)]))
        clear FIN HNX hsl
        go_wp2
        go_ret
        rw [HE.out]
        exact ⟨rfl, HB1.out⟩
      by_cases b3 : pr < 1
      · have HE := Lib.hid (FIN.out 5 (by decide) (by unfold bidE; rw [if_neg (by dsimp only; omega), if_pos (.inl b3)]))
        clear FIN HNX hsl
        go_wp2
        go_ret
        rw [HE.out]
        exact ⟨rfl, HB1.out⟩
      by_cases b4 : 1099511627776 < pr
      · have HE := Lib.hid (FIN.out 5 (by decide) (by unfold bidE; rw [if_neg (by dsimp only; omega), if_pos (.inr b4)]))
        clear FIN HNX hsl
        go_wp2
        go_ret
        rw [HE.out]
        exact ⟨rfl, HB1.out⟩
      rcases Nat.eq_zero_or_pos sn with b5 | b5
      · subst b5
        have HE := Lib.hid (FIN.out 1 (by decide) (by unfold bidE; rw [if_neg (by dsimp only; omega), if_neg (by dsimp only; omega), if_pos (List.eq_nil_of_length_eq_zero hsl)]))
        clear FIN HNX hsl
        go_wp2
        go_ret
        rw [HE.out]
        exact ⟨rfl, HB1.out⟩
      have hls : ls ≠ [] := by
        intro e
        rw [e] at hsl
        simp at hsl
        omega
      have HBD := Lib.hid (fun x (hx : lotsBad n (-1) ls = x) => show bidE n ⟨bi, pr, (sA, sn, sc), ls⟩ = if x then 1 else 0 by unfold bidE; rw [if_neg (by dsimp only; omega), if_neg (by dsimp only; omega), if_neg hls, hx])
      have HSL := Lib.hid hsl
      have b5' : (0 : Int) < (sn : Int) := by omega
      clear hls hsl
      go_wp2
      have HOK1 := Lib.hid (Bd.ok.all HOK.out ((Below.refl wr.heap.size wr).alloc (Nat.le_refl _) (.cells #[.int .i64 bi, .int .i64 pr, .slice sA sn sc] 70)))
      generalize wr.alloc (.cells #[.int .i64 bi, .int .i64 pr, .slice sA sn sc] 70) = w1 at *
      clear HOK q0 q1 q2
      go_loop [7, 51] (fun v7 i => ∃ (j : Nat) (last : Int), j ≤ sn ∧ v7 = .int .i64 last ∧ i = .int .i64 (j : Int) ∧ Hid (lotsBad n (-1) ls = lotsBad n last (ls.drop j))) (fun _ i => sn - (intOf i).toNat)
      case atStart => exact ⟨0, -1, by omega, rfl, rfl, Lib.hid rfl⟩
      case round =>
        obtain ⟨j, last, hj, rfl, rfl, HBADJ⟩ := hrel
        by_cases hlt2 : j < sn
        · obtain ⟨b2, o2, hA2, -, hc2⟩ := NIn.cell HOK1.out hlt2
          dsimp only at hA2
          subst hA2
          have hjl : j < ls.length := by rw [HSL.out]; exact hlt2
          obtain ⟨x, hx⟩ : ∃ x, ls[j]?.getD 0 = x := ⟨_, rfl⟩
          rw [hx] at hc2
          have HD : Hid (lotsBad n last (ls.drop j) = (decide (x ≤ last) || decide (n ≤ x) || lotsBad n x (ls.drop (j + 1)))) := Lib.hid (by
            rw [drop_at hjl]
            rw [List.getElem?_eq_getElem hjl] at hx
            simp only [Option.getD_some] at hx
            rw [hx]
            rfl)
          clear hx hjl
          by_cases x1 : x ≤ last
          · have HE := Lib.hid (FIN.out 1 (by decide) (by rw [HBD.out true (by rw [HBADJ.out, HD.out]; simp [x1])]; rfl))
            clear FIN HNX
            go_wp2
            go_ret
            rw [HE.out]
            exact ⟨rfl, HB1.out⟩
          by_cases x2 : n ≤ x
          · have HE := Lib.hid (FIN.out 1 (by decide) (by rw [HBD.out true (by rw [HBADJ.out, HD.out]; simp [x2])]; rfl))
            clear FIN HNX
            go_wp2
            go_ret
            rw [HE.out]
            exact ⟨rfl, HB1.out⟩
          have HD2 : Hid (lotsBad n (-1) ls = lotsBad n x (ls.drop (j + 1))) := Lib.hid (by rw [HBADJ.out, HD.out]; simp [x1, x2])
          have x1' : last < x := by omega
          have x2' : x < n := by omega
          go_wp2
          exact ⟨⟨j + 1, x, by omega, rfl, by go_num, HD2⟩, by simp [intOf]; omega⟩
        · obtain rfl : j = sn := by omega
          have HF2 : Hid (firstE n L = firstE n (L.drop (k + 1))) := Lib.hid (by
            rw [HF.out]
            refine (HNX ?_).out
            rw [HBD.out false (by rw [HBADJ.out, List.drop_eq_nil_of_le (by rw [HSL.out]; exact Nat.le_refl _)]; rfl)]
            rfl)
          clear FIN HNX HBD
          go_wp2
          exact ⟨⟨k + 1, by omega, by go_num, HF2, HB1⟩, by simp [intOf]; omega⟩
    · obtain rfl : k = m := by omega
      go_wp2
      go_ret
      rw [HV.out, HF.out, List.drop_eq_nil_of_le (by rw [HM.out]; exact Nat.le_refl _)]
      exact ⟨rfl, HB.out⟩
end Go.Proofs.Ytikfcpkobgejmaa

/- proof: arePrices, isTree. -/
namespace Go.Proofs.Ytikfcpkobgejmaa
open Go.RowKit

def priB (P : List Int) : Bool := P.all fun p => decide (0 ≤ p) && decide (p ≤ 1099511627776)
theorem priB_ok {P : List Int} (h : priB P = true) : PriOk P := fun p hp => by
  have := List.all_eq_true.1 h p hp
  simpa using this
theorem priB_no {P : List Int} {k : Nat} (hk : k < P.length) (h : P[k]?.getD 0 < 0 ∨ 1099511627776 < P[k]?.getD 0) : priB P = false := by
  rw [List.getElem?_eq_getElem hk] at h
  simp only [Option.getD_some] at h
  unfold priB
  rw [List.all_eq_false]
  refine ⟨_, List.getElem_mem hk, ?_⟩
  simp only [Bool.and_eq_true, decide_eq_true_eq]
  omega
/-- The receiver of the checker's methods. -/
def ckV (n : Int) (A : Option Addr) (m c : Nat) (v : Int) (An : Option Addr) (nn cn : Nat) : Value := .agg #[.int .i64 n, .slice A m c, .int .i64 v, .slice An nn cn]
set_option maxHeartbeats 1000000 in
theorem arePri_any (n : Int) (A : Option Addr) (m c : Nat) (v : Int) (An : Option Addr) (nn cn : Nat) (sP : Sl) (P : List Int) (w : World) (HP : Hid (NIn w w.heap.size sP P)) :
    Calls Try.prog 66 #[.agg #[.int .i64 n, .slice A m c, .int .i64 v, .slice An nn cn], slV sP] w fun e w' => e = .returned (.bool (priB P && decide ((P.length : Int) = n))) ∧ Below w.heap.size w w' := by
  obtain ⟨AP, np, cP⟩ := sP
  unfold slV
  dsimp only
  have HPL := Lib.hid HP.out.len
  dsimp only at HPL
  have hnp : np ≤ 9223372036854775807 := Nat.le_trans HP.out.cap HP.out.max
  go_enter Try.func66, Try.ntmps66
  go_wp2
  have HB := Lib.hid ((Below.refl w.heap.size w).alloc (Nat.le_refl _) (.cells #[.int .i64 n, .slice A m c, .int .i64 v, .slice An nn cn] 91))
  have hbk := Blk.new w 91 #[.int .i64 n, .slice A m c, .int .i64 v, .slice An nn cn]
  have x0 := hbk.cell 0
  simp at x0
  obtain ⟨gx, hgx⟩ : ∃ gx, w.heap.size = gx := ⟨_, rfl⟩
  have hgx2 : (w.alloc (.cells #[.int .i64 n, .slice A m c, .int .i64 v, .slice An nn cn] 91)).cell? ⟨gx, 0, none⟩ = some (.int .i64 n) := by rw [← hgx]; simp
  rw [hgx]
  generalize w.alloc (.cells #[.int .i64 n, .slice A m c, .int .i64 v, .slice An nn cn] 91) = w1 at *
  clear hbk hgx x0
  go_loop [9] (fun i => ∃ k : Nat, k ≤ np ∧ i = .int .i64 (k : Int) ∧ Hid (∀ t, t < k → 0 ≤ P[t]?.getD 0 ∧ P[t]?.getD 0 ≤ 1099511627776)) (fun i => np - (intOf i).toNat)
  case atStart => exact ⟨0, by omega, rfl, Lib.hid (fun t ht => absurd ht (by omega))⟩
  case round =>
    obtain ⟨k, hk, rfl, HNO⟩ := hrel
    by_cases hlt : k < np
    · obtain ⟨b2, o2, hA2, -, hc2⟩ := (NIn.all HP.out HB.out).cell (k := k) hlt
      dsimp only at hA2
      subst hA2
      have HBAD := Lib.hid (priB_no (P := P) (k := k) (by rw [HPL.out]; exact hlt))
      obtain ⟨x, hx⟩ : ∃ x, P[k]?.getD 0 = x := ⟨_, rfl⟩
      rw [hx] at hc2 HBAD
      have HX := Lib.hid hx
      clear hx
      by_cases h1 : x < 0
      · have HE : Hid ((priB P && decide ((P.length : Int) = n)) = false) := Lib.hid (by rw [HBAD.out (.inl h1)]; rfl)
        clear HBAD
        go_wp2
        go_ret
        rw [HE.out]
        exact ⟨rfl, HB.out⟩
      by_cases h2 : 1099511627776 < x
      · have HE : Hid ((priB P && decide ((P.length : Int) = n)) = false) := Lib.hid (by rw [HBAD.out (.inr h2)]; rfl)
        clear HBAD
        go_wp2
        go_ret
        rw [HE.out]
        exact ⟨rfl, HB.out⟩
      have HNO2 : Hid (∀ t, t < k + 1 → 0 ≤ P[t]?.getD 0 ∧ P[t]?.getD 0 ≤ 1099511627776) := Lib.hid (fun t ht => by
        rcases Nat.lt_or_eq_of_le (Nat.lt_succ_iff.1 ht) with h | rfl
        · exact HNO.out t h
        · rw [HX.out]
          omega)
      clear HBAD
      go_wp2
      exact ⟨⟨k + 1, by omega, by go_num, HNO2⟩, by simp [intOf]; omega⟩
    · obtain rfl : k = np := by omega
      have HE : Hid ((priB P && decide ((P.length : Int) = n)) = ((k : Int) == n)) := Lib.hid (by
        have h1 : priB P = true := by
          unfold priB
          rw [List.all_eq_true]
          intro p hp
          obtain ⟨t, ht, rfl⟩ := List.getElem_of_mem hp
          have := HNO.out t (by rw [← HPL.out]; exact ht)
          rw [List.getElem?_eq_getElem ht] at this
          simpa using this
        rw [h1, HPL.out, Bool.true_and, Bool.eq_iff_iff]
        simp)
      go_wp2
      go_ret
      rw [HE.out]
      exact ⟨rfl, HB.out⟩
def nd0 : Nd := ⟨0, 0, 0, (none, 0, 0), []⟩
def ndAt (N : List Nd) (i : Nat) : Nd := (N[i]?).getD nd0
theorem ndAt_eq {N : List Nd} {i : Nat} (h : i < N.length) : ndAt N i = N[i] := by unfold ndAt; rw [List.getElem?_eq_getElem h]; rfl
theorem Nds.get {w : World} {A : Option Addr} {m c : Nat} {N : List Nd} (h : Nds w (A, m, c) N) {k : Nat} (hk : k < N.length) : ∃ b off bi iq oq sA sn sc ps, A = some ⟨b, off, none⟩ ∧ b < w.heap.size ∧ w.cell? ⟨b, off + k * 4, none⟩ = some (.int .i64 bi) ∧ w.cell? ⟨b, off + k * 4 + 1, none⟩ = some (.int .i64 iq) ∧ w.cell? ⟨b, off + k * 4 + 2, none⟩ = some (.int .i64 oq) ∧ w.cell? ⟨b, off + k * 4 + 3, none⟩ = some (.slice sA sn sc) ∧ NIn w w.heap.size (sA, sn, sc) ps ∧ ndAt N k = ⟨bi, iq, oq, (sA, sn, sc), ps⟩ := by
  obtain ⟨b, off, e, hb, c0, c1, c2, c3, hok⟩ := h.cell hk
  rw [← ndAt_eq hk] at c0 c1 c2 c3 hok
  obtain ⟨y, hy⟩ : ∃ y, ndAt N k = y := ⟨_, rfl⟩
  rw [hy] at c0 c1 c2 c3 hok ⊢
  obtain ⟨bi, iq, oq, ⟨sA, sn, sc⟩, ps⟩ := y
  exact ⟨b, off, bi, iq, oq, sA, sn, sc, ps, e, hb, c0, c1, c2, c3, hok, rfl⟩
/-- How often j is a child of a node. -/
def kid (x : Nd) (j : Int) : Int := if x.bid = -1 then 0 else (if x.inn = j then 1 else 0) + if x.out = j then 1 else 0
def cnt (N : List Nd) (k j : Nat) : Int := ((List.range k).map fun i => kid (ndAt N i) (j : Int)).sum
theorem cnt_succ (N : List Nd) (k j : Nat) : cnt N (k + 1) j = cnt N k j + kid (ndAt N k) (j : Int) := by simp [cnt, List.range_succ]
def kidOk (n : Nat) (i : Nat) (x : Nd) : Bool := decide (x.bid = -1) || (decide ((i : Int) < x.inn) && decide (x.inn < (n : Int)) && decide ((i : Int) < x.out) && decide (x.out < (n : Int)))
/-- Are the nodes a tree? -/
def treeB (N : List Nd) : Bool := ((List.range N.length).all fun i => kidOk N.length i (ndAt N i)) && ((List.range N.length).all fun i => decide (cnt N N.length i = ((min i 1 : Nat) : Int))) && decide (0 < N.length)
def cntL (N : List Nd) (k n : Nat) : List Int := (List.range n).map (cnt N k)
theorem cntL_at {N : List Nd} {k n j : Nat} (h : j < n) : (cntL N k n)[j]?.getD 0 = cnt N k j := by simp [cntL, h]
theorem cntL_leaf {N : List Nd} {k n : Nat} (h : (ndAt N k).bid = -1) : cntL N (k + 1) n = cntL N k n := by
  unfold cntL
  apply List.map_congr_left
  intro j _
  rw [cnt_succ]
  simp [kid, h]
theorem set_range {f : Nat → Int} {n c : Nat} (x : Int) : ((List.range n).map f).set c x = (List.range n).map fun j => if j = c then x else f j := by
  apply List.ext_getElem (by simp)
  intro i h1 h2
  rw [List.getElem_set]
  simp only [List.getElem_map, List.getElem_range]
  by_cases h : c = i
  · rw [if_pos h, if_pos h.symm]
  · rw [if_neg h, if_neg (fun e => h e.symm)]
theorem cntL_node {N : List Nd} {k n a b : Nat} {iq oq : Int} {s : Sl} {ps : List Int} {bi : Int} (h : ndAt N k = ⟨bi, iq, oq, s, ps⟩) (hb : bi ≠ -1) (ha : iq = (a : Int)) (hbb : oq = (b : Int)) (_han : a < n) (_hbn : b < n) :
    ((cntL N k n).set a (cnt N k a + 1)).set b ((if b = a then cnt N k a + 1 else cnt N k b) + 1) = cntL N (k + 1) n := by
  unfold cntL
  rw [set_range, set_range]
  apply List.map_congr_left
  intro j _
  rw [cnt_succ, h]
  simp only [kid, if_neg hb, ha, hbb]
  by_cases h1 : j = b
  · subst h1
    by_cases h2 : j = a
    · subst h2
      simp
      omega
    · have h3 : ¬ (a : Int) = (j : Int) := by omega
      simp [h2, h3]
  · have h3 : ¬ (b : Int) = (j : Int) := by omega
    by_cases h2 : j = a
    · subst h2
      simp [h1, h3]
    · have h4 : ¬ (a : Int) = (j : Int) := by omega
      simp [h1, h2, h3, h4]
end Go.Proofs.Ytikfcpkobgejmaa

/- proof: isTree, the walk. -/
namespace Go.Proofs.Ytikfcpkobgejmaa
open Go.RowKit

theorem treeB_kid {N : List Nd} {k : Nat} (hk : k < N.length) (h : kidOk N.length k (ndAt N k) = false) : treeB N = false := by
  unfold treeB
  have : ((List.range N.length).all fun i => kidOk N.length i (ndAt N i)) = false := by
    rw [List.all_eq_false]
    exact ⟨k, List.mem_range.2 hk, by rw [h]; simp⟩
  rw [this]
  rfl
theorem treeB_cnt {N : List Nd} {k : Nat} (hk : k < N.length) (h : cnt N N.length k ≠ ((min k 1 : Nat) : Int)) : treeB N = false := by
  unfold treeB
  have : ((List.range N.length).all fun i => decide (cnt N N.length i = ((min i 1 : Nat) : Int))) = false := by
    rw [List.all_eq_false]
    exact ⟨k, List.mem_range.2 hk, by simpa using h⟩
  rw [this, Bool.and_false]
  rfl
theorem treeB_all {N : List Nd} (h1 : ∀ t, t < N.length → kidOk N.length t (ndAt N t) = true) (h2 : ∀ t, t < N.length → cnt N N.length t = ((min t 1 : Nat) : Int)) : treeB N = decide (0 < N.length) := by
  unfold treeB
  have e1 : ((List.range N.length).all fun i => kidOk N.length i (ndAt N i)) = true := List.all_eq_true.2 (fun i hi => h1 i (List.mem_range.1 hi))
  have e2 : ((List.range N.length).all fun i => decide (cnt N N.length i = ((min i 1 : Nat) : Int))) = true := List.all_eq_true.2 (fun i hi => by rw [decide_eq_true_iff]; exact h2 i (List.mem_range.1 hi))
  rw [e1, e2]
  rfl
theorem cnt_ok (N : List Nd) (j : Nat) : ∀ k : Nat, 0 ≤ cnt N k j ∧ cnt N k j ≤ 2 * k := by
  intro k
  induction k with
  | zero => simp [cnt]
  | succ k ih =>
    rw [cnt_succ]
    unfold kid
    split
    · omega
    · split <;> split <;> omega
set_option maxRecDepth 100000 in
set_option maxHeartbeats 4000000 in
theorem isTree_any (n : Int) (A : Option Addr) (m c : Nat) (v : Int) (An : Option Addr) (nn cn : Nat) (N : List Nd) (w : World) (HN : Hid (Nds w (An, nn, cn) N)) (hnn : nn ≤ 2047) :
    Calls Try.prog 48 #[.agg #[.int .i64 n, .slice A m c, .int .i64 v, .slice An nn cn]] w fun e w' => e = .returned (.bool (treeB N)) ∧ Below w.heap.size w w' := by
  have HNL := Lib.hid HN.out.rows.len
  dsimp only at HNL
  obtain ⟨i0, hi, hz0, hz1, hz2⟩ := info_parts int_info
  have hbx := (Below.refl w.heap.size w).alloc (Nat.le_refl _) (.cells #[.int .i64 n, .slice A m c, .int .i64 v, .slice An nn cn] 91)
  have hbk := Blk.new w 91 #[.int .i64 n, .slice A m c, .int .i64 v, .slice An nn cn]
  obtain ⟨w1, hmk, hown1, hb1, hlt1⟩ := make_all (P := Try.prog) (w.alloc (.cells #[.int .i64 n, .slice A m c, .int .i64 v, .slice An nn cn] 91)) 22 3 i0 _ 8 Try.underlying22 hi hz0 hz1 hz2 rfl .i64 .i64 nn (by omega) (by unfold maxLen; omega)
  have hb2 := bt hbx hb1
  have x3 := hbk.cell 3
  simp at x3
  go_enter Try.func48, Try.ntmps48
  go_wp2
  obtain ⟨gp, hgp⟩ : ∃ gp, w.heap.size + 1 = gp := ⟨_, rfl⟩
  have hgw : w.heap.size ≤ gp := by omega
  have hrep : List.replicate nn (Value.int .i64 0) = (cntL N 0 nn).map (Value.int .i64) := by
    unfold cntL
    apply List.ext_getElem (by simp)
    intro i h1 h2
    simp [cnt]
  have HO1 : Hid (w1.ownsRow w.heap.size 3 1 (.slice (some ⟨gp, 0, none⟩) nn nn) nn ((cntL N 0 nn).map (Value.int .i64))) := Lib.hid (by
    rw [← hrep, ← hgp]
    have := own_lower hown1 (base' := w.heap.size) (by simp)
    rw [World.size_alloc] at this
    exact this)
  have HB1 := Lib.hid hb2
  rw [hgp]
  clear hi hz0 hz1 hz2 hbx hbk hmk hown1 hb1 hlt1 hb2 x3 hgp hrep
  go_loopw [19] (fun i wr => ∃ k : Nat, k ≤ nn ∧ i = .int .i64 (k : Int) ∧ Hid (wr.ownsRow w.heap.size 3 1 (.slice (some ⟨gp, 0, none⟩) nn nn) nn ((cntL N k nn).map (Value.int .i64))) ∧ Hid (∀ t, t < k → kidOk nn t (ndAt N t) = true) ∧ Hid (Below w.heap.size w wr)) (fun i _ => nn - (intOf i).toNat)
  case atStart => exact ⟨0, by omega, rfl, HO1, Lib.hid (fun t ht => absurd ht (by omega)), HB1⟩
  case round =>
    obtain ⟨k, hk, rfl, HO, HK, HB⟩ := hrel
    by_cases hlt : k < nn
    · obtain ⟨b, off, bi, iq, oq, sA, sn, sc, ps, rfl, hbw, c0, c1, c2, c3, hin, he⟩ := HN.out.get (k := k) (by rw [HNL.out]; exact hlt)
      have HE := Lib.hid he
      have q0 := (HB.out.cell (p := ⟨b, off + k * 4, none⟩) hbw).trans c0
      have q1 := (HB.out.cell (p := ⟨b, off + k * 4 + 1, none⟩) hbw).trans c1
      have q2 := (HB.out.cell (p := ⟨b, off + k * 4 + 2, none⟩) hbw).trans c2
      have q3 := (HB.out.cell (p := ⟨b, off + k * 4 + 3, none⟩) hbw).trans c3
      have hbx := (Below.refl wr.heap.size wr).alloc (Nat.le_refl _) (.cells #[.int .i64 bi, .int .i64 iq, .int .i64 oq, .slice sA sn sc] 55)
      have HB2 := Lib.hid (bt HB.out hbx)
      have HO2 := Lib.hid (own_keep HO.out hbx)
      have HFALSE : Hid (kidOk nn k ⟨bi, iq, oq, (sA, sn, sc), ps⟩ = false → treeB N = false) := Lib.hid (fun h => treeB_kid (k := k) (by rw [HNL.out]; exact hlt) (by rw [HNL.out, HE.out]; exact h))
      clear c0 c1 c2 c3 hin he hbx
      by_cases hl : bi = -1
      · have HK2 : Hid (∀ t, t < k + 1 → kidOk nn t (ndAt N t) = true) := Lib.hid (fun t ht => by
          rcases Nat.lt_or_eq_of_le (Nat.lt_succ_iff.1 ht) with h | rfl
          · exact HK.out t h
          · rw [HE.out]
            simp [kidOk, hl])
        have HO3 : Hid ((wr.alloc (.cells #[.int .i64 bi, .int .i64 iq, .int .i64 oq, .slice sA sn sc] 55)).ownsRow w.heap.size 3 1 (.slice (some ⟨gp, 0, none⟩) nn nn) nn ((cntL N (k + 1) nn).map (Value.int .i64))) := Lib.hid (by
          rw [cntL_leaf (by rw [HE.out]; exact hl)]
          exact HO2.out)
        subst hl
        clear HFALSE HO2 HO
        go_wp2
        exact ⟨⟨k + 1, by omega, by go_num, HO3, HK2, HB2⟩, by simp [intOf]; omega⟩
      · have hl2 : (bi == -1) = false := by simpa using hl
        have HL := Lib.hid hl
        have ix0 : ∀ w, (Instr.index 118 (.agg #[.int .i64 iq, .int .i64 oq]) (.int .i64 0)).run Try.prog w = .ok (.int .i64 iq) w := fun _ => by kernel_rfl
        have ix1 : ∀ w, (Instr.index 118 (.agg #[.int .i64 iq, .int .i64 oq]) (.int .i64 1)).run Try.prog w = .ok (.int .i64 oq) w := fun _ => by kernel_rfl
        have HIX := Lib.hid (And.intro ix0 ix1)
        clear hl ix0 ix1
        go_wp2
        generalize wr.alloc (.cells #[.int .i64 bi, .int .i64 iq, .int .i64 oq, .slice sA sn sc] 55) = w2 at *
        clear q0 q1 q2 q3 HO HB
        obtain ⟨ix0, ix1⟩ := HIX.out
        refine wp_loop_rounds 3 ?_
        rw [rounds_succ]
        by_cases a1 : iq ≤ (k : Int)
        · have HE2 := Lib.hid (HFALSE.out (by simp [kidOk, HL.out]; intros; omega))
          clear HFALSE
          go_wp2
          go_ret
          rw [HE2.out]
          exact ⟨rfl, HB2.out⟩
        by_cases a2 : (nn : Int) ≤ iq
        · have HE2 := Lib.hid (HFALSE.out (by simp [kidOk, HL.out]; intros; omega))
          clear HFALSE
          go_wp2
          go_ret
          rw [HE2.out]
          exact ⟨rfl, HB2.out⟩
        obtain ⟨a, rfl⟩ : ∃ a : Nat, iq = (a : Int) := ⟨iq.toNat, by omega⟩
        have han : a < nn := by omega
        have hak : k < a := by omega
        obtain ⟨y0, y1⟩ := own_int HO2.out han
        have hset1 := own_int_set HO2.out a (cnt N k a + 1)
        rw [cntL_at han] at y0
        have hca := cnt_ok N a k
        obtain ⟨ca, hca2⟩ : ∃ ca, cnt N k a = ca := ⟨_, rfl⟩
        rw [hca2] at y0 hset1 hca
        have HCA := Lib.hid hca2
        have HS1 := Lib.hid hset1
        have HB3 := Lib.hid (HB2.out.setCell (p := ⟨gp, a, none⟩) hgw (.int .i64 (ca + 1)))
        clear hca2 hset1 a1 a2
        go_wp2
        rw [rounds_succ]
        generalize w2.setCell ⟨gp, a, none⟩ (.int .i64 (ca + 1)) = w3 at *
        clear y0 y1
        by_cases b1 : oq ≤ (k : Int)
        · have HE2 := Lib.hid (HFALSE.out (by simp [kidOk, HL.out]; intros; omega))
          clear HFALSE
          go_wp2
          go_ret
          rw [HE2.out]
          exact ⟨rfl, HB3.out⟩
        by_cases b2 : (nn : Int) ≤ oq
        · have HE2 := Lib.hid (HFALSE.out (by simp [kidOk, HL.out]; intros; omega))
          clear HFALSE
          go_wp2
          go_ret
          rw [HE2.out]
          exact ⟨rfl, HB3.out⟩
        obtain ⟨bq, rfl⟩ : ∃ bq : Nat, oq = (bq : Int) := ⟨oq.toNat, by omega⟩
        have hbn : bq < nn := by omega
        have hbk : k < bq := by omega
        obtain ⟨y0, y1⟩ := own_int HS1.out hbn
        have hcl : (cntL N k nn).length = nn := by simp [cntL]
        have hval : ((cntL N k nn).set a (ca + 1))[bq]?.getD 0 = if bq = a then ca + 1 else cnt N k bq := by
          rw [List.getElem?_set]
          by_cases h : a = bq
          · rw [if_pos h, if_pos h.symm, if_pos (by rw [hcl]; exact han)]
            rfl
          · rw [if_neg h, if_neg (fun e => h e.symm), cntL_at hbn]
        rw [hval] at y0
        have hcb := cnt_ok N bq k
        obtain ⟨cb, hcb2⟩ : ∃ cb, (if bq = a then ca + 1 else cnt N k bq) = cb := ⟨_, rfl⟩
        rw [hcb2] at y0
        have hcb3 : 0 ≤ cb ∧ cb ≤ 5000 := by
          rw [← hcb2]
          split <;> omega
        have hset2 := own_int_set HS1.out bq (cb + 1)
        have hfin := cntL_node (n := nn) HE.out HL.out rfl rfl han hbn
        rw [HCA.out, hcb2] at hfin
        rw [hfin] at hset2
        have HO4 := Lib.hid hset2
        have HB4 := Lib.hid (HB3.out.setCell (p := ⟨gp, bq, none⟩) hgw (.int .i64 (cb + 1)))
        have HK2 : Hid (∀ t, t < k + 1 → kidOk nn t (ndAt N t) = true) := Lib.hid (fun t ht => by
          rcases Nat.lt_or_eq_of_le (Nat.lt_succ_iff.1 ht) with h | rfl
          · exact HK.out t h
          · rw [HE.out]
            simp only [kidOk, Bool.or_eq_true, Bool.and_eq_true, decide_eq_true_eq]
            exact .inr ⟨⟨⟨by omega, by omega⟩, by omega⟩, by omega⟩)
        clear hval hcb hcb2 hset2 hfin HFALSE b1 b2 hcl
        go_wp2
        rw [rounds_succ]
        go_wp2
        exact ⟨⟨k + 1, by omega, by go_num, HO4, HK2, HB4⟩, by simp [intOf]; omega⟩
    · --@1
      obtain rfl : k = nn := by omega
      go_wp2
      go_loop [54] (fun i => ∃ j : Nat, j ≤ k ∧ i = .int .i64 (j : Int) ∧ Hid (∀ t, t < j → cnt N k t = ((min t 1 : Nat) : Int))) (fun i => k - (intOf i).toNat)
      case atStart => exact ⟨0, by omega, rfl, Lib.hid (fun t ht => absurd ht (by omega))⟩
      case round =>
        obtain ⟨j, hj, rfl, HC⟩ := hrel
        by_cases hlt2 : j < k
        · obtain ⟨y0, y1⟩ := own_int HO.out hlt2
          rw [cntL_at hlt2] at y0
          have HBAD := Lib.hid (fun h => treeB_cnt (N := N) (k := j) (by rw [HNL.out]; exact hlt2) (by rw [HNL.out]; exact h))
          obtain ⟨cj, hcj⟩ : ∃ cj, cnt N k j = cj := ⟨_, rfl⟩
          rw [hcj] at y0 HBAD
          have HCJ := Lib.hid hcj
          clear hcj
          rcases Nat.eq_zero_or_pos j with hj0 | hj0
          · subst hj0
            by_cases hc0 : cj = 0
            · have HC2 : Hid (∀ t, t < 0 + 1 → cnt N k t = ((min t 1 : Nat) : Int)) := Lib.hid (fun t ht => by
                obtain rfl : t = 0 := by omega
                rw [HCJ.out, hc0]
                rfl)
              subst hc0
              clear HBAD
              go_wp2
              exact ⟨⟨1, by omega, by go_num, HC2⟩, by simp [intOf]; omega⟩
            · have HE := Lib.hid (HBAD.out hc0)
              have hc1 : (cj != 0) = true := by simpa using hc0
              clear HBAD hc0
              go_wp2
              go_ret
              rw [HE.out]
              exact ⟨rfl, HB.out⟩
          · have hmn : min (j : Int) 1 = 1 := by omega
            have hmj : min j 1 = 1 := by omega
            have hj1 : (1 : Int) ≤ (j : Int) := by omega
            rw [hmj] at HBAD
            by_cases hc0 : cj = 1
            · have HC2 : Hid (∀ t, t < j + 1 → cnt N k t = ((min t 1 : Nat) : Int)) := Lib.hid (fun t ht => by
                rcases Nat.lt_or_eq_of_le (Nat.lt_succ_iff.1 ht) with h | rfl
                · exact HC.out t h
                · rw [HCJ.out, hc0, hmj]
                  rfl)
              subst hc0
              clear HBAD hmj
              go_wp2
              all_goals exact ⟨⟨j + 1, by omega, by go_num, HC2⟩, by simp [intOf]; omega⟩
            · have HE := Lib.hid (HBAD.out hc0)
              have hc1 : (cj != 1) = true := by simpa using hc0
              clear HBAD hc0 hmj
              go_wp2
              all_goals
                go_ret
                rw [HE.out]
                exact ⟨rfl, HB.out⟩
        · obtain rfl : j = k := by omega
          have HT := Lib.hid (treeB_all (N := N) (fun t ht => by rw [HNL.out] at ht ⊢; exact HK.out t ht) (fun t ht => by rw [HNL.out] at ht ⊢; exact HC.out t ht))
          go_wp2
          go_ret
          rw [HT.out, HNL.out]
          exact ⟨rfl, HB.out⟩
end Go.Proofs.Ytikfcpkobgejmaa

/- proof: what holds says; taking and passing over an operation by hand. -/
namespace Go.Proofs.Ytikfcpkobgejmaa
open Go.RowKit

def leafB (n : Nat) (L : List Bd) (D : List Int) (v : Int) (x : Nd) : Bool := decide (x.inn = 0) && decide (x.out = 0) && (priB x.prices && decide ((x.prices.length : Int) = (n : Int))) && decide (boundP L D x.prices ≤ v)
/-- Does a node hold, and those below it? -/
def holdsF (n : Nat) (L : List Bd) (v : Int) (N : List Nd) : Nat → Nat → List Int → Bool
  | 0, _, _ => false
  | f + 1, i, D => if (ndAt N i).bid = -1 then leafB n L D v (ndAt N i) else if 0 < (ndAt N i).prices.length ∨ possB L D (ndAt N i).bid = false then false else holdsF n L v N f (ndAt N i).inn.toNat (D.set (ndAt N i).bid.toNat 1) && holdsF n L v N f (ndAt N i).out.toNat (D.set (ndAt N i).bid.toNat 2)
/-- The cells that holds loads: the checker and the node. -/
structure HCells (gc gx : Nat) (n : Nat) (A : Option Addr) (m c : Nat) (v : Int) (An : Option Addr) (nn cn : Nat) (bi iq oq : Int) (sA : Option Addr) (sn sc : Nat) (w : World) : Prop where
  ck : Blk w gc 91 #[.int .i64 (n : Int), .slice A m c, .int .i64 v, .slice An nn cn]
  nd : Blk w gx 55 #[.int .i64 bi, .int .i64 iq, .int .i64 oq, .slice sA sn sc]
section
variable {gc gx : Nat} {n : Nat} {A : Option Addr} {m c : Nat} {v : Int} {An : Option Addr} {nn cn : Nat} {bi iq oq : Int} {sA : Option Addr} {sn sc : Nat} {w w' : World}
theorem HCells.all (h : HCells gc gx n A m c v An nn cn bi iq oq sA sn sc w) (hb : Below w.heap.size w w') : HCells gc gx n A m c v An nn cn bi iq oq sA sn sc w' := ⟨h.ck.all hb, h.nd.all hb⟩
theorem HCells.cells (h : HCells gc gx n A m c v An nn cn bi iq oq sA sn sc w) : w.cell? ⟨gc, 0, none⟩ = some (.int .i64 (n : Int)) ∧ w.cell? ⟨gc, 1, none⟩ = some (.slice A m c) ∧ w.cell? ⟨gc, 2, none⟩ = some (.int .i64 v) ∧ w.cell? ⟨gc, 3, none⟩ = some (.slice An nn cn) ∧ w.cell? ⟨gx, 0, none⟩ = some (.int .i64 bi) ∧ w.cell? ⟨gx, 1, none⟩ = some (.int .i64 iq) ∧ w.cell? ⟨gx, 2, none⟩ = some (.int .i64 oq) ∧ w.cell? ⟨gx, 3, none⟩ = some (.slice sA sn sc) :=
  ⟨h.ck.cell 0, h.ck.cell 1, h.ck.cell 2, h.ck.cell 3, h.nd.cell 0, h.nd.cell 1, h.nd.cell 2, h.nd.cell 3⟩
end
section
variable {P : Program} {ops : Array Oper} {Q : Exit → Act → World → Prop} {md : Region.Mode} {S : World → Prop}
/-- Take an operation first, told by what it yields. -/
theorem takeH (i : Nat) (d : Option Tmp) {v : Value} {fuel : Nat} {listed : Array Bool} {a : Act} {w : World} (hd : (ops[i]?).map Oper.dst = some d) (hw : (ops[i]?).map (fun o => Region.wanted o (yielded ops a.tmps)) = some true)
    (hs : Region.noSelect ops = true) (hf : Region.free md ops listed i = true) (hr : (Region.ready md ops listed).contains i = true)
    (hQ : ∀ c a w, Q (.panic c) (a.put d v) w → Q (.panic c) a w) (hy : ∀ o, ops[i]? = some o → ∀ w, S w → (execOp a.eval o).run P w = .ok (.value v) w) (hS : S w)
    (h : wpAnyH P md ops Q S fuel (listed.setIfInBounds i true) (a.put d v) w) : wpAnyH P md ops Q S (fuel + 1) listed a w := by
  cases ho : ops[i]? with
  | none => rw [ho] at hd; cases hd
  | some o =>
    rw [ho] at hd hw
    simp only [Option.map_some, Option.some.injEq] at hd hw
    subst hd
    exact wpAnyH_take ho hs hf hr hQ (Or.inl ⟨hw, hy o ho⟩) hS h
/-- Pass over an operation whose guard is not met. -/
theorem skipH (i : Nat) (d : Option Tmp) {fuel : Nat} {listed : Array Bool} {a : Act} {w : World} (hd : (ops[i]?).map Oper.dst = some d) (hw : (ops[i]?).map (fun o => Region.wanted o (yielded ops a.tmps)) = some false)
    (hs : Region.noSelect ops = true) (hf : Region.free md ops listed i = true) (hr : (Region.ready md ops listed).contains i = true)
    (hQ : ∀ c a w, Q (.panic c) (a.put d undef) w → Q (.panic c) a w) (hS : S w)
    (h : wpAnyH P md ops Q S fuel (listed.setIfInBounds i true) (a.put d undef) w) : wpAnyH P md ops Q S (fuel + 1) listed a w := by
  cases ho : ops[i]? with
  | none => rw [ho] at hd; cases hd
  | some o =>
    rw [ho] at hd hw
    simp only [Option.map_some, Option.some.injEq] at hd hw
    subst hd
    exact wpAnyH_take ho hs hf hr hQ (Or.inr ⟨hw, rfl⟩) hS h
end
end Go.Proofs.Ytikfcpkobgejmaa

/- proof: holds at a leaf whose prices are no prices. -/
namespace Go.Proofs.Ytikfcpkobgejmaa
open Go.RowKit

set_option maxRecDepth 100000 in
set_option maxHeartbeats 8000000 in
theorem leaf_bad (n : Nat) (A : Option Addr) (m c : Nat) (v : Int) (b off nn cn : Nat) (sA : Option Addr) (sn sc : Nat) (AD : Option Addr) (mD cD i : Nat) (w : World) (_hbw : b < w.heap.size) (_hi : i < nn)
    (_c0 : w.cell? ⟨b, off + i * 4, none⟩ = some (.int .i64 (-1))) (_c1 : w.cell? ⟨b, off + i * 4 + 1, none⟩ = some (.int .i64 0)) (_c2 : w.cell? ⟨b, off + i * 4 + 2, none⟩ = some (.int .i64 0)) (_c3 : w.cell? ⟨b, off + i * 4 + 3, none⟩ = some (.slice sA sn sc))
    (_HAP : Hid (∀ w', Below w.heap.size w w' → Calls Try.prog 66 #[.agg #[.int .i64 (n : Int), .slice A m c, .int .i64 v, .slice (some ⟨b, off, none⟩) nn cn], .slice sA sn sc] w' fun e w'' => e = .returned (.bool false) ∧ Below w'.heap.size w' w'')) :
    Calls Try.prog 49 #[.agg #[.int .i64 (n : Int), .slice A m c, .int .i64 v, .slice (some ⟨b, off, none⟩) nn cn], .int .i64 (i : Int), .slice AD mD cD] w fun e w' => e = .returned (.bool false) ∧ Below w.heap.size w w' := by
  have HAP := _HAP
  have hb1 := (Below.refl w.heap.size w).alloc (Nat.le_refl _) (.cells #[.int .i64 (n : Int), .slice A m c, .int .i64 v, .slice (some ⟨b, off, none⟩) nn cn] 91)
  have hb2 := hb1.alloc (by simp) (.cells #[.int .i64 (-1), .int .i64 0, .int .i64 0, .slice sA sn sc] 55)
  have hc : HCells w.heap.size (w.heap.size + 1) n A m c v (some ⟨b, off, none⟩) nn cn (-1) 0 0 sA sn sc ((w.alloc (.cells #[.int .i64 (n : Int), .slice A m c, .int .i64 v, .slice (some ⟨b, off, none⟩) nn cn] 91)).alloc (.cells #[.int .i64 (-1), .int .i64 0, .int .i64 0, .slice sA sn sc] 55)) := by
    have h2 := Blk.new (w.alloc (.cells #[.int .i64 (n : Int), .slice A m c, .int .i64 v, .slice (some ⟨b, off, none⟩) nn cn] 91)) 55 #[.int .i64 (-1), .int .i64 0, .int .i64 0, .slice sA sn sc]
    rw [World.size_alloc] at h2
    exact ⟨Blk.alloc (Blk.new _ _ _) _, h2⟩
  have q0 := (hb1.cell (p := ⟨b, off + i * 4, none⟩) _hbw).trans _c0
  have q1 := (hb1.cell (p := ⟨b, off + i * 4 + 1, none⟩) _hbw).trans _c1
  have q2 := (hb1.cell (p := ⟨b, off + i * 4 + 2, none⟩) _hbw).trans _c2
  have q3 := (hb1.cell (p := ⟨b, off + i * 4 + 3, none⟩) _hbw).trans _c3
  have HCE := Lib.hid hc
  have HB2 := Lib.hid hb2
  clear hb1 hb2 hc _c0 _c1 _c2 _c3 _HAP
  go_enter Try.func49, Try.ntmps49
  go_wp2
  obtain ⟨gc, hgc⟩ : ∃ gc, w.heap.size = gc := ⟨_, rfl⟩
  obtain ⟨w2, hw2⟩ : ∃ w2, (w.alloc (.cells #[.int .i64 (n : Int), .slice A m c, .int .i64 v, .slice (some ⟨b, off, none⟩) nn cn] 91)).alloc (.cells #[.int .i64 (-1), .int .i64 0, .int .i64 0, .slice sA sn sc] 55) = w2 := ⟨_, rfl⟩
  rw [hw2] at HCE HB2 ⊢
  rw [hgc] at HCE ⊢
  obtain ⟨k0, k1, k2, k3, k4, k5, k6, k7⟩ := HCE.out.cells
  have HBD : Hid (Below w.heap.size w w2.drew) := Lib.hid (below_drewN HB2.out 1)
  clear q0 q1 q2 q3 hgc hw2 _hbw _hi
  refine wp_region_held_drew (S := (fun w' => w'.cell? ⟨gc, 0, none⟩ = some (.int .i64 (n : Int)) ∧ w'.cell? ⟨gc, 1, none⟩ = some (.slice A m c) ∧ w'.cell? ⟨gc, 2, none⟩ = some (.int .i64 v) ∧ w'.cell? ⟨gc, 3, none⟩ = some (.slice (some ⟨b, off, none⟩) nn cn) ∧ w'.cell? ⟨gc + 1, 0, none⟩ = some (.int .i64 (-1)) ∧ w'.cell? ⟨gc + 1, 1, none⟩ = some (.int .i64 0) ∧ w'.cell? ⟨gc + 1, 2, none⟩ = some (.int .i64 0) ∧ w'.cell? ⟨gc + 1, 3, none⟩ = some (.slice sA sn sc))) (by kernel_rfl) ⟨k0, k1, k2, k3, k4, k5, k6, k7⟩ (fun hHeld => ?_)
  clear k0 k1 k2 k3 k4 k5 k6 k7
--@1
  refine takeH 0 (some 18) (v := ?_) (by rfl) (by rfl) (by kernel_rfl) (by kernel_rfl) (by kernel_rfl) (fun _ _ _ h => h) ?_ (by assumption) ?_
  rotate_left
  · intro o ho w hSw
    obtain ⟨k0, k1, k2, k3, k4, k5, k6, k7⟩ := hSw
    cases ho
    go_simp
    try with_reducible rfl
  try simp only [Act.put, List.setIfInBounds_toArray, List.set_cons_zero, List.set_cons_succ]
  refine takeH 1 (some 19) (v := ?_) (by rfl) (by rfl) (by kernel_rfl) (by kernel_rfl) (by kernel_rfl) (fun _ _ _ h => h) ?_ (by assumption) ?_
  rotate_left
  · intro o ho w hSw
    obtain ⟨k0, k1, k2, k3, k4, k5, k6, k7⟩ := hSw
    cases ho
    go_simp
    try with_reducible rfl
  try simp only [Act.put, List.setIfInBounds_toArray, List.set_cons_zero, List.set_cons_succ]
  refine takeH 2 (some 20) (v := ?_) (by rfl) (by rfl) (by kernel_rfl) (by kernel_rfl) (by kernel_rfl) (fun _ _ _ h => h) ?_ (by assumption) ?_
  rotate_left
  · intro o ho w hSw
    obtain ⟨k0, k1, k2, k3, k4, k5, k6, k7⟩ := hSw
    cases ho
    go_simp
    try with_reducible rfl
  try simp only [Act.put, List.setIfInBounds_toArray, List.set_cons_zero, List.set_cons_succ]
  refine takeH 3 (some 21) (v := ?_) (by rfl) (by rfl) (by kernel_rfl) (by kernel_rfl) (by kernel_rfl) (fun _ _ _ h => h) ?_ (by assumption) ?_
  rotate_left
  · intro o ho w hSw
    obtain ⟨k0, k1, k2, k3, k4, k5, k6, k7⟩ := hSw
    cases ho
    go_simp
    try with_reducible rfl
  try simp only [Act.put, List.setIfInBounds_toArray, List.set_cons_zero, List.set_cons_succ]
  refine takeH 4 (some 22) (v := ?_) (by rfl) (by rfl) (by kernel_rfl) (by kernel_rfl) (by kernel_rfl) (fun _ _ _ h => h) ?_ (by assumption) ?_
  rotate_left
  · intro o ho w hSw
    obtain ⟨k0, k1, k2, k3, k4, k5, k6, k7⟩ := hSw
    cases ho
    go_simp
    try with_reducible rfl
  try simp only [Act.put, List.setIfInBounds_toArray, List.set_cons_zero, List.set_cons_succ]
  refine takeH 5 (some 23) (v := ?_) (by rfl) (by rfl) (by kernel_rfl) (by kernel_rfl) (by kernel_rfl) (fun _ _ _ h => h) ?_ (by assumption) ?_
  rotate_left
  · intro o ho w hSw
    obtain ⟨k0, k1, k2, k3, k4, k5, k6, k7⟩ := hSw
    cases ho
    go_simp
    try with_reducible rfl
  try simp only [Act.put, List.setIfInBounds_toArray, List.set_cons_zero, List.set_cons_succ]
  refine takeH 6 (some 24) (v := ?_) (by rfl) (by rfl) (by kernel_rfl) (by kernel_rfl) (by kernel_rfl) (fun _ _ _ h => h) ?_ (by assumption) ?_
  rotate_left
  · intro o ho w hSw
    obtain ⟨k0, k1, k2, k3, k4, k5, k6, k7⟩ := hSw
    cases ho
    go_simp
    try with_reducible rfl
  try simp only [Act.put, List.setIfInBounds_toArray, List.set_cons_zero, List.set_cons_succ]
  refine takeH 7 (some 25) (v := ?_) (by rfl) (by rfl) (by kernel_rfl) (by kernel_rfl) (by kernel_rfl) (fun _ _ _ h => h) ?_ (by assumption) ?_
  rotate_left
  · intro o ho w hSw
    obtain ⟨k0, k1, k2, k3, k4, k5, k6, k7⟩ := hSw
    cases ho
    go_simp
    try with_reducible rfl
  try simp only [Act.put, List.setIfInBounds_toArray, List.set_cons_zero, List.set_cons_succ]
  refine takeH 8 (some 26) (v := ?_) (by rfl) (by rfl) (by kernel_rfl) (by kernel_rfl) (by kernel_rfl) (fun _ _ _ h => h) ?_ (by assumption) ?_
  rotate_left
  · intro o ho w hSw
    obtain ⟨k0, k1, k2, k3, k4, k5, k6, k7⟩ := hSw
    cases ho
    go_simp
    try with_reducible rfl
  try simp only [Act.put, List.setIfInBounds_toArray, List.set_cons_zero, List.set_cons_succ]
  refine takeH 9 (some 27) (v := ?_) (by rfl) (by rfl) (by kernel_rfl) (by kernel_rfl) (by kernel_rfl) (fun _ _ _ h => h) ?_ (by assumption) ?_
  rotate_left
  · intro o ho w hSw
    obtain ⟨k0, k1, k2, k3, k4, k5, k6, k7⟩ := hSw
    cases ho
    go_simp
    try with_reducible rfl
  try simp only [Act.put, List.setIfInBounds_toArray, List.set_cons_zero, List.set_cons_succ]
  refine takeH 10 (some 28) (v := ?_) (by rfl) (by rfl) (by kernel_rfl) (by kernel_rfl) (by kernel_rfl) (fun _ _ _ h => h) ?_ (by assumption) ?_
  rotate_left
  · intro o ho w hSw
    obtain ⟨k0, k1, k2, k3, k4, k5, k6, k7⟩ := hSw
    cases ho
    go_simp
    try with_reducible rfl
  try simp only [Act.put, List.setIfInBounds_toArray, List.set_cons_zero, List.set_cons_succ]
  refine takeH 11 (some 29) (v := ?_) (by rfl) (by rfl) (by kernel_rfl) (by kernel_rfl) (by kernel_rfl) (fun _ _ _ h => h) ?_ (by assumption) ?_
  rotate_left
  · intro o ho w hSw
    obtain ⟨k0, k1, k2, k3, k4, k5, k6, k7⟩ := hSw
    cases ho
    go_simp
    try with_reducible rfl
  try simp only [Act.put, List.setIfInBounds_toArray, List.set_cons_zero, List.set_cons_succ]

--@2
  refine wpAnyH_ready (rs := [12]) (by kernel_rfl) (by simp) ?_
  refine AllReadyH.cons rfl (fun K hK => ?_) AllReadyH.nil
  go_simp
  go_at_call 66
  (with_reducible refine (HAP.out _ HBD.out).mono ?_)
  rintro e w4 ⟨rfl, hb4⟩
  have hS4 := undrew hb4
  clear hb4
  go_wp2
  refine hK.out _ _ ?_ (fun hHeld4 => ?_)
  · exact (HCE.out.all hS4).cells
  clear hK K
  try simp only [Act.put, List.setIfInBounds_toArray, List.set_cons_zero, List.set_cons_succ]
--@3
  refine takeH 13 (some 31) (v := ?_) (by rfl) (by rfl) (by kernel_rfl) (by kernel_rfl) (by kernel_rfl) (fun _ _ _ h => h) ?_ (by assumption) ?_
  rotate_left
  · intro o ho w hSw
    obtain ⟨k0, k1, k2, k3, k4, k5, k6, k7⟩ := hSw
    cases ho
    go_simp
    try with_reducible rfl
  try simp only [Act.put, List.setIfInBounds_toArray, List.set_cons_zero, List.set_cons_succ]
  refine takeH 14 (some 32) (v := ?_) (by rfl) (by rfl) (by kernel_rfl) (by kernel_rfl) (by kernel_rfl) (fun _ _ _ h => h) ?_ (by assumption) ?_
  rotate_left
  · intro o ho w hSw
    obtain ⟨k0, k1, k2, k3, k4, k5, k6, k7⟩ := hSw
    cases ho
    go_simp
    try with_reducible rfl
  try simp only [Act.put, List.setIfInBounds_toArray, List.set_cons_zero, List.set_cons_succ]

  refine skipH 15 (some 33) (by rfl) (by rfl) (by kernel_rfl) (by kernel_rfl) (by kernel_rfl) (fun _ _ _ h => h) (by assumption) ?_
  try simp only [Act.put, List.setIfInBounds_toArray, List.set_cons_zero, List.set_cons_succ]
  refine skipH 16 (some 34) (by rfl) (by rfl) (by kernel_rfl) (by kernel_rfl) (by kernel_rfl) (fun _ _ _ h => h) (by assumption) ?_
  try simp only [Act.put, List.setIfInBounds_toArray, List.set_cons_zero, List.set_cons_succ]
  refine skipH 17 (some 35) (by rfl) (by rfl) (by kernel_rfl) (by kernel_rfl) (by kernel_rfl) (fun _ _ _ h => h) (by assumption) ?_
  try simp only [Act.put, List.setIfInBounds_toArray, List.set_cons_zero, List.set_cons_succ]
  refine skipH 18 (some 36) (by rfl) (by rfl) (by kernel_rfl) (by kernel_rfl) (by kernel_rfl) (fun _ _ _ h => h) (by assumption) ?_
  try simp only [Act.put, List.setIfInBounds_toArray, List.set_cons_zero, List.set_cons_succ]
  refine skipH 19 (some 37) (by rfl) (by rfl) (by kernel_rfl) (by kernel_rfl) (by kernel_rfl) (fun _ _ _ h => h) (by assumption) ?_
  try simp only [Act.put, List.setIfInBounds_toArray, List.set_cons_zero, List.set_cons_succ]
  refine skipH 20 (some 38) (by rfl) (by rfl) (by kernel_rfl) (by kernel_rfl) (by kernel_rfl) (fun _ _ _ h => h) (by assumption) ?_
  try simp only [Act.put, List.setIfInBounds_toArray, List.set_cons_zero, List.set_cons_succ]
  refine skipH 21 (some 39) (by rfl) (by rfl) (by kernel_rfl) (by kernel_rfl) (by kernel_rfl) (fun _ _ _ h => h) (by assumption) ?_
  try simp only [Act.put, List.setIfInBounds_toArray, List.set_cons_zero, List.set_cons_succ]
  refine skipH 22 (some 40) (by rfl) (by rfl) (by kernel_rfl) (by kernel_rfl) (by kernel_rfl) (fun _ _ _ h => h) (by assumption) ?_
  try simp only [Act.put, List.setIfInBounds_toArray, List.set_cons_zero, List.set_cons_succ]
  refine skipH 23 (some 41) (by rfl) (by rfl) (by kernel_rfl) (by kernel_rfl) (by kernel_rfl) (fun _ _ _ h => h) (by assumption) ?_
  try simp only [Act.put, List.setIfInBounds_toArray, List.set_cons_zero, List.set_cons_succ]
  refine skipH 24 (some 42) (by rfl) (by rfl) (by kernel_rfl) (by kernel_rfl) (by kernel_rfl) (fun _ _ _ h => h) (by assumption) ?_
  try simp only [Act.put, List.setIfInBounds_toArray, List.set_cons_zero, List.set_cons_succ]

  refine takeH 25 (some 43) (v := ?_) (by rfl) (by rfl) (by kernel_rfl) (by kernel_rfl) (by kernel_rfl) (fun _ _ _ h => h) ?_ (by assumption) ?_
  rotate_left
  · intro o ho w hSw
    obtain ⟨k0, k1, k2, k3, k4, k5, k6, k7⟩ := hSw
    cases ho
    go_simp
    try with_reducible rfl
  try simp only [Act.put, List.setIfInBounds_toArray, List.set_cons_zero, List.set_cons_succ]
  refine takeH 26 (some 6) (v := ?_) (by rfl) (by rfl) (by kernel_rfl) (by kernel_rfl) (by kernel_rfl) (fun _ _ _ h => h) ?_ (by assumption) ?_
  rotate_left
  · intro o ho w hSw
    obtain ⟨k0, k1, k2, k3, k4, k5, k6, k7⟩ := hSw
    cases ho
    go_simp
    try with_reducible rfl
  try simp only [Act.put, List.setIfInBounds_toArray, List.set_cons_zero, List.set_cons_succ]

--@4
  refine wpAnyH_done (by kernel_rfl) ?_ _
  have HB4 := Lib.hid (bt HB2.out hS4)
  clear hS4
  go_wp2
  go_ret
  exact ⟨rfl, HB4.out⟩
end Go.Proofs.Ytikfcpkobgejmaa

/- proof: holds at a leaf whose prices are prices. -/
namespace Go.Proofs.Ytikfcpkobgejmaa
open Go.RowKit

set_option maxRecDepth 100000 in
set_option maxHeartbeats 8000000 in
theorem leaf_good (n : Nat) (A : Option Addr) (m c : Nat) (v : Int) (b off nn cn : Nat) (sA : Option Addr) (sn sc : Nat) (AD : Option Addr) (mD cD i : Nat) (bo : Int) (w : World) (_hbw : b < w.heap.size) (_hi : i < nn)
    (_c0 : w.cell? ⟨b, off + i * 4, none⟩ = some (.int .i64 (-1))) (_c1 : w.cell? ⟨b, off + i * 4 + 1, none⟩ = some (.int .i64 0)) (_c2 : w.cell? ⟨b, off + i * 4 + 2, none⟩ = some (.int .i64 0)) (_c3 : w.cell? ⟨b, off + i * 4 + 3, none⟩ = some (.slice sA sn sc))
    (_HAP : Hid (∀ w', Below w.heap.size w w' → Calls Try.prog 66 #[.agg #[.int .i64 (n : Int), .slice A m c, .int .i64 v, .slice (some ⟨b, off, none⟩) nn cn], .slice sA sn sc] w' fun e w'' => e = .returned (.bool true) ∧ Below w'.heap.size w' w''))
    (_HBO : Hid (∀ w', Below w.heap.size w w' → Calls Try.prog 53 #[.slice A m c, .slice AD mD cD, .slice sA sn sc] w' fun e w'' => e = .returned (.int .i64 bo) ∧ Below w'.heap.size w' w'')) :
    Calls Try.prog 49 #[.agg #[.int .i64 (n : Int), .slice A m c, .int .i64 v, .slice (some ⟨b, off, none⟩) nn cn], .int .i64 (i : Int), .slice AD mD cD] w fun e w' => e = .returned (.bool (decide (bo ≤ v))) ∧ Below w.heap.size w w' := by
  have HAP := _HAP
  have HBO := _HBO
  have hb1 := (Below.refl w.heap.size w).alloc (Nat.le_refl _) (.cells #[.int .i64 (n : Int), .slice A m c, .int .i64 v, .slice (some ⟨b, off, none⟩) nn cn] 91)
  have hb2 := hb1.alloc (by simp) (.cells #[.int .i64 (-1), .int .i64 0, .int .i64 0, .slice sA sn sc] 55)
  have hc : HCells w.heap.size (w.heap.size + 1) n A m c v (some ⟨b, off, none⟩) nn cn (-1) 0 0 sA sn sc ((w.alloc (.cells #[.int .i64 (n : Int), .slice A m c, .int .i64 v, .slice (some ⟨b, off, none⟩) nn cn] 91)).alloc (.cells #[.int .i64 (-1), .int .i64 0, .int .i64 0, .slice sA sn sc] 55)) := by
    have h2 := Blk.new (w.alloc (.cells #[.int .i64 (n : Int), .slice A m c, .int .i64 v, .slice (some ⟨b, off, none⟩) nn cn] 91)) 55 #[.int .i64 (-1), .int .i64 0, .int .i64 0, .slice sA sn sc]
    rw [World.size_alloc] at h2
    exact ⟨Blk.alloc (Blk.new _ _ _) _, h2⟩
  have q0 := (hb1.cell (p := ⟨b, off + i * 4, none⟩) _hbw).trans _c0
  have q1 := (hb1.cell (p := ⟨b, off + i * 4 + 1, none⟩) _hbw).trans _c1
  have q2 := (hb1.cell (p := ⟨b, off + i * 4 + 2, none⟩) _hbw).trans _c2
  have q3 := (hb1.cell (p := ⟨b, off + i * 4 + 3, none⟩) _hbw).trans _c3
  have HCE := Lib.hid hc
  have HB2 := Lib.hid hb2
  clear hb1 hb2 hc _c0 _c1 _c2 _c3 _HAP _HBO
  go_enter Try.func49, Try.ntmps49
  go_wp2
  obtain ⟨gc, hgc⟩ : ∃ gc, w.heap.size = gc := ⟨_, rfl⟩
  obtain ⟨w2, hw2⟩ : ∃ w2, (w.alloc (.cells #[.int .i64 (n : Int), .slice A m c, .int .i64 v, .slice (some ⟨b, off, none⟩) nn cn] 91)).alloc (.cells #[.int .i64 (-1), .int .i64 0, .int .i64 0, .slice sA sn sc] 55) = w2 := ⟨_, rfl⟩
  rw [hw2] at HCE HB2 ⊢
  rw [hgc] at HCE ⊢
  obtain ⟨k0, k1, k2, k3, k4, k5, k6, k7⟩ := HCE.out.cells
  have HBD : Hid (Below w.heap.size w w2.drew) := Lib.hid (below_drewN HB2.out 1)
  clear q0 q1 q2 q3 hgc hw2 _hbw _hi
  refine wp_region_held_drew (S := (fun w' => w'.cell? ⟨gc, 0, none⟩ = some (.int .i64 (n : Int)) ∧ w'.cell? ⟨gc, 1, none⟩ = some (.slice A m c) ∧ w'.cell? ⟨gc, 2, none⟩ = some (.int .i64 v) ∧ w'.cell? ⟨gc, 3, none⟩ = some (.slice (some ⟨b, off, none⟩) nn cn) ∧ w'.cell? ⟨gc + 1, 0, none⟩ = some (.int .i64 (-1)) ∧ w'.cell? ⟨gc + 1, 1, none⟩ = some (.int .i64 0) ∧ w'.cell? ⟨gc + 1, 2, none⟩ = some (.int .i64 0) ∧ w'.cell? ⟨gc + 1, 3, none⟩ = some (.slice sA sn sc))) (by kernel_rfl) ⟨k0, k1, k2, k3, k4, k5, k6, k7⟩ (fun hHeld => ?_)
  clear k0 k1 k2 k3 k4 k5 k6 k7
  refine takeH 0 (some 18) (v := ?_) (by rfl) (by rfl) (by kernel_rfl) (by kernel_rfl) (by kernel_rfl) (fun _ _ _ h => h) ?_ (by assumption) ?_
  rotate_left
  · intro o ho w hSw
    obtain ⟨k0, k1, k2, k3, k4, k5, k6, k7⟩ := hSw
    cases ho
    go_simp
    try with_reducible rfl
  try simp only [Act.put, List.setIfInBounds_toArray, List.set_cons_zero, List.set_cons_succ]
  refine takeH 1 (some 19) (v := ?_) (by rfl) (by rfl) (by kernel_rfl) (by kernel_rfl) (by kernel_rfl) (fun _ _ _ h => h) ?_ (by assumption) ?_
  rotate_left
  · intro o ho w hSw
    obtain ⟨k0, k1, k2, k3, k4, k5, k6, k7⟩ := hSw
    cases ho
    go_simp
    try with_reducible rfl
  try simp only [Act.put, List.setIfInBounds_toArray, List.set_cons_zero, List.set_cons_succ]
  refine takeH 2 (some 20) (v := ?_) (by rfl) (by rfl) (by kernel_rfl) (by kernel_rfl) (by kernel_rfl) (fun _ _ _ h => h) ?_ (by assumption) ?_
  rotate_left
  · intro o ho w hSw
    obtain ⟨k0, k1, k2, k3, k4, k5, k6, k7⟩ := hSw
    cases ho
    go_simp
    try with_reducible rfl
  try simp only [Act.put, List.setIfInBounds_toArray, List.set_cons_zero, List.set_cons_succ]
  refine takeH 3 (some 21) (v := ?_) (by rfl) (by rfl) (by kernel_rfl) (by kernel_rfl) (by kernel_rfl) (fun _ _ _ h => h) ?_ (by assumption) ?_
  rotate_left
  · intro o ho w hSw
    obtain ⟨k0, k1, k2, k3, k4, k5, k6, k7⟩ := hSw
    cases ho
    go_simp
    try with_reducible rfl
  try simp only [Act.put, List.setIfInBounds_toArray, List.set_cons_zero, List.set_cons_succ]
  refine takeH 4 (some 22) (v := ?_) (by rfl) (by rfl) (by kernel_rfl) (by kernel_rfl) (by kernel_rfl) (fun _ _ _ h => h) ?_ (by assumption) ?_
  rotate_left
  · intro o ho w hSw
    obtain ⟨k0, k1, k2, k3, k4, k5, k6, k7⟩ := hSw
    cases ho
    go_simp
    try with_reducible rfl
  try simp only [Act.put, List.setIfInBounds_toArray, List.set_cons_zero, List.set_cons_succ]
  refine takeH 5 (some 23) (v := ?_) (by rfl) (by rfl) (by kernel_rfl) (by kernel_rfl) (by kernel_rfl) (fun _ _ _ h => h) ?_ (by assumption) ?_
  rotate_left
  · intro o ho w hSw
    obtain ⟨k0, k1, k2, k3, k4, k5, k6, k7⟩ := hSw
    cases ho
    go_simp
    try with_reducible rfl
  try simp only [Act.put, List.setIfInBounds_toArray, List.set_cons_zero, List.set_cons_succ]
  refine takeH 6 (some 24) (v := ?_) (by rfl) (by rfl) (by kernel_rfl) (by kernel_rfl) (by kernel_rfl) (fun _ _ _ h => h) ?_ (by assumption) ?_
  rotate_left
  · intro o ho w hSw
    obtain ⟨k0, k1, k2, k3, k4, k5, k6, k7⟩ := hSw
    cases ho
    go_simp
    try with_reducible rfl
  try simp only [Act.put, List.setIfInBounds_toArray, List.set_cons_zero, List.set_cons_succ]
  refine takeH 7 (some 25) (v := ?_) (by rfl) (by rfl) (by kernel_rfl) (by kernel_rfl) (by kernel_rfl) (fun _ _ _ h => h) ?_ (by assumption) ?_
  rotate_left
  · intro o ho w hSw
    obtain ⟨k0, k1, k2, k3, k4, k5, k6, k7⟩ := hSw
    cases ho
    go_simp
    try with_reducible rfl
  try simp only [Act.put, List.setIfInBounds_toArray, List.set_cons_zero, List.set_cons_succ]
  refine takeH 8 (some 26) (v := ?_) (by rfl) (by rfl) (by kernel_rfl) (by kernel_rfl) (by kernel_rfl) (fun _ _ _ h => h) ?_ (by assumption) ?_
  rotate_left
  · intro o ho w hSw
    obtain ⟨k0, k1, k2, k3, k4, k5, k6, k7⟩ := hSw
    cases ho
    go_simp
    try with_reducible rfl
  try simp only [Act.put, List.setIfInBounds_toArray, List.set_cons_zero, List.set_cons_succ]
  refine takeH 9 (some 27) (v := ?_) (by rfl) (by rfl) (by kernel_rfl) (by kernel_rfl) (by kernel_rfl) (fun _ _ _ h => h) ?_ (by assumption) ?_
  rotate_left
  · intro o ho w hSw
    obtain ⟨k0, k1, k2, k3, k4, k5, k6, k7⟩ := hSw
    cases ho
    go_simp
    try with_reducible rfl
  try simp only [Act.put, List.setIfInBounds_toArray, List.set_cons_zero, List.set_cons_succ]
  refine takeH 10 (some 28) (v := ?_) (by rfl) (by rfl) (by kernel_rfl) (by kernel_rfl) (by kernel_rfl) (fun _ _ _ h => h) ?_ (by assumption) ?_
  rotate_left
  · intro o ho w hSw
    obtain ⟨k0, k1, k2, k3, k4, k5, k6, k7⟩ := hSw
    cases ho
    go_simp
    try with_reducible rfl
  try simp only [Act.put, List.setIfInBounds_toArray, List.set_cons_zero, List.set_cons_succ]
  refine takeH 11 (some 29) (v := ?_) (by rfl) (by rfl) (by kernel_rfl) (by kernel_rfl) (by kernel_rfl) (fun _ _ _ h => h) ?_ (by assumption) ?_
  rotate_left
  · intro o ho w hSw
    obtain ⟨k0, k1, k2, k3, k4, k5, k6, k7⟩ := hSw
    cases ho
    go_simp
    try with_reducible rfl
  try simp only [Act.put, List.setIfInBounds_toArray, List.set_cons_zero, List.set_cons_succ]
  refine wpAnyH_ready (rs := [12]) (by kernel_rfl) (by simp) ?_
  refine AllReadyH.cons rfl (fun K hK => ?_) AllReadyH.nil
  go_simp
  go_at_call 66
  (with_reducible refine (HAP.out _ HBD.out).mono ?_)
  rintro e w4 ⟨rfl, hb4⟩
  have hS4 := undrew hb4
  clear hb4
  go_wp2
  refine hK.out _ _ ?_ (fun hHeld4 => ?_)
  · exact (HCE.out.all hS4).cells
  clear hK K
  try simp only [Act.put, List.setIfInBounds_toArray, List.set_cons_zero, List.set_cons_succ]

  refine takeH 13 (some 31) (v := ?_) (by rfl) (by rfl) (by kernel_rfl) (by kernel_rfl) (by kernel_rfl) (fun _ _ _ h => h) ?_ (by assumption) ?_
  rotate_left
  · intro o ho w hSw
    obtain ⟨k0, k1, k2, k3, k4, k5, k6, k7⟩ := hSw
    cases ho
    go_simp
    try with_reducible rfl
  try simp only [Act.put, List.setIfInBounds_toArray, List.set_cons_zero, List.set_cons_succ]
  refine takeH 14 (some 32) (v := ?_) (by rfl) (by rfl) (by kernel_rfl) (by kernel_rfl) (by kernel_rfl) (fun _ _ _ h => h) ?_ (by assumption) ?_
  rotate_left
  · intro o ho w hSw
    obtain ⟨k0, k1, k2, k3, k4, k5, k6, k7⟩ := hSw
    cases ho
    go_simp
    try with_reducible rfl
  try simp only [Act.put, List.setIfInBounds_toArray, List.set_cons_zero, List.set_cons_succ]
  refine takeH 15 (some 33) (v := ?_) (by rfl) (by rfl) (by kernel_rfl) (by kernel_rfl) (by kernel_rfl) (fun _ _ _ h => h) ?_ (by assumption) ?_
  rotate_left
  · intro o ho w hSw
    obtain ⟨k0, k1, k2, k3, k4, k5, k6, k7⟩ := hSw
    cases ho
    go_simp
    try with_reducible rfl
  try simp only [Act.put, List.setIfInBounds_toArray, List.set_cons_zero, List.set_cons_succ]
  refine takeH 16 (some 34) (v := ?_) (by rfl) (by rfl) (by kernel_rfl) (by kernel_rfl) (by kernel_rfl) (fun _ _ _ h => h) ?_ (by assumption) ?_
  rotate_left
  · intro o ho w hSw
    obtain ⟨k0, k1, k2, k3, k4, k5, k6, k7⟩ := hSw
    cases ho
    go_simp
    try with_reducible rfl
  try simp only [Act.put, List.setIfInBounds_toArray, List.set_cons_zero, List.set_cons_succ]
  refine takeH 17 (some 35) (v := ?_) (by rfl) (by rfl) (by kernel_rfl) (by kernel_rfl) (by kernel_rfl) (fun _ _ _ h => h) ?_ (by assumption) ?_
  rotate_left
  · intro o ho w hSw
    obtain ⟨k0, k1, k2, k3, k4, k5, k6, k7⟩ := hSw
    cases ho
    go_simp
    try with_reducible rfl
  try simp only [Act.put, List.setIfInBounds_toArray, List.set_cons_zero, List.set_cons_succ]
  refine takeH 18 (some 36) (v := ?_) (by rfl) (by rfl) (by kernel_rfl) (by kernel_rfl) (by kernel_rfl) (fun _ _ _ h => h) ?_ (by assumption) ?_
  rotate_left
  · intro o ho w hSw
    obtain ⟨k0, k1, k2, k3, k4, k5, k6, k7⟩ := hSw
    cases ho
    go_simp
    try with_reducible rfl
  try simp only [Act.put, List.setIfInBounds_toArray, List.set_cons_zero, List.set_cons_succ]
  refine takeH 19 (some 37) (v := ?_) (by rfl) (by rfl) (by kernel_rfl) (by kernel_rfl) (by kernel_rfl) (fun _ _ _ h => h) ?_ (by assumption) ?_
  rotate_left
  · intro o ho w hSw
    obtain ⟨k0, k1, k2, k3, k4, k5, k6, k7⟩ := hSw
    cases ho
    go_simp
    try with_reducible rfl
  try simp only [Act.put, List.setIfInBounds_toArray, List.set_cons_zero, List.set_cons_succ]
  refine takeH 21 (some 39) (v := ?_) (by rfl) (by rfl) (by kernel_rfl) (by kernel_rfl) (by kernel_rfl) (fun _ _ _ h => h) ?_ (by assumption) ?_
  rotate_left
  · intro o ho w hSw
    obtain ⟨k0, k1, k2, k3, k4, k5, k6, k7⟩ := hSw
    cases ho
    go_simp
    try with_reducible rfl
  try simp only [Act.put, List.setIfInBounds_toArray, List.set_cons_zero, List.set_cons_succ]
  refine takeH 22 (some 40) (v := ?_) (by rfl) (by rfl) (by kernel_rfl) (by kernel_rfl) (by kernel_rfl) (fun _ _ _ h => h) ?_ (by assumption) ?_
  rotate_left
  · intro o ho w hSw
    obtain ⟨k0, k1, k2, k3, k4, k5, k6, k7⟩ := hSw
    cases ho
    go_simp
    try with_reducible rfl
  try simp only [Act.put, List.setIfInBounds_toArray, List.set_cons_zero, List.set_cons_succ]
  refine takeH 23 (some 41) (v := ?_) (by rfl) (by rfl) (by kernel_rfl) (by kernel_rfl) (by kernel_rfl) (fun _ _ _ h => h) ?_ (by assumption) ?_
  rotate_left
  · intro o ho w hSw
    obtain ⟨k0, k1, k2, k3, k4, k5, k6, k7⟩ := hSw
    cases ho
    go_simp
    try with_reducible rfl
  try simp only [Act.put, List.setIfInBounds_toArray, List.set_cons_zero, List.set_cons_succ]
--@1
  refine wpAnyH_ready (rs := [20]) (by kernel_rfl) (by simp) ?_
  refine AllReadyH.cons rfl (fun K hK => ?_) AllReadyH.nil
  go_simp
  go_at_call 53
  (with_reducible refine (HBO.out _ (bt HB2.out hS4)).mono ?_)
  rintro e w5 ⟨rfl, hb5⟩
  have hS5 := bt hS4 hb5
  clear hb5
  go_wp2
  refine hK.out _ _ ?_ (fun hHeld5 => ?_)
  · exact (HCE.out.all hS5).cells
  clear hK K
  try simp only [Act.put, List.setIfInBounds_toArray, List.set_cons_zero, List.set_cons_succ]

--@2
  refine takeH 24 (some 42) (v := ?_) (by rfl) (by rfl) (by kernel_rfl) (by kernel_rfl) (by kernel_rfl) (fun _ _ _ h => h) ?_ (by assumption) ?_
  rotate_left
  · intro o ho w hSw
    obtain ⟨k0, k1, k2, k3, k4, k5, k6, k7⟩ := hSw
    cases ho
    go_simp
    try with_reducible rfl
  try simp only [Act.put, List.setIfInBounds_toArray, List.set_cons_zero, List.set_cons_succ]
  refine takeH 25 (some 43) (v := ?_) (by rfl) (by rfl) (by kernel_rfl) (by kernel_rfl) (by kernel_rfl) (fun _ _ _ h => h) ?_ (by assumption) ?_
  rotate_left
  · intro o ho w hSw
    obtain ⟨k0, k1, k2, k3, k4, k5, k6, k7⟩ := hSw
    cases ho
    go_simp
    try with_reducible rfl
  try simp only [Act.put, List.setIfInBounds_toArray, List.set_cons_zero, List.set_cons_succ]
  refine takeH 26 (some 6) (v := ?_) (by rfl) (by rfl) (by kernel_rfl) (by kernel_rfl) (by kernel_rfl) (fun _ _ _ h => h) ?_ (by assumption) ?_
  rotate_left
  · intro o ho w hSw
    obtain ⟨k0, k1, k2, k3, k4, k5, k6, k7⟩ := hSw
    cases ho
    go_simp
    try with_reducible rfl
  try simp only [Act.put, List.setIfInBounds_toArray, List.set_cons_zero, List.set_cons_succ]
--@3
  refine wpAnyH_done (by kernel_rfl) ?_ _
  have HB5 := Lib.hid (bt HB2.out hS5)
  clear hS4 hS5
  go_wp2
  go_ret
  exact ⟨rfl, HB5.out⟩
end Go.Proofs.Ytikfcpkobgejmaa

/- proof: holds at a leaf with a child. -/
namespace Go.Proofs.Ytikfcpkobgejmaa
open Go.RowKit

set_option maxRecDepth 100000 in
set_option maxHeartbeats 8000000 in
theorem leaf_oddI (n : Nat) (A : Option Addr) (m c : Nat) (v : Int) (b off nn cn : Nat) (iq oq : Int) (sA : Option Addr) (sc : Nat) (AD : Option Addr) (cD i : Nat) (sn : Nat) (hz : iq ≠ 0) (w : World) (_hbw : b < w.heap.size) (_hi : i < nn) (_c0 : w.cell? ⟨b, off + i * 4, none⟩ = some (.int .i64 (-1))) (_c1 : w.cell? ⟨b, off + i * 4 + 1, none⟩ = some (.int .i64 iq)) (_c2 : w.cell? ⟨b, off + i * 4 + 2, none⟩ = some (.int .i64 oq)) (_c3 : w.cell? ⟨b, off + i * 4 + 3, none⟩ = some (.slice sA sn sc)) :
    Calls Try.prog 49 #[.agg #[.int .i64 (n : Int), .slice A m c, .int .i64 v, .slice (some ⟨b, off, none⟩) nn cn], .int .i64 (i : Int), .slice AD m cD] w fun e w' => e = .returned (.bool (false)) ∧ Below w.heap.size w w' := by
  have hb1 := (Below.refl w.heap.size w).alloc (Nat.le_refl _) (.cells #[.int .i64 (n : Int), .slice A m c, .int .i64 v, .slice (some ⟨b, off, none⟩) nn cn] 91)
  have hb2 := hb1.alloc (by simp) (.cells #[.int .i64 (-1), .int .i64 iq, .int .i64 oq, .slice sA sn sc] 55)
  have hc : HCells w.heap.size (w.heap.size + 1) n A m c v (some ⟨b, off, none⟩) nn cn (-1) iq oq sA sn sc ((w.alloc (.cells #[.int .i64 (n : Int), .slice A m c, .int .i64 v, .slice (some ⟨b, off, none⟩) nn cn] 91)).alloc (.cells #[.int .i64 (-1), .int .i64 iq, .int .i64 oq, .slice sA sn sc] 55)) := by
    have h2 := Blk.new (w.alloc (.cells #[.int .i64 (n : Int), .slice A m c, .int .i64 v, .slice (some ⟨b, off, none⟩) nn cn] 91)) 55 #[.int .i64 (-1), .int .i64 iq, .int .i64 oq, .slice sA sn sc]
    rw [World.size_alloc] at h2
    exact ⟨Blk.alloc (Blk.new _ _ _) _, h2⟩
  have q0 := (hb1.cell (p := ⟨b, off + i * 4, none⟩) _hbw).trans _c0
  have q1 := (hb1.cell (p := ⟨b, off + i * 4 + 1, none⟩) _hbw).trans _c1
  have q2 := (hb1.cell (p := ⟨b, off + i * 4 + 2, none⟩) _hbw).trans _c2
  have q3 := (hb1.cell (p := ⟨b, off + i * 4 + 3, none⟩) _hbw).trans _c3
  have HCE := Lib.hid hc
  have HB2 := Lib.hid hb2
  clear hb1 hb2 hc _c0 _c1 _c2 _c3

  go_enter Try.func49, Try.ntmps49
  go_wp2
  obtain ⟨gc, hgc⟩ : ∃ gc, w.heap.size = gc := ⟨_, rfl⟩
  obtain ⟨w2, hw2⟩ : ∃ w2, (w.alloc (.cells #[.int .i64 (n : Int), .slice A m c, .int .i64 v, .slice (some ⟨b, off, none⟩) nn cn] 91)).alloc (.cells #[.int .i64 (-1), .int .i64 iq, .int .i64 oq, .slice sA sn sc] 55) = w2 := ⟨_, rfl⟩
  rw [hw2] at HCE HB2 ⊢
  rw [hgc] at HCE ⊢
  obtain ⟨k0, k1, k2, k3, k4, k5, k6, k7⟩ := HCE.out.cells
  clear q0 q1 q2 q3 hgc hw2 _hbw _hi
  clear HCE
  have hi1 : (iq == 0) = false := by simpa using hz
  clear hz
  go_quiet (fail)
  go_wp2
  go_ret
  exact ⟨rfl, below_drewN HB2.out _⟩

set_option maxRecDepth 100000 in
set_option maxHeartbeats 8000000 in
theorem leaf_oddO (n : Nat) (A : Option Addr) (m c : Nat) (v : Int) (b off nn cn : Nat) (oq : Int) (sA : Option Addr) (sc : Nat) (AD : Option Addr) (cD i : Nat) (sn : Nat) (hz : oq ≠ 0) (w : World) (_hbw : b < w.heap.size) (_hi : i < nn) (_c0 : w.cell? ⟨b, off + i * 4, none⟩ = some (.int .i64 (-1))) (_c1 : w.cell? ⟨b, off + i * 4 + 1, none⟩ = some (.int .i64 0)) (_c2 : w.cell? ⟨b, off + i * 4 + 2, none⟩ = some (.int .i64 oq)) (_c3 : w.cell? ⟨b, off + i * 4 + 3, none⟩ = some (.slice sA sn sc)) :
    Calls Try.prog 49 #[.agg #[.int .i64 (n : Int), .slice A m c, .int .i64 v, .slice (some ⟨b, off, none⟩) nn cn], .int .i64 (i : Int), .slice AD m cD] w fun e w' => e = .returned (.bool (false)) ∧ Below w.heap.size w w' := by
  have hb1 := (Below.refl w.heap.size w).alloc (Nat.le_refl _) (.cells #[.int .i64 (n : Int), .slice A m c, .int .i64 v, .slice (some ⟨b, off, none⟩) nn cn] 91)
  have hb2 := hb1.alloc (by simp) (.cells #[.int .i64 (-1), .int .i64 0, .int .i64 oq, .slice sA sn sc] 55)
  have hc : HCells w.heap.size (w.heap.size + 1) n A m c v (some ⟨b, off, none⟩) nn cn (-1) 0 oq sA sn sc ((w.alloc (.cells #[.int .i64 (n : Int), .slice A m c, .int .i64 v, .slice (some ⟨b, off, none⟩) nn cn] 91)).alloc (.cells #[.int .i64 (-1), .int .i64 0, .int .i64 oq, .slice sA sn sc] 55)) := by
    have h2 := Blk.new (w.alloc (.cells #[.int .i64 (n : Int), .slice A m c, .int .i64 v, .slice (some ⟨b, off, none⟩) nn cn] 91)) 55 #[.int .i64 (-1), .int .i64 0, .int .i64 oq, .slice sA sn sc]
    rw [World.size_alloc] at h2
    exact ⟨Blk.alloc (Blk.new _ _ _) _, h2⟩
  have q0 := (hb1.cell (p := ⟨b, off + i * 4, none⟩) _hbw).trans _c0
  have q1 := (hb1.cell (p := ⟨b, off + i * 4 + 1, none⟩) _hbw).trans _c1
  have q2 := (hb1.cell (p := ⟨b, off + i * 4 + 2, none⟩) _hbw).trans _c2
  have q3 := (hb1.cell (p := ⟨b, off + i * 4 + 3, none⟩) _hbw).trans _c3
  have HCE := Lib.hid hc
  have HB2 := Lib.hid hb2
  clear hb1 hb2 hc _c0 _c1 _c2 _c3

  go_enter Try.func49, Try.ntmps49
  go_wp2
  obtain ⟨gc, hgc⟩ : ∃ gc, w.heap.size = gc := ⟨_, rfl⟩
  obtain ⟨w2, hw2⟩ : ∃ w2, (w.alloc (.cells #[.int .i64 (n : Int), .slice A m c, .int .i64 v, .slice (some ⟨b, off, none⟩) nn cn] 91)).alloc (.cells #[.int .i64 (-1), .int .i64 0, .int .i64 oq, .slice sA sn sc] 55) = w2 := ⟨_, rfl⟩
  rw [hw2] at HCE HB2 ⊢
  rw [hgc] at HCE ⊢
  obtain ⟨k0, k1, k2, k3, k4, k5, k6, k7⟩ := HCE.out.cells
  clear q0 q1 q2 q3 hgc hw2 _hbw _hi
  clear HCE
  have hi1 : (oq == 0) = false := by simpa using hz
  clear hz
  go_quiet (fail)
  go_wp2
  go_ret
  exact ⟨rfl, below_drewN HB2.out _⟩
theorem leaf_odd (n : Nat) (A : Option Addr) (m c : Nat) (v : Int) (b off nn cn : Nat) (iq oq : Int) (sA : Option Addr) (sc : Nat) (AD : Option Addr) (cD i : Nat) (sn : Nat) (h0 : ¬ (iq = 0 ∧ oq = 0)) (w : World) (hbw : b < w.heap.size) (hi : i < nn) (c0 : w.cell? ⟨b, off + i * 4, none⟩ = some (.int .i64 (-1))) (c1 : w.cell? ⟨b, off + i * 4 + 1, none⟩ = some (.int .i64 iq)) (c2 : w.cell? ⟨b, off + i * 4 + 2, none⟩ = some (.int .i64 oq)) (c3 : w.cell? ⟨b, off + i * 4 + 3, none⟩ = some (.slice sA sn sc)) :
    Calls Try.prog 49 #[.agg #[.int .i64 (n : Int), .slice A m c, .int .i64 v, .slice (some ⟨b, off, none⟩) nn cn], .int .i64 (i : Int), .slice AD m cD] w fun e w' => e = .returned (.bool false) ∧ Below w.heap.size w w' := by
  by_cases hz : iq = 0
  · subst hz
    exact leaf_oddO n A m c v b off nn cn oq sA sc AD cD i sn (fun h => h0 ⟨rfl, h⟩) w hbw hi c0 c1 c2 c3
  · exact leaf_oddI n A m c v b off nn cn iq oq sA sc AD cD i sn hz w hbw hi c0 c1 c2 c3
end Go.Proofs.Ytikfcpkobgejmaa

/- proof: holds at an inner node. -/
namespace Go.Proofs.Ytikfcpkobgejmaa
open Go.RowKit

set_option maxRecDepth 100000 in
set_option maxHeartbeats 8000000 in
theorem node_fst (n : Nat) (A : Option Addr) (m c : Nat) (v : Int) (b off nn cn : Nat) (iq oq : Int) (sA : Option Addr) (sc : Nat) (AD : Option Addr) (cD i : Nat) (k : Nat) (D : List Int)  (w : World) (_hbw : b < w.heap.size) (_hi : i < nn) (_c0 : w.cell? ⟨b, off + i * 4, none⟩ = some (.int .i64 (k : Int))) (_c1 : w.cell? ⟨b, off + i * 4 + 1, none⟩ = some (.int .i64 iq)) (_c2 : w.cell? ⟨b, off + i * 4 + 2, none⟩ = some (.int .i64 oq)) (_c3 : w.cell? ⟨b, off + i * 4 + 3, none⟩ = some (.slice sA 0 sc)) (HDL : Hid (D.length = m)) (HPO : Hid (∀ w', Below w.heap.size w w' → Calls Try.prog 54 #[.slice A m c, .slice AD m cD, .int .i64 (k : Int)] w' fun e w'' => e = .returned (.bool true) ∧ Below w'.heap.size w' w'')) (HDE : Hid (∀ (how : Int) (w' : World), Below w.heap.size w w' → Calls Try.prog 55 #[.slice AD m cD, .int .i64 (k : Int), .int .i64 how] w' (DecPost (D.set k how) w'))) (H1 : Hid (∀ (A1 : Option Addr) (c1 : Nat) (w' : World), Below w.heap.size w w' → NIn w' w'.heap.size (A1, m, c1) (D.set k 1) → Calls Try.prog 49 #[.agg #[.int .i64 (n : Int), .slice A m c, .int .i64 v, .slice (some ⟨b, off, none⟩) nn cn], .int .i64 iq, .slice A1 m c1] w' fun e w'' => e = .returned (.bool false) ∧ Below w'.heap.size w' w''))  :
    Calls Try.prog 49 #[.agg #[.int .i64 (n : Int), .slice A m c, .int .i64 v, .slice (some ⟨b, off, none⟩) nn cn], .int .i64 (i : Int), .slice AD m cD] w fun e w' => e = .returned (.bool (false)) ∧ Below w.heap.size w w' := by
  have hb1 := (Below.refl w.heap.size w).alloc (Nat.le_refl _) (.cells #[.int .i64 (n : Int), .slice A m c, .int .i64 v, .slice (some ⟨b, off, none⟩) nn cn] 91)
  have hb2 := hb1.alloc (by simp) (.cells #[.int .i64 (k : Int), .int .i64 iq, .int .i64 oq, .slice sA 0 sc] 55)
  have hc : HCells w.heap.size (w.heap.size + 1) n A m c v (some ⟨b, off, none⟩) nn cn (k : Int) iq oq sA 0 sc ((w.alloc (.cells #[.int .i64 (n : Int), .slice A m c, .int .i64 v, .slice (some ⟨b, off, none⟩) nn cn] 91)).alloc (.cells #[.int .i64 (k : Int), .int .i64 iq, .int .i64 oq, .slice sA 0 sc] 55)) := by
    have h2 := Blk.new (w.alloc (.cells #[.int .i64 (n : Int), .slice A m c, .int .i64 v, .slice (some ⟨b, off, none⟩) nn cn] 91)) 55 #[.int .i64 (k : Int), .int .i64 iq, .int .i64 oq, .slice sA 0 sc]
    rw [World.size_alloc] at h2
    exact ⟨Blk.alloc (Blk.new _ _ _) _, h2⟩
  have q0 := (hb1.cell (p := ⟨b, off + i * 4, none⟩) _hbw).trans _c0
  have q1 := (hb1.cell (p := ⟨b, off + i * 4 + 1, none⟩) _hbw).trans _c1
  have q2 := (hb1.cell (p := ⟨b, off + i * 4 + 2, none⟩) _hbw).trans _c2
  have q3 := (hb1.cell (p := ⟨b, off + i * 4 + 3, none⟩) _hbw).trans _c3
  have HCE := Lib.hid hc
  have HB2 := Lib.hid hb2
  clear hb1 hb2 hc _c0 _c1 _c2 _c3
  have hkn : ((k : Int) == -1) = false := by simp
  go_enter Try.func49, Try.ntmps49
  go_wp2_with fail
  obtain ⟨gc, hgc⟩ : ∃ gc, w.heap.size = gc := ⟨_, rfl⟩
  obtain ⟨w2, hw2⟩ : ∃ w2, (w.alloc (.cells #[.int .i64 (n : Int), .slice A m c, .int .i64 v, .slice (some ⟨b, off, none⟩) nn cn] 91)).alloc (.cells #[.int .i64 (k : Int), .int .i64 iq, .int .i64 oq, .slice sA 0 sc] 55) = w2 := ⟨_, rfl⟩
  rw [hw2] at HCE HB2 ⊢
  rw [hgc] at HCE ⊢
  obtain ⟨k0, k1, k2, k3, k4, k5, k6, k7⟩ := HCE.out.cells
  clear q0 q1 q2 q3 hgc hw2 _hbw _hi
--@1
  refine (HPO.out _ HB2.out).mono ?_
  rintro e w3 ⟨rfl, hb3⟩
  have HC3 := Lib.hid (HCE.out.all hb3)
  have HB3 := Lib.hid (bt HB2.out hb3)
  clear hb3 HCE HB2 k0 k1 k2 k3 k4 k5 k6 k7
  obtain ⟨k0, k1, k2, k3, k4, k5, k6, k7⟩ := HC3.out.cells
  go_wp2_with fail
--@2
  have HCE := HC3
  have HB2 := HB3
  clear HC3 HB3
  have HBD : Hid (Below w.heap.size w w3.drew) := Lib.hid (below_drewN HB2.out 1)
  refine wp_region_held_drew (S := (fun w' => w'.cell? ⟨gc, 0, none⟩ = some (.int .i64 (n : Int)) ∧ w'.cell? ⟨gc, 1, none⟩ = some (.slice A m c) ∧ w'.cell? ⟨gc, 2, none⟩ = some (.int .i64 v) ∧ w'.cell? ⟨gc, 3, none⟩ = some (.slice (some ⟨b, off, none⟩) nn cn) ∧ w'.cell? ⟨gc + 1, 0, none⟩ = some (.int .i64 (k : Int)) ∧ w'.cell? ⟨gc + 1, 1, none⟩ = some (.int .i64 iq) ∧ w'.cell? ⟨gc + 1, 2, none⟩ = some (.int .i64 oq) ∧ w'.cell? ⟨gc + 1, 3, none⟩ = some (.slice sA 0 sc))) (by kernel_rfl) ⟨k0, k1, k2, k3, k4, k5, k6, k7⟩ (fun hHeld => ?_)
  clear k0 k1 k2 k3 k4 k5 k6 k7
  refine takeH 0 (some 59) (v := ?_) (by rfl) (by rfl) (by kernel_rfl) (by kernel_rfl) (by kernel_rfl) (fun _ _ _ h => h) ?_ (by assumption) ?_
  rotate_left
  · intro o ho w hSw
    obtain ⟨k0, k1, k2, k3, k4, k5, k6, k7⟩ := hSw
    cases ho
    go_simp
    try with_reducible rfl
  try simp only [Act.put, List.setIfInBounds_toArray, List.set_cons_zero, List.set_cons_succ]
  refine takeH 1 (some 60) (v := ?_) (by rfl) (by rfl) (by kernel_rfl) (by kernel_rfl) (by kernel_rfl) (fun _ _ _ h => h) ?_ (by assumption) ?_
  rotate_left
  · intro o ho w hSw
    obtain ⟨k0, k1, k2, k3, k4, k5, k6, k7⟩ := hSw
    cases ho
    go_simp
    try with_reducible rfl
  try simp only [Act.put, List.setIfInBounds_toArray, List.set_cons_zero, List.set_cons_succ]
  refine takeH 2 (some 61) (v := ?_) (by rfl) (by rfl) (by kernel_rfl) (by kernel_rfl) (by kernel_rfl) (fun _ _ _ h => h) ?_ (by assumption) ?_
  rotate_left
  · intro o ho w hSw
    obtain ⟨k0, k1, k2, k3, k4, k5, k6, k7⟩ := hSw
    cases ho
    go_simp
    try with_reducible rfl
  try simp only [Act.put, List.setIfInBounds_toArray, List.set_cons_zero, List.set_cons_succ]
  refine takeH 3 (some 62) (v := ?_) (by rfl) (by rfl) (by kernel_rfl) (by kernel_rfl) (by kernel_rfl) (fun _ _ _ h => h) ?_ (by assumption) ?_
  rotate_left
  · intro o ho w hSw
    obtain ⟨k0, k1, k2, k3, k4, k5, k6, k7⟩ := hSw
    cases ho
    go_simp
    try with_reducible rfl
  try simp only [Act.put, List.setIfInBounds_toArray, List.set_cons_zero, List.set_cons_succ]
  refine takeH 4 (some 63) (v := ?_) (by rfl) (by rfl) (by kernel_rfl) (by kernel_rfl) (by kernel_rfl) (fun _ _ _ h => h) ?_ (by assumption) ?_
  rotate_left
  · intro o ho w hSw
    obtain ⟨k0, k1, k2, k3, k4, k5, k6, k7⟩ := hSw
    cases ho
    go_simp
    try with_reducible rfl
  try simp only [Act.put, List.setIfInBounds_toArray, List.set_cons_zero, List.set_cons_succ]
  refine takeH 5 (some 64) (v := ?_) (by rfl) (by rfl) (by kernel_rfl) (by kernel_rfl) (by kernel_rfl) (fun _ _ _ h => h) ?_ (by assumption) ?_
  rotate_left
  · intro o ho w hSw
    obtain ⟨k0, k1, k2, k3, k4, k5, k6, k7⟩ := hSw
    cases ho
    go_simp
    try with_reducible rfl
  try simp only [Act.put, List.setIfInBounds_toArray, List.set_cons_zero, List.set_cons_succ]
--@3
  refine wpAnyH_ready (rs := [6]) (by kernel_rfl) (by simp) ?_
  refine AllReadyH.cons rfl (fun K hK => ?_) AllReadyH.nil
  go_simp
  go_at_call 55
  (with_reducible refine (HDE.out 1 _ HBD.out).mono ?_)
  rintro e w4 ⟨⟨A1, m1, c1⟩, rfl, hl1, hi1, hb4⟩
  obtain rfl : m = m1 := by have := HDL.out; rw [List.length_set] at hl1; dsimp only at hl1; omega
  have HI4 := Lib.hid hi1
  have hS4 := undrew hb4
  clear hb4 hi1 hl1
  dsimp only [slV]
  go_wp2
  refine hK.out _ _ ?_ (fun hHeld4 => ?_)
  · exact (HCE.out.all hS4).cells
  clear hK K
  try simp only [Act.put, List.setIfInBounds_toArray, List.set_cons_zero, List.set_cons_succ]
--@4
  refine wpAnyH_ready (rs := [7]) (by kernel_rfl) (by simp) ?_
  refine AllReadyH.cons rfl (fun K hK => ?_) AllReadyH.nil
  go_simp
  go_at_call 49
  (with_reducible refine (H1.out _ _ _ (bt HB2.out hS4) HI4.out).mono ?_)
  rintro e w5 ⟨rfl, hb5⟩
  have hS5 := bt hS4 hb5
  clear hb5
  go_wp2
  refine hK.out _ _ ?_ (fun hHeld5 => ?_)
  · exact (HCE.out.all hS5).cells
  clear hK K
  try simp only [Act.put, List.setIfInBounds_toArray, List.set_cons_zero, List.set_cons_succ]
--@5
  refine takeH 8 (some 67) (v := ?_) (by rfl) (by rfl) (by kernel_rfl) (by kernel_rfl) (by kernel_rfl) (fun _ _ _ h => h) ?_ (by assumption) ?_
  rotate_left
  · intro o ho w hSw
    obtain ⟨k0, k1, k2, k3, k4, k5, k6, k7⟩ := hSw
    cases ho
    go_simp
    try with_reducible rfl
  try simp only [Act.put, List.setIfInBounds_toArray, List.set_cons_zero, List.set_cons_succ]
  refine skipH 9 (some 68) (by rfl) (by rfl) (by kernel_rfl) (by kernel_rfl) (by kernel_rfl) (fun _ _ _ h => h) (by assumption) ?_
  try simp only [Act.put, List.setIfInBounds_toArray, List.set_cons_zero, List.set_cons_succ]
  refine skipH 10 (some 69) (by rfl) (by rfl) (by kernel_rfl) (by kernel_rfl) (by kernel_rfl) (fun _ _ _ h => h) (by assumption) ?_
  try simp only [Act.put, List.setIfInBounds_toArray, List.set_cons_zero, List.set_cons_succ]
  refine skipH 11 (some 70) (by rfl) (by rfl) (by kernel_rfl) (by kernel_rfl) (by kernel_rfl) (fun _ _ _ h => h) (by assumption) ?_
  try simp only [Act.put, List.setIfInBounds_toArray, List.set_cons_zero, List.set_cons_succ]
  refine skipH 12 (some 71) (by rfl) (by rfl) (by kernel_rfl) (by kernel_rfl) (by kernel_rfl) (fun _ _ _ h => h) (by assumption) ?_
  try simp only [Act.put, List.setIfInBounds_toArray, List.set_cons_zero, List.set_cons_succ]
  refine skipH 13 (some 72) (by rfl) (by rfl) (by kernel_rfl) (by kernel_rfl) (by kernel_rfl) (fun _ _ _ h => h) (by assumption) ?_
  try simp only [Act.put, List.setIfInBounds_toArray, List.set_cons_zero, List.set_cons_succ]
  refine skipH 14 (some 73) (by rfl) (by rfl) (by kernel_rfl) (by kernel_rfl) (by kernel_rfl) (fun _ _ _ h => h) (by assumption) ?_
  try simp only [Act.put, List.setIfInBounds_toArray, List.set_cons_zero, List.set_cons_succ]
  refine skipH 15 (some 74) (by rfl) (by rfl) (by kernel_rfl) (by kernel_rfl) (by kernel_rfl) (fun _ _ _ h => h) (by assumption) ?_
  try simp only [Act.put, List.setIfInBounds_toArray, List.set_cons_zero, List.set_cons_succ]
  refine skipH 16 (some 75) (by rfl) (by rfl) (by kernel_rfl) (by kernel_rfl) (by kernel_rfl) (fun _ _ _ h => h) (by assumption) ?_
  try simp only [Act.put, List.setIfInBounds_toArray, List.set_cons_zero, List.set_cons_succ]
--@6
  refine takeH 17 (some 76) (v := ?_) (by rfl) (by rfl) (by kernel_rfl) (by kernel_rfl) (by kernel_rfl) (fun _ _ _ h => h) ?_ (by assumption) ?_
  rotate_left
  · intro o ho w hSw
    obtain ⟨k0, k1, k2, k3, k4, k5, k6, k7⟩ := hSw
    cases ho
    go_simp
    try with_reducible rfl
  try simp only [Act.put, List.setIfInBounds_toArray, List.set_cons_zero, List.set_cons_succ]
  refine takeH 18 (some 6) (v := ?_) (by rfl) (by rfl) (by kernel_rfl) (by kernel_rfl) (by kernel_rfl) (fun _ _ _ h => h) ?_ (by assumption) ?_
  rotate_left
  · intro o ho w hSw
    obtain ⟨k0, k1, k2, k3, k4, k5, k6, k7⟩ := hSw
    cases ho
    go_simp
    try with_reducible rfl
  try simp only [Act.put, List.setIfInBounds_toArray, List.set_cons_zero, List.set_cons_succ]
  refine wpAnyH_done (by kernel_rfl) ?_ _
  have HB9 := Lib.hid (bt HB2.out hS5)
  clear hS4 hS5
  go_wp2
  go_ret
  exact ⟨rfl, HB9.out⟩
end Go.Proofs.Ytikfcpkobgejmaa
