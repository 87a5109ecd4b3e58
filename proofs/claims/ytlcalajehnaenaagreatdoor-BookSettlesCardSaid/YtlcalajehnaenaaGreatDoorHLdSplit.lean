/- share.Split, where products are small. -/
import Derived.Test.YtlcalajehnaenaaGreatDoorHLdSplit0
import Derived.Test.YtlcalajehnaenaaGreatDoorHG3
import Derived.BigRegion
import Derived.RegionTactic
namespace Go.Proofs.YtlcalajehnaenaaGreatDoor
open Go.RowKit
theorem Blk.new0 {g : Nat} (w : World) (t : TypeId) (cs : Array Value) (h : g = w.heap.size) : Blk (w.alloc (.cells cs t)) g t cs := by rw [h]; exact Blk.new _ _ _
def prt (f : Nat → Int) (n k : Nat) : List Int := (List.range n).map fun i => if i < k then f i else 0
theorem prt_zero (f : Nat → Int) (n : Nat) : prt f n 0 = List.replicate n 0 := by
 apply List.ext_getElem <;> simp [prt]
theorem prt_set (f : Nat → Int) (n k : Nat) (hk : k < n) : (prt f n k).set k (f k) = prt f n (k + 1) := by
 apply List.ext_getElem?
 intro i
 rw [List.getElem?_set]
 unfold prt
 by_cases h : k = i
 ·subst h
  simp [hk]
 ·rw [if_neg h]
  by_cases hi : i < n
  ·simp only [List.getElem?_map, List.getElem?_range hi, Option.map_some]
   by_cases h2 : i < k
   ·rw [if_pos h2, if_pos (by omega)]
   ·rw [if_neg h2, if_neg (by omega)]
  ·rw [List.getElem?_eq_none (by simp; omega), List.getElem?_eq_none (by simp; omega)]
theorem prt_all (f : Nat → Int) (n : Nat) : prt f n n = (List.range n).map f := by
 unfold prt
 exact List.map_congr_left fun i hi => by rw [if_pos (by simpa using hi)]
def SpB (y : World) (bP bx bR bO : Nat) (m : Int) (ws : List Int) (n k : Nat) : Prop :=
 Blk y bP 3 ((prt (quoL m ws) n k).map (Value.int .i64)).toArray ∧ Blk y bR 201 ((prt (remL m ws) n k).map (Value.int .u64)).toArray ∧ Blk y bO 3 ((prt (fun i => (i : Int)) n k).map (Value.int .i64)).toArray ∧ Blk y bx 308 #[.slice (some ⟨bR, 0, none⟩) n n]
theorem prt_store {y : World} {g k n : Nat} {t : TypeId} {f : Nat → Int} {K : IntKind} {q : Int} (h : Blk y g t ((prt f n k).map (Value.int K)).toArray) (hk : k < n) (hq : q = f k) : Blk (y.setCell ⟨g, k, none⟩ (.int K q)) g t ((prt f n (k + 1)).map (Value.int K)).toArray := by
 have := h.set_ k (.int K q)
 rw [List.setIfInBounds_toArray, ← List.map_set, hq, prt_set f n k hk] at this
 rw [hq]
 exact this
theorem wAt_le {ws : List Int} (h : ∀ x ∈ ws, 0 ≤ x) (k : Nat) : 0 ≤ wAt ws k ∧ wAt ws k ≤ sumZ ws := by
 induction ws generalizing k with
 | nil => simp [wAt, sumZ]
 | cons x l ih =>
   have h1 := h x (by simp)
   have h2 := sumI_nonneg (l := l) (fun y hy => h y (by simp [hy]))
   rcases k with _ | k
   ·simp only [wAt, sumZ, List.getElem?_cons_zero, Option.getD_some]
    omega
   ·have := ih (fun y hy => h y (by simp [hy])) k
    simp only [wAt, sumZ, List.getElem?_cons_succ] at this ⊢
    omega
theorem quo_bd {ws : List Int} {m : Int} (h : ∀ x ∈ ws, 0 ≤ x) (hm : 0 ≤ m) (hS : 0 < sumZ ws) (k : Nat) : 0 ≤ m * wAt ws k ∧ m * wAt ws k ≤ m * sumZ ws ∧ 0 ≤ quoL m ws k ∧ quoL m ws k ≤ m := by
 obtain ⟨h1, h2⟩ := wAt_le h k
 have h3 := Int.mul_nonneg hm h1
 have h4 := Int.mul_le_mul_of_nonneg_left h2 hm
 refine ⟨h3, h4, Int.ediv_nonneg h3 (by omega), ?_⟩
 unfold quoL
 exact Int.ediv_le_of_le_mul hS h4
theorem sumq_bd {ws : List Int} {m : Int} (h : ∀ x ∈ ws, 0 ≤ x) (hm : 0 ≤ m) (hS : 0 < sumZ ws) (k : Nat) : 0 ≤ sumZ ((List.range k).map (quoL m ws)) ∧ sumZ ((List.range k).map (quoL m ws)) ≤ m * (k : Int) := by
 have := sumI_bound (K := m) (ws := (List.range k).map (quoL m ws)) (fun x hx => by
  obtain ⟨i, -, rfl⟩ := List.mem_map.1 hx
  exact (quo_bd h hm hS i).2.2)
 simpa using this
theorem sumq_succ (m : Int) (ws : List Int) (k : Nat) : sumZ ((List.range (k + 1)).map (quoL m ws)) = sumZ ((List.range k).map (quoL m ws)) + quoL m ws k := by
 rw [List.range_succ, List.map_append, sumI_append]
 simp [sumZ]
theorem ordR_L (m : Int) (ws : List Int) : ordR ((List.range ws.length).map (remL m ws)) ws.length = ordL m ws := by
 unfold ordR ordL
 have h := List.map_mergeSort (r := befR ((List.range ws.length).map (remL m ws))) (s := befL m ws) (f := id) (l := List.range ws.length) (fun a ha b hb => by
  have h1 : ∀ i, i < ws.length → rAt ((List.range ws.length).map (remL m ws)) i = remL m ws i := fun i hi => by simp [rAt, hi]
  unfold befR befL
  rw [h1 a (by simpa using ha), h1 b (by simpa using hb)]
  rfl)
 simpa using h
def giv (m : Int) (ws : List Int) (k : Nat) : List Int := (List.range ws.length).map fun i => quoL m ws i + if i ∈ (ordL m ws).take k then 1 else 0
theorem giv_zero (m : Int) (ws : List Int) : giv m ws 0 = prt (quoL m ws) ws.length ws.length := by
 rw [prt_all]
 unfold giv
 simp
theorem giv_len (m : Int) (ws : List Int) (k : Nat) : (giv m ws k).length = ws.length := by simp [giv]
theorem giv_at {m : Int} {ws : List Int} {k o : Nat} (ho : (ordL m ws)[k]? = some o) : o < ws.length ∧ (giv m ws k)[o]? = some (quoL m ws o) ∧ (giv m ws k).set o (quoL m ws o + 1) = giv m ws (k + 1) := by
 obtain ⟨hk, hko⟩ := List.getElem?_eq_some_iff.1 ho
 have hlt : o < ws.length := by
  have := (ordL_perm m ws).mem_iff.1 (List.mem_of_getElem? ho)
  simpa using this
 have hnd := ordL_nodup m ws
 have hno : o ∉ (ordL m ws).take k := by
  intro hmem
  obtain ⟨j, hj, hjo⟩ := List.getElem_of_mem hmem
  rw [List.length_take] at hj
  rw [List.getElem_take] at hjo
  have := (List.nodup_iff_pairwise_ne.1 hnd)
  have h2 := List.pairwise_iff_getElem.1 this j k (by omega) hk (by omega)
  exact h2 (hjo.trans hko.symm)
 have htk : (ordL m ws).take (k + 1) = (ordL m ws).take k ++ [o] := by rw [← List.take_append_getElem hk, hko]
 refine ⟨hlt, by simp [giv, hlt, hno], ?_⟩
 apply List.ext_getElem?
 intro i
 rw [List.getElem?_set]
 by_cases h : o = i
 ·subst h
  rw [if_pos rfl, if_pos (by rw [giv_len]; exact hlt)]
  simp [giv, hlt, htk]
 ·rw [if_neg h]
  by_cases hi : i < ws.length
  ·have h3 : ¬ i = o := fun e => h e.symm
   simp [giv, hi, htk, h3]
  ·rw [List.getElem?_eq_none (by rw [giv_len]; omega), List.getElem?_eq_none (by rw [giv_len]; omega)]
set_option maxRecDepth 100000 in
set_option maxHeartbeats 4000000 in
theorem split_any (A : Option Addr) (n c : Nat) (ws : List Int) (m : Int) (w : World) (HW : Hid (PartsAt w (A, n, c) ws)) (HP : Hid (∀ x ∈ ws, 1 ≤ x ∧ x ≤ 1099511627776)) (hn0 : 1 ≤ n) (hn : n ≤ 4096) (hm0 : 1 ≤ m) (HM : Hid (m ≤ sumZ ws ∧ m * sumZ ws < 4611686018427387904 ∧ sumZ ws ≤ 1099511627776)) :
 Calls Tryz.prog 227 #[.int .i64 m, .slice A n c] w fun e w' => ∃ bP, e = .returned (.tuple #[.slice (some ⟨bP, 0, none⟩) n n, .int .i64 0]) ∧ PartsAt w' (some ⟨bP, 0, none⟩, n, n) (splitL m ws) ∧ Below w.heap.size w w' := by
 have hm1 : m ≤ 1099511627776 := Int.le_trans HM.out.1 HM.out.2.2
 have hlen : ws.length = n := HW.out.1
 obtain ⟨b, off, rfl, hb, -, hc⟩ := HW.out.2.cells (by rw [List.length_map]; omega)
 have HC : Hid (∀ j, j < n → w.cell? ⟨b, off + j, none⟩ = some (.int .i64 (wAt ws j))) := Lib.hid fun j hj => by
  rw [hc j (by rw [List.length_map]; omega), List.getElem?_map]
  unfold wAt
  rw [List.getElem?_eq_getElem (by omega)]
  rfl
 have HA : Hid (∀ j, j < n → 1 ≤ wAt ws j ∧ wAt ws j ≤ 1099511627776) := Lib.hid fun j hj => by
  unfold wAt
  rw [List.getElem?_eq_getElem (by omega)]
  exact HP.out _ (List.getElem_mem _)
 have HL := Lib.hid hlen
 have HB0 := Lib.hid hb
 have HWP : Hid (∀ x ∈ ws, 0 ≤ x) := Lib.hid (fun x hx => by have := HP.out x hx; omega)
 clear hc hlen hb
 go_enter Tryz.func227, Tryz.ntmps227
 go_wp2_with (go_at_call 245; refine (isAmount_any m _ ⟨by omega, hm1⟩).mono ?_; rintro e w' ⟨rfl, hw2⟩; rw [hw2]; clear hw2)
 go_loopg [6, 8, 23] n (fun gk sv xv iv wr => ∃ i : Nat, i + gk = n ∧ iv = .int .i64 (i : Int) ∧ sv = .int .i64 (sumZ (ws.take i)) ∧ w = wr)
 case atStart => exact ⟨0, by omega, rfl, rfl, rfl⟩
 case round =>
  obtain ⟨i, hi, rfl, rfl, rfl⟩ := hrel
  rcases Nat.lt_or_ge i n with hlt | hge
  ·have hltI : (i : Int) < (n : Int) := by omega
   have hi0 : (0 : Int) ≤ (i : Int) := by omega
   have k0 := HC.out i hlt
   obtain ⟨a0, a1⟩ := HA.out i hlt
   have hs := sumI_take_wAt ws i (by rw [HL.out]; exact hlt)
   obtain ⟨t0, t1⟩ := sumI_bound (K := 1099511627776) (ws := ws.take i) (fun x hx => by have := HP.out x (List.mem_of_mem_take hx); omega)
   rw [List.length_take] at t1
   have t2 : sumZ (ws.take i) ≤ 1099511627776 * 4096 := by
    have : ((min i ws.length : Nat) : Int) ≤ 4096 := by omega
    omega
   obtain ⟨x, hx⟩ : ∃ x, wAt ws i = x := ⟨_, rfl⟩
   obtain ⟨s, hss⟩ : ∃ s, sumZ (ws.take i) = s := ⟨_, rfl⟩
   rw [hx] at k0 a0 a1 hs
   rw [hss] at t0 t1 t2 hs ⊢
   have HS := Lib.hid hs
   have hw : IntKind.i64.wrap (s + x) = s + x := IntWalk.i64_in _ (by omega)
   have hbig : ¬ 1152921504606846976 < s + x := by omega
   clear t1 hs hss hx
   go_wp2_with (go_at_call 245; refine (isAmount_any x _ ⟨by omega, by omega⟩).mono ?_; rintro e w' ⟨rfl, hw2⟩; rw [hw2]; clear hw2)
   go_roundg (n - (i + 1))
   case measure => omega
   case rel => exact ⟨i + 1, by omega, by go_num, by rw [HS.out], rfl⟩
  ·obtain rfl : n = i := by omega
   have hsum : ws.take n = ws := List.take_of_length_le (by rw [HL.out]; omega)
   rw [hsum]
   have hS0 : ¬ sumZ ws = 0 := by have := HM.out.1; omega
   have hmk1 := mk_ints n (by omega)
   have hmk2 := mk_u64s n (by omega)
   go_wp2
   obtain ⟨B, hB⟩ : ∃ B, w.heap.size = B := ⟨_, rfl⟩
   rw [hB]
   obtain ⟨bx, hbx⟩ : ∃ bx, B + 1 + 1 = bx := ⟨_, rfl⟩
   obtain ⟨bO, hbO⟩ : ∃ bO, bx + 1 = bO := ⟨_, rfl⟩
   obtain ⟨bR, hbR⟩ : ∃ bR, B + 1 = bR := ⟨_, rfl⟩
   rw [hbx, hbO, hbR]
   have hst : SpB ((((w.alloc (.cells (Array.replicate n (.int .i64 0)) 3)).alloc (.cells (Array.replicate n (.int .u64 0)) 201)).alloc (.cells #[.slice (some ⟨bR, 0, none⟩) n n] 308)).alloc (.cells (Array.replicate n (.int .i64 0)) 3)) B bx bR bO m ws n 0 := by
    have e1 : ((prt (quoL m ws) n 0).map (Value.int .i64)).toArray = Array.replicate n (.int .i64 0) := by rw [prt_zero]; simp
    have e2 : ((prt (remL m ws) n 0).map (Value.int .u64)).toArray = Array.replicate n (.int .u64 0) := by rw [prt_zero]; simp
    have e3 : ((prt (fun i => (i : Int)) n 0).map (Value.int .i64)).toArray = Array.replicate n (.int .i64 0) := by rw [prt_zero]; simp
    unfold SpB
    rw [e1, e2, e3]
    exact ⟨((Blk.new0 w _ _ hB.symm).alloc _).alloc _ |>.alloc _, ((Blk.new0 _ _ _ (by rw [World.size_alloc]; omega)).alloc _).alloc _, Blk.new0 _ _ _ (by simp only [World.size_alloc]; omega), (Blk.new0 _ _ _ (by simp only [World.size_alloc]; omega)).alloc _⟩
   have hba := ((((Below.refl B w).alloc (by omega) (.cells (Array.replicate n (.int .i64 0)) 3)).alloc (by simp only [World.size_alloc]; omega) (.cells (Array.replicate n (.int .u64 0)) 201)).alloc (by simp only [World.size_alloc]; omega) (.cells #[.slice (some ⟨bR, 0, none⟩) n n] 308)).alloc (by simp only [World.size_alloc]; omega) (.cells (Array.replicate n (.int .i64 0)) 3)
   obtain ⟨w2, hw2⟩ : ∃ w2, ((((w.alloc (.cells (Array.replicate n (.int .i64 0)) 3)).alloc (.cells (Array.replicate n (.int .u64 0)) 201)).alloc (.cells #[.slice (some ⟨bR, 0, none⟩) n n] 308)).alloc (.cells (Array.replicate n (.int .i64 0)) 3)) = w2 := ⟨_, rfl⟩
   rw [hw2] at hst hba ⊢
   have HS2 := Lib.hid hst
   have HB2 := Lib.hid hba
   have hne : B < bR ∧ bR < bx ∧ bx < bO := by omega
   have hS0b : (sumZ ws == 0) = false := by simp [hS0]
   rw [hS0b]
   clear hst hba hw2 hmk1 hmk2 hsum hi hge
   have hm2 := HM.out
   go_loopg [12, 13, 14, 15, 16, 50] n (fun gk lv a1 a2 a3 a4 iv wr => ∃ k : Nat, k + gk = n ∧ iv = .int .i64 (k : Int) ∧ lv = .int .i64 (m - sumZ ((List.range k).map (quoL m ws))) ∧ Hid (SpB wr B bx bR bO m ws n k) ∧ Hid (Below B w wr))
   case atStart => exact ⟨0, by omega, rfl, by simp [sumZ], HS2, HB2⟩
   case round =>
    obtain ⟨k, hi, rfl, rfl, HS, HBW⟩ := hrel
    rcases Nat.lt_or_ge k n with hlt | hge
    ·have hltI : (k : Int) < (n : Int) := by omega
     have hi0 : (0 : Int) ≤ (k : Int) := by omega
     have HHI := Lib.hid hi
     have hb0 := HB0.out
     have k0 : wr.cell? ⟨b, off + k, none⟩ = some (.int .i64 (wAt ws k)) := (HBW.out.cell (p := ⟨b, off + k, none⟩) (by rw [← hB]; exact hb0)).trans (HC.out k hlt)
     obtain ⟨a0, a1⟩ := HA.out k hlt
     obtain ⟨hx0, hx, hq0, hq1⟩ := quo_bd HWP.out (by omega) (by omega) k (m := m)
     have hwk := (wAt_le HWP.out k).2
     obtain ⟨hl0, hl1⟩ := sumq_bd HWP.out (by omega) (by omega) k (m := m)
     have hl2 : m * (k : Int) ≤ m * 4096 := Int.mul_le_mul_of_nonneg_left (by omega) (by omega)
     have HSQ := Lib.hid (sumq_succ m ws k)
     have hr : 0 ≤ remL m ws k ∧ remL m ws k < sumZ ws := rem_lt (by omega) k
     have hdiv := fun W => divide_small m (wAt ws k) (sumZ ws) W ⟨by omega, hm1⟩ ⟨by omega, hwk⟩ ⟨by omega, by omega⟩ (by omega) hx0 (by unfold quoL at hq1; omega)
     obtain ⟨b0, r0, o0, x0⟩ := HS.out
     have cx : wr.cell? ⟨bx, 0, none⟩ = some (.slice (some ⟨bR, 0, none⟩) n n) := by rw [x0.cell]; rfl
     have lb := b0.lt
     have lr := r0.lt
     have lo := o0.lt
     have wq : IntKind.i64.wrap (quoL m ws k) = quoL m ws k := IntWalk.i64_in _ (by omega)
     go_wp2_with (go_at_call 246; refine (hdiv _).mono ?_; rintro e w' ⟨rfl, q, rfl⟩)
     have eQ : m * wAt ws k / sumZ ws = quoL m ws k := rfl
     have eR : m * wAt ws k % sumZ ws = remL m ws k := rfl
     rw [eQ, eR]
     have hS3 : SpB (wr.drewN q) B bx bR bO m ws n k := HS.out
     have hB3 : Below B w (wr.drewN q) := below_drewN HBW.out q
     obtain ⟨w3, hw3⟩ : ∃ w3, wr.drewN q = w3 := ⟨_, rfl⟩
     have hz : wr.heap.size = w3.heap.size := by rw [← hw3]; rfl
     rw [hz] at lb lr lo
     rw [hw3] at hS3 hB3 ⊢
     obtain ⟨Q, hQ⟩ : ∃ Q, quoL m ws k = Q := ⟨_, rfl⟩
     obtain ⟨R, hR⟩ : ∃ R, remL m ws k = R := ⟨_, rfl⟩
     rw [hQ] at wq hq0 hq1
     rw [hQ, hR]
     obtain ⟨b1, r1, o1, x1⟩ := hS3
     have c0 : w3.cell? ⟨bx, 0, none⟩ = some (.slice (some ⟨bR, 0, none⟩) n n) := by rw [x1.cell]; rfl
     have HS4 := Lib.hid b1
     have HS5 := Lib.hid r1
     have HS6 := Lib.hid o1
     have HS7 := Lib.hid x1
     have HB3 := Lib.hid hB3
     have c1 : w3.cell? ⟨B, k, none⟩ = some (.int .i64 0) := by rw [b1.cell]; simp [prt, hlt]
     have c2 : w3.cell? ⟨bR, k, none⟩ = some (.int .u64 0) := by rw [r1.cell]; simp [prt, hlt]
     have c3 : w3.cell? ⟨bO, k, none⟩ = some (.int .i64 0) := by rw [o1.cell]; simp [prt, hlt]
     have f1 := b1.frozen k
     have f2 := r1.frozen k
     have f3 := o1.frozen k
     clear b0 r0 o0 x0 cx k0 b1 r1 o1 x1 hB3 hw3 hz HS HBW hdiv eQ eR a0 a1 hx hx0 hr hm2 HB2 HS2 hb0
     obtain ⟨L, hL⟩ : ∃ L, sumZ ((List.range k).map (quoL m ws)) = L := ⟨_, rfl⟩
     rw [hL] at hl0 hl1 ⊢
     have HSQ2 : Hid (m - sumZ ((List.range (k + 1)).map (quoL m ws)) = m - L - Q) := Lib.hid (by rw [HSQ.out, hL, hQ]; omega)
     have wl : IntKind.i64.wrap (m - L - Q) = m - L - Q := IntWalk.i64_in _ (by omega)
     clear hL HSQ hl1 hwk
     go_region
     have hW8 : Hid (SpB (((w3.setCell ⟨B, k, none⟩ (.int .i64 Q)).setCell ⟨bR, k, none⟩ (.int .u64 R)).setCell ⟨bO, k, none⟩ (.int .i64 (k : Int))).drew B bx bR bO m ws n (k + 1)) := Lib.hid ⟨((prt_store HS4.out hlt hQ.symm).far (p := ⟨bR, k, none⟩) (show B ≠ bR by omega) _).far (p := ⟨bO, k, none⟩) (show B ≠ bO by omega) _, (prt_store (HS5.out.far (p := ⟨B, k, none⟩) (show bR ≠ B by omega) _) hlt hR.symm).far (p := ⟨bO, k, none⟩) (show bR ≠ bO by omega) _, prt_store ((HS6.out.far (p := ⟨B, k, none⟩) (show bO ≠ B by omega) _).far (p := ⟨bR, k, none⟩) (show bO ≠ bR by omega) _) hlt rfl, ((HS7.out.far (p := ⟨B, k, none⟩) (show bx ≠ B by omega) _).far (p := ⟨bR, k, none⟩) (show bx ≠ bR by omega) _).far (p := ⟨bO, k, none⟩) (show bx ≠ bO by omega) _⟩
     have hB8 : Hid (Below B w (((w3.setCell ⟨B, k, none⟩ (.int .i64 Q)).setCell ⟨bR, k, none⟩ (.int .u64 R)).setCell ⟨bO, k, none⟩ (.int .i64 (k : Int))).drew) := Lib.hid (below_drewN (((HB3.out.setCell (p := ⟨B, k, none⟩) (show B ≤ B by omega) (.int .i64 Q)).setCell (p := ⟨bR, k, none⟩) (show B ≤ bR by omega) (.int .u64 R)).setCell (p := ⟨bO, k, none⟩) (show B ≤ bO by omega) (.int .i64 (k : Int))) 1)
     obtain ⟨w4, hw4⟩ : ∃ w4, (((w3.setCell ⟨B, k, none⟩ (.int .i64 Q)).setCell ⟨bR, k, none⟩ (.int .u64 R)).setCell ⟨bO, k, none⟩ (.int .i64 (k : Int))).drew = w4 := ⟨_, rfl⟩
     rw [hw4] at hW8 hB8 ⊢
     clear hw4 c0 c1 c2 c3 f1 f2 f3
     go_wp2
     go_roundg (n - (k + 1))
     case measure => have := HHI.out; omega
     case rel => exact ⟨k + 1, by have := HHI.out; omega, by go_num, by rw [HSQ2.out], hW8, hB8⟩
    ·obtain rfl : n = k := by omega
     have hrest : m - sumZ ((List.range n).map (quoL m ws)) = (restL m ws : Int) := by
      have h1 := (rest_le (n := m) (ws := ws) (by omega)).1
      unfold restL
      rw [HL.out] at h1 ⊢
      omega
     have hrl := rest_len (n := m) (ws := ws) (by omega)
     rw [HL.out] at hrl
     rw [hrest]
     obtain ⟨b0, r0, o0, x0⟩ := HS.out
     rw [prt_all] at r0 o0
     rw [List.map_map] at o0
     have cS := sortIdx_any bx bR bO n ((List.range n).map (remL m ws)) wr hn0 (by omega) (by simp) x0 r0 o0 (by omega) (by omega)
     have hord : ordR ((List.range n).map (remL m ws)) n = ordL m ws := by have := ordR_L m ws; rw [HL.out] at this; exact this
     rw [hord] at cS
     have hP0 : Blk wr B 3 ((giv m ws 0).map (Value.int .i64)).toArray := by rw [giv_zero, HL.out]; exact b0
     have HP0 := Lib.hid hP0
     clear b0 r0 o0 x0 hord hrest hP0
     go_wp2_with (go_at_call 247; refine cS.mono ?_; rintro e w' ⟨rfl, ho, hM⟩)
     have hB5 : Below B w w' := Mod.below HBW.out hM (by have := HBW.out.size; omega) (fun b hb => by omega)
     have HB5 := Lib.hid hB5
     have HP5 := Lib.hid (hM.blk HP0.out (by omega))
     have HO5 := Lib.hid ho
     clear ho hM hB5 HP0 HBW HS
     go_loopg [17, 86] (restL m ws) (fun gk ov iv wr => ∃ k : Nat, k + gk = restL m ws ∧ iv = .int .i64 (k : Int) ∧ Hid (Blk wr B 3 ((giv m ws k).map (Value.int .i64)).toArray) ∧ Hid (Blk wr bO 3 ((ordL m ws).map fun (i : Nat) => Value.int .i64 (i : Int)).toArray) ∧ Hid (Below B w wr))
     case atStart => exact ⟨0, by omega, rfl, HP5, HO5, HB5⟩
     case round =>
      obtain ⟨k, hi, rfl, HP6, HO6, HB6⟩ := hrel
      have HHI := Lib.hid hi
      rcases Nat.lt_or_ge k (restL m ws) with hlt | hge
      ·have hk : k < (ordL m ws).length := by rw [(ordL_perm m ws).length_eq, List.length_range, HL.out]; omega
       obtain ⟨o, ho⟩ : ∃ o, (ordL m ws)[k]? = some o := ⟨_, List.getElem?_eq_getElem hk⟩
       obtain ⟨g0, g1, g2⟩ := giv_at ho
       rw [HL.out] at g0
       have hqq := (quo_bd HWP.out (by omega) (by omega) o (m := m)).2.2
       have c0 : wr.cell? ⟨bO, k, none⟩ = some (.int .i64 (o : Int)) := by rw [HO6.out.cell]; simp [ho]
       have c1 : wr.cell? ⟨B, o, none⟩ = some (.int .i64 (quoL m ws o)) := by rw [HP6.out.cell]; simp [g1]
       have f1 := HP6.out.frozen o
       have hset := HP6.out.set_ o (.int .i64 (quoL m ws o + 1))
       rw [List.setIfInBounds_toArray, ← List.map_set, g2] at hset
       have HSET := Lib.hid hset
       have HO7 := Lib.hid (HO6.out.far (p := ⟨B, o, none⟩) (show bO ≠ B by omega) (.int .i64 (quoL m ws o + 1)))
       have HB7 := Lib.hid (HB6.out.setCell (p := ⟨B, o, none⟩) (show B ≤ B by omega) (.int .i64 (quoL m ws o + 1)))
       obtain ⟨Q, hQ⟩ : ∃ Q, quoL m ws o = Q := ⟨_, rfl⟩
       rw [hQ] at c1 hqq HSET HO7 HB7
       have wq : IntKind.i64.wrap (Q + 1) = Q + 1 := IntWalk.i64_in _ (by omega)
       have hkl : (k : Int) < (restL m ws : Int) := by omega
       have hkn : (k : Int) < (n : Int) := by omega
       have hon : (o : Int) < (n : Int) := by omega
       have hk0 : (0 : Int) ≤ (k : Int) := by omega
       have ho0 : (0 : Int) ≤ (o : Int) := by omega
       have lB := HP6.out.lt
       clear hset g1 g2 hQ ho hk hi
       go_wp2
       go_roundg (restL m ws - (k + 1))
       case measure => have := HHI.out; omega
       case rel => exact ⟨k + 1, by have := HHI.out; omega, by go_num, HSET, HO7, HB7⟩
      ·obtain rfl : restL m ws = k := by omega
       have hfin : giv m ws (restL m ws) = splitL m ws := rfl
       rw [hfin] at HP6
       have hlen : (splitL m ws).length = n := by rw [splitL_len, HL.out]
       have HPA : Hid (PartsAt wr (some ⟨B, 0, none⟩, n, n) (splitL m ws)) := Lib.hid ⟨hlen, fun _ => ⟨B, 0, _, _, rfl, HP6.out, fun j hj => by simp⟩⟩
       go_wp2
       go_ret2
       exact ⟨B, rfl, HPA.out, by rw [hB]; exact HB6.out⟩
end Go.Proofs.YtlcalajehnaenaaGreatDoor
