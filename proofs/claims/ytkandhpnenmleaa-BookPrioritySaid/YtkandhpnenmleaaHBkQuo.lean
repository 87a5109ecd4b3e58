/- book: Quote. -/
import Derived.Test.YtkandhpnenmleaaHBkVoid

namespace Go.Proofs.Ytkandhpnenmleaa
open Go.RowKit

def qstep (os : List Ord) (n : Int) (s : Int × Int) (id : Nat) : Int × Int := (s.1 + min (n - s.2) (ordAt os id).left * (ordAt os id).price, s.2 + min (n - s.2) (ordAt os id).left)
def quoteN (os : List Ord) (n : Int) (l : List Nat) : Int × Int := l.foldl (qstep os n) (0, 0)
def quoteE (b : BkS) (buy : Bool) (n : Int) : Int × Int × Int := if n < 0 ∨ 1099511627776 < n then (0, 0, 5) else ((quoteN b.os n (b.side !buy)).1, (quoteN b.os n (b.side !buy)).2, 0)
set_option maxRecDepth 100000 in
set_option maxHeartbeats 1000000 in
theorem quote_any (gb B : Nat) (V : BkV) (b : BkS) (buy : Bool) (n : Int) (w : World) (HK : Hid (BkAt w B gb V b)) :
    Calls Try.prog 23 #[.pointer (some ⟨gb, 0, none⟩), .bool buy, .int .i64 n] w fun e w' => e = .returned (.tuple #[.int .i64 (quoteE b buy n).1, .int .i64 (quoteE b buy n).2.1, .int .i64 (quoteE b buy n).2.2]) ∧ Below w.heap.size w w' := by
  by_cases h0 : n < 0
  · have HF : Hid (quoteE b buy n = (0, 0, 5)) := Lib.hid (if_pos (.inl h0))
    go_enter Try.func23, Try.ntmps23
    go_wp2
    refine bodyPost_ret (v := .tuple #[.int .i64 0, .int .i64 0, .int .i64 5]) (by simp [results, Try.results23, go_sem]) rfl ⟨by rw [HF.out], Below.refl _ _⟩
  by_cases h1 : 1099511627776 < n
  · have HF : Hid (quoteE b buy n = (0, 0, 5)) := Lib.hid (if_pos (.inr h1))
    go_enter Try.func23, Try.ntmps23
    go_wp2
    refine bodyPost_ret (v := .tuple #[.int .i64 0, .int .i64 0, .int .i64 5]) (by simp [results, Try.results23, go_sem]) rfl ⟨by rw [HF.out], Below.refl _ _⟩
  cases buy
  ·
    obtain ⟨A, m, c, hV⟩ : ∃ A m c, V.b = (A, m, c) := ⟨_, _, _, rfl⟩
    have u := HK.out.blk.cell 1
    simp only [List.getElem?_toArray, List.getElem?_cons_zero, List.getElem?_cons_succ] at u
    unfold slV at u
    rw [hV] at u
    dsimp only at u
    have hI : IRow w B (A, m, c) (b.side true) := by have := HK.out.bs; rw [hV] at this; exact this
    have hl : (b.side true).length = m := hI.len
    have hm : m ≤ 4096 := by
      have h1 := HK.out.ok.few
      rw [← hl]
      simp [BkS.side]
      omega
    have HI := Lib.hid hI
    have HL := Lib.hid hl
    have hgb := HK.out.blk.lt
    clear hV hI hl
    go_enter Try.func23, Try.ntmps23
    go_wp2
    go_quiet ((go_at_call 30; exact (side_true _).mono (fun e w'' h => ⟨h.1, _, h.2.symm⟩)))
    all_goals
      have hb0 : Below w.heap.size w (w.drewN nq) := below_drewN (Below.refl _ _) nq
      obtain ⟨W, hW⟩ : ∃ W, W = w.drewN nq := ⟨_, rfl⟩
      rw [← hW] at hb0 ⊢
      have HA := Lib.hid (HK.out.all hb0)
      replace HI := Lib.hid (HI.out.all hb0)
      have HB := Lib.hid hb0
      have hgbW : gb < W.heap.size := HA.out.blk.lt
      have v0 := HA.out.blk.cell 0
      simp only [List.getElem?_toArray, List.getElem?_cons_zero] at v0
      unfold BkV.os at v0
      clear hW hb0 u hgb
      obtain ⟨os, hos⟩ : ∃ os, b.os = os := ⟨_, rfl⟩
      have HOS := Lib.hid hos
      rw [hos] at v0
      obtain ⟨nn, hnn⟩ : ∃ nn, os.length = nn := ⟨_, rfl⟩
      have HNN := Lib.hid hnn
      rw [hnn] at v0
      clear hos hnn
      go_wp2
      go_loop [9, 10, 30] (fun sv uv kv => ∃ (k : Nat) (s t : Int), k ≤ m ∧ kv = .int .i64 (k : Int) ∧ sv = .int .i64 s ∧ uv = .int .i64 t ∧ 0 ≤ s ∧ s ≤ (k : Int) * 1099511627776 ∧ 0 ≤ t ∧ t ≤ n ∧ Hid ((s, t) = quoteN os n ((b.side true).take k))) (fun _ _ kv => m - (intOf kv).toNat)
      case atStart => exact ⟨0, 0, 0, by omega, rfl, rfl, rfl, by omega, by omega, by omega, by omega, Lib.hid rfl⟩
      case round =>
        obtain ⟨k, s, t, hk, rfl, rfl, rfl, hs1, hs2, ht1, ht2, HQ⟩ := hrel
        rcases Nat.lt_or_ge k m with hkm | hkm
        · have hki : (k : Int) < (m : Int) := by omega
          obtain ⟨gs, off, e1, -, lgs, c2, -⟩ := HI.out.cell hkm
          subst e1
          have hkl : k < (b.side true).length := by rw [HL.out]; exact hkm
          obtain ⟨id, hid⟩ : ∃ id, (b.side true)[k] = id := ⟨_, rfl⟩
          have hg : ((b.side true)[k]?).getD 0 = id := by rw [List.getElem?_eq_getElem hkl]; exact hid
          rw [hg] at c2
          have hme := HA.out.ok.mem true id (by rw [← hid]; exact List.getElem_mem hkl)
          obtain ⟨gr, e2, lgr, -, x0, x1, x2, x3, x4, x5⟩ := HA.out.order hme.1
          rw [e2] at v0
          have hidl : (id : Int) < (nn : Int) := by have := hme.1; rw [HOS.out, HNN.out] at this; omega
          have hr := HA.out.ok.rng id hme.1
          have HS : Hid (quoteN os n ((b.side true).take (k + 1)) = qstep os n (s, t) id) := Lib.hid (by
            rw [← List.take_append_getElem hkl, hid]
            unfold quoteN
            rw [List.foldl_append]
            rw [show List.foldl (qstep os n) (0, 0) ((b.side true).take k) = (s, t) from HQ.out.symm]
            rfl)
          rw [HOS.out] at hr x0 x1 x2 x3 x4 x5
          obtain ⟨x, hx⟩ : ∃ x, ordAt os id = x := ⟨_, rfl⟩
          rw [hx] at hr x0 x1 x2 x3 x4 x5
          obtain ⟨C, hC⟩ : ∃ C, min (n - t) x.left = C := ⟨_, rfl⟩
          obtain ⟨D, hD⟩ : ∃ D, C * x.price = D := ⟨_, rfl⟩
          have hC0 : 0 ≤ C := by omega
          have hC1 : C ≤ n - t := by omega
          have hD0 : 0 ≤ D := by rw [← hD]; exact Int.mul_nonneg hC0 (by omega)
          have hD1 : D ≤ 1099511627776 := by
            rw [← hD, Int.mul_comm]
            exact Int.le_trans (Int.mul_le_mul_of_nonneg_left (show C ≤ x.n by omega) (by omega)) hr.2.2.2.2.2.2.2.2
          have hw1 : IntKind.i64.wrap (C * x.price) = D := by rw [hD]; exact IntWalk.i64_in _ (by omega)
          have HQS : Hid (qstep os n (s, t) id = (s + D, t + C)) := Lib.hid (by
            unfold qstep
            dsimp only
            rw [hx, hC, hD])
          have hr5 := hr.2.2.2.2.1
          have hr6 : x.left ≤ 1099511627776 := by omega
          have hn1 : n - t ≤ 1099511627776 := by omega
          clear hid hg hme e2 hr hx hD hkl
          have hs3 : s + D ≤ ((k : Int) + 1) * 1099511627776 := by omega
          have hs4 : s ≤ 4503599627370496 := by omega
          go_wp2
          refine ⟨⟨k + 1, s + D, t + C, by omega, by go_num, rfl, rfl, by omega, by omega, by omega, by omega, Lib.hid ?_⟩, by simp [intOf]; omega⟩
          rw [HS.out, HQS.out]
        · obtain rfl : k = m := by omega
          have HF : Hid (quoteE b false n = (s, t, 0)) := Lib.hid (by
            unfold quoteE
            rw [if_neg (by omega), HOS.out, show (!false) = true from rfl, ← (show (s, t) = quoteN os n (b.side true) by have := HQ.out; rw [List.take_of_length_le (by rw [HL.out]; exact Nat.le_refl _)] at this; exact this)])
          go_wp2
          refine bodyPost_ret (v := .tuple #[.int .i64 s, .int .i64 t, .int .i64 0]) (by simp [results, Try.results23, go_sem]) rfl ⟨by rw [HF.out], HB.out⟩

  ·
    obtain ⟨A, m, c, hV⟩ : ∃ A m c, V.s = (A, m, c) := ⟨_, _, _, rfl⟩
    have u := HK.out.blk.cell 3
    simp only [List.getElem?_toArray, List.getElem?_cons_zero, List.getElem?_cons_succ] at u
    unfold slV at u
    rw [hV] at u
    dsimp only at u
    have hI : IRow w B (A, m, c) (b.side false) := by have := HK.out.ss; rw [hV] at this; exact this
    have hl : (b.side false).length = m := hI.len
    have hm : m ≤ 4096 := by
      have h1 := HK.out.ok.few
      rw [← hl]
      simp [BkS.side]
      omega
    have HI := Lib.hid hI
    have HL := Lib.hid hl
    have hgb := HK.out.blk.lt
    clear hV hI hl
    go_enter Try.func23, Try.ntmps23
    go_wp2
    go_quiet ((go_at_call 30; exact (side_false _).mono (fun e w'' h => ⟨h.1, _, h.2.symm⟩)))
    all_goals
      have hb0 : Below w.heap.size w (w.drewN nq) := below_drewN (Below.refl _ _) nq
      obtain ⟨W, hW⟩ : ∃ W, W = w.drewN nq := ⟨_, rfl⟩
      rw [← hW] at hb0 ⊢
      have HA := Lib.hid (HK.out.all hb0)
      replace HI := Lib.hid (HI.out.all hb0)
      have HB := Lib.hid hb0
      have hgbW : gb < W.heap.size := HA.out.blk.lt
      have v0 := HA.out.blk.cell 0
      simp only [List.getElem?_toArray, List.getElem?_cons_zero] at v0
      unfold BkV.os at v0
      clear hW hb0 u hgb
      obtain ⟨os, hos⟩ : ∃ os, b.os = os := ⟨_, rfl⟩
      have HOS := Lib.hid hos
      rw [hos] at v0
      obtain ⟨nn, hnn⟩ : ∃ nn, os.length = nn := ⟨_, rfl⟩
      have HNN := Lib.hid hnn
      rw [hnn] at v0
      clear hos hnn
      go_wp2
      go_loop [9, 10, 30] (fun sv uv kv => ∃ (k : Nat) (s t : Int), k ≤ m ∧ kv = .int .i64 (k : Int) ∧ sv = .int .i64 s ∧ uv = .int .i64 t ∧ 0 ≤ s ∧ s ≤ (k : Int) * 1099511627776 ∧ 0 ≤ t ∧ t ≤ n ∧ Hid ((s, t) = quoteN os n ((b.side false).take k))) (fun _ _ kv => m - (intOf kv).toNat)
      case atStart => exact ⟨0, 0, 0, by omega, rfl, rfl, rfl, by omega, by omega, by omega, by omega, Lib.hid rfl⟩
      case round =>
        obtain ⟨k, s, t, hk, rfl, rfl, rfl, hs1, hs2, ht1, ht2, HQ⟩ := hrel
        rcases Nat.lt_or_ge k m with hkm | hkm
        · have hki : (k : Int) < (m : Int) := by omega
          obtain ⟨gs, off, e1, -, lgs, c2, -⟩ := HI.out.cell hkm
          subst e1
          have hkl : k < (b.side false).length := by rw [HL.out]; exact hkm
          obtain ⟨id, hid⟩ : ∃ id, (b.side false)[k] = id := ⟨_, rfl⟩
          have hg : ((b.side false)[k]?).getD 0 = id := by rw [List.getElem?_eq_getElem hkl]; exact hid
          rw [hg] at c2
          have hme := HA.out.ok.mem false id (by rw [← hid]; exact List.getElem_mem hkl)
          obtain ⟨gr, e2, lgr, -, x0, x1, x2, x3, x4, x5⟩ := HA.out.order hme.1
          rw [e2] at v0
          have hidl : (id : Int) < (nn : Int) := by have := hme.1; rw [HOS.out, HNN.out] at this; omega
          have hr := HA.out.ok.rng id hme.1
          have HS : Hid (quoteN os n ((b.side false).take (k + 1)) = qstep os n (s, t) id) := Lib.hid (by
            rw [← List.take_append_getElem hkl, hid]
            unfold quoteN
            rw [List.foldl_append]
            rw [show List.foldl (qstep os n) (0, 0) ((b.side false).take k) = (s, t) from HQ.out.symm]
            rfl)
          rw [HOS.out] at hr x0 x1 x2 x3 x4 x5
          obtain ⟨x, hx⟩ : ∃ x, ordAt os id = x := ⟨_, rfl⟩
          rw [hx] at hr x0 x1 x2 x3 x4 x5
          obtain ⟨C, hC⟩ : ∃ C, min (n - t) x.left = C := ⟨_, rfl⟩
          obtain ⟨D, hD⟩ : ∃ D, C * x.price = D := ⟨_, rfl⟩
          have hC0 : 0 ≤ C := by omega
          have hC1 : C ≤ n - t := by omega
          have hD0 : 0 ≤ D := by rw [← hD]; exact Int.mul_nonneg hC0 (by omega)
          have hD1 : D ≤ 1099511627776 := by
            rw [← hD, Int.mul_comm]
            exact Int.le_trans (Int.mul_le_mul_of_nonneg_left (show C ≤ x.n by omega) (by omega)) hr.2.2.2.2.2.2.2.2
          have hw1 : IntKind.i64.wrap (C * x.price) = D := by rw [hD]; exact IntWalk.i64_in _ (by omega)
          have HQS : Hid (qstep os n (s, t) id = (s + D, t + C)) := Lib.hid (by
            unfold qstep
            dsimp only
            rw [hx, hC, hD])
          have hr5 := hr.2.2.2.2.1
          have hr6 : x.left ≤ 1099511627776 := by omega
          have hn1 : n - t ≤ 1099511627776 := by omega
          clear hid hg hme e2 hr hx hD hkl
          have hs3 : s + D ≤ ((k : Int) + 1) * 1099511627776 := by omega
          have hs4 : s ≤ 4503599627370496 := by omega
          go_wp2
          refine ⟨⟨k + 1, s + D, t + C, by omega, by go_num, rfl, rfl, by omega, by omega, by omega, by omega, Lib.hid ?_⟩, by simp [intOf]; omega⟩
          rw [HS.out, HQS.out]
        · obtain rfl : k = m := by omega
          have HF : Hid (quoteE b true n = (s, t, 0)) := Lib.hid (by
            unfold quoteE
            rw [if_neg (by omega), HOS.out, show (!true) = false from rfl, ← (show (s, t) = quoteN os n (b.side false) by have := HQ.out; rw [List.take_of_length_le (by rw [HL.out]; exact Nat.le_refl _)] at this; exact this)])
          go_wp2
          refine bodyPost_ret (v := .tuple #[.int .i64 s, .int .i64 t, .int .i64 0]) (by simp [results, Try.results23, go_sem]) rfl ⟨by rw [HF.out], HB.out⟩

end Go.Proofs.Ytkandhpnenmleaa
