/- book: the reference's Quote. -/
import Derived.Test.YtkandhpnenmleaaHBrVoid
import Derived.Test.YtkandhpnenmleaaHBrBest
import Derived.Test.YtkandhpnenmleaaHBkQuo
import Derived.Test.YtkandhpnenmleaaHRegD
import Derived.Deep.LoopGhost

namespace Go.Proofs.Ytkandhpnenmleaa
open Go.RowKit

def quoteR (os : List Ord) : Int → List Nat → Int × Int
  | _, [] => (0, 0)
  | n, id :: t => (min n (ordAt os id).left * (ordAt os id).price + (quoteR os (n - min n (ordAt os id).left) t).1, min n (ordAt os id).left + (quoteR os (n - min n (ordAt os id).left) t).2)
theorem quote_fold (os : List Ord) (n : Int) : ∀ (l : List Nat) (s u : Int), l.foldl (qstep os n) (s, u) = (s + (quoteR os (n - u) l).1, u + (quoteR os (n - u) l).2)
  | [], s, u => by simp [quoteR]
  | id :: t, s, u => by
    rw [List.foldl_cons]
    show List.foldl (qstep os n) (s + min (n - u) (ordAt os id).left * (ordAt os id).price, u + min (n - u) (ordAt os id).left) t = _
    rw [quote_fold os n t, quoteR]
    refine Prod.ext ?_ ?_
    · dsimp only
      rw [show n - (u + min (n - u) (ordAt os id).left) = n - u - min (n - u) (ordAt os id).left by omega]
      omega
    · dsimp only
      rw [show n - (u + min (n - u) (ordAt os id).left) = n - u - min (n - u) (ordAt os id).left by omega]
      omega
theorem quoteN_R (os : List Ord) (n : Int) (l : List Nat) : quoteN os n l = quoteR os n l := by
  unfold quoteN
  rw [quote_fold]
  refine Prod.ext ?_ ?_
  · dsimp only
    rw [show n - 0 = n by omega]
    omega
  · dsimp only
    rw [show n - 0 = n by omega]
    omega
theorem quoteR_congr {os os' : List Ord} : ∀ {l : List Nat} {n : Int}, (∀ k ∈ l, ordAt os k = ordAt os' k) → quoteR os n l = quoteR os' n l
  | [], _, _ => rfl
  | id :: t, n, h => by
    rw [quoteR, quoteR, h id List.mem_cons_self, quoteR_congr (fun k hk => h k (List.mem_cons_of_mem _ hk))]
theorem quoteR_zero {os : List Ord} : ∀ {l : List Nat}, (∀ k ∈ l, 0 ≤ (ordAt os k).left) → quoteR os 0 l = (0, 0)
  | [], _ => rfl
  | id :: t, h => by
    have h0 := h id List.mem_cons_self
    rw [quoteR, show min 0 (ordAt os id).left = 0 by omega]
    rw [show (0 : Int) - 0 = 0 by omega, quoteR_zero (fun k hk => h k (List.mem_cons_of_mem _ hk))]
    simp
theorem BkS.Ok.full1 {b : BkS} (h : b.Ok) {s : Bool} {id : Nat} {t : List Nat} (hs : b.side s = id :: t) {m : Int} (h0 : (ordAt b.os id).left - m = 0) : ((b.setOs (b.os.set id ((ordAt b.os id).less m))).put s t).Ok := by
  have hm := h.mem s id (by rw [hs]; exact List.mem_cons_self)
  have hr := h.rng id hm.1
  obtain ⟨p1, p2⟩ := h.pop hs
  rw [← put_setOs]
  have := p1.setO (id := id) (v := (ordAt b.os id).less m) (by rw [put_os]; exact hm.1) (by rw [put_os]; exact Ord.like_less _ _) (by show 0 ≤ (ordAt b.os id).left - m; omega) (by
    show (ordAt b.os id).left - m ≤ (ordAt b.os id).n
    omega) (fun e => by rw [p2] at e; cases e)
  rw [put_os] at this
  exact this
theorem BkS.Ok.part1 {b : BkS} (h : b.Ok) {s : Bool} {id : Nat} {t : List Nat} (hs : b.side s = id :: t) {m : Int} (hm0 : 0 ≤ m) (h0 : 0 < (ordAt b.os id).left - m) : (b.setOs (b.os.set id ((ordAt b.os id).less m))).Ok := by
  have hm := h.mem s id (by rw [hs]; exact List.mem_cons_self)
  have hr := h.rng id hm.1
  exact h.setO hm.1 (Ord.like_less _ _) (by show 0 ≤ (ordAt b.os id).left - m; omega) (by
    show (ordAt b.os id).left - m ≤ (ordAt b.os id).n
    omega) (fun _ => by show 0 < (ordAt b.os id).left - m; omega)
/-- A step of the reference's Quote. -/
theorem quote_step {c : BkS} (h : c.Ok) {s : Bool} {id : Nat} {t : List Nat} (hs : c.side s = id :: t) {n m : Int} (hn : 0 < n) (hm : m = min n (ordAt c.os id).left) (c' : BkS) (hc : c' = if (ordAt c.os id).left - m = 0 then (c.setOs (c.os.set id ((ordAt c.os id).less m))).put s t else c.setOs (c.os.set id ((ordAt c.os id).less m))) :
    c'.Ok ∧ quoteR c.os n (c.side s) = (m * (ordAt c.os id).price + (quoteR c'.os (n - m) (c'.side s)).1, m + (quoteR c'.os (n - m) (c'.side s)).2) ∧ (c'.side s).length + (if 0 < n - m then 1 else 0) < (c.side s).length + 1 ∧ c'.os.length = c.os.length := by
  have hid := h.mem s id (by rw [hs]; exact List.mem_cons_self)
  have hnd := (h.sorted s).nodup
  rw [hs] at hnd
  have hnt := (List.nodup_cons.1 hnd).1
  have hpos := hid.2.2
  by_cases h0 : (ordAt c.os id).left - m = 0
  · rw [if_pos h0] at hc
    subst hc
    refine ⟨h.full1 hs h0, ?_, ?_, by rw [put_os]; simp [BkS.setOs]⟩
    · rw [hs, quoteR, ← hm, put_side, put_os]
      have : quoteR (c.setOs (c.os.set id ((ordAt c.os id).less m))).os (n - m) t = quoteR c.os (n - m) t := quoteR_congr (fun k hk => by
        show ordAt (c.os.set id _) k = _
        rw [ordAt_set hid.1, if_neg (show ¬ k = id from fun e => hnt (by rw [← e]; exact hk))])
      rw [this]
    · rw [put_side, hs]
      simp only [List.length_cons]
      split <;> omega
  · rw [if_neg h0] at hc
    subst hc
    have hmn : n - m = 0 := by omega
    have hok := h.part1 hs (m := m) (by omega) (by omega)
    refine ⟨hok, ?_, ?_, by simp [BkS.setOs]⟩
    · rw [hmn, quoteR_zero (fun k hk => by have := (hok.mem s k hk).2.2; omega), hs, quoteR, ← hm, hmn, quoteR_zero (fun k hk => by
        have := (h.mem s k (by rw [hs]; exact List.mem_cons_of_mem _ hk)).2.2
        omega)]
    · rw [hmn, setOs_side]
      simp
def RQuotePost (b : BkS) (buy : Bool) (n : Int) (w : World) (e : Ending) (w' : World) : Prop := e = .returned (.tuple #[.int .i64 (quoteE b buy n).1, .int .i64 (quoteE b buy n).2.1, .int .i64 (quoteE b buy n).2.2]) ∧ Below w.heap.size w w'
/-- The state of the loop. -/
structure QSt (b : BkS) (s : Bool) (n0 : Int) (w : World) (gc n : Nat) (gk : Nat) (sv uv nv kv : Int) (A : Option Addr) (c : Nat) (l : List ROrd) (b1 : BkS) (wr : World) : Prop where
  at_ : RAt wr w.heap.size gc A n c l b1
  sum : sv + (quoteR b1.os nv (b1.side s)).1 = (quoteR b.os n0 (b.side s)).1
  units : uv + (quoteR b1.os nv (b1.side s)).2 = (quoteR b.os n0 (b.side s)).2
  tot : uv + nv = n0
  low : Below w.heap.size w wr
  head : kv = headI (b1.side s)
  cnt : (b1.side s).length + (if 0 < nv then 1 else 0) = gk
  sb : 0 ≤ sv ∧ sv + (gk : Int) * 1099511627776 ≤ 4097 * 1099511627776
  nn : 0 ≤ nv
  un : 0 ≤ uv
  nk : b1.os.length = n
set_option maxRecDepth 100000 in
set_option maxHeartbeats 4000000 in
theorem rquote_any (B g n c : Nat) (A : Option Addr) (l : List ROrd) (b : BkS) (buy : Bool) (n0 : Int) (w : World) (HK : Hid (RAt w B g A n c l b)) :
    Calls Try.prog 24 #[.pointer (some ⟨g, 0, none⟩), .bool buy, .int .i64 n0] w (RQuotePost b buy n0 w) := by
  by_cases h0 : n0 < 0
  · have HF : Hid (∀ w', Below w.heap.size w w' → RQuotePost b buy n0 w (.returned (.tuple #[.int .i64 0, .int .i64 0, .int .i64 5])) w') := Lib.hid (fun w' hb => ⟨by rw [show quoteE b buy n0 = (0, 0, 5) from if_pos (.inl h0)], hb⟩)
    go_enter Try.func24, Try.ntmps24
    go_wp2
    refine bodyPost_ret (v := .tuple #[.int .i64 0, .int .i64 0, .int .i64 5]) (by simp [results, Try.results24, go_sem]) rfl (HF.out _ (Below.refl _ _))
  by_cases h1 : 1099511627776 < n0
  · have HF : Hid (∀ w', Below w.heap.size w w' → RQuotePost b buy n0 w (.returned (.tuple #[.int .i64 0, .int .i64 0, .int .i64 5])) w') := Lib.hid (fun w' hb => ⟨by rw [show quoteE b buy n0 = (0, 0, 5) from if_pos (.inr h1)], hb⟩)
    go_enter Try.func24, Try.ntmps24
    go_wp2
    refine bodyPost_ret (v := .tuple #[.int .i64 0, .int .i64 0, .int .i64 5]) (by simp [results, Try.results24, go_sem]) rfl (HF.out _ (Below.refl _ _))
  have HF : Hid (∀ w', Below w.heap.size w w' → RQuotePost b buy n0 w (.returned (.tuple #[.int .i64 (quoteR b.os n0 (b.side !buy)).1, .int .i64 (quoteR b.os n0 (b.side !buy)).2, .int .i64 0])) w') := Lib.hid (fun w' hb => ⟨by
    rw [show quoteE b buy n0 = ((quoteN b.os n0 (b.side !buy)).1, (quoteN b.os n0 (b.side !buy)).2, 0) from if_neg (by omega), quoteN_R], hb⟩)
  obtain ⟨s, hs⟩ : ∃ s, (!buy) = s := ⟨_, rfl⟩
  rw [hs] at HF
  have HCP := Lib.hid (rcopy_any B g n c A l b w HK)
  have HNB : Hid (b.os.length = n) := Lib.hid (by rw [← HK.out.rel.len]; exact HK.out.rb.len)
  have HBEST : Hid (∀ (w' : World) (g' n' c' : Nat) (A' : Option Addr) (l' : List ROrd) (b' : BkS) (k : Int), RAt w' w.heap.size g' A' n' c' l' b' → k = headI (b'.side s) → Calls Try.prog 49 #[.pointer (some ⟨g', 0, none⟩), .bool s] w' fun e w'' => e = .returned (.int .i64 k) ∧ Below w'.heap.size w' w'') := Lib.hid (fun w' g' n' c' A' l' b' k h hk => by
    have h1 := rbest_walk w.heap.size g' n' c' A' l' s w' (Lib.hid h.rb)
    rw [hk, ← h.rel.best h.ok s, h.rb.len]
    exact h1)
  go_enter Try.func24, Try.ntmps24
  go_wp2_with fail
  refine HCP.out.mono ?_
  rintro e w1 ⟨gc, A1, n1, c1, rfl, hA1, hb1⟩
  have HA1 := Lib.hid hA1
  have HB1 := Lib.hid hb1
  have HN1 : Hid (n1 = n) := Lib.hid (by rw [← HNB.out, ← hA1.rel.len]; exact hA1.rb.len.symm)
  obtain ⟨k1, hk1⟩ : ∃ k1, k1 = headI (b.side s) := ⟨_, rfl⟩
  have HK1 := Lib.hid hk1
  clear hA1 hb1 hk1
  go_wp2_with fail
  refine (HBEST.out w1 gc n1 c1 A1 l b k1 HA1.out HK1.out).mono ?_
  rintro e w2 ⟨rfl, hb2⟩
  have HA2 : Hid (RAt w2 w.heap.size gc A1 n1 c1 l b) := Lib.hid ⟨HA1.out.rb.all hb2, HA1.out.rel, HA1.out.ok⟩
  have HB2 := Lib.hid (bt HB1.out hb2)
  clear hb2 HA1 HB1
  go_wp2_with fail
  go_loopg [10, 11, 2, 12] ((b.side s).length + (if 0 < n0 then 1 else 0)) (fun gk sv uv nv kv wr => ∃ (s1 u1 m1 k2 : Int) (A' : Option Addr) (c' : Nat) (l' : List ROrd) (b1 : BkS), sv = .int .i64 s1 ∧ uv = .int .i64 u1 ∧ nv = .int .i64 m1 ∧ kv = .int .i64 k2 ∧ Hid (QSt b s n0 w gc n gk s1 u1 m1 k2 A' c' l' b1 wr))
  case atStart =>
    refine ⟨0, 0, n0, k1, A1, c1, l, b, rfl, rfl, rfl, rfl, Lib.hid ⟨by rw [← HN1.out]; exact HA2.out, by omega, by omega, by omega, HB2.out, HK1.out, rfl, ⟨Int.le_refl _, ?_⟩, by omega, Int.le_refl _, HNB.out⟩⟩
    have h2 := HA2.out.ok.few
    rw [BkS.few_side b s] at h2
    split <;> omega
  case round =>
    obtain ⟨s1, u1, m1, k2, A', c', l', b1, rfl, rfl, rfl, rfl, HQ⟩ := hrel
    obtain ⟨hA2, hsum, hun, htot, hlow, hhead, hgk, ⟨hs0, hs1⟩, hm0, hu0, hnk⟩ := HQ.out
    have hmle : m1 ≤ 1099511627776 := by omega
    have hule : u1 + m1 ≤ 1099511627776 := by omega
    have HTOT := Lib.hid htot
    have HLOW := Lib.hid hlow
    have HHEAD := Lib.hid hhead
    have hc0 := hA2.rb.cell0
    have HA := Lib.hid hA2
    have HGK := Lib.hid hgk
    have HSUM := Lib.hid (And.intro hsum hun)
    clear hlow hhead hA2 hsum hun hgk hnk htot
    rcases hside : b1.side s with _ | ⟨id, t⟩
    · have hk2 : k2 = -1 := by rw [HHEAD.out, hside]; rfl
      have HFIN : Hid (RQuotePost b buy n0 w (.returned (.tuple #[.int .i64 s1, .int .i64 u1, .int .i64 0])) wr) := Lib.hid (by
        have h2 := HSUM.out
        rw [hside] at h2
        have h3 := HF.out wr HLOW.out
        rw [← h2.1, ← h2.2] at h3
        simpa [quoteR] using h3)
      subst hk2
      clear hside
      go_wp2
      all_goals exact bodyPost_ret (v := .tuple #[.int .i64 s1, .int .i64 u1, .int .i64 0]) (by simp [results, Try.results24, go_sem]) rfl HFIN.out
    · have hk2 : k2 = (id : Int) := by rw [HHEAD.out, hside]; rfl
      subst hk2
      rcases Int.lt_or_le 0 m1 with hm1 | hm1
      · have hid := HA.out.ok.mem s id (by rw [hside]; exact List.mem_cons_self)
        have hrng := HA.out.ok.rng id hid.1
        have hidn : id < n := by
          have h2 := HA.out.rel.len
          have h3 := HA.out.rb.len
          omega
        have hidi : (id : Int) < (n : Int) := by omega
        obtain ⟨gr, hAr, hgr, -, fz, a0, a1, a2, a3, a4, a5, a6⟩ := HA.out.rb.order hidn
        subst hAr
        have hao := HA.out.rel.at_ id
        obtain ⟨x, hx⟩ : ∃ x, ordAt b1.os id = x := ⟨_, rfl⟩
        rw [hao, hx] at a0 a1 a2 a3 a4 a5
        rw [hx] at hrng
        have hxl : 0 < x.left := by rw [← hx]; exact hid.2.2
        obtain ⟨r1, r2, r3, r4, r5, r6, r7, r8, r9⟩ := hrng
        obtain ⟨M, hM⟩ : ∃ M, min m1 x.left = M := ⟨_, rfl⟩
        have hM0 : 0 < M := by omega
        have hM1 : M ≤ m1 := by omega
        have hM2 : M ≤ x.left := by omega
        have hMP : M * x.price ≤ 1099511627776 := by
          have e1 : M * x.price ≤ x.n * x.price := Int.mul_le_mul_of_nonneg_right (by omega) (by omega)
          rw [Int.mul_comm x.n] at e1
          omega
        have hMP0 : 0 ≤ M * x.price := Int.mul_nonneg (by omega) (by omega)
        obtain ⟨b2, hb2⟩ : ∃ b2, b2 = if (ordAt b1.os id).left - M = 0 then (b1.setOs (b1.os.set id ((ordAt b1.os id).less M))).put s t else b1.setOs (b1.os.set id ((ordAt b1.os id).less M)) := ⟨_, rfl⟩
        obtain ⟨q1, q2, q3, q4⟩ := quote_step HA.out.ok hside hm1 (m := M) (by rw [hx]; exact hM.symm) b2 hb2
        rw [hx] at q2
        have HREL : Hid (Rel (l'.set id ⟨x.less M, (rAt l' id).e⟩) b2) := Lib.hid (by
          obtain ⟨z1, z2⟩ := HA.out.rel.setLeft HA.out.ok hid.1 hside M
          rw [hx] at z1 z2 hb2
          rw [hb2]
          split
          · exact z1 (by assumption)
          · exact z2 (by omega))
        have HX := Lib.hid hx
        have HAO := Lib.hid hao
        have HMM := Lib.hid hM
        have HQ1 := Lib.hid q1
        have HQ2 := Lib.hid q2
        have HQ3 := Lib.hid q3
        have HQ4 : Hid (b2.os.length = n) := Lib.hid (by rw [q4, ← HA.out.rel.len]; exact HA.out.rb.len)
        have HSD := Lib.hid hside
        have fz5 := fz 5
        have HMP : Hid (M * x.price ≤ 1099511627776 ∧ 0 ≤ M * x.price) := Lib.hid ⟨hMP, hMP0⟩
        have hgk1 : 1 ≤ gk := by
          rw [← HGK.out, hside]
          simp only [List.length_cons]
          omega
        have hw1 : IntKind.i64.wrap (M * x.price) = M * x.price := IntWalk.i64_in _ (by omega)
        have hw2 : IntKind.i64.wrap (s1 + M * x.price) = s1 + M * x.price := IntWalk.i64_in _ (by omega)
        have hw3 : IntKind.i64.wrap (x.left - M) = x.left - M := IntWalk.i64_in _ (by omega)
        have HUB : Hid (0 ≤ u1 ∨ True) := Lib.hid (.inr trivial)
        have hwm : (if m1 ≤ x.left then m1 else x.left) = M := by rw [← hM]; rfl
        clear hside hx hao q1 q2 q3 q4 hb2 hid fz hMP hMP0
        go_upto_region 12 with (fail)
        have hD : Below wr.heap.size wr wr.drew := below_drewN (Below.refl _ _) 1
        have HS12 : Hid (∀ w', Below wr.heap.size wr w' → (fun w' => w'.cell? ⟨gc, 0, none⟩ = some (.slice (some ⟨gr, 0, none⟩) n c') ∧ w'.cell? ⟨gr, id * 7 + 5, none⟩ = some (.int .i64 x.left) ∧ w'.frozen? ⟨gr, id * 7 + 5, none⟩ = false) w') := Lib.hid (fun w' hb => by
          have q := HA.out.rb.all hb
          obtain ⟨g', hg', -, -, fz', -, -, -, -, -, y5, -⟩ := q.order hidn
          injection hg' with hg'
          injection hg' with hg'
          subst hg'
          rw [HAO.out, HX.out] at y5
          exact ⟨q.cell0, y5, fz' 5⟩)
        clear a0 a1 a2 a3 a4 a5 a6 hc0 fz5
        refine beginG (S := (fun w' => w'.cell? ⟨gc, 0, none⟩ = some (.slice (some ⟨gr, 0, none⟩) n c') ∧ w'.cell? ⟨gr, id * 7 + 5, none⟩ = some (.int .i64 x.left) ∧ w'.frozen? ⟨gr, id * 7 + 5, none⟩ = false)) 17 (by kernel_rfl) (HS12.out _ hD) (fun hHeld => ?_)
        refine takeG 0 (some 60) (v := ?_) (by rfl) (by rfl) (by kernel_rfl) (by kernel_rfl) (by decide) (by kernel_rfl) (by kernel_rfl) (fun _ _ _ h => h) ?_ (by assumption) ?_
        rotate_left
        · (intro o ho w hSw; obtain ⟨z0, x5, f5⟩ := hSw; cases ho; go_simp; try with_reducible rfl)
        try simp only [Act.put, List.setIfInBounds_toArray, List.set_cons_zero, List.set_cons_succ]
        refine takeG 1 (some 61) (v := ?_) (by rfl) (by rfl) (by kernel_rfl) (by kernel_rfl) (by decide) (by kernel_rfl) (by kernel_rfl) (fun _ _ _ h => h) ?_ (by assumption) ?_
        rotate_left
        · (intro o ho w hSw; obtain ⟨z0, x5, f5⟩ := hSw; cases ho; go_simp; try with_reducible rfl)
        try simp only [Act.put, List.setIfInBounds_toArray, List.set_cons_zero, List.set_cons_succ]
        refine takeG 2 (some 62) (v := ?_) (by rfl) (by rfl) (by kernel_rfl) (by kernel_rfl) (by decide) (by kernel_rfl) (by kernel_rfl) (fun _ _ _ h => h) ?_ (by assumption) ?_
        rotate_left
        · (intro o ho w hSw; obtain ⟨z0, x5, f5⟩ := hSw; cases ho; go_simp; try with_reducible rfl)
        try simp only [Act.put, List.setIfInBounds_toArray, List.set_cons_zero, List.set_cons_succ]
        refine takeG 3 (some 63) (v := ?_) (by rfl) (by rfl) (by kernel_rfl) (by kernel_rfl) (by decide) (by kernel_rfl) (by kernel_rfl) (fun _ _ _ h => h) ?_ (by assumption) ?_
        rotate_left
        · (intro o ho w hSw; obtain ⟨z0, x5, f5⟩ := hSw; cases ho; go_simp; try with_reducible rfl)
        try simp only [Act.put, List.setIfInBounds_toArray, List.set_cons_zero, List.set_cons_succ]
        refine takeG 4 (some 64) (v := ?_) (by rfl) (by rfl) (by kernel_rfl) (by kernel_rfl) (by decide) (by kernel_rfl) (by kernel_rfl) (fun _ _ _ h => h) ?_ (by assumption) ?_
        rotate_left
        · (intro o ho w hSw; obtain ⟨z0, x5, f5⟩ := hSw; cases ho; go_simp; try with_reducible rfl)
        try simp only [Act.put, List.setIfInBounds_toArray, List.set_cons_zero, List.set_cons_succ]
        refine takeG 5 (some 65) (v := ?_) (by rfl) (by rfl) (by kernel_rfl) (by kernel_rfl) (by decide) (by kernel_rfl) (by kernel_rfl) (fun _ _ _ h => h) ?_ (by assumption) ?_
        rotate_left
        · (intro o ho w hSw; obtain ⟨z0, x5, f5⟩ := hSw; cases ho; go_simp; try with_reducible rfl)
        try simp only [Act.put, List.setIfInBounds_toArray, List.set_cons_zero, List.set_cons_succ]
        refine takeG 6 (some 66) (v := ?_) (by rfl) (by rfl) (by kernel_rfl) (by kernel_rfl) (by decide) (by kernel_rfl) (by kernel_rfl) (fun _ _ _ h => h) ?_ (by assumption) ?_
        rotate_left
        · (intro o ho w hSw; obtain ⟨z0, x5, f5⟩ := hSw; cases ho; go_simp; try with_reducible rfl)
        try simp only [Act.put, List.setIfInBounds_toArray, List.set_cons_zero, List.set_cons_succ]
        refine takeG 7 (some 67) (v := ?_) (by rfl) (by rfl) (by kernel_rfl) (by kernel_rfl) (by decide) (by kernel_rfl) (by kernel_rfl) (fun _ _ _ h => h) ?_ (by assumption) ?_
        rotate_left
        · (intro o ho w hSw; obtain ⟨z0, x5, f5⟩ := hSw; cases ho; go_simp; try with_reducible rfl)
        try simp only [Act.put, List.setIfInBounds_toArray, List.set_cons_zero, List.set_cons_succ]
        refine takeG 8 (some 68) (v := ?_) (by rfl) (by rfl) (by kernel_rfl) (by kernel_rfl) (by decide) (by kernel_rfl) (by kernel_rfl) (fun _ _ _ h => h) ?_ (by assumption) ?_
        rotate_left
        · (intro o ho w hSw; obtain ⟨z0, x5, f5⟩ := hSw; cases ho; go_simp; try with_reducible rfl)
        try simp only [Act.put, List.setIfInBounds_toArray, List.set_cons_zero, List.set_cons_succ]
        refine takeG 9 (some 69) (v := ?_) (by rfl) (by rfl) (by kernel_rfl) (by kernel_rfl) (by decide) (by kernel_rfl) (by kernel_rfl) (fun _ _ _ h => h) ?_ (by assumption) ?_
        rotate_left
        · (intro o ho w hSw; obtain ⟨z0, x5, f5⟩ := hSw; cases ho; go_simp; try with_reducible rfl)
        try simp only [Act.put, List.setIfInBounds_toArray, List.set_cons_zero, List.set_cons_succ]
        refine takeG 10 (some 70) (v := ?_) (by rfl) (by rfl) (by kernel_rfl) (by kernel_rfl) (by decide) (by kernel_rfl) (by kernel_rfl) (fun _ _ _ h => h) ?_ (by assumption) ?_
        rotate_left
        · (intro o ho w hSw; obtain ⟨z0, x5, f5⟩ := hSw; cases ho; go_simp; try with_reducible rfl)
        try simp only [Act.put, List.setIfInBounds_toArray, List.set_cons_zero, List.set_cons_succ]
        refine takeG 11 (some 71) (v := ?_) (by rfl) (by rfl) (by kernel_rfl) (by kernel_rfl) (by decide) (by kernel_rfl) (by kernel_rfl) (fun _ _ _ h => h) ?_ (by assumption) ?_
        rotate_left
        · (intro o ho w hSw; obtain ⟨z0, x5, f5⟩ := hSw; cases ho; go_simp; try with_reducible rfl)
        try simp only [Act.put, List.setIfInBounds_toArray, List.set_cons_zero, List.set_cons_succ]
        refine takeG 12 (some 72) (v := ?_) (by rfl) (by rfl) (by kernel_rfl) (by kernel_rfl) (by decide) (by kernel_rfl) (by kernel_rfl) (fun _ _ _ h => h) ?_ (by assumption) ?_
        rotate_left
        · (intro o ho w hSw; obtain ⟨z0, x5, f5⟩ := hSw; cases ho; go_simp; try with_reducible rfl)
        try simp only [Act.put, List.setIfInBounds_toArray, List.set_cons_zero, List.set_cons_succ]
        refine takeG 13 (some 73) (v := ?_) (by rfl) (by rfl) (by kernel_rfl) (by kernel_rfl) (by decide) (by kernel_rfl) (by kernel_rfl) (fun _ _ _ h => h) ?_ (by assumption) ?_
        rotate_left
        · (intro o ho w hSw; obtain ⟨z0, x5, f5⟩ := hSw; cases ho; go_simp; try with_reducible rfl)
        try simp only [Act.put, List.setIfInBounds_toArray, List.set_cons_zero, List.set_cons_succ]
        refine takeG 14 (some 74) (v := ?_) (by rfl) (by rfl) (by kernel_rfl) (by kernel_rfl) (by decide) (by kernel_rfl) (by kernel_rfl) (fun _ _ _ h => h) ?_ (by assumption) ?_
        rotate_left
        · (intro o ho w hSw; obtain ⟨z0, x5, f5⟩ := hSw; cases ho; go_simp; try with_reducible rfl)
        try simp only [Act.put, List.setIfInBounds_toArray, List.set_cons_zero, List.set_cons_succ]
        refine takeGD [16, 17] 15 (some 75) (v := ?_) (by rfl) (by rfl) (by kernel_rfl) (by kernel_rfl) (by decide) (by kernel_rfl) (by kernel_rfl) (fun _ _ _ h => h) ?_ (by assumption) ?_
        rotate_left
        · (intro o ho w hSw; obtain ⟨z0, x5, f5⟩ := hSw; cases ho; go_simp; try with_reducible rfl)
        try simp only [Act.put, List.setIfInBounds_toArray, List.set_cons_zero, List.set_cons_succ]
        refine takeG 16 (some 76) (v := ?_) (by rfl) (by rfl) (by kernel_rfl) (by kernel_rfl) (by decide) (by kernel_rfl) (by kernel_rfl) (fun _ _ _ h => h) ?_ (by assumption) ?_
        rotate_left
        · (intro o ho w hSw; obtain ⟨z0, x5, f5⟩ := hSw; cases ho; go_simp; try with_reducible rfl)
        try simp only [Act.put, List.setIfInBounds_toArray, List.set_cons_zero, List.set_cons_succ]
        refine lastG (by kernel_rfl) rfl (fun K hK => ?_)
        obtain ⟨z0, x5, f5⟩ := HS12.out _ hD
        go_simp
        refine hK.out _ _ ?_
        clear hK K
        (try simp only [Act.put]); (try simp only [List.setIfInBounds_toArray]); (try simp only [List.set_cons_succ]); (try simp only [List.set_cons_zero])
        refine doneG (by kernel_rfl) ?_ _
        obtain ⟨w9, hw9⟩ : ∃ w9, w9 = (wr.setCell ⟨gr, id * 7 + 5, none⟩ (.int .i64 (x.left - M))).drew := ⟨_, rfl⟩
        rw [← hw9]
        have HA9 : Hid (RAt w9 w.heap.size gc (some ⟨gr, 0, none⟩) n c' (l'.set id ⟨x.less M, (rAt l' id).e⟩) b2 ∧ Below w.heap.size w w9) := Lib.hid (by
          obtain ⟨y1, y2⟩ := HA.out.rb.left rfl hidn (x.less M) (by
            rw [HAO.out, HX.out]
            show x.less M = x.less (x.left - (x.left - M))
            rw [show x.left - (x.left - M) = M by omega])
          rw [hw9]
          exact ⟨⟨y1.all (below_drewN (Below.refl _ _) 1), HREL.out, HQ1.out⟩, below_drewN (y2.below HLOW.out HLOW.out.size (fun q hq => (HA.out.rb.lt hq).1)) 1⟩)
        clear hw9 HS12
        try clear hHeld
        obtain ⟨k3, hk3⟩ : ∃ k3, k3 = headI (b2.side s) := ⟨_, rfl⟩
        have HK3 := Lib.hid hk3
        clear hk3
        go_wp2_with (go_at_call 49
                     (with_reducible refine (HBEST.out w9 gc n c' (some ⟨gr, 0, none⟩) _ b2 k3 HA9.out.1 HK3.out).mono ?_)
                     rintro e w10 ⟨rfl, hb10⟩)
        go_roundg ((b2.side s).length + (if 0 < m1 - M then 1 else 0))
        case measure =>
          have h2 := HQ3.out
          rw [← HGK.out, if_pos hm1]
          exact h2
        case rel =>
          refine ⟨s1 + M * x.price, u1 + M, m1 - M, k3, some ⟨gr, 0, none⟩, c', _, b2, rfl, rfl, rfl, rfl, Lib.hid ⟨⟨HA9.out.1.rb.all hb10, HREL.out, HQ1.out⟩, ?_, ?_, ?_, bt HA9.out.2 hb10, HK3.out, rfl, ⟨?_, ?_⟩, by omega, by omega, HQ4.out⟩⟩
          · have h2 := HSUM.out.1
            rw [HQ2.out] at h2
            dsimp only at h2
            omega
          · have h2 := HSUM.out.2
            rw [HQ2.out] at h2
            dsimp only at h2
            omega
          · have := HTOT.out
            omega
          · have := HMP.out
            omega
          · have h2 := HQ3.out
            have h3 := HMP.out
            have h4 := HGK.out
            rw [if_pos hm1] at h4
            omega
      · have HFIN : Hid (RQuotePost b buy n0 w (.returned (.tuple #[.int .i64 s1, .int .i64 u1, .int .i64 0])) wr) := Lib.hid (by
          have h2 := HSUM.out
          obtain rfl : m1 = 0 := by omega
          rw [quoteR_zero (fun k hk => by have := (HA.out.ok.mem s k hk).2.2; omega)] at h2
          have h3 := HF.out wr HLOW.out
          rw [← h2.1, ← h2.2] at h3
          simpa using h3)
        clear hside
        go_wp2
        exact bodyPost_ret (v := .tuple #[.int .i64 s1, .int .i64 u1, .int .i64 0]) (by simp [results, Try.results24, go_sem]) rfl HFIN.out
end Go.Proofs.Ytkandhpnenmleaa
