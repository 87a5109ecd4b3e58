/- book: the reference's Place of an order to sell. -/
import Derived.Test.YtkandhpnenmleaaHBrPr

namespace Go.Proofs.Ytkandhpnenmleaa
open Go.RowKit

theorem one4_f (a b c d : Int) : ∀ u ∈ (#[Value.int .i64 a, .int .i64 b, .int .i64 c, .int .i64 d] : Array Value).toList, u.oneCell' = true := by
  intro u hu
  simp at hu
  rcases hu with rfl | rfl | rfl | rfl <;> rfl
set_option maxRecDepth 100000 in
set_option maxHeartbeats 20000000 in
theorem rplace_false (B g n c : Nat) (A : Option Addr) (l0 : List ROrd) (b : BkS) (acc price mm : Int) (w : World) (HK : Hid (RAt w B g A n c l0 b)) (hlt : n < 100000) (h1 : 1 ≤ acc) (h2 : acc ≤ 1073741824) (hp : inR price = true) (hn : inR mm = true) (hd : price ≤ (1099511627776 : Int).tdiv mm) (h : b.bs.length + b.ss.length < 4096) :
    Calls Try.prog 40 #[.pointer (some ⟨g, 0, none⟩), .int .i64 acc, .bool false, .int .i64 price, .int .i64 mm] w (RPlacePost B g A n c b acc false price mm w) := by
  have HOL : Hid ((l0.filter ROrd.open).length = b.bs.length + b.ss.length) := Lib.hid (by
    rw [HK.out.rel.opens, List.length_map, BkS.openIds_len HK.out.ok])
  have HE0 : Hid (placeErr b acc price mm = 0) := Lib.hid (by unfold placeErr; rw [if_neg (by omega), if_neg (by rw [hp, hn]; simp; omega), if_neg (by omega)])
  have HBK : Hid (b.bs.length + b.ss.length ≤ 4096) := Lib.hid HK.out.ok.few
  have k6 : ¬ (1099511627776 : Int).tdiv price < mm := fun e => by
    have hp' := hp
    have hn' := hn
    unfold inR at hp' hn'
    rw [Bool.and_eq_true, decide_eq_true_eq, decide_eq_true_eq] at hp' hn'
    have := (rng_iff (by omega) (by omega) (by omega)).1 e
    rw [hp, hn] at this
    simp at this
    omega
  unfold inR at hp hn
  rw [Bool.and_eq_true, decide_eq_true_eq, decide_eq_true_eq] at hp hn
  obtain ⟨p1, p2⟩ := hp
  obtain ⟨n1, n2⟩ := hn
  have k7 : ¬ (1099511627776 : Int) / price < mm := by rw [← Int.tdiv_eq_ediv_of_nonneg (by omega)]; exact k6
  have hp0 : ¬ price = 0 := by omega
  have k1 : ¬ price < 1 := by omega
  have k2 : ¬ mm < 1 := by omega
  have k3 : ¬ 1099511627776 < price := by omega
  have HO := Lib.hid (rorders_any B g n c A l0 w (Lib.hid HK.out.rb))
  obtain ⟨k, hk⟩ : ∃ k, (l0.filter ROrd.open).length = k := ⟨_, rfl⟩
  have hk4 : ¬ 4096 ≤ (k : Int) := by have := HOL.out; omega
  have HKK := Lib.hid hk
  have HNB : Hid (b.os.length = n) := Lib.hid (by rw [← HK.out.rel.len]; exact HK.out.rb.len)
  have HNL := Lib.hid hlt
  have HLT : Hid (∀ q, RF g A n c q → q < w.heap.size) := Lib.hid (fun q hq => (HK.out.rb.lt hq).2)
  have HBEST : Hid (∀ (w' : World) (A' : Option Addr) (l' : List ROrd) (d : BkS) (k : Int), RB w' B g A' n c l' → Rel l' d → d.Ok → k = headI (d.side true) → Calls Try.prog 49 #[.pointer (some ⟨g, 0, none⟩), .bool true] w' fun e w'' => e = .returned (.int .i64 k) ∧ Below w'.heap.size w' w'') := Lib.hid (fun w' A' l' d k h hr ho hk => by
    have h1 := rbest_walk B g n c A' l' true w' (Lib.hid h)
    rw [hk, ← hr.best ho true, h.len]
    exact h1)
  obtain ⟨o0, ho0⟩ : ∃ o0 : Ord, o0 = ⟨(n : Int), acc, false, price, mm, mm⟩ := ⟨_, rfl⟩
  have HO0 := Lib.hid ho0
  clear hk hd h hlt ho0
  go_enter Try.func40, Try.ntmps40
  go_wp2_with fail
  refine HO.out.mono ?_
  rintro e w1 ⟨A1, c1, rfl, -, hb1⟩
  rw [HKK.out]
  have HK1 : Hid (RB w1 B g A n c l0) := Lib.hid (HK.out.rb.all hb1)
  have hc0 := HK1.out.cell0
  have HB1 := Lib.hid hb1
  obtain ⟨k0, hk0⟩ : ∃ k0, k0 = headI (b.side true) := ⟨_, rfl⟩
  have HK0 := Lib.hid hk0
  clear hb1 hk0
  go_wp2_with fail
  obtain ⟨w2, hw2⟩ : ∃ w2, w2 = w1.alloc (.cells #[.int .i64 (n : Int), .int .i64 acc, .bool false, .int .i64 price, .int .i64 mm, .int .i64 mm, .bool false] 85) := ⟨_, rfl⟩
  rw [← hw2]
  have hkx : Blk w2 w1.heap.size 85 #[.int .i64 (n : Int), .int .i64 acc, .bool false, .int .i64 price, .int .i64 mm, .int .i64 mm, .bool false] := by rw [hw2]; exact Blk.new _ _ _
  have hb2 : Below w.heap.size w w2 := by rw [hw2]; exact HB1.out.alloc HB1.out.size _
  obtain ⟨gx, hgx⟩ : ∃ gx, w1.heap.size = gx := ⟨_, rfl⟩
  have HGX : Hid (w.heap.size ≤ gx) := Lib.hid (by rw [← hgx]; exact HB1.out.size)
  rw [hgx] at hkx ⊢
  have HKX := Lib.hid hkx
  have HB2 := Lib.hid hb2
  clear hw2 hkx hb2 hgx hc0
  refine (HBEST.out w2 A l0 b k0 (HK.out.rb.all HB2.out) HK.out.rel HK.out.ok HK0.out).mono ?_
  rintro e w3 ⟨rfl, hb3⟩
  have HRR0 : Hid (RR B g A n c w gx o0 [] none 0 0 l0 w3) := Lib.hid ⟨HK.out.rb.all (bt HB2.out hb3), by rw [HO0.out]; exact HKX.out.all hb3, World.ownsRow_nil _ _ _ 4, rfl, Mod.of_below _ (bt HB2.out hb3), HGX.out, HLT.out⟩
  have HPM0 : Hid (PM b true o0 b o0 []) := Lib.hid (PM.start HK.out.ok true o0 (by rw [HO0.out]; show 0 ≤ mm; omega))
  have HREL0 : Hid (Rel l0 b) := Lib.hid HK.out.rel
  clear hb3
  go_wp2_with fail
  go_loopg [15, 16] ((b.side true).length + (if 0 < o0.left then 1 else 0)) (fun gk lv kv wr => RLoop B g A n c w gx b true o0 gk lv kv wr)
  case atStart => exact RLoop.mk HPM0.out HRR0.out HREL0.out HK0.out
  case round =>
    clear HRR0 HPM0 HREL0
    obtain ⟨d, o, ts, At, m, ct, l, rfl, rfl, HPM, HRR, HREL, HGK⟩ := hrel
    have hP1 : Below wr.heap.size wr wr.drew := below_drewN (Below.refl _ _) 1
    have HSY : Hid (∀ w', Below wr.heap.size wr w' → (fun w' => w'.cell? ⟨gx, 0, none⟩ = some (.int .i64 o.id) ∧ w'.cell? ⟨gx, 1, none⟩ = some (.int .i64 o.acc) ∧ w'.cell? ⟨gx, 2, none⟩ = some (.bool o.buy) ∧ w'.cell? ⟨gx, 3, none⟩ = some (.int .i64 o.price) ∧ w'.cell? ⟨gx, 4, none⟩ = some (.int .i64 o.n) ∧ w'.cell? ⟨gx, 5, none⟩ = some (.int .i64 o.left) ∧ w'.cell? ⟨gx, 6, none⟩ = some (.bool false)) w') := Lib.hid (fun w' hb => by
      have y := (HRR.out.below hb).y
      exact ⟨y.1, y.2.1, y.2.2.1, y.2.2.2.1, y.2.2.2.2.1, y.2.2.2.2.2.1, y.2.2.2.2.2.2.1⟩)
    have hlk := HPM.out.like
    have hoacc : o.acc = acc := hlk.2.1.trans (by rw [HO0.out])
    have hobuy : o.buy = false := hlk.2.2.1.trans (by rw [HO0.out])
    have HOB := Lib.hid hobuy
    have HOA := Lib.hid hoacc
    clear hlk hoacc hobuy
    rcases Int.lt_or_le 0 o.left with hlf | hlf
    · rcases hs : d.side true with _ | ⟨id, t⟩
      · have HST : Hid (Stops d true o) := Lib.hid (.inr (.inl hs))
        clear hs
        show Code.wp _ _ _ _ _
        go_wp2
        refine wp_region_held_drew (S := (fun w' => w'.cell? ⟨gx, 0, none⟩ = some (.int .i64 o.id) ∧ w'.cell? ⟨gx, 1, none⟩ = some (.int .i64 o.acc) ∧ w'.cell? ⟨gx, 2, none⟩ = some (.bool o.buy) ∧ w'.cell? ⟨gx, 3, none⟩ = some (.int .i64 o.price) ∧ w'.cell? ⟨gx, 4, none⟩ = some (.int .i64 o.n) ∧ w'.cell? ⟨gx, 5, none⟩ = some (.int .i64 o.left) ∧ w'.cell? ⟨gx, 6, none⟩ = some (.bool false))) (by kernel_rfl) (HSY.out _ hP1) (fun hHeld => ?_)
        refine takeH 0 (some 62) (v := ?_) (by rfl) (by rfl) (by kernel_rfl) (by kernel_rfl) (by kernel_rfl) (fun _ _ _ h => h) ?_ (by assumption) ?_
        rotate_left
        · (intro o ho w hSw; obtain ⟨y0, y1, y2, y3, y4, y5, y6⟩ := hSw; cases ho; go_simp; try with_reducible rfl)
        try simp only [Act.put, List.setIfInBounds_toArray, List.set_cons_zero, List.set_cons_succ]
        refine takeH 1 (some 63) (v := ?_) (by rfl) (by rfl) (by kernel_rfl) (by kernel_rfl) (by kernel_rfl) (fun _ _ _ h => h) ?_ (by assumption) ?_
        rotate_left
        · (intro o ho w hSw; obtain ⟨y0, y1, y2, y3, y4, y5, y6⟩ := hSw; cases ho; go_simp; try with_reducible rfl)
        try simp only [Act.put, List.setIfInBounds_toArray, List.set_cons_zero, List.set_cons_succ]
        refine takeH 2 (some 64) (v := ?_) (by rfl) (by rfl) (by kernel_rfl) (by kernel_rfl) (by kernel_rfl) (fun _ _ _ h => h) ?_ (by assumption) ?_
        rotate_left
        · (intro o ho w hSw; obtain ⟨y0, y1, y2, y3, y4, y5, y6⟩ := hSw; cases ho; go_simp; try with_reducible rfl)
        try simp only [Act.put, List.setIfInBounds_toArray, List.set_cons_zero, List.set_cons_succ]
        refine takeH 3 (some 65) (v := ?_) (by rfl) (by rfl) (by kernel_rfl) (by kernel_rfl) (by kernel_rfl) (fun _ _ _ h => h) ?_ (by assumption) ?_
        rotate_left
        · (intro o ho w hSw; obtain ⟨y0, y1, y2, y3, y4, y5, y6⟩ := hSw; cases ho; go_simp; try with_reducible rfl)
        try simp only [Act.put, List.setIfInBounds_toArray, List.set_cons_zero, List.set_cons_succ]
        first
        | refine skipH 4 (some 66) (by rfl) (by rfl) (by kernel_rfl) (by kernel_rfl) (by kernel_rfl) (fun _ _ _ h => h) (by assumption) ?_
        | refine takeH 4 (some 66) (v := ?_) (by rfl) (by rfl) (by kernel_rfl) (by kernel_rfl) (by kernel_rfl) (fun _ _ _ h => h) ?_ (by assumption) ?_
          rotate_left
          · (intro o ho w hSw; obtain ⟨y0, y1, y2, y3, y4, y5, y6⟩ := hSw; cases ho; go_simp; try with_reducible rfl)
        try simp only [Act.put, List.setIfInBounds_toArray, List.set_cons_zero, List.set_cons_succ]
        first
        | refine skipH 5 (some 67) (by rfl) (by rfl) (by kernel_rfl) (by kernel_rfl) (by kernel_rfl) (fun _ _ _ h => h) (by assumption) ?_
        | refine takeH 5 (some 67) (v := ?_) (by rfl) (by rfl) (by kernel_rfl) (by kernel_rfl) (by kernel_rfl) (fun _ _ _ h => h) ?_ (by assumption) ?_
          rotate_left
          · (intro o ho w hSw; obtain ⟨y0, y1, y2, y3, y4, y5, y6⟩ := hSw; cases ho; go_simp; try with_reducible rfl)
        try simp only [Act.put, List.setIfInBounds_toArray, List.set_cons_zero, List.set_cons_succ]
        refine takeH 6 (some 68) (v := ?_) (by rfl) (by rfl) (by kernel_rfl) (by kernel_rfl) (by kernel_rfl) (fun _ _ _ h => h) ?_ (by assumption) ?_
        rotate_left
        · (intro o ho w hSw; obtain ⟨y0, y1, y2, y3, y4, y5, y6⟩ := hSw; cases ho; go_simp; try with_reducible rfl)
        try simp only [Act.put, List.setIfInBounds_toArray, List.set_cons_zero, List.set_cons_succ]
        refine takeH 7 (some 69) (v := ?_) (by rfl) (by rfl) (by kernel_rfl) (by kernel_rfl) (by kernel_rfl) (fun _ _ _ h => h) ?_ (by assumption) ?_
        rotate_left
        · (intro o ho w hSw; obtain ⟨y0, y1, y2, y3, y4, y5, y6⟩ := hSw; cases ho; go_simp; try with_reducible rfl)
        try simp only [Act.put, List.setIfInBounds_toArray, List.set_cons_zero, List.set_cons_succ]
        first
        | refine skipH 8 (some 70) (by rfl) (by rfl) (by kernel_rfl) (by kernel_rfl) (by kernel_rfl) (fun _ _ _ h => h) (by assumption) ?_
        | refine takeH 8 (some 70) (v := ?_) (by rfl) (by rfl) (by kernel_rfl) (by kernel_rfl) (by kernel_rfl) (fun _ _ _ h => h) ?_ (by assumption) ?_
          rotate_left
          · (intro o ho w hSw; obtain ⟨y0, y1, y2, y3, y4, y5, y6⟩ := hSw; cases ho; go_simp; try with_reducible rfl)
        try simp only [Act.put, List.setIfInBounds_toArray, List.set_cons_zero, List.set_cons_succ]
        first
        | refine skipH 9 (some 71) (by rfl) (by rfl) (by kernel_rfl) (by kernel_rfl) (by kernel_rfl) (fun _ _ _ h => h) (by assumption) ?_
        | refine takeH 9 (some 71) (v := ?_) (by rfl) (by rfl) (by kernel_rfl) (by kernel_rfl) (by kernel_rfl) (fun _ _ _ h => h) ?_ (by assumption) ?_
          rotate_left
          · (intro o ho w hSw; obtain ⟨y0, y1, y2, y3, y4, y5, y6⟩ := hSw; cases ho; go_simp; try with_reducible rfl)
        try simp only [Act.put, List.setIfInBounds_toArray, List.set_cons_zero, List.set_cons_succ]
        first
        | refine skipH 10 (some 72) (by rfl) (by rfl) (by kernel_rfl) (by kernel_rfl) (by kernel_rfl) (fun _ _ _ h => h) (by assumption) ?_
        | refine takeH 10 (some 72) (v := ?_) (by rfl) (by rfl) (by kernel_rfl) (by kernel_rfl) (by kernel_rfl) (fun _ _ _ h => h) ?_ (by assumption) ?_
          rotate_left
          · (intro o ho w hSw; obtain ⟨y0, y1, y2, y3, y4, y5, y6⟩ := hSw; cases ho; go_simp; try with_reducible rfl)
        try simp only [Act.put, List.setIfInBounds_toArray, List.set_cons_zero, List.set_cons_succ]
        first
        | refine skipH 11 (some 73) (by rfl) (by rfl) (by kernel_rfl) (by kernel_rfl) (by kernel_rfl) (fun _ _ _ h => h) (by assumption) ?_
        | refine takeH 11 (some 73) (v := ?_) (by rfl) (by rfl) (by kernel_rfl) (by kernel_rfl) (by kernel_rfl) (fun _ _ _ h => h) ?_ (by assumption) ?_
          rotate_left
          · (intro o ho w hSw; obtain ⟨y0, y1, y2, y3, y4, y5, y6⟩ := hSw; cases ho; go_simp; try with_reducible rfl)
        try simp only [Act.put, List.setIfInBounds_toArray, List.set_cons_zero, List.set_cons_succ]
        first
        | refine skipH 12 (some 74) (by rfl) (by rfl) (by kernel_rfl) (by kernel_rfl) (by kernel_rfl) (fun _ _ _ h => h) (by assumption) ?_
        | refine takeH 12 (some 74) (v := ?_) (by rfl) (by rfl) (by kernel_rfl) (by kernel_rfl) (by kernel_rfl) (fun _ _ _ h => h) ?_ (by assumption) ?_
          rotate_left
          · (intro o ho w hSw; obtain ⟨y0, y1, y2, y3, y4, y5, y6⟩ := hSw; cases ho; go_simp; try with_reducible rfl)
        try simp only [Act.put, List.setIfInBounds_toArray, List.set_cons_zero, List.set_cons_succ]
        first
        | refine skipH 13 (some 75) (by rfl) (by rfl) (by kernel_rfl) (by kernel_rfl) (by kernel_rfl) (fun _ _ _ h => h) (by assumption) ?_
        | refine takeH 13 (some 75) (v := ?_) (by rfl) (by rfl) (by kernel_rfl) (by kernel_rfl) (by kernel_rfl) (fun _ _ _ h => h) ?_ (by assumption) ?_
          rotate_left
          · (intro o ho w hSw; obtain ⟨y0, y1, y2, y3, y4, y5, y6⟩ := hSw; cases ho; go_simp; try with_reducible rfl)
        try simp only [Act.put, List.setIfInBounds_toArray, List.set_cons_zero, List.set_cons_succ]
        first
        | refine skipH 14 (some 76) (by rfl) (by rfl) (by kernel_rfl) (by kernel_rfl) (by kernel_rfl) (fun _ _ _ h => h) (by assumption) ?_
        | refine takeH 14 (some 76) (v := ?_) (by rfl) (by rfl) (by kernel_rfl) (by kernel_rfl) (by kernel_rfl) (fun _ _ _ h => h) ?_ (by assumption) ?_
          rotate_left
          · (intro o ho w hSw; obtain ⟨y0, y1, y2, y3, y4, y5, y6⟩ := hSw; cases ho; go_simp; try with_reducible rfl)
        try simp only [Act.put, List.setIfInBounds_toArray, List.set_cons_zero, List.set_cons_succ]
        first
        | refine skipH 15 (some 77) (by rfl) (by rfl) (by kernel_rfl) (by kernel_rfl) (by kernel_rfl) (fun _ _ _ h => h) (by assumption) ?_
        | refine takeH 15 (some 77) (v := ?_) (by rfl) (by rfl) (by kernel_rfl) (by kernel_rfl) (by kernel_rfl) (fun _ _ _ h => h) ?_ (by assumption) ?_
          rotate_left
          · (intro o ho w hSw; obtain ⟨y0, y1, y2, y3, y4, y5, y6⟩ := hSw; cases ho; go_simp; try with_reducible rfl)
        try simp only [Act.put, List.setIfInBounds_toArray, List.set_cons_zero, List.set_cons_succ]
        first
        | refine skipH 16 (some 78) (by rfl) (by rfl) (by kernel_rfl) (by kernel_rfl) (by kernel_rfl) (fun _ _ _ h => h) (by assumption) ?_
        | refine takeH 16 (some 78) (v := ?_) (by rfl) (by rfl) (by kernel_rfl) (by kernel_rfl) (by kernel_rfl) (fun _ _ _ h => h) ?_ (by assumption) ?_
          rotate_left
          · (intro o ho w hSw; obtain ⟨y0, y1, y2, y3, y4, y5, y6⟩ := hSw; cases ho; go_simp; try with_reducible rfl)
        try simp only [Act.put, List.setIfInBounds_toArray, List.set_cons_zero, List.set_cons_succ]
        refine takeH 17 (some 79) (v := ?_) (by rfl) (by rfl) (by kernel_rfl) (by kernel_rfl) (by kernel_rfl) (fun _ _ _ h => h) ?_ (by assumption) ?_
        rotate_left
        · (intro o ho w hSw; obtain ⟨y0, y1, y2, y3, y4, y5, y6⟩ := hSw; cases ho; go_simp; try with_reducible rfl)
        try simp only [Act.put, List.setIfInBounds_toArray, List.set_cons_zero, List.set_cons_succ]
        refine wpAnyH_done (by kernel_rfl) ?_ _
        go_wp2
        have hPx := (show Below wr.heap.size wr wr.drew.drew from below_drewN (below_drewN (Below.refl _ _) 1) 1)
        have HS22 : Hid (∀ w', Below wr.heap.size wr w' → (fun w' => w'.cell? ⟨g, 0, none⟩ = some (.slice A n c) ∧ w'.cell? ⟨gx, 0, none⟩ = some (.int .i64 o.id) ∧ w'.cell? ⟨gx, 1, none⟩ = some (.int .i64 o.acc) ∧ w'.cell? ⟨gx, 2, none⟩ = some (.bool o.buy) ∧ w'.cell? ⟨gx, 3, none⟩ = some (.int .i64 o.price) ∧ w'.cell? ⟨gx, 4, none⟩ = some (.int .i64 o.n) ∧ w'.cell? ⟨gx, 5, none⟩ = some (.int .i64 o.left) ∧ w'.cell? ⟨gx, 6, none⟩ = some (.bool false) ∧ w'.frozen? ⟨g, 0, none⟩ = false) w') := Lib.hid (fun w' hb => by
          have q := HRR.out.below hb
          have y := q.y
          exact ⟨q.rb.cell0, y.1, y.2.1, y.2.2.1, y.2.2.2.1, y.2.2.2.2.1, y.2.2.2.2.2.1, y.2.2.2.2.2.2.1, q.rb.blk.frozen 0⟩)
        have HAPP : Hid (∀ w', Below wr.heap.size wr w' → ∃ A' c' w5, (Builtin.append_ #[51, 51] 51 #[.slice A n c, .slice (some ⟨w'.heap.size, 0, none⟩) 1 1]).run Try.prog (w'.alloc (.cells #[.int .i64 o.id, .int .i64 o.acc, .bool o.buy, .int .i64 o.price, .int .i64 o.n, .int .i64 o.left, .bool false] 85)) = .ok (.slice A' (n + 1) c') w5 ∧ (fun w' => w'.cell? ⟨g, 0, none⟩ = some (.slice A n c) ∧ w'.cell? ⟨gx, 0, none⟩ = some (.int .i64 o.id) ∧ w'.cell? ⟨gx, 1, none⟩ = some (.int .i64 o.acc) ∧ w'.cell? ⟨gx, 2, none⟩ = some (.bool o.buy) ∧ w'.cell? ⟨gx, 3, none⟩ = some (.int .i64 o.price) ∧ w'.cell? ⟨gx, 4, none⟩ = some (.int .i64 o.n) ∧ w'.cell? ⟨gx, 5, none⟩ = some (.int .i64 o.left) ∧ w'.cell? ⟨gx, 6, none⟩ = some (.bool false) ∧ w'.frozen? ⟨g, 0, none⟩ = false) w5 ∧ RFin B g A n c w gx o ts At m ct l A' c' (w5.setCell ⟨g, 0, none⟩ (.slice A' (n + 1) c'))) := Lib.hid (fun w' hb => by
          have q := HRR.out.below hb
          obtain ⟨A', c', w5, hr, h1, h2, h3, h4⟩ := app_elem2 51 slT_rord q.rb.own #[.int .i64 o.id, .int .i64 o.acc, .bool o.buy, .int .i64 o.price, .int .i64 o.n, .int .i64 o.left, .bool false] rfl (one7 _ _ _ _ _ _ _) (by have := HNL.out; omega) (by decide) (Nat.le_trans q.rb.ge (Nat.le_of_lt q.rb.blk.lt))
          have ha := q.added (A' := A') (c' := c') (w5 := w5) HNL.out h3 h1 h4
          exact ⟨A', c', w5, hr, ha.1, ha.2⟩)
        refine beginG (S := (fun w' => w'.cell? ⟨g, 0, none⟩ = some (.slice A n c) ∧ w'.cell? ⟨gx, 0, none⟩ = some (.int .i64 o.id) ∧ w'.cell? ⟨gx, 1, none⟩ = some (.int .i64 o.acc) ∧ w'.cell? ⟨gx, 2, none⟩ = some (.bool o.buy) ∧ w'.cell? ⟨gx, 3, none⟩ = some (.int .i64 o.price) ∧ w'.cell? ⟨gx, 4, none⟩ = some (.int .i64 o.n) ∧ w'.cell? ⟨gx, 5, none⟩ = some (.int .i64 o.left) ∧ w'.cell? ⟨gx, 6, none⟩ = some (.bool false) ∧ w'.frozen? ⟨g, 0, none⟩ = false)) 10 (by kernel_rfl) (HS22.out _ hPx) (fun hHeld => ?_)
        refine takeG 0 (some 172) (v := ?_) (by rfl) (by rfl) (by kernel_rfl) (by kernel_rfl) (by decide) (by kernel_rfl) (by kernel_rfl) (fun _ _ _ h => h) ?_ (by assumption) ?_
        rotate_left
        · (intro o ho w hSw; obtain ⟨z0, y0, y1, y2, y3, y4, y5, y6, f0⟩ := hSw; cases ho; go_simp; try with_reducible rfl)
        try simp only [Act.put, List.setIfInBounds_toArray, List.set_cons_zero, List.set_cons_succ]
        refine takeG 1 (some 173) (v := ?_) (by rfl) (by rfl) (by kernel_rfl) (by kernel_rfl) (by decide) (by kernel_rfl) (by kernel_rfl) (fun _ _ _ h => h) ?_ (by assumption) ?_
        rotate_left
        · (intro o ho w hSw; obtain ⟨z0, y0, y1, y2, y3, y4, y5, y6, f0⟩ := hSw; cases ho; go_simp; try with_reducible rfl)
        try simp only [Act.put, List.setIfInBounds_toArray, List.set_cons_zero, List.set_cons_succ]
        refine takeG 2 (some 174) (v := ?_) (by rfl) (by rfl) (by kernel_rfl) (by kernel_rfl) (by decide) (by kernel_rfl) (by kernel_rfl) (fun _ _ _ h => h) ?_ (by assumption) ?_
        rotate_left
        · (intro o ho w hSw; obtain ⟨z0, y0, y1, y2, y3, y4, y5, y6, f0⟩ := hSw; cases ho; go_simp; try with_reducible rfl)
        try simp only [Act.put, List.setIfInBounds_toArray, List.set_cons_zero, List.set_cons_succ]
        refine takeG 3 (some 175) (v := ?_) (by rfl) (by rfl) (by kernel_rfl) (by kernel_rfl) (by decide) (by kernel_rfl) (by kernel_rfl) (fun _ _ _ h => h) ?_ (by assumption) ?_
        rotate_left
        · (intro o ho w hSw; obtain ⟨z0, y0, y1, y2, y3, y4, y5, y6, f0⟩ := hSw; cases ho; go_simp; try with_reducible rfl)
        try simp only [Act.put, List.setIfInBounds_toArray, List.set_cons_zero, List.set_cons_succ]
        refine takeG 4 (some 176) (v := ?_) (by rfl) (by rfl) (by kernel_rfl) (by kernel_rfl) (by decide) (by kernel_rfl) (by kernel_rfl) (fun _ _ _ h => h) ?_ (by assumption) ?_
        rotate_left
        · (intro o ho w hSw; obtain ⟨z0, y0, y1, y2, y3, y4, y5, y6, f0⟩ := hSw; cases ho; go_simp; try with_reducible rfl)
        try simp only [Act.put, List.setIfInBounds_toArray, List.set_cons_zero, List.set_cons_succ]
        refine takeG 5 (some 177) (v := ?_) (by rfl) (by rfl) (by kernel_rfl) (by kernel_rfl) (by decide) (by kernel_rfl) (by kernel_rfl) (fun _ _ _ h => h) ?_ (by assumption) ?_
        rotate_left
        · (intro o ho w hSw; obtain ⟨z0, y0, y1, y2, y3, y4, y5, y6, f0⟩ := hSw; cases ho; go_simp; try with_reducible rfl)
        try simp only [Act.put, List.setIfInBounds_toArray, List.set_cons_zero, List.set_cons_succ]
        refine readyG (i := 6) (by kernel_rfl) rfl (fun K hK => ?_)
        go_simp
        have hP8 := hPx.alloc hPx.size (.cells #[.int .i64 o.id, .int .i64 o.acc, .bool o.buy, .int .i64 o.price, .int .i64 o.n, .int .i64 o.left, .bool false] 85)
        refine hK.out _ _ ?_ (fun hH6 => ?_)
        · exact (HS22.out _ hP8)
        clear hK K
        (try simp only [Act.put]); (try simp only [List.setIfInBounds_toArray]); (try simp only [List.set_cons_succ]); (try simp only [List.set_cons_zero])
        refine readyG (i := 7) (by kernel_rfl) rfl (fun K hK => ?_)
        obtain ⟨A5, c5, w5, hr5, hHx, hF5⟩ := HAPP.out _ hPx
        refine step_app (t := 51) hr5 (by kernel_rfl) (by rfl) (by rfl) (by rfl) ?_
        (try simp only [List.getElem_toArray, List.getElem_cons_succ, List.getElem_cons_zero])
        refine hK.out _ _ ?_ (fun hH7 => ?_)
        · exact hHx
        clear hK K
        (try simp only [Act.put]); (try simp only [List.setIfInBounds_toArray]); (try simp only [List.set_cons_succ]); (try simp only [List.set_cons_zero])
        refine takeGD [9, 10] 8 (some 180) (v := ?_) (by rfl) (by rfl) (by kernel_rfl) (by kernel_rfl) (by decide) (by kernel_rfl) (by kernel_rfl) (fun _ _ _ h => h) ?_ (by assumption) ?_
        rotate_left
        · (intro o ho w hSw; obtain ⟨z0, y0, y1, y2, y3, y4, y5, y6, f0⟩ := hSw; cases ho; go_simp; try with_reducible rfl)
        (try simp only [Act.put]); (try simp only [List.setIfInBounds_toArray]); (try simp only [List.set_cons_succ]); (try simp only [List.set_cons_zero])
        refine takeG 9 (some 181) (v := ?_) (by rfl) (by rfl) (by kernel_rfl) (by kernel_rfl) (by decide) (by kernel_rfl) (by kernel_rfl) (fun _ _ _ h => h) ?_ (by assumption) ?_
        rotate_left
        · (intro o ho w hSw; obtain ⟨z0, y0, y1, y2, y3, y4, y5, y6, f0⟩ := hSw; cases ho; go_simp; try with_reducible rfl)
        (try simp only [Act.put]); (try simp only [List.setIfInBounds_toArray]); (try simp only [List.set_cons_succ]); (try simp only [List.set_cons_zero])
        refine lastG (by kernel_rfl) rfl (fun K hK => ?_)
        obtain ⟨z0, y0, y1, y2, y3, y4, y5, y6, f0⟩ := hHx
        go_simp
        refine hK.out _ _ ?_
        clear hK K
        (try simp only [Act.put]); (try simp only [List.setIfInBounds_toArray]); (try simp only [List.set_cons_succ]); (try simp only [List.set_cons_zero])
        refine doneG (by kernel_rfl) ?_ _
        obtain ⟨w7, hw7⟩ : ∃ w7, w7 = w5.setCell ⟨g, 0, none⟩ (.slice A5 (n + 1) c5) := ⟨_, rfl⟩
        rw [← hw7] at hF5 ⊢
        have y0' := hF5.y
        have HF5 := Lib.hid hF5
        clear hw7 hF5
        go_wp2
        refine bodyPost_ret (v := .tuple #[.int .i64 o.id, .slice At m ct, .int .i64 0]) (by simp [results, Try.results40, go_sem]) rfl (HF5.out.post (show PM b (!false) ⟨(n : Int), acc, false, price, mm, mm⟩ d o ts from by rw [← HO0.out]; exact HPM.out) HST.out HE0.out HREL.out HNB.out)
      · have hfa := HPM.out.facts hs
        have hdl : d.os.length = n := by rw [← HREL.out.len]; exact HRR.out.rb.len
        have hidn : id < n := by have := hfa.1; omega
        have hhd : headI (id :: t) = (id : Int) := rfl
        rw [hhd]
        obtain ⟨gr, hgr, lgr, -⟩ := HRR.out.rb.order hidn
        subst hgr
        have HGR := Lib.hid lgr
        have hii : (id : Int) < (n : Int) := by omega
        have hao := HREL.out.at_ id
        obtain ⟨xe, hxe⟩ : ∃ xe, (rAt l id).e = xe := ⟨_, rfl⟩
        obtain ⟨x, hx⟩ : ∃ x, ordAt d.os id = x := ⟨_, rfl⟩
        rw [hx] at hfa hao
        have hxl := hfa.2.2.1
        have hxm := hfa.2.2.2.2
        have HX := Lib.hid hx
        have HXO := Lib.hid hao
        have HXE := Lib.hid hxe
        have HSD := Lib.hid hs
        have HIDN := Lib.hid hidn
        have HIDL : Hid (id < d.os.length) := Lib.hid (by omega)
        have HS : Hid (∀ w', Below wr.heap.size wr w' → (fun w' => w'.cell? ⟨g, 0, none⟩ = some (.slice (some ⟨gr, 0, none⟩) n c) ∧ w'.cell? ⟨gx, 0, none⟩ = some (.int .i64 o.id) ∧ w'.cell? ⟨gx, 1, none⟩ = some (.int .i64 o.acc) ∧ w'.cell? ⟨gx, 2, none⟩ = some (.bool o.buy) ∧ w'.cell? ⟨gx, 3, none⟩ = some (.int .i64 o.price) ∧ w'.cell? ⟨gx, 4, none⟩ = some (.int .i64 o.n) ∧ w'.cell? ⟨gx, 5, none⟩ = some (.int .i64 o.left) ∧ w'.cell? ⟨gx, 6, none⟩ = some (.bool false) ∧ w'.cell? ⟨gr, id * 7, none⟩ = some (.int .i64 x.id) ∧ w'.cell? ⟨gr, id * 7 + 1, none⟩ = some (.int .i64 x.acc) ∧ w'.cell? ⟨gr, id * 7 + 2, none⟩ = some (.bool x.buy) ∧ w'.cell? ⟨gr, id * 7 + 3, none⟩ = some (.int .i64 x.price) ∧ w'.cell? ⟨gr, id * 7 + 4, none⟩ = some (.int .i64 x.n) ∧ w'.cell? ⟨gr, id * 7 + 5, none⟩ = some (.int .i64 x.left) ∧ w'.cell? ⟨gr, id * 7 + 6, none⟩ = some (.bool xe)) w') := Lib.hid (fun w' hb => by
          have y := HSY.out w' hb
          have q := (HRR.out.below hb).rb
          obtain ⟨g', hg', -, -, -, x⟩ := q.order hidn
          injection hg' with hg'
          injection hg' with hg'
          subst hg'
          rw [HXO.out, HXE.out] at x
          exact ⟨q.cell0, y.1, y.2.1, y.2.2.1, y.2.2.2.1, y.2.2.2.2.1, y.2.2.2.2.2.1, y.2.2.2.2.2.2, x.1, x.2.1, x.2.2.1, x.2.2.2.1, x.2.2.2.2.1, x.2.2.2.2.2.1, x.2.2.2.2.2.2⟩)
        have hac : ∀ w, Calls Try.prog 60 #[.agg #[.int .i64 o.id, .int .i64 o.acc, .bool o.buy, .int .i64 o.price, .int .i64 o.n, .int .i64 o.left, .bool false], .agg #[.int .i64 x.id, .int .i64 x.acc, .bool x.buy, .int .i64 x.price, .int .i64 x.n, .int .i64 x.left, .bool xe]] w fun e w' => e = .returned (.bool (acceptsB o x)) ∧ Below w.heap.size w w' := fun w => racc_any ⟨o, false⟩ ⟨x, xe⟩ w
        clear hx hs hfa hao hxe hdl hhd lgr hidn
        cases hab : acceptsB o x
        · have HAC : Hid (∀ w, Calls Try.prog 60 #[.agg #[.int .i64 o.id, .int .i64 o.acc, .bool o.buy, .int .i64 o.price, .int .i64 o.n, .int .i64 o.left, .bool false], .agg #[.int .i64 x.id, .int .i64 x.acc, .bool x.buy, .int .i64 x.price, .int .i64 x.n, .int .i64 x.left, .bool xe]] w fun e w' => e = .returned (.bool false) ∧ Below w.heap.size w w') := Lib.hid (by simp only [hab] at hac; exact hac)
          have HST : Hid (Stops d true o) := Lib.hid (.inr (.inr ⟨id, t, HSD.out, by rw [HX.out]; exact hab⟩))
          clear hab hac
          go_wp2
          refine wp_region_held_drew (S := (fun w' => w'.cell? ⟨g, 0, none⟩ = some (.slice (some ⟨gr, 0, none⟩) n c) ∧ w'.cell? ⟨gx, 0, none⟩ = some (.int .i64 o.id) ∧ w'.cell? ⟨gx, 1, none⟩ = some (.int .i64 o.acc) ∧ w'.cell? ⟨gx, 2, none⟩ = some (.bool o.buy) ∧ w'.cell? ⟨gx, 3, none⟩ = some (.int .i64 o.price) ∧ w'.cell? ⟨gx, 4, none⟩ = some (.int .i64 o.n) ∧ w'.cell? ⟨gx, 5, none⟩ = some (.int .i64 o.left) ∧ w'.cell? ⟨gx, 6, none⟩ = some (.bool false) ∧ w'.cell? ⟨gr, id * 7, none⟩ = some (.int .i64 x.id) ∧ w'.cell? ⟨gr, id * 7 + 1, none⟩ = some (.int .i64 x.acc) ∧ w'.cell? ⟨gr, id * 7 + 2, none⟩ = some (.bool x.buy) ∧ w'.cell? ⟨gr, id * 7 + 3, none⟩ = some (.int .i64 x.price) ∧ w'.cell? ⟨gr, id * 7 + 4, none⟩ = some (.int .i64 x.n) ∧ w'.cell? ⟨gr, id * 7 + 5, none⟩ = some (.int .i64 x.left) ∧ w'.cell? ⟨gr, id * 7 + 6, none⟩ = some (.bool xe))) (by kernel_rfl) (HS.out _ hP1) (fun hHeld => ?_)
          refine takeH 0 (some 62) (v := ?_) (by rfl) (by rfl) (by kernel_rfl) (by kernel_rfl) (by kernel_rfl) (fun _ _ _ h => h) ?_ (by assumption) ?_
          rotate_left
          · (intro o ho w hSw; obtain ⟨z0, y0, y1, y2, y3, y4, y5, y6, x0, x1, x2, x3, x4, x5, x6⟩ := hSw; cases ho; go_simp; try with_reducible rfl)
          try simp only [Act.put, List.setIfInBounds_toArray, List.set_cons_zero, List.set_cons_succ]
          refine takeH 1 (some 63) (v := ?_) (by rfl) (by rfl) (by kernel_rfl) (by kernel_rfl) (by kernel_rfl) (fun _ _ _ h => h) ?_ (by assumption) ?_
          rotate_left
          · (intro o ho w hSw; obtain ⟨z0, y0, y1, y2, y3, y4, y5, y6, x0, x1, x2, x3, x4, x5, x6⟩ := hSw; cases ho; go_simp; try with_reducible rfl)
          try simp only [Act.put, List.setIfInBounds_toArray, List.set_cons_zero, List.set_cons_succ]
          refine takeH 2 (some 64) (v := ?_) (by rfl) (by rfl) (by kernel_rfl) (by kernel_rfl) (by kernel_rfl) (fun _ _ _ h => h) ?_ (by assumption) ?_
          rotate_left
          · (intro o ho w hSw; obtain ⟨z0, y0, y1, y2, y3, y4, y5, y6, x0, x1, x2, x3, x4, x5, x6⟩ := hSw; cases ho; go_simp; try with_reducible rfl)
          try simp only [Act.put, List.setIfInBounds_toArray, List.set_cons_zero, List.set_cons_succ]
          refine takeH 3 (some 65) (v := ?_) (by rfl) (by rfl) (by kernel_rfl) (by kernel_rfl) (by kernel_rfl) (fun _ _ _ h => h) ?_ (by assumption) ?_
          rotate_left
          · (intro o ho w hSw; obtain ⟨z0, y0, y1, y2, y3, y4, y5, y6, x0, x1, x2, x3, x4, x5, x6⟩ := hSw; cases ho; go_simp; try with_reducible rfl)
          try simp only [Act.put, List.setIfInBounds_toArray, List.set_cons_zero, List.set_cons_succ]
          first
          | refine skipH 4 (some 66) (by rfl) (by rfl) (by kernel_rfl) (by kernel_rfl) (by kernel_rfl) (fun _ _ _ h => h) (by assumption) ?_
          | refine takeH 4 (some 66) (v := ?_) (by rfl) (by rfl) (by kernel_rfl) (by kernel_rfl) (by kernel_rfl) (fun _ _ _ h => h) ?_ (by assumption) ?_
            rotate_left
            · (intro o ho w hSw; obtain ⟨z0, y0, y1, y2, y3, y4, y5, y6, x0, x1, x2, x3, x4, x5, x6⟩ := hSw; cases ho; go_simp; try with_reducible rfl)
          try simp only [Act.put, List.setIfInBounds_toArray, List.set_cons_zero, List.set_cons_succ]
          first
          | refine skipH 5 (some 67) (by rfl) (by rfl) (by kernel_rfl) (by kernel_rfl) (by kernel_rfl) (fun _ _ _ h => h) (by assumption) ?_
          | refine takeH 5 (some 67) (v := ?_) (by rfl) (by rfl) (by kernel_rfl) (by kernel_rfl) (by kernel_rfl) (fun _ _ _ h => h) ?_ (by assumption) ?_
            rotate_left
            · (intro o ho w hSw; obtain ⟨z0, y0, y1, y2, y3, y4, y5, y6, x0, x1, x2, x3, x4, x5, x6⟩ := hSw; cases ho; go_simp; try with_reducible rfl)
          try simp only [Act.put, List.setIfInBounds_toArray, List.set_cons_zero, List.set_cons_succ]
          refine takeH 6 (some 68) (v := ?_) (by rfl) (by rfl) (by kernel_rfl) (by kernel_rfl) (by kernel_rfl) (fun _ _ _ h => h) ?_ (by assumption) ?_
          rotate_left
          · (intro o ho w hSw; obtain ⟨z0, y0, y1, y2, y3, y4, y5, y6, x0, x1, x2, x3, x4, x5, x6⟩ := hSw; cases ho; go_simp; try with_reducible rfl)
          try simp only [Act.put, List.setIfInBounds_toArray, List.set_cons_zero, List.set_cons_succ]
          refine takeH 7 (some 69) (v := ?_) (by rfl) (by rfl) (by kernel_rfl) (by kernel_rfl) (by kernel_rfl) (fun _ _ _ h => h) ?_ (by assumption) ?_
          rotate_left
          · (intro o ho w hSw; obtain ⟨z0, y0, y1, y2, y3, y4, y5, y6, x0, x1, x2, x3, x4, x5, x6⟩ := hSw; cases ho; go_simp; try with_reducible rfl)
          try simp only [Act.put, List.setIfInBounds_toArray, List.set_cons_zero, List.set_cons_succ]
          first
          | refine skipH 8 (some 70) (by rfl) (by rfl) (by kernel_rfl) (by kernel_rfl) (by kernel_rfl) (fun _ _ _ h => h) (by assumption) ?_
          | refine takeH 8 (some 70) (v := ?_) (by rfl) (by rfl) (by kernel_rfl) (by kernel_rfl) (by kernel_rfl) (fun _ _ _ h => h) ?_ (by assumption) ?_
            rotate_left
            · (intro o ho w hSw; obtain ⟨z0, y0, y1, y2, y3, y4, y5, y6, x0, x1, x2, x3, x4, x5, x6⟩ := hSw; cases ho; go_simp; try with_reducible rfl)
          try simp only [Act.put, List.setIfInBounds_toArray, List.set_cons_zero, List.set_cons_succ]
          first
          | refine skipH 9 (some 71) (by rfl) (by rfl) (by kernel_rfl) (by kernel_rfl) (by kernel_rfl) (fun _ _ _ h => h) (by assumption) ?_
          | refine takeH 9 (some 71) (v := ?_) (by rfl) (by rfl) (by kernel_rfl) (by kernel_rfl) (by kernel_rfl) (fun _ _ _ h => h) ?_ (by assumption) ?_
            rotate_left
            · (intro o ho w hSw; obtain ⟨z0, y0, y1, y2, y3, y4, y5, y6, x0, x1, x2, x3, x4, x5, x6⟩ := hSw; cases ho; go_simp; try with_reducible rfl)
          try simp only [Act.put, List.setIfInBounds_toArray, List.set_cons_zero, List.set_cons_succ]
          first
          | refine skipH 10 (some 72) (by rfl) (by rfl) (by kernel_rfl) (by kernel_rfl) (by kernel_rfl) (fun _ _ _ h => h) (by assumption) ?_
          | refine takeH 10 (some 72) (v := ?_) (by rfl) (by rfl) (by kernel_rfl) (by kernel_rfl) (by kernel_rfl) (fun _ _ _ h => h) ?_ (by assumption) ?_
            rotate_left
            · (intro o ho w hSw; obtain ⟨z0, y0, y1, y2, y3, y4, y5, y6, x0, x1, x2, x3, x4, x5, x6⟩ := hSw; cases ho; go_simp; try with_reducible rfl)
          try simp only [Act.put, List.setIfInBounds_toArray, List.set_cons_zero, List.set_cons_succ]
          first
          | refine skipH 11 (some 73) (by rfl) (by rfl) (by kernel_rfl) (by kernel_rfl) (by kernel_rfl) (fun _ _ _ h => h) (by assumption) ?_
          | refine takeH 11 (some 73) (v := ?_) (by rfl) (by rfl) (by kernel_rfl) (by kernel_rfl) (by kernel_rfl) (fun _ _ _ h => h) ?_ (by assumption) ?_
            rotate_left
            · (intro o ho w hSw; obtain ⟨z0, y0, y1, y2, y3, y4, y5, y6, x0, x1, x2, x3, x4, x5, x6⟩ := hSw; cases ho; go_simp; try with_reducible rfl)
          try simp only [Act.put, List.setIfInBounds_toArray, List.set_cons_zero, List.set_cons_succ]
          first
          | refine skipH 12 (some 74) (by rfl) (by rfl) (by kernel_rfl) (by kernel_rfl) (by kernel_rfl) (fun _ _ _ h => h) (by assumption) ?_
          | refine takeH 12 (some 74) (v := ?_) (by rfl) (by rfl) (by kernel_rfl) (by kernel_rfl) (by kernel_rfl) (fun _ _ _ h => h) ?_ (by assumption) ?_
            rotate_left
            · (intro o ho w hSw; obtain ⟨z0, y0, y1, y2, y3, y4, y5, y6, x0, x1, x2, x3, x4, x5, x6⟩ := hSw; cases ho; go_simp; try with_reducible rfl)
          try simp only [Act.put, List.setIfInBounds_toArray, List.set_cons_zero, List.set_cons_succ]
          first
          | refine skipH 13 (some 75) (by rfl) (by rfl) (by kernel_rfl) (by kernel_rfl) (by kernel_rfl) (fun _ _ _ h => h) (by assumption) ?_
          | refine takeH 13 (some 75) (v := ?_) (by rfl) (by rfl) (by kernel_rfl) (by kernel_rfl) (by kernel_rfl) (fun _ _ _ h => h) ?_ (by assumption) ?_
            rotate_left
            · (intro o ho w hSw; obtain ⟨z0, y0, y1, y2, y3, y4, y5, y6, x0, x1, x2, x3, x4, x5, x6⟩ := hSw; cases ho; go_simp; try with_reducible rfl)
          try simp only [Act.put, List.setIfInBounds_toArray, List.set_cons_zero, List.set_cons_succ]
          first
          | refine skipH 14 (some 76) (by rfl) (by rfl) (by kernel_rfl) (by kernel_rfl) (by kernel_rfl) (fun _ _ _ h => h) (by assumption) ?_
          | refine takeH 14 (some 76) (v := ?_) (by rfl) (by rfl) (by kernel_rfl) (by kernel_rfl) (by kernel_rfl) (fun _ _ _ h => h) ?_ (by assumption) ?_
            rotate_left
            · (intro o ho w hSw; obtain ⟨z0, y0, y1, y2, y3, y4, y5, y6, x0, x1, x2, x3, x4, x5, x6⟩ := hSw; cases ho; go_simp; try with_reducible rfl)
          try simp only [Act.put, List.setIfInBounds_toArray, List.set_cons_zero, List.set_cons_succ]
          first
          | refine skipH 15 (some 77) (by rfl) (by rfl) (by kernel_rfl) (by kernel_rfl) (by kernel_rfl) (fun _ _ _ h => h) (by assumption) ?_
          | refine takeH 15 (some 77) (v := ?_) (by rfl) (by rfl) (by kernel_rfl) (by kernel_rfl) (by kernel_rfl) (fun _ _ _ h => h) ?_ (by assumption) ?_
            rotate_left
            · (intro o ho w hSw; obtain ⟨z0, y0, y1, y2, y3, y4, y5, y6, x0, x1, x2, x3, x4, x5, x6⟩ := hSw; cases ho; go_simp; try with_reducible rfl)
          try simp only [Act.put, List.setIfInBounds_toArray, List.set_cons_zero, List.set_cons_succ]
          refine wpAnyH_ready (rs := [16]) (by kernel_rfl) (by simp) ?_
          refine AllReadyH.cons rfl (fun K hK => ?_) AllReadyH.nil
          go_simp
          go_at_call 60
          (with_reducible refine (HAC.out _).mono ?_)
          rintro e w5 ⟨rfl, hb5⟩
          have hP5 := bt hP1 hb5
          go_wp2
          refine hK.out _ _ ?_ (fun hH5 => ?_)
          · exact (HS.out _ hP5)
          clear hK K
          try simp only [Act.put, List.setIfInBounds_toArray, List.set_cons_zero, List.set_cons_succ]
          refine takeH 17 (some 79) (v := ?_) (by rfl) (by rfl) (by kernel_rfl) (by kernel_rfl) (by kernel_rfl) (fun _ _ _ h => h) ?_ (by assumption) ?_
          rotate_left
          · (intro o ho w hSw; obtain ⟨z0, y0, y1, y2, y3, y4, y5, y6, x0, x1, x2, x3, x4, x5, x6⟩ := hSw; cases ho; go_simp; try with_reducible rfl)
          try simp only [Act.put, List.setIfInBounds_toArray, List.set_cons_zero, List.set_cons_succ]
          refine wpAnyH_done (by kernel_rfl) ?_ _
          go_wp2
          have hPx := (show Below wr.heap.size wr w5.drew from below_drewN hP5 1)
          have HS22 : Hid (∀ w', Below wr.heap.size wr w' → (fun w' => w'.cell? ⟨g, 0, none⟩ = some (.slice (some ⟨gr, 0, none⟩) n c) ∧ w'.cell? ⟨gx, 0, none⟩ = some (.int .i64 o.id) ∧ w'.cell? ⟨gx, 1, none⟩ = some (.int .i64 o.acc) ∧ w'.cell? ⟨gx, 2, none⟩ = some (.bool o.buy) ∧ w'.cell? ⟨gx, 3, none⟩ = some (.int .i64 o.price) ∧ w'.cell? ⟨gx, 4, none⟩ = some (.int .i64 o.n) ∧ w'.cell? ⟨gx, 5, none⟩ = some (.int .i64 o.left) ∧ w'.cell? ⟨gx, 6, none⟩ = some (.bool false) ∧ w'.frozen? ⟨g, 0, none⟩ = false) w') := Lib.hid (fun w' hb => by
            have q := HRR.out.below hb
            have y := q.y
            exact ⟨q.rb.cell0, y.1, y.2.1, y.2.2.1, y.2.2.2.1, y.2.2.2.2.1, y.2.2.2.2.2.1, y.2.2.2.2.2.2.1, q.rb.blk.frozen 0⟩)
          have HAPP : Hid (∀ w', Below wr.heap.size wr w' → ∃ A' c' w5, (Builtin.append_ #[51, 51] 51 #[.slice (some ⟨gr, 0, none⟩) n c, .slice (some ⟨w'.heap.size, 0, none⟩) 1 1]).run Try.prog (w'.alloc (.cells #[.int .i64 o.id, .int .i64 o.acc, .bool o.buy, .int .i64 o.price, .int .i64 o.n, .int .i64 o.left, .bool false] 85)) = .ok (.slice A' (n + 1) c') w5 ∧ (fun w' => w'.cell? ⟨g, 0, none⟩ = some (.slice (some ⟨gr, 0, none⟩) n c) ∧ w'.cell? ⟨gx, 0, none⟩ = some (.int .i64 o.id) ∧ w'.cell? ⟨gx, 1, none⟩ = some (.int .i64 o.acc) ∧ w'.cell? ⟨gx, 2, none⟩ = some (.bool o.buy) ∧ w'.cell? ⟨gx, 3, none⟩ = some (.int .i64 o.price) ∧ w'.cell? ⟨gx, 4, none⟩ = some (.int .i64 o.n) ∧ w'.cell? ⟨gx, 5, none⟩ = some (.int .i64 o.left) ∧ w'.cell? ⟨gx, 6, none⟩ = some (.bool false) ∧ w'.frozen? ⟨g, 0, none⟩ = false) w5 ∧ RFin B g (some ⟨gr, 0, none⟩) n c w gx o ts At m ct l A' c' (w5.setCell ⟨g, 0, none⟩ (.slice A' (n + 1) c'))) := Lib.hid (fun w' hb => by
            have q := HRR.out.below hb
            obtain ⟨A', c', w5, hr, h1, h2, h3, h4⟩ := app_elem2 51 slT_rord q.rb.own #[.int .i64 o.id, .int .i64 o.acc, .bool o.buy, .int .i64 o.price, .int .i64 o.n, .int .i64 o.left, .bool false] rfl (one7 _ _ _ _ _ _ _) (by have := HNL.out; omega) (by decide) (Nat.le_trans q.rb.ge (Nat.le_of_lt q.rb.blk.lt))
            have ha := q.added (A' := A') (c' := c') (w5 := w5) HNL.out h3 h1 h4
            exact ⟨A', c', w5, hr, ha.1, ha.2⟩)
          refine beginG (S := (fun w' => w'.cell? ⟨g, 0, none⟩ = some (.slice (some ⟨gr, 0, none⟩) n c) ∧ w'.cell? ⟨gx, 0, none⟩ = some (.int .i64 o.id) ∧ w'.cell? ⟨gx, 1, none⟩ = some (.int .i64 o.acc) ∧ w'.cell? ⟨gx, 2, none⟩ = some (.bool o.buy) ∧ w'.cell? ⟨gx, 3, none⟩ = some (.int .i64 o.price) ∧ w'.cell? ⟨gx, 4, none⟩ = some (.int .i64 o.n) ∧ w'.cell? ⟨gx, 5, none⟩ = some (.int .i64 o.left) ∧ w'.cell? ⟨gx, 6, none⟩ = some (.bool false) ∧ w'.frozen? ⟨g, 0, none⟩ = false)) 10 (by kernel_rfl) (HS22.out _ hPx) (fun hHeld => ?_)
          refine takeG 0 (some 172) (v := ?_) (by rfl) (by rfl) (by kernel_rfl) (by kernel_rfl) (by decide) (by kernel_rfl) (by kernel_rfl) (fun _ _ _ h => h) ?_ (by assumption) ?_
          rotate_left
          · (intro o ho w hSw; obtain ⟨z0, y0, y1, y2, y3, y4, y5, y6, f0⟩ := hSw; cases ho; go_simp; try with_reducible rfl)
          try simp only [Act.put, List.setIfInBounds_toArray, List.set_cons_zero, List.set_cons_succ]
          refine takeG 1 (some 173) (v := ?_) (by rfl) (by rfl) (by kernel_rfl) (by kernel_rfl) (by decide) (by kernel_rfl) (by kernel_rfl) (fun _ _ _ h => h) ?_ (by assumption) ?_
          rotate_left
          · (intro o ho w hSw; obtain ⟨z0, y0, y1, y2, y3, y4, y5, y6, f0⟩ := hSw; cases ho; go_simp; try with_reducible rfl)
          try simp only [Act.put, List.setIfInBounds_toArray, List.set_cons_zero, List.set_cons_succ]
          refine takeG 2 (some 174) (v := ?_) (by rfl) (by rfl) (by kernel_rfl) (by kernel_rfl) (by decide) (by kernel_rfl) (by kernel_rfl) (fun _ _ _ h => h) ?_ (by assumption) ?_
          rotate_left
          · (intro o ho w hSw; obtain ⟨z0, y0, y1, y2, y3, y4, y5, y6, f0⟩ := hSw; cases ho; go_simp; try with_reducible rfl)
          try simp only [Act.put, List.setIfInBounds_toArray, List.set_cons_zero, List.set_cons_succ]
          refine takeG 3 (some 175) (v := ?_) (by rfl) (by rfl) (by kernel_rfl) (by kernel_rfl) (by decide) (by kernel_rfl) (by kernel_rfl) (fun _ _ _ h => h) ?_ (by assumption) ?_
          rotate_left
          · (intro o ho w hSw; obtain ⟨z0, y0, y1, y2, y3, y4, y5, y6, f0⟩ := hSw; cases ho; go_simp; try with_reducible rfl)
          try simp only [Act.put, List.setIfInBounds_toArray, List.set_cons_zero, List.set_cons_succ]
          refine takeG 4 (some 176) (v := ?_) (by rfl) (by rfl) (by kernel_rfl) (by kernel_rfl) (by decide) (by kernel_rfl) (by kernel_rfl) (fun _ _ _ h => h) ?_ (by assumption) ?_
          rotate_left
          · (intro o ho w hSw; obtain ⟨z0, y0, y1, y2, y3, y4, y5, y6, f0⟩ := hSw; cases ho; go_simp; try with_reducible rfl)
          try simp only [Act.put, List.setIfInBounds_toArray, List.set_cons_zero, List.set_cons_succ]
          refine takeG 5 (some 177) (v := ?_) (by rfl) (by rfl) (by kernel_rfl) (by kernel_rfl) (by decide) (by kernel_rfl) (by kernel_rfl) (fun _ _ _ h => h) ?_ (by assumption) ?_
          rotate_left
          · (intro o ho w hSw; obtain ⟨z0, y0, y1, y2, y3, y4, y5, y6, f0⟩ := hSw; cases ho; go_simp; try with_reducible rfl)
          try simp only [Act.put, List.setIfInBounds_toArray, List.set_cons_zero, List.set_cons_succ]
          refine readyG (i := 6) (by kernel_rfl) rfl (fun K hK => ?_)
          go_simp
          have hP8 := hPx.alloc hPx.size (.cells #[.int .i64 o.id, .int .i64 o.acc, .bool o.buy, .int .i64 o.price, .int .i64 o.n, .int .i64 o.left, .bool false] 85)
          refine hK.out _ _ ?_ (fun hH6 => ?_)
          · exact (HS22.out _ hP8)
          clear hK K
          (try simp only [Act.put]); (try simp only [List.setIfInBounds_toArray]); (try simp only [List.set_cons_succ]); (try simp only [List.set_cons_zero])
          refine readyG (i := 7) (by kernel_rfl) rfl (fun K hK => ?_)
          obtain ⟨A5, c5, w5, hr5, hHx, hF5⟩ := HAPP.out _ hPx
          refine step_app (t := 51) hr5 (by kernel_rfl) (by rfl) (by rfl) (by rfl) ?_
          (try simp only [List.getElem_toArray, List.getElem_cons_succ, List.getElem_cons_zero])
          refine hK.out _ _ ?_ (fun hH7 => ?_)
          · exact hHx
          clear hK K
          (try simp only [Act.put]); (try simp only [List.setIfInBounds_toArray]); (try simp only [List.set_cons_succ]); (try simp only [List.set_cons_zero])
          refine takeGD [9, 10] 8 (some 180) (v := ?_) (by rfl) (by rfl) (by kernel_rfl) (by kernel_rfl) (by decide) (by kernel_rfl) (by kernel_rfl) (fun _ _ _ h => h) ?_ (by assumption) ?_
          rotate_left
          · (intro o ho w hSw; obtain ⟨z0, y0, y1, y2, y3, y4, y5, y6, f0⟩ := hSw; cases ho; go_simp; try with_reducible rfl)
          (try simp only [Act.put]); (try simp only [List.setIfInBounds_toArray]); (try simp only [List.set_cons_succ]); (try simp only [List.set_cons_zero])
          refine takeG 9 (some 181) (v := ?_) (by rfl) (by rfl) (by kernel_rfl) (by kernel_rfl) (by decide) (by kernel_rfl) (by kernel_rfl) (fun _ _ _ h => h) ?_ (by assumption) ?_
          rotate_left
          · (intro o ho w hSw; obtain ⟨z0, y0, y1, y2, y3, y4, y5, y6, f0⟩ := hSw; cases ho; go_simp; try with_reducible rfl)
          (try simp only [Act.put]); (try simp only [List.setIfInBounds_toArray]); (try simp only [List.set_cons_succ]); (try simp only [List.set_cons_zero])
          refine lastG (by kernel_rfl) rfl (fun K hK => ?_)
          obtain ⟨z0, y0, y1, y2, y3, y4, y5, y6, f0⟩ := hHx
          go_simp
          refine hK.out _ _ ?_
          clear hK K
          (try simp only [Act.put]); (try simp only [List.setIfInBounds_toArray]); (try simp only [List.set_cons_succ]); (try simp only [List.set_cons_zero])
          refine doneG (by kernel_rfl) ?_ _
          obtain ⟨w7, hw7⟩ : ∃ w7, w7 = w5.setCell ⟨g, 0, none⟩ (.slice A5 (n + 1) c5) := ⟨_, rfl⟩
          rw [← hw7] at hF5 ⊢
          have y0' := hF5.y
          have HF5 := Lib.hid hF5
          clear hw7 hF5
          go_wp2
          refine bodyPost_ret (v := .tuple #[.int .i64 o.id, .slice At m ct, .int .i64 0]) (by simp [results, Try.results40, go_sem]) rfl (HF5.out.post (show PM b (!false) ⟨(n : Int), acc, false, price, mm, mm⟩ d o ts from by rw [← HO0.out]; exact HPM.out) HST.out HE0.out HREL.out HNB.out)
        · have HAC : Hid (∀ w, Calls Try.prog 60 #[.agg #[.int .i64 o.id, .int .i64 o.acc, .bool o.buy, .int .i64 o.price, .int .i64 o.n, .int .i64 o.left, .bool false], .agg #[.int .i64 x.id, .int .i64 x.acc, .bool x.buy, .int .i64 x.price, .int .i64 x.n, .int .i64 x.left, .bool xe]] w fun e w' => e = .returned (.bool true) ∧ Below w.heap.size w w') := Lib.hid (by simp only [hab] at hac; exact hac)
          have HAB := Lib.hid hab
          clear hab hac
          go_wp2
          refine wp_region_held_drew (S := (fun w' => w'.cell? ⟨g, 0, none⟩ = some (.slice (some ⟨gr, 0, none⟩) n c) ∧ w'.cell? ⟨gx, 0, none⟩ = some (.int .i64 o.id) ∧ w'.cell? ⟨gx, 1, none⟩ = some (.int .i64 o.acc) ∧ w'.cell? ⟨gx, 2, none⟩ = some (.bool o.buy) ∧ w'.cell? ⟨gx, 3, none⟩ = some (.int .i64 o.price) ∧ w'.cell? ⟨gx, 4, none⟩ = some (.int .i64 o.n) ∧ w'.cell? ⟨gx, 5, none⟩ = some (.int .i64 o.left) ∧ w'.cell? ⟨gx, 6, none⟩ = some (.bool false) ∧ w'.cell? ⟨gr, id * 7, none⟩ = some (.int .i64 x.id) ∧ w'.cell? ⟨gr, id * 7 + 1, none⟩ = some (.int .i64 x.acc) ∧ w'.cell? ⟨gr, id * 7 + 2, none⟩ = some (.bool x.buy) ∧ w'.cell? ⟨gr, id * 7 + 3, none⟩ = some (.int .i64 x.price) ∧ w'.cell? ⟨gr, id * 7 + 4, none⟩ = some (.int .i64 x.n) ∧ w'.cell? ⟨gr, id * 7 + 5, none⟩ = some (.int .i64 x.left) ∧ w'.cell? ⟨gr, id * 7 + 6, none⟩ = some (.bool xe))) (by kernel_rfl) (HS.out _ hP1) (fun hHeld => ?_)
          refine takeH 0 (some 62) (v := ?_) (by rfl) (by rfl) (by kernel_rfl) (by kernel_rfl) (by kernel_rfl) (fun _ _ _ h => h) ?_ (by assumption) ?_
          rotate_left
          · (intro o ho w hSw; obtain ⟨z0, y0, y1, y2, y3, y4, y5, y6, x0, x1, x2, x3, x4, x5, x6⟩ := hSw; cases ho; go_simp; try with_reducible rfl)
          try simp only [Act.put, List.setIfInBounds_toArray, List.set_cons_zero, List.set_cons_succ]
          refine takeH 1 (some 63) (v := ?_) (by rfl) (by rfl) (by kernel_rfl) (by kernel_rfl) (by kernel_rfl) (fun _ _ _ h => h) ?_ (by assumption) ?_
          rotate_left
          · (intro o ho w hSw; obtain ⟨z0, y0, y1, y2, y3, y4, y5, y6, x0, x1, x2, x3, x4, x5, x6⟩ := hSw; cases ho; go_simp; try with_reducible rfl)
          try simp only [Act.put, List.setIfInBounds_toArray, List.set_cons_zero, List.set_cons_succ]
          refine takeH 2 (some 64) (v := ?_) (by rfl) (by rfl) (by kernel_rfl) (by kernel_rfl) (by kernel_rfl) (fun _ _ _ h => h) ?_ (by assumption) ?_
          rotate_left
          · (intro o ho w hSw; obtain ⟨z0, y0, y1, y2, y3, y4, y5, y6, x0, x1, x2, x3, x4, x5, x6⟩ := hSw; cases ho; go_simp; try with_reducible rfl)
          try simp only [Act.put, List.setIfInBounds_toArray, List.set_cons_zero, List.set_cons_succ]
          refine takeH 3 (some 65) (v := ?_) (by rfl) (by rfl) (by kernel_rfl) (by kernel_rfl) (by kernel_rfl) (fun _ _ _ h => h) ?_ (by assumption) ?_
          rotate_left
          · (intro o ho w hSw; obtain ⟨z0, y0, y1, y2, y3, y4, y5, y6, x0, x1, x2, x3, x4, x5, x6⟩ := hSw; cases ho; go_simp; try with_reducible rfl)
          try simp only [Act.put, List.setIfInBounds_toArray, List.set_cons_zero, List.set_cons_succ]
          first
          | refine skipH 4 (some 66) (by rfl) (by rfl) (by kernel_rfl) (by kernel_rfl) (by kernel_rfl) (fun _ _ _ h => h) (by assumption) ?_
          | refine takeH 4 (some 66) (v := ?_) (by rfl) (by rfl) (by kernel_rfl) (by kernel_rfl) (by kernel_rfl) (fun _ _ _ h => h) ?_ (by assumption) ?_
            rotate_left
            · (intro o ho w hSw; obtain ⟨z0, y0, y1, y2, y3, y4, y5, y6, x0, x1, x2, x3, x4, x5, x6⟩ := hSw; cases ho; go_simp; try with_reducible rfl)
          try simp only [Act.put, List.setIfInBounds_toArray, List.set_cons_zero, List.set_cons_succ]
          first
          | refine skipH 5 (some 67) (by rfl) (by rfl) (by kernel_rfl) (by kernel_rfl) (by kernel_rfl) (fun _ _ _ h => h) (by assumption) ?_
          | refine takeH 5 (some 67) (v := ?_) (by rfl) (by rfl) (by kernel_rfl) (by kernel_rfl) (by kernel_rfl) (fun _ _ _ h => h) ?_ (by assumption) ?_
            rotate_left
            · (intro o ho w hSw; obtain ⟨z0, y0, y1, y2, y3, y4, y5, y6, x0, x1, x2, x3, x4, x5, x6⟩ := hSw; cases ho; go_simp; try with_reducible rfl)
          try simp only [Act.put, List.setIfInBounds_toArray, List.set_cons_zero, List.set_cons_succ]
          refine takeH 6 (some 68) (v := ?_) (by rfl) (by rfl) (by kernel_rfl) (by kernel_rfl) (by kernel_rfl) (fun _ _ _ h => h) ?_ (by assumption) ?_
          rotate_left
          · (intro o ho w hSw; obtain ⟨z0, y0, y1, y2, y3, y4, y5, y6, x0, x1, x2, x3, x4, x5, x6⟩ := hSw; cases ho; go_simp; try with_reducible rfl)
          try simp only [Act.put, List.setIfInBounds_toArray, List.set_cons_zero, List.set_cons_succ]
          refine takeH 7 (some 69) (v := ?_) (by rfl) (by rfl) (by kernel_rfl) (by kernel_rfl) (by kernel_rfl) (fun _ _ _ h => h) ?_ (by assumption) ?_
          rotate_left
          · (intro o ho w hSw; obtain ⟨z0, y0, y1, y2, y3, y4, y5, y6, x0, x1, x2, x3, x4, x5, x6⟩ := hSw; cases ho; go_simp; try with_reducible rfl)
          try simp only [Act.put, List.setIfInBounds_toArray, List.set_cons_zero, List.set_cons_succ]
          first
          | refine skipH 8 (some 70) (by rfl) (by rfl) (by kernel_rfl) (by kernel_rfl) (by kernel_rfl) (fun _ _ _ h => h) (by assumption) ?_
          | refine takeH 8 (some 70) (v := ?_) (by rfl) (by rfl) (by kernel_rfl) (by kernel_rfl) (by kernel_rfl) (fun _ _ _ h => h) ?_ (by assumption) ?_
            rotate_left
            · (intro o ho w hSw; obtain ⟨z0, y0, y1, y2, y3, y4, y5, y6, x0, x1, x2, x3, x4, x5, x6⟩ := hSw; cases ho; go_simp; try with_reducible rfl)
          try simp only [Act.put, List.setIfInBounds_toArray, List.set_cons_zero, List.set_cons_succ]
          first
          | refine skipH 9 (some 71) (by rfl) (by rfl) (by kernel_rfl) (by kernel_rfl) (by kernel_rfl) (fun _ _ _ h => h) (by assumption) ?_
          | refine takeH 9 (some 71) (v := ?_) (by rfl) (by rfl) (by kernel_rfl) (by kernel_rfl) (by kernel_rfl) (fun _ _ _ h => h) ?_ (by assumption) ?_
            rotate_left
            · (intro o ho w hSw; obtain ⟨z0, y0, y1, y2, y3, y4, y5, y6, x0, x1, x2, x3, x4, x5, x6⟩ := hSw; cases ho; go_simp; try with_reducible rfl)
          try simp only [Act.put, List.setIfInBounds_toArray, List.set_cons_zero, List.set_cons_succ]
          first
          | refine skipH 10 (some 72) (by rfl) (by rfl) (by kernel_rfl) (by kernel_rfl) (by kernel_rfl) (fun _ _ _ h => h) (by assumption) ?_
          | refine takeH 10 (some 72) (v := ?_) (by rfl) (by rfl) (by kernel_rfl) (by kernel_rfl) (by kernel_rfl) (fun _ _ _ h => h) ?_ (by assumption) ?_
            rotate_left
            · (intro o ho w hSw; obtain ⟨z0, y0, y1, y2, y3, y4, y5, y6, x0, x1, x2, x3, x4, x5, x6⟩ := hSw; cases ho; go_simp; try with_reducible rfl)
          try simp only [Act.put, List.setIfInBounds_toArray, List.set_cons_zero, List.set_cons_succ]
          first
          | refine skipH 11 (some 73) (by rfl) (by rfl) (by kernel_rfl) (by kernel_rfl) (by kernel_rfl) (fun _ _ _ h => h) (by assumption) ?_
          | refine takeH 11 (some 73) (v := ?_) (by rfl) (by rfl) (by kernel_rfl) (by kernel_rfl) (by kernel_rfl) (fun _ _ _ h => h) ?_ (by assumption) ?_
            rotate_left
            · (intro o ho w hSw; obtain ⟨z0, y0, y1, y2, y3, y4, y5, y6, x0, x1, x2, x3, x4, x5, x6⟩ := hSw; cases ho; go_simp; try with_reducible rfl)
          try simp only [Act.put, List.setIfInBounds_toArray, List.set_cons_zero, List.set_cons_succ]
          first
          | refine skipH 12 (some 74) (by rfl) (by rfl) (by kernel_rfl) (by kernel_rfl) (by kernel_rfl) (fun _ _ _ h => h) (by assumption) ?_
          | refine takeH 12 (some 74) (v := ?_) (by rfl) (by rfl) (by kernel_rfl) (by kernel_rfl) (by kernel_rfl) (fun _ _ _ h => h) ?_ (by assumption) ?_
            rotate_left
            · (intro o ho w hSw; obtain ⟨z0, y0, y1, y2, y3, y4, y5, y6, x0, x1, x2, x3, x4, x5, x6⟩ := hSw; cases ho; go_simp; try with_reducible rfl)
          try simp only [Act.put, List.setIfInBounds_toArray, List.set_cons_zero, List.set_cons_succ]
          first
          | refine skipH 13 (some 75) (by rfl) (by rfl) (by kernel_rfl) (by kernel_rfl) (by kernel_rfl) (fun _ _ _ h => h) (by assumption) ?_
          | refine takeH 13 (some 75) (v := ?_) (by rfl) (by rfl) (by kernel_rfl) (by kernel_rfl) (by kernel_rfl) (fun _ _ _ h => h) ?_ (by assumption) ?_
            rotate_left
            · (intro o ho w hSw; obtain ⟨z0, y0, y1, y2, y3, y4, y5, y6, x0, x1, x2, x3, x4, x5, x6⟩ := hSw; cases ho; go_simp; try with_reducible rfl)
          try simp only [Act.put, List.setIfInBounds_toArray, List.set_cons_zero, List.set_cons_succ]
          first
          | refine skipH 14 (some 76) (by rfl) (by rfl) (by kernel_rfl) (by kernel_rfl) (by kernel_rfl) (fun _ _ _ h => h) (by assumption) ?_
          | refine takeH 14 (some 76) (v := ?_) (by rfl) (by rfl) (by kernel_rfl) (by kernel_rfl) (by kernel_rfl) (fun _ _ _ h => h) ?_ (by assumption) ?_
            rotate_left
            · (intro o ho w hSw; obtain ⟨z0, y0, y1, y2, y3, y4, y5, y6, x0, x1, x2, x3, x4, x5, x6⟩ := hSw; cases ho; go_simp; try with_reducible rfl)
          try simp only [Act.put, List.setIfInBounds_toArray, List.set_cons_zero, List.set_cons_succ]
          first
          | refine skipH 15 (some 77) (by rfl) (by rfl) (by kernel_rfl) (by kernel_rfl) (by kernel_rfl) (fun _ _ _ h => h) (by assumption) ?_
          | refine takeH 15 (some 77) (v := ?_) (by rfl) (by rfl) (by kernel_rfl) (by kernel_rfl) (by kernel_rfl) (fun _ _ _ h => h) ?_ (by assumption) ?_
            rotate_left
            · (intro o ho w hSw; obtain ⟨z0, y0, y1, y2, y3, y4, y5, y6, x0, x1, x2, x3, x4, x5, x6⟩ := hSw; cases ho; go_simp; try with_reducible rfl)
          try simp only [Act.put, List.setIfInBounds_toArray, List.set_cons_zero, List.set_cons_succ]
          refine wpAnyH_ready (rs := [16]) (by kernel_rfl) (by simp) ?_
          refine AllReadyH.cons rfl (fun K hK => ?_) AllReadyH.nil
          go_simp
          go_at_call 60
          (with_reducible refine (HAC.out _).mono ?_)
          rintro e w5 ⟨rfl, hb5⟩
          have hP5 := bt hP1 hb5
          go_wp2
          refine hK.out _ _ ?_ (fun hH5 => ?_)
          · exact (HS.out _ hP5)
          clear hK K
          try simp only [Act.put, List.setIfInBounds_toArray, List.set_cons_zero, List.set_cons_succ]
          refine takeH 17 (some 79) (v := ?_) (by rfl) (by rfl) (by kernel_rfl) (by kernel_rfl) (by kernel_rfl) (fun _ _ _ h => h) ?_ (by assumption) ?_
          rotate_left
          · (intro o ho w hSw; obtain ⟨z0, y0, y1, y2, y3, y4, y5, y6, x0, x1, x2, x3, x4, x5, x6⟩ := hSw; cases ho; go_simp; try with_reducible rfl)
          try simp only [Act.put, List.setIfInBounds_toArray, List.set_cons_zero, List.set_cons_succ]
          refine wpAnyH_done (by kernel_rfl) ?_ _
          obtain ⟨z0, y0, y1, y2, y3, y4, y5, y6, x0, x1, x2, x3, x4, x5, x6⟩ := HS.out _ hP5
          have fx : w5.frozen? ⟨gr, id * 7 + 6, none⟩ = false := by
            obtain ⟨g', hg', -, -, fz', -⟩ := (HRR.out.below hP5).rb.order HIDN.out
            injection hg' with hg'
            injection hg' with hg'
            subst hg'
            exact fz' 6
          by_cases hxa : x.acc = acc
          · have HRR5 : Hid (RR B g (some ⟨gr, 0, none⟩) n c w gx o ts At m ct (l.set id ⟨x, true⟩) (w5.setCell ⟨gr, id * 7 + 6, none⟩ (.bool true))) := Lib.hid ((HRR.out.below hP5).ended rfl HIDN.out x HXO.out)
            have HREL5 : Hid (Rel (l.set id ⟨x, true⟩) (d.put true t)) := Lib.hid (by
              have h1 := HREL.out.setEnd HPM.out.ok HIDL.out HSD.out
              rw [HX.out] at h1
              exact h1)
            have HPM5 : Hid (PM b true o0 (d.put true t) o ts) := Lib.hid (HPM.out.same HSD.out hlf (by rw [HX.out]; exact HAB.out) (by rw [HX.out, HOA.out]; exact hxa))
            obtain ⟨k3, hk3⟩ : ∃ k3, k3 = headI ((d.put true t).side true) := ⟨_, rfl⟩
            have HK3 := Lib.hid hk3
            have hae : (x.acc == acc) = true := by simp [hxa]
            clear hk3 hxa
            go_wp2_with (go_at_call 49
                         (with_reducible refine (HBEST.out _ _ _ _ k3 HRR5.out.rb HREL5.out HPM5.out.ok HK3.out).mono ?_)
                         rintro e w10 ⟨rfl, hb10⟩)
            go_roundg (((d.put true t).side true).length + (if 0 < o.left then 1 else 0))
            case measure =>
              rw [← HGK.out, HSD.out, put_side]
              simp only [List.length_cons]
              omega
            case rel => exact RLoop.mk HPM5.out (HRR5.out.below hb10) HREL5.out HK3.out
          · have hM0 : 0 < min o.left x.left := by omega
            obtain ⟨M, hM⟩ : ∃ M, min o.left x.left = M := ⟨_, rfl⟩
            have hMo : M ≤ o.left := by omega
            have hMx : M ≤ x.left := by omega
            rw [hM] at hM0
            have HMM := Lib.hid hM
            clear hM
            --@a
            have hae : (x.acc == acc) = false := by simp [hxa]
            have hP6 : Below wr.heap.size wr w5.drew := below_drewN hP5 1
            go_wp2
            clear hae z0 y0 y1 y2 y3 y4 y5 y6 x0 x1 x2 x3 x4 x5 x6 fx
            --@b
            refine wp_region_held_drew (S := (fun w' => w'.cell? ⟨g, 0, none⟩ = some (.slice (some ⟨gr, 0, none⟩) n c) ∧ w'.cell? ⟨gx, 0, none⟩ = some (.int .i64 o.id) ∧ w'.cell? ⟨gx, 1, none⟩ = some (.int .i64 o.acc) ∧ w'.cell? ⟨gx, 2, none⟩ = some (.bool o.buy) ∧ w'.cell? ⟨gx, 3, none⟩ = some (.int .i64 o.price) ∧ w'.cell? ⟨gx, 4, none⟩ = some (.int .i64 o.n) ∧ w'.cell? ⟨gx, 5, none⟩ = some (.int .i64 o.left) ∧ w'.cell? ⟨gx, 6, none⟩ = some (.bool false) ∧ w'.cell? ⟨gr, id * 7, none⟩ = some (.int .i64 x.id) ∧ w'.cell? ⟨gr, id * 7 + 1, none⟩ = some (.int .i64 x.acc) ∧ w'.cell? ⟨gr, id * 7 + 2, none⟩ = some (.bool x.buy) ∧ w'.cell? ⟨gr, id * 7 + 3, none⟩ = some (.int .i64 x.price) ∧ w'.cell? ⟨gr, id * 7 + 4, none⟩ = some (.int .i64 x.n) ∧ w'.cell? ⟨gr, id * 7 + 5, none⟩ = some (.int .i64 x.left) ∧ w'.cell? ⟨gr, id * 7 + 6, none⟩ = some (.bool xe))) (by kernel_rfl) (HS.out _ hP6) (fun hHeld => ?_)
            refine takeH 0 (some 97) (v := ?_) (by rfl) (by rfl) (by kernel_rfl) (by kernel_rfl) (by kernel_rfl) (fun _ _ _ h => h) ?_ (by assumption) ?_
            rotate_left
            · (intro o ho w hSw; obtain ⟨z0, y0, y1, y2, y3, y4, y5, y6, x0, x1, x2, x3, x4, x5, x6⟩ := hSw; cases ho; go_simp; try with_reducible rfl)
            try simp only [Act.put, List.setIfInBounds_toArray, List.set_cons_zero, List.set_cons_succ]
            refine takeH 1 (some 98) (v := ?_) (by rfl) (by rfl) (by kernel_rfl) (by kernel_rfl) (by kernel_rfl) (fun _ _ _ h => h) ?_ (by assumption) ?_
            rotate_left
            · (intro o ho w hSw; obtain ⟨z0, y0, y1, y2, y3, y4, y5, y6, x0, x1, x2, x3, x4, x5, x6⟩ := hSw; cases ho; go_simp; try with_reducible rfl)
            try simp only [Act.put, List.setIfInBounds_toArray, List.set_cons_zero, List.set_cons_succ]
            refine takeH 2 (some 99) (v := ?_) (by rfl) (by rfl) (by kernel_rfl) (by kernel_rfl) (by kernel_rfl) (fun _ _ _ h => h) ?_ (by assumption) ?_
            rotate_left
            · (intro o ho w hSw; obtain ⟨z0, y0, y1, y2, y3, y4, y5, y6, x0, x1, x2, x3, x4, x5, x6⟩ := hSw; cases ho; go_simp; try with_reducible rfl)
            try simp only [Act.put, List.setIfInBounds_toArray, List.set_cons_zero, List.set_cons_succ]
            refine takeH 3 (some 100) (v := ?_) (by rfl) (by rfl) (by kernel_rfl) (by kernel_rfl) (by kernel_rfl) (fun _ _ _ h => h) ?_ (by assumption) ?_
            rotate_left
            · (intro o ho w hSw; obtain ⟨z0, y0, y1, y2, y3, y4, y5, y6, x0, x1, x2, x3, x4, x5, x6⟩ := hSw; cases ho; go_simp; try with_reducible rfl)
            try simp only [Act.put, List.setIfInBounds_toArray, List.set_cons_zero, List.set_cons_succ]
            refine takeH 4 (some 101) (v := ?_) (by rfl) (by rfl) (by kernel_rfl) (by kernel_rfl) (by kernel_rfl) (fun _ _ _ h => h) ?_ (by assumption) ?_
            rotate_left
            · (intro o ho w hSw; obtain ⟨z0, y0, y1, y2, y3, y4, y5, y6, x0, x1, x2, x3, x4, x5, x6⟩ := hSw; cases ho; go_simp; try with_reducible rfl)
            try simp only [Act.put, List.setIfInBounds_toArray, List.set_cons_zero, List.set_cons_succ]
            refine takeH 5 (some 102) (v := ?_) (by rfl) (by rfl) (by kernel_rfl) (by kernel_rfl) (by kernel_rfl) (fun _ _ _ h => h) ?_ (by assumption) ?_
            rotate_left
            · (intro o ho w hSw; obtain ⟨z0, y0, y1, y2, y3, y4, y5, y6, x0, x1, x2, x3, x4, x5, x6⟩ := hSw; cases ho; go_simp; try with_reducible rfl)
            try simp only [Act.put, List.setIfInBounds_toArray, List.set_cons_zero, List.set_cons_succ]
            refine takeH 6 (some 103) (v := ?_) (by rfl) (by rfl) (by kernel_rfl) (by kernel_rfl) (by kernel_rfl) (fun _ _ _ h => h) ?_ (by assumption) ?_
            rotate_left
            · (intro o ho w hSw; obtain ⟨z0, y0, y1, y2, y3, y4, y5, y6, x0, x1, x2, x3, x4, x5, x6⟩ := hSw; cases ho; go_simp; try with_reducible rfl)
            try simp only [Act.put, List.setIfInBounds_toArray, List.set_cons_zero, List.set_cons_succ]
            refine takeH 7 (some 104) (v := ?_) (by rfl) (by rfl) (by kernel_rfl) (by kernel_rfl) (by kernel_rfl) (fun _ _ _ h => h) ?_ (by assumption) ?_
            rotate_left
            · (intro o ho w hSw; obtain ⟨z0, y0, y1, y2, y3, y4, y5, y6, x0, x1, x2, x3, x4, x5, x6⟩ := hSw; cases ho; go_simp; try with_reducible rfl)
            try simp only [Act.put, List.setIfInBounds_toArray, List.set_cons_zero, List.set_cons_succ]
            refine takeH 8 (some 105) (v := ?_) (by rfl) (by rfl) (by kernel_rfl) (by kernel_rfl) (by kernel_rfl) (fun _ _ _ h => h) ?_ (by assumption) ?_
            rotate_left
            · (intro o ho w hSw; obtain ⟨z0, y0, y1, y2, y3, y4, y5, y6, x0, x1, x2, x3, x4, x5, x6⟩ := hSw; cases ho; go_simp; try with_reducible rfl)
            try simp only [Act.put, List.setIfInBounds_toArray, List.set_cons_zero, List.set_cons_succ]
            refine takeH 9 (some 106) (v := ?_) (by rfl) (by rfl) (by kernel_rfl) (by kernel_rfl) (by kernel_rfl) (fun _ _ _ h => h) ?_ (by assumption) ?_
            rotate_left
            · (intro o ho w hSw; obtain ⟨z0, y0, y1, y2, y3, y4, y5, y6, x0, x1, x2, x3, x4, x5, x6⟩ := hSw; cases ho; go_simp; try with_reducible rfl)
            try simp only [Act.put, List.setIfInBounds_toArray, List.set_cons_zero, List.set_cons_succ]
            refine takeH 10 (some 107) (v := .int .i64 M) (by rfl) (by rfl) (by kernel_rfl) (by kernel_rfl) (by kernel_rfl) (fun _ _ _ h => h) ?_ (by assumption) ?_
            skip
            · (intro o ho w hSw; obtain ⟨z0, y0, y1, y2, y3, y4, y5, y6, x0, x1, x2, x3, x4, x5, x6⟩ := hSw; cases ho; go_simp; (try rw [HMM.out]); try with_reducible rfl)
            try simp only [Act.put, List.setIfInBounds_toArray, List.set_cons_zero, List.set_cons_succ]
            refine takeH 11 (some 17) (v := ?_) (by rfl) (by rfl) (by kernel_rfl) (by kernel_rfl) (by kernel_rfl) (fun _ _ _ h => h) ?_ (by assumption) ?_
            rotate_left
            · (intro o ho w hSw; obtain ⟨z0, y0, y1, y2, y3, y4, y5, y6, x0, x1, x2, x3, x4, x5, x6⟩ := hSw; cases ho; go_simp; try with_reducible rfl)
            try simp only [Act.put, List.setIfInBounds_toArray, List.set_cons_zero, List.set_cons_succ]
            refine wpAnyH_done (by kernel_rfl) ?_ _
            --@c
            have hP7 : Below wr.heap.size wr w5.drew.drew := below_drewN hP6 1
            go_wp2
            --@d
            refine wp_region_held_drew (S := (fun w' => w'.cell? ⟨g, 0, none⟩ = some (.slice (some ⟨gr, 0, none⟩) n c) ∧ w'.cell? ⟨gx, 0, none⟩ = some (.int .i64 o.id) ∧ w'.cell? ⟨gx, 1, none⟩ = some (.int .i64 o.acc) ∧ w'.cell? ⟨gx, 2, none⟩ = some (.bool o.buy) ∧ w'.cell? ⟨gx, 3, none⟩ = some (.int .i64 o.price) ∧ w'.cell? ⟨gx, 4, none⟩ = some (.int .i64 o.n) ∧ w'.cell? ⟨gx, 5, none⟩ = some (.int .i64 o.left) ∧ w'.cell? ⟨gx, 6, none⟩ = some (.bool false) ∧ w'.cell? ⟨gr, id * 7, none⟩ = some (.int .i64 x.id) ∧ w'.cell? ⟨gr, id * 7 + 1, none⟩ = some (.int .i64 x.acc) ∧ w'.cell? ⟨gr, id * 7 + 2, none⟩ = some (.bool x.buy) ∧ w'.cell? ⟨gr, id * 7 + 3, none⟩ = some (.int .i64 x.price) ∧ w'.cell? ⟨gr, id * 7 + 4, none⟩ = some (.int .i64 x.n) ∧ w'.cell? ⟨gr, id * 7 + 5, none⟩ = some (.int .i64 x.left) ∧ w'.cell? ⟨gr, id * 7 + 6, none⟩ = some (.bool xe))) (by kernel_rfl) (HS.out _ hP7) (fun hHeld => ?_)
            refine takeH 0 (some 108) (v := ?_) (by rfl) (by rfl) (by kernel_rfl) (by kernel_rfl) (by kernel_rfl) (fun _ _ _ h => h) ?_ (by assumption) ?_
            rotate_left
            · (intro o ho w hSw; obtain ⟨z0, y0, y1, y2, y3, y4, y5, y6, x0, x1, x2, x3, x4, x5, x6⟩ := hSw; cases ho; go_simp; try with_reducible rfl)
            try simp only [Act.put, List.setIfInBounds_toArray, List.set_cons_zero, List.set_cons_succ]
            refine takeH 1 (some 109) (v := ?_) (by rfl) (by rfl) (by kernel_rfl) (by kernel_rfl) (by kernel_rfl) (fun _ _ _ h => h) ?_ (by assumption) ?_
            rotate_left
            · (intro o ho w hSw; obtain ⟨z0, y0, y1, y2, y3, y4, y5, y6, x0, x1, x2, x3, x4, x5, x6⟩ := hSw; cases ho; go_simp; try with_reducible rfl)
            try simp only [Act.put, List.setIfInBounds_toArray, List.set_cons_zero, List.set_cons_succ]
            refine takeH 2 (some 110) (v := ?_) (by rfl) (by rfl) (by kernel_rfl) (by kernel_rfl) (by kernel_rfl) (fun _ _ _ h => h) ?_ (by assumption) ?_
            rotate_left
            · (intro o ho w hSw; obtain ⟨z0, y0, y1, y2, y3, y4, y5, y6, x0, x1, x2, x3, x4, x5, x6⟩ := hSw; cases ho; go_simp; try with_reducible rfl)
            try simp only [Act.put, List.setIfInBounds_toArray, List.set_cons_zero, List.set_cons_succ]
            refine takeH 3 (some 111) (v := ?_) (by rfl) (by rfl) (by kernel_rfl) (by kernel_rfl) (by kernel_rfl) (fun _ _ _ h => h) ?_ (by assumption) ?_
            rotate_left
            · (intro o ho w hSw; obtain ⟨z0, y0, y1, y2, y3, y4, y5, y6, x0, x1, x2, x3, x4, x5, x6⟩ := hSw; cases ho; go_simp; try with_reducible rfl)
            try simp only [Act.put, List.setIfInBounds_toArray, List.set_cons_zero, List.set_cons_succ]
            refine takeH 4 (some 112) (v := ?_) (by rfl) (by rfl) (by kernel_rfl) (by kernel_rfl) (by kernel_rfl) (fun _ _ _ h => h) ?_ (by assumption) ?_
            rotate_left
            · (intro o ho w hSw; obtain ⟨z0, y0, y1, y2, y3, y4, y5, y6, x0, x1, x2, x3, x4, x5, x6⟩ := hSw; cases ho; go_simp; try with_reducible rfl)
            try simp only [Act.put, List.setIfInBounds_toArray, List.set_cons_zero, List.set_cons_succ]
            refine takeH 5 (some 113) (v := ?_) (by rfl) (by rfl) (by kernel_rfl) (by kernel_rfl) (by kernel_rfl) (fun _ _ _ h => h) ?_ (by assumption) ?_
            rotate_left
            · (intro o ho w hSw; obtain ⟨z0, y0, y1, y2, y3, y4, y5, y6, x0, x1, x2, x3, x4, x5, x6⟩ := hSw; cases ho; go_simp; try with_reducible rfl)
            try simp only [Act.put, List.setIfInBounds_toArray, List.set_cons_zero, List.set_cons_succ]
            refine takeH 6 (some 114) (v := ?_) (by rfl) (by rfl) (by kernel_rfl) (by kernel_rfl) (by kernel_rfl) (fun _ _ _ h => h) ?_ (by assumption) ?_
            rotate_left
            · (intro o ho w hSw; obtain ⟨z0, y0, y1, y2, y3, y4, y5, y6, x0, x1, x2, x3, x4, x5, x6⟩ := hSw; cases ho; go_simp; try with_reducible rfl)
            try simp only [Act.put, List.setIfInBounds_toArray, List.set_cons_zero, List.set_cons_succ]
            refine takeH 7 (some 115) (v := ?_) (by rfl) (by rfl) (by kernel_rfl) (by kernel_rfl) (by kernel_rfl) (fun _ _ _ h => h) ?_ (by assumption) ?_
            rotate_left
            · (intro o ho w hSw; obtain ⟨z0, y0, y1, y2, y3, y4, y5, y6, x0, x1, x2, x3, x4, x5, x6⟩ := hSw; cases ho; go_simp; try with_reducible rfl)
            try simp only [Act.put, List.setIfInBounds_toArray, List.set_cons_zero, List.set_cons_succ]
            refine takeH 8 (some 116) (v := ?_) (by rfl) (by rfl) (by kernel_rfl) (by kernel_rfl) (by kernel_rfl) (fun _ _ _ h => h) ?_ (by assumption) ?_
            rotate_left
            · (intro o ho w hSw; obtain ⟨z0, y0, y1, y2, y3, y4, y5, y6, x0, x1, x2, x3, x4, x5, x6⟩ := hSw; cases ho; go_simp; try with_reducible rfl)
            try simp only [Act.put, List.setIfInBounds_toArray, List.set_cons_zero, List.set_cons_succ]
            refine takeH 9 (some 117) (v := ?_) (by rfl) (by rfl) (by kernel_rfl) (by kernel_rfl) (by kernel_rfl) (fun _ _ _ h => h) ?_ (by assumption) ?_
            rotate_left
            · (intro o ho w hSw; obtain ⟨z0, y0, y1, y2, y3, y4, y5, y6, x0, x1, x2, x3, x4, x5, x6⟩ := hSw; cases ho; go_simp; try with_reducible rfl)
            try simp only [Act.put, List.setIfInBounds_toArray, List.set_cons_zero, List.set_cons_succ]
            refine takeH 10 (some 118) (v := ?_) (by rfl) (by rfl) (by kernel_rfl) (by kernel_rfl) (by kernel_rfl) (fun _ _ _ h => h) ?_ (by assumption) ?_
            rotate_left
            · (intro o ho w hSw; obtain ⟨z0, y0, y1, y2, y3, y4, y5, y6, x0, x1, x2, x3, x4, x5, x6⟩ := hSw; cases ho; go_simp; try with_reducible rfl)
            try simp only [Act.put, List.setIfInBounds_toArray, List.set_cons_zero, List.set_cons_succ]
            refine takeH 11 (some 119) (v := ?_) (by rfl) (by rfl) (by kernel_rfl) (by kernel_rfl) (by kernel_rfl) (fun _ _ _ h => h) ?_ (by assumption) ?_
            rotate_left
            · (intro o ho w hSw; obtain ⟨z0, y0, y1, y2, y3, y4, y5, y6, x0, x1, x2, x3, x4, x5, x6⟩ := hSw; cases ho; go_simp; try with_reducible rfl)
            try simp only [Act.put, List.setIfInBounds_toArray, List.set_cons_zero, List.set_cons_succ]
            refine takeH 12 (some 120) (v := ?_) (by rfl) (by rfl) (by kernel_rfl) (by kernel_rfl) (by kernel_rfl) (fun _ _ _ h => h) ?_ (by assumption) ?_
            rotate_left
            · (intro o ho w hSw; obtain ⟨z0, y0, y1, y2, y3, y4, y5, y6, x0, x1, x2, x3, x4, x5, x6⟩ := hSw; cases ho; go_simp; try with_reducible rfl)
            try simp only [Act.put, List.setIfInBounds_toArray, List.set_cons_zero, List.set_cons_succ]
            refine takeH 13 (some 121) (v := ?_) (by rfl) (by rfl) (by kernel_rfl) (by kernel_rfl) (by kernel_rfl) (fun _ _ _ h => h) ?_ (by assumption) ?_
            rotate_left
            · (intro o ho w hSw; obtain ⟨z0, y0, y1, y2, y3, y4, y5, y6, x0, x1, x2, x3, x4, x5, x6⟩ := hSw; cases ho; go_simp; try with_reducible rfl)
            try simp only [Act.put, List.setIfInBounds_toArray, List.set_cons_zero, List.set_cons_succ]
            refine takeH 14 (some 122) (v := ?_) (by rfl) (by rfl) (by kernel_rfl) (by kernel_rfl) (by kernel_rfl) (fun _ _ _ h => h) ?_ (by assumption) ?_
            rotate_left
            · (intro o ho w hSw; obtain ⟨z0, y0, y1, y2, y3, y4, y5, y6, x0, x1, x2, x3, x4, x5, x6⟩ := hSw; cases ho; go_simp; try with_reducible rfl)
            try simp only [Act.put, List.setIfInBounds_toArray, List.set_cons_zero, List.set_cons_succ]
            refine takeH 15 (some 123) (v := ?_) (by rfl) (by rfl) (by kernel_rfl) (by kernel_rfl) (by kernel_rfl) (fun _ _ _ h => h) ?_ (by assumption) ?_
            rotate_left
            · (intro o ho w hSw; obtain ⟨z0, y0, y1, y2, y3, y4, y5, y6, x0, x1, x2, x3, x4, x5, x6⟩ := hSw; cases ho; go_simp; try with_reducible rfl)
            try simp only [Act.put, List.setIfInBounds_toArray, List.set_cons_zero, List.set_cons_succ]
            refine takeH 16 (some 124) (v := ?_) (by rfl) (by rfl) (by kernel_rfl) (by kernel_rfl) (by kernel_rfl) (fun _ _ _ h => h) ?_ (by assumption) ?_
            rotate_left
            · (intro o ho w hSw; obtain ⟨z0, y0, y1, y2, y3, y4, y5, y6, x0, x1, x2, x3, x4, x5, x6⟩ := hSw; cases ho; go_simp; try with_reducible rfl)
            try simp only [Act.put, List.setIfInBounds_toArray, List.set_cons_zero, List.set_cons_succ]
            refine takeH 17 (some 125) (v := ?_) (by rfl) (by rfl) (by kernel_rfl) (by kernel_rfl) (by kernel_rfl) (fun _ _ _ h => h) ?_ (by assumption) ?_
            rotate_left
            · (intro o ho w hSw; obtain ⟨z0, y0, y1, y2, y3, y4, y5, y6, x0, x1, x2, x3, x4, x5, x6⟩ := hSw; cases ho; go_simp; try with_reducible rfl)
            try simp only [Act.put, List.setIfInBounds_toArray, List.set_cons_zero, List.set_cons_succ]
            refine takeH 18 (some 126) (v := ?_) (by rfl) (by rfl) (by kernel_rfl) (by kernel_rfl) (by kernel_rfl) (fun _ _ _ h => h) ?_ (by assumption) ?_
            rotate_left
            · (intro o ho w hSw; obtain ⟨z0, y0, y1, y2, y3, y4, y5, y6, x0, x1, x2, x3, x4, x5, x6⟩ := hSw; cases ho; go_simp; try with_reducible rfl)
            try simp only [Act.put, List.setIfInBounds_toArray, List.set_cons_zero, List.set_cons_succ]
            refine takeH 19 (some 127) (v := ?_) (by rfl) (by rfl) (by kernel_rfl) (by kernel_rfl) (by kernel_rfl) (fun _ _ _ h => h) ?_ (by assumption) ?_
            rotate_left
            · (intro o ho w hSw; obtain ⟨z0, y0, y1, y2, y3, y4, y5, y6, x0, x1, x2, x3, x4, x5, x6⟩ := hSw; cases ho; go_simp; try with_reducible rfl)
            try simp only [Act.put, List.setIfInBounds_toArray, List.set_cons_zero, List.set_cons_succ]
            refine wpAnyH_ready (rs := [20]) (by kernel_rfl) (by simp) ?_
            refine AllReadyH.cons rfl (fun K hK => ?_) AllReadyH.nil
            go_simp
            refine hK.out _ _ ?_ (fun hH18 => ?_)
            · exact (HS.out _ (hP7.alloc hP7.size _))
            clear hK K
            try simp only [Act.put, List.setIfInBounds_toArray, List.set_cons_zero, List.set_cons_succ]
            refine wpAnyH_ready (rs := [21]) (by kernel_rfl) (by simp) ?_
            refine AllReadyH.cons rfl (fun K hK => ?_) AllReadyH.nil
            go_simp
            have hP8 := hP7.alloc hP7.size (.cells #[.int .i64 o.id, .int .i64 x.id, .int .i64 x.price, .int .i64 M] 105)
            refine hK.out _ _ ?_ (fun hH19 => ?_)
            · exact (HS.out _ hP8)
            clear hK K
            try simp only [Act.put, List.setIfInBounds_toArray]
            refine wpAnyH_done (by kernel_rfl) ?_ _
            --@e
            obtain ⟨w6, hw6⟩ : ∃ w6, w6 = (w5.alloc (.cells #[.int .i64 o.id, .int .i64 x.id, .int .i64 x.price, .int .i64 M] 105)).drew.drew := ⟨_, rfl⟩
            rw [← hw6]
            have hp6 : Below wr.heap.size wr w6 := by rw [hw6]; exact below_drewN (below_drewN (hP5.alloc hP5.size _) 1) 1
            have hB6 : Blk w6 w5.heap.size 105 #[.int .i64 o.id, .int .i64 x.id, .int .i64 x.price, .int .i64 M] := by rw [hw6]; exact blk_drew (blk_drew (Blk.new w5 _ _))
            have HR5 := Lib.hid (HRR.out.below hP5)
            obtain ⟨g18, hg18⟩ : ∃ g18, w5.heap.size = g18 := ⟨_, rfl⟩
            rw [hg18] at hB6 ⊢
            have HRG : Hid (∀ q, (Value.slice At m ct).ownBlock = some q → q < g18) := Lib.hid (fun q hq => by rw [← hg18]; exact (own_ge HR5.out.row hq).2)
            have HGG : Hid (wr.heap.size ≤ g18) := Lib.hid (by rw [← hg18]; exact hP5.size)
            have ngx : gx ≠ g18 := by have h1 := HRR.out.blk.lt; have h2 := HGG.out; omega
            have ngr : gr ≠ g18 := by have h1 := HGR.out; have h2 := HGG.out; omega
            have d0 := hB6.cell 0
            have d1 := hB6.cell 1
            have d2 := hB6.cell 2
            have d3 := hB6.cell 3
            have fd0 := hB6.frozen 0
            have fd1 := hB6.frozen 1
            simp only [List.getElem?_toArray, List.getElem?_cons_zero, List.getElem?_cons_succ] at d0 d1 d2 d3
            have HB6 := Lib.hid hB6
            have HP6 := Lib.hid hp6
            obtain ⟨z0, y0, y1, y2, y3, y4, y5, y6, x0, x1, x2, x3, x4, x5, x6⟩ := HS.out _ hp6
            clear hw6 hg18 hB6 hp6 hP6 hP7 HR5
            try clear hP8
            try clear hHeld hH18 hH19
            --@f
            have HPA : Hid (Below wr.heap.size wr ((w6.setCell ⟨g18, 0, none⟩ (.int .i64 x.id)).setCell ⟨g18, 1, none⟩ (.int .i64 o.id))) := Lib.hid ((((Mod.refl (fun q => q = g18) w6).set (p := ⟨g18, 0, none⟩) (.inl rfl) (.int .i64 x.id)).set (p := ⟨g18, 1, none⟩) (.inl rfl) (.int .i64 o.id)).below HP6.out HP6.out.size (fun q hq => by rw [hq]; exact HGG.out))
            have HR14 := Lib.hid (HRR.out.below HPA.out)
            have HBA : Hid (Blk ((w6.setCell ⟨g18, 0, none⟩ (.int .i64 x.id)).setCell ⟨g18, 1, none⟩ (.int .i64 o.id)) g18 105 #[.int .i64 x.id, .int .i64 o.id, .int .i64 x.price, .int .i64 M]) := Lib.hid ((HB6.out.set_ 0 _).set_ 1 _)
            --@g
            have hm5 : m ≤ 5000 := by
              have h1 := HPM.out.tl
              have h2 := HBK.out
              have h3 := HRR.out.len
              rw [BkS.few_side b true] at h2
              split at h1 <;> omega
            have hw18 : IntKind.i64.wrap (o.left - M) = o.left - M := IntWalk.i64_in _ (by have h1 := HPM.out.l1; rw [HO0.out] at h1; dsimp only at h1; omega)
            have hw19 : IntKind.i64.wrap (x.left - M) = x.left - M := IntWalk.i64_in _ (by omega)
            have HTC : Hid ((trdOf o x M).cells = #[.int .i64 x.id, .int .i64 o.id, .int .i64 x.price, .int .i64 M].toList) := Lib.hid (by unfold trdOf; rw [HOB.out]; rfl)
            have hzWA : ((w6.setCell ⟨g18, 0, none⟩ (.int .i64 x.id)).setCell ⟨g18, 1, none⟩ (.int .i64 o.id)).heap.size = w6.heap.size := by simp
            have HZWA := Lib.hid hzWA
            clear hzWA
            --@h
            go_wp2_with (at_builtin
                         obtain ⟨A6, c6, w7, hr6, ho6, -, hm6, -⟩ := app_elem2 (w := ((w6.setCell ⟨g18, 0, none⟩ (.int .i64 x.id)).setCell ⟨g18, 1, none⟩ (.int .i64 o.id))) 80 slT_rtrd HR14.out.row #[.int .i64 x.id, .int .i64 o.id, .int .i64 x.price, .int .i64 M] rfl (one4_f _ _ _ _) (by omega) (by decide) HR14.out.mod.size
                         rw [HZWA.out] at hr6
                         refine wpList_append_run hr6 (by rfl) (by rfl) (by rfl) (by rfl) ?_
                         have HR7 : Hid (RR B g (some ⟨gr, 0, none⟩) n c w gx o (ts ++ [trdOf o x M]) A6 (m + 1) c6 l w7) := Lib.hid (HR14.out.app hm6 (by rw [HTC.out]; exact ho6))
                         clear z0 y0 y1 y2 y3 y4 y5 y6 x0 x1 x2 x3 x4 x5 x6
                         obtain ⟨-, -, -, -, -, y5, -, fy⟩ := HR7.out.y
                         clear hr6 ho6 hm6)
            try clear d0 d1 d2 d3 fd0 fd1
            try clear d0
            try clear d1
            try clear d2
            try clear d3
            try clear fd0
            try clear fd1
            --@i
            obtain ⟨w8, hw8⟩ : ∃ w8, w8 = w7.setCell ⟨gx, 5, none⟩ (.int .i64 (o.left - M)) := ⟨_, rfl⟩
            rw [← hw8]
            have HR8 : Hid (RR B g (some ⟨gr, 0, none⟩) n c w gx (o.less M) (ts ++ [trdOf o x M]) A6 (m + 1) c6 l w8) := Lib.hid (by rw [hw8]; exact HR7.out.ownx M)
            have hD : Below w8.heap.size w8 w8.drew := below_drewN (Below.refl _ _) 1
            have HS21 : Hid (∀ w', Below w8.heap.size w8 w' → (fun w' => w'.cell? ⟨g, 0, none⟩ = some (.slice (some ⟨gr, 0, none⟩) n c) ∧ w'.cell? ⟨gr, id * 7 + 5, none⟩ = some (.int .i64 x.left) ∧ w'.frozen? ⟨gr, id * 7 + 5, none⟩ = false) w') := Lib.hid (fun w' hb => by
              have q := HR8.out.rb.all hb
              obtain ⟨g', hg', -, -, fz', -, -, -, -, -, y5, -⟩ := q.order HIDN.out
              injection hg' with hg'
              injection hg' with hg'
              subst hg'
              rw [HXO.out] at y5
              exact ⟨q.cell0, y5, fz' 5⟩)
            clear hw8 y5 fy
            --@j
            refine beginG (S := (fun w' => w'.cell? ⟨g, 0, none⟩ = some (.slice (some ⟨gr, 0, none⟩) n c) ∧ w'.cell? ⟨gr, id * 7 + 5, none⟩ = some (.int .i64 x.left) ∧ w'.frozen? ⟨gr, id * 7 + 5, none⟩ = false)) 17 (by kernel_rfl) (HS21.out _ hD) (fun hHeld => ?_)
            refine takeG 0 (some 151) (v := ?_) (by rfl) (by rfl) (by kernel_rfl) (by kernel_rfl) (by decide) (by kernel_rfl) (by kernel_rfl) (fun _ _ _ h => h) ?_ (by assumption) ?_
            rotate_left
            · (intro o ho w hSw; obtain ⟨z0, x5, f5⟩ := hSw; cases ho; go_simp; try with_reducible rfl)
            try simp only [Act.put, List.setIfInBounds_toArray, List.set_cons_zero, List.set_cons_succ]
            refine takeG 1 (some 152) (v := ?_) (by rfl) (by rfl) (by kernel_rfl) (by kernel_rfl) (by decide) (by kernel_rfl) (by kernel_rfl) (fun _ _ _ h => h) ?_ (by assumption) ?_
            rotate_left
            · (intro o ho w hSw; obtain ⟨z0, x5, f5⟩ := hSw; cases ho; go_simp; try with_reducible rfl)
            try simp only [Act.put, List.setIfInBounds_toArray, List.set_cons_zero, List.set_cons_succ]
            refine takeG 2 (some 153) (v := ?_) (by rfl) (by rfl) (by kernel_rfl) (by kernel_rfl) (by decide) (by kernel_rfl) (by kernel_rfl) (fun _ _ _ h => h) ?_ (by assumption) ?_
            rotate_left
            · (intro o ho w hSw; obtain ⟨z0, x5, f5⟩ := hSw; cases ho; go_simp; try with_reducible rfl)
            try simp only [Act.put, List.setIfInBounds_toArray, List.set_cons_zero, List.set_cons_succ]
            refine takeG 3 (some 154) (v := ?_) (by rfl) (by rfl) (by kernel_rfl) (by kernel_rfl) (by decide) (by kernel_rfl) (by kernel_rfl) (fun _ _ _ h => h) ?_ (by assumption) ?_
            rotate_left
            · (intro o ho w hSw; obtain ⟨z0, x5, f5⟩ := hSw; cases ho; go_simp; try with_reducible rfl)
            try simp only [Act.put, List.setIfInBounds_toArray, List.set_cons_zero, List.set_cons_succ]
            refine takeG 4 (some 155) (v := ?_) (by rfl) (by rfl) (by kernel_rfl) (by kernel_rfl) (by decide) (by kernel_rfl) (by kernel_rfl) (fun _ _ _ h => h) ?_ (by assumption) ?_
            rotate_left
            · (intro o ho w hSw; obtain ⟨z0, x5, f5⟩ := hSw; cases ho; go_simp; try with_reducible rfl)
            try simp only [Act.put, List.setIfInBounds_toArray, List.set_cons_zero, List.set_cons_succ]
            refine takeG 5 (some 156) (v := ?_) (by rfl) (by rfl) (by kernel_rfl) (by kernel_rfl) (by decide) (by kernel_rfl) (by kernel_rfl) (fun _ _ _ h => h) ?_ (by assumption) ?_
            rotate_left
            · (intro o ho w hSw; obtain ⟨z0, x5, f5⟩ := hSw; cases ho; go_simp; try with_reducible rfl)
            try simp only [Act.put, List.setIfInBounds_toArray, List.set_cons_zero, List.set_cons_succ]
            refine takeG 6 (some 157) (v := ?_) (by rfl) (by rfl) (by kernel_rfl) (by kernel_rfl) (by decide) (by kernel_rfl) (by kernel_rfl) (fun _ _ _ h => h) ?_ (by assumption) ?_
            rotate_left
            · (intro o ho w hSw; obtain ⟨z0, x5, f5⟩ := hSw; cases ho; go_simp; try with_reducible rfl)
            try simp only [Act.put, List.setIfInBounds_toArray, List.set_cons_zero, List.set_cons_succ]
            refine takeG 7 (some 158) (v := ?_) (by rfl) (by rfl) (by kernel_rfl) (by kernel_rfl) (by decide) (by kernel_rfl) (by kernel_rfl) (fun _ _ _ h => h) ?_ (by assumption) ?_
            rotate_left
            · (intro o ho w hSw; obtain ⟨z0, x5, f5⟩ := hSw; cases ho; go_simp; try with_reducible rfl)
            try simp only [Act.put, List.setIfInBounds_toArray, List.set_cons_zero, List.set_cons_succ]
            refine takeG 8 (some 159) (v := ?_) (by rfl) (by rfl) (by kernel_rfl) (by kernel_rfl) (by decide) (by kernel_rfl) (by kernel_rfl) (fun _ _ _ h => h) ?_ (by assumption) ?_
            rotate_left
            · (intro o ho w hSw; obtain ⟨z0, x5, f5⟩ := hSw; cases ho; go_simp; try with_reducible rfl)
            try simp only [Act.put, List.setIfInBounds_toArray, List.set_cons_zero, List.set_cons_succ]
            refine takeG 9 (some 160) (v := ?_) (by rfl) (by rfl) (by kernel_rfl) (by kernel_rfl) (by decide) (by kernel_rfl) (by kernel_rfl) (fun _ _ _ h => h) ?_ (by assumption) ?_
            rotate_left
            · (intro o ho w hSw; obtain ⟨z0, x5, f5⟩ := hSw; cases ho; go_simp; try with_reducible rfl)
            try simp only [Act.put, List.setIfInBounds_toArray, List.set_cons_zero, List.set_cons_succ]
            refine takeG 10 (some 161) (v := ?_) (by rfl) (by rfl) (by kernel_rfl) (by kernel_rfl) (by decide) (by kernel_rfl) (by kernel_rfl) (fun _ _ _ h => h) ?_ (by assumption) ?_
            rotate_left
            · (intro o ho w hSw; obtain ⟨z0, x5, f5⟩ := hSw; cases ho; go_simp; try with_reducible rfl)
            try simp only [Act.put, List.setIfInBounds_toArray, List.set_cons_zero, List.set_cons_succ]
            refine takeG 11 (some 162) (v := ?_) (by rfl) (by rfl) (by kernel_rfl) (by kernel_rfl) (by decide) (by kernel_rfl) (by kernel_rfl) (fun _ _ _ h => h) ?_ (by assumption) ?_
            rotate_left
            · (intro o ho w hSw; obtain ⟨z0, x5, f5⟩ := hSw; cases ho; go_simp; try with_reducible rfl)
            try simp only [Act.put, List.setIfInBounds_toArray, List.set_cons_zero, List.set_cons_succ]
            refine takeG 12 (some 163) (v := ?_) (by rfl) (by rfl) (by kernel_rfl) (by kernel_rfl) (by decide) (by kernel_rfl) (by kernel_rfl) (fun _ _ _ h => h) ?_ (by assumption) ?_
            rotate_left
            · (intro o ho w hSw; obtain ⟨z0, x5, f5⟩ := hSw; cases ho; go_simp; try with_reducible rfl)
            try simp only [Act.put, List.setIfInBounds_toArray, List.set_cons_zero, List.set_cons_succ]
            refine takeG 13 (some 164) (v := ?_) (by rfl) (by rfl) (by kernel_rfl) (by kernel_rfl) (by decide) (by kernel_rfl) (by kernel_rfl) (fun _ _ _ h => h) ?_ (by assumption) ?_
            rotate_left
            · (intro o ho w hSw; obtain ⟨z0, x5, f5⟩ := hSw; cases ho; go_simp; try with_reducible rfl)
            try simp only [Act.put, List.setIfInBounds_toArray, List.set_cons_zero, List.set_cons_succ]
            refine takeG 14 (some 165) (v := ?_) (by rfl) (by rfl) (by kernel_rfl) (by kernel_rfl) (by decide) (by kernel_rfl) (by kernel_rfl) (fun _ _ _ h => h) ?_ (by assumption) ?_
            rotate_left
            · (intro o ho w hSw; obtain ⟨z0, x5, f5⟩ := hSw; cases ho; go_simp; try with_reducible rfl)
            try simp only [Act.put, List.setIfInBounds_toArray, List.set_cons_zero, List.set_cons_succ]
            refine takeGD [16, 17] 15 (some 166) (v := ?_) (by rfl) (by rfl) (by kernel_rfl) (by kernel_rfl) (by decide) (by kernel_rfl) (by kernel_rfl) (fun _ _ _ h => h) ?_ (by assumption) ?_
            rotate_left
            · (intro o ho w hSw; obtain ⟨z0, x5, f5⟩ := hSw; cases ho; go_simp; try with_reducible rfl)
            try simp only [Act.put, List.setIfInBounds_toArray, List.set_cons_zero, List.set_cons_succ]
            refine takeG 16 (some 167) (v := ?_) (by rfl) (by rfl) (by kernel_rfl) (by kernel_rfl) (by decide) (by kernel_rfl) (by kernel_rfl) (fun _ _ _ h => h) ?_ (by assumption) ?_
            rotate_left
            · (intro o ho w hSw; obtain ⟨z0, x5, f5⟩ := hSw; cases ho; go_simp; try with_reducible rfl)
            try simp only [Act.put, List.setIfInBounds_toArray, List.set_cons_zero, List.set_cons_succ]
            refine lastG (by kernel_rfl) rfl (fun K hK => ?_)
            obtain ⟨z0, x5, f5⟩ := HS21.out _ hD
            go_simp
            refine hK.out _ _ ?_
            clear hK K
            (try simp only [Act.put]); (try simp only [List.setIfInBounds_toArray]); (try simp only [List.set_cons_succ]); (try simp only [List.set_cons_zero])
            refine doneG (by kernel_rfl) ?_ _
            --@k
            obtain ⟨w9, hw9⟩ : ∃ w9, w9 = (w8.setCell ⟨gr, id * 7 + 5, none⟩ (.int .i64 (x.left - M))).drew := ⟨_, rfl⟩
            rw [← hw9]
            have HRR9 : Hid (RR B g (some ⟨gr, 0, none⟩) n c w gx (o.less M) (ts ++ [trdOf o x M]) A6 (m + 1) c6 (l.set id ⟨x.less M, xe⟩) w9) := Lib.hid (by
              have h1 := HR8.out.other rfl HIDN.out x M HXO.out
              rw [HXE.out] at h1
              rw [hw9]
              exact h1.below (below_drewN (Below.refl _ _) 1))
            clear hw9 hw18 hw19 hD HS21
            try clear hHeld
            --@l
            rcases Decidable.em (x.left - M = 0) with hzz | hzz
            · have HZ : Hid (x.left - M = 0) := Lib.hid hzz
              clear hzz
              have HPM9 : Hid (PM b true o0 ((d.setOs (d.os.set id (x.less M))).put true t) (o.less M) (ts ++ [trdOf o x M])) := Lib.hid (by
                have h1 := HPM.out.full HSD.out hlf (by rw [HX.out]; exact HAB.out) (by rw [HX.out, HOA.out]; exact hxa) (m := M) (by rw [HX.out]; exact HMM.out.symm) (by rw [HX.out]; exact HZ.out)
                rw [HX.out] at h1
                exact h1)
              have HREL9 : Hid (Rel (l.set id ⟨x.less M, xe⟩) ((d.setOs (d.os.set id (x.less M))).put true t)) := Lib.hid (by
                have h1 := (HREL.out.setLeft HPM.out.ok HIDL.out HSD.out M).1
                rw [HX.out, HXE.out] at h1
                exact h1 HZ.out)
              obtain ⟨k3, hk3⟩ : ∃ k3, k3 = headI (((d.setOs (d.os.set id (x.less M))).put true t).side true) := ⟨_, rfl⟩
              have HK3 := Lib.hid hk3
              clear hk3
              go_wp2_with (go_at_call 49
                           (with_reducible refine (HBEST.out w9 _ _ _ k3 HRR9.out.rb HREL9.out HPM9.out.ok HK3.out).mono ?_)
                           rintro e w10 ⟨rfl, hb10⟩)
              go_roundg ((((d.setOs (d.os.set id (x.less M))).put true t).side true).length + (if 0 < (o.less M).left then 1 else 0))
              case measure =>
                rw [← HGK.out, HSD.out, if_pos hlf]
                rw [put_side]
                simp only [List.length_cons]
                split <;> omega
              case rel => exact RLoop.mk HPM9.out (HRR9.out.below hb10) HREL9.out HK3.out
            · have HZ : Hid (x.left - M ≠ 0) := Lib.hid hzz
              clear hzz
              have HPM9 : Hid (PM b true o0 (d.setOs (d.os.set id (x.less M))) (o.less M) (ts ++ [trdOf o x M])) := Lib.hid (by
                have h1 := HPM.out.part HSD.out hlf (by rw [HX.out]; exact HAB.out) (by rw [HX.out, HOA.out]; exact hxa) (m := M) (by rw [HX.out]; exact HMM.out.symm) (by rw [HX.out]; exact HZ.out)
                rw [HX.out] at h1
                exact h1.1)
              have HREL9 : Hid (Rel (l.set id ⟨x.less M, xe⟩) (d.setOs (d.os.set id (x.less M)))) := Lib.hid (by
                have h1 := (HREL.out.setLeft HPM.out.ok HIDL.out HSD.out M).2
                rw [HX.out, HXE.out] at h1
                exact h1 (by have := HZ.out; omega))
              obtain ⟨k3, hk3⟩ : ∃ k3, k3 = headI ((d.setOs (d.os.set id (x.less M))).side true) := ⟨_, rfl⟩
              have HK3 := Lib.hid hk3
              clear hk3
              go_wp2_with (go_at_call 49
                           (with_reducible refine (HBEST.out w9 _ _ _ k3 HRR9.out.rb HREL9.out HPM9.out.ok HK3.out).mono ?_)
                           rintro e w10 ⟨rfl, hb10⟩)
              go_roundg (((d.setOs (d.os.set id (x.less M))).side true).length + (if 0 < (o.less M).left then 1 else 0))
              case measure =>
                rw [← HGK.out, HSD.out, if_pos hlf]
                rw [setOs_side, HSD.out, if_neg (by show ¬ 0 < o.left - M; have := HMM.out; have := HZ.out; omega)]
                omega
              case rel => exact RLoop.mk HPM9.out (HRR9.out.below hb10) HREL9.out HK3.out
    · have HST : Hid (Stops d true o) := Lib.hid (.inl hlf)
      have hlz : decide (0 < o.left) = false := by simp; omega
      go_wp2
      refine wp_region_held_drew (S := (fun w' => w'.cell? ⟨gx, 0, none⟩ = some (.int .i64 o.id) ∧ w'.cell? ⟨gx, 1, none⟩ = some (.int .i64 o.acc) ∧ w'.cell? ⟨gx, 2, none⟩ = some (.bool o.buy) ∧ w'.cell? ⟨gx, 3, none⟩ = some (.int .i64 o.price) ∧ w'.cell? ⟨gx, 4, none⟩ = some (.int .i64 o.n) ∧ w'.cell? ⟨gx, 5, none⟩ = some (.int .i64 o.left) ∧ w'.cell? ⟨gx, 6, none⟩ = some (.bool false))) (by kernel_rfl) (HSY.out _ hP1) (fun hHeld => ?_)
      refine takeH 0 (some 62) (v := ?_) (by rfl) (by rfl) (by kernel_rfl) (by kernel_rfl) (by kernel_rfl) (fun _ _ _ h => h) ?_ (by assumption) ?_
      rotate_left
      · (intro o ho w hSw; obtain ⟨y0, y1, y2, y3, y4, y5, y6⟩ := hSw; cases ho; go_simp; try with_reducible rfl)
      try simp only [Act.put, List.setIfInBounds_toArray, List.set_cons_zero, List.set_cons_succ]
      refine takeH 1 (some 63) (v := ?_) (by rfl) (by rfl) (by kernel_rfl) (by kernel_rfl) (by kernel_rfl) (fun _ _ _ h => h) ?_ (by assumption) ?_
      rotate_left
      · (intro o ho w hSw; obtain ⟨y0, y1, y2, y3, y4, y5, y6⟩ := hSw; cases ho; go_simp; try with_reducible rfl)
      try simp only [Act.put, List.setIfInBounds_toArray, List.set_cons_zero, List.set_cons_succ]
      refine takeH 2 (some 64) (v := ?_) (by rfl) (by rfl) (by kernel_rfl) (by kernel_rfl) (by kernel_rfl) (fun _ _ _ h => h) ?_ (by assumption) ?_
      rotate_left
      · (intro o ho w hSw; obtain ⟨y0, y1, y2, y3, y4, y5, y6⟩ := hSw; cases ho; go_simp; try with_reducible rfl)
      try simp only [Act.put, List.setIfInBounds_toArray, List.set_cons_zero, List.set_cons_succ]
      refine takeH 3 (some 65) (v := ?_) (by rfl) (by rfl) (by kernel_rfl) (by kernel_rfl) (by kernel_rfl) (fun _ _ _ h => h) ?_ (by assumption) ?_
      rotate_left
      · (intro o ho w hSw; obtain ⟨y0, y1, y2, y3, y4, y5, y6⟩ := hSw; cases ho; go_simp; try with_reducible rfl)
      try simp only [Act.put, List.setIfInBounds_toArray, List.set_cons_zero, List.set_cons_succ]
      first
      | refine skipH 4 (some 66) (by rfl) (by rfl) (by kernel_rfl) (by kernel_rfl) (by kernel_rfl) (fun _ _ _ h => h) (by assumption) ?_
      | refine takeH 4 (some 66) (v := ?_) (by rfl) (by rfl) (by kernel_rfl) (by kernel_rfl) (by kernel_rfl) (fun _ _ _ h => h) ?_ (by assumption) ?_
        rotate_left
        · (intro o ho w hSw; obtain ⟨y0, y1, y2, y3, y4, y5, y6⟩ := hSw; cases ho; go_simp; try with_reducible rfl)
      try simp only [Act.put, List.setIfInBounds_toArray, List.set_cons_zero, List.set_cons_succ]
      first
      | refine skipH 5 (some 67) (by rfl) (by rfl) (by kernel_rfl) (by kernel_rfl) (by kernel_rfl) (fun _ _ _ h => h) (by assumption) ?_
      | refine takeH 5 (some 67) (v := ?_) (by rfl) (by rfl) (by kernel_rfl) (by kernel_rfl) (by kernel_rfl) (fun _ _ _ h => h) ?_ (by assumption) ?_
        rotate_left
        · (intro o ho w hSw; obtain ⟨y0, y1, y2, y3, y4, y5, y6⟩ := hSw; cases ho; go_simp; try with_reducible rfl)
      try simp only [Act.put, List.setIfInBounds_toArray, List.set_cons_zero, List.set_cons_succ]
      refine takeH 6 (some 68) (v := ?_) (by rfl) (by rfl) (by kernel_rfl) (by kernel_rfl) (by kernel_rfl) (fun _ _ _ h => h) ?_ (by assumption) ?_
      rotate_left
      · (intro o ho w hSw; obtain ⟨y0, y1, y2, y3, y4, y5, y6⟩ := hSw; cases ho; go_simp; try with_reducible rfl)
      try simp only [Act.put, List.setIfInBounds_toArray, List.set_cons_zero, List.set_cons_succ]
      refine takeH 7 (some 69) (v := ?_) (by rfl) (by rfl) (by kernel_rfl) (by kernel_rfl) (by kernel_rfl) (fun _ _ _ h => h) ?_ (by assumption) ?_
      rotate_left
      · (intro o ho w hSw; obtain ⟨y0, y1, y2, y3, y4, y5, y6⟩ := hSw; cases ho; go_simp; try with_reducible rfl)
      try simp only [Act.put, List.setIfInBounds_toArray, List.set_cons_zero, List.set_cons_succ]
      first
      | refine skipH 8 (some 70) (by rfl) (by rfl) (by kernel_rfl) (by kernel_rfl) (by kernel_rfl) (fun _ _ _ h => h) (by assumption) ?_
      | refine takeH 8 (some 70) (v := ?_) (by rfl) (by rfl) (by kernel_rfl) (by kernel_rfl) (by kernel_rfl) (fun _ _ _ h => h) ?_ (by assumption) ?_
        rotate_left
        · (intro o ho w hSw; obtain ⟨y0, y1, y2, y3, y4, y5, y6⟩ := hSw; cases ho; go_simp; try with_reducible rfl)
      try simp only [Act.put, List.setIfInBounds_toArray, List.set_cons_zero, List.set_cons_succ]
      first
      | refine skipH 9 (some 71) (by rfl) (by rfl) (by kernel_rfl) (by kernel_rfl) (by kernel_rfl) (fun _ _ _ h => h) (by assumption) ?_
      | refine takeH 9 (some 71) (v := ?_) (by rfl) (by rfl) (by kernel_rfl) (by kernel_rfl) (by kernel_rfl) (fun _ _ _ h => h) ?_ (by assumption) ?_
        rotate_left
        · (intro o ho w hSw; obtain ⟨y0, y1, y2, y3, y4, y5, y6⟩ := hSw; cases ho; go_simp; try with_reducible rfl)
      try simp only [Act.put, List.setIfInBounds_toArray, List.set_cons_zero, List.set_cons_succ]
      first
      | refine skipH 10 (some 72) (by rfl) (by rfl) (by kernel_rfl) (by kernel_rfl) (by kernel_rfl) (fun _ _ _ h => h) (by assumption) ?_
      | refine takeH 10 (some 72) (v := ?_) (by rfl) (by rfl) (by kernel_rfl) (by kernel_rfl) (by kernel_rfl) (fun _ _ _ h => h) ?_ (by assumption) ?_
        rotate_left
        · (intro o ho w hSw; obtain ⟨y0, y1, y2, y3, y4, y5, y6⟩ := hSw; cases ho; go_simp; try with_reducible rfl)
      try simp only [Act.put, List.setIfInBounds_toArray, List.set_cons_zero, List.set_cons_succ]
      first
      | refine skipH 11 (some 73) (by rfl) (by rfl) (by kernel_rfl) (by kernel_rfl) (by kernel_rfl) (fun _ _ _ h => h) (by assumption) ?_
      | refine takeH 11 (some 73) (v := ?_) (by rfl) (by rfl) (by kernel_rfl) (by kernel_rfl) (by kernel_rfl) (fun _ _ _ h => h) ?_ (by assumption) ?_
        rotate_left
        · (intro o ho w hSw; obtain ⟨y0, y1, y2, y3, y4, y5, y6⟩ := hSw; cases ho; go_simp; try with_reducible rfl)
      try simp only [Act.put, List.setIfInBounds_toArray, List.set_cons_zero, List.set_cons_succ]
      first
      | refine skipH 12 (some 74) (by rfl) (by rfl) (by kernel_rfl) (by kernel_rfl) (by kernel_rfl) (fun _ _ _ h => h) (by assumption) ?_
      | refine takeH 12 (some 74) (v := ?_) (by rfl) (by rfl) (by kernel_rfl) (by kernel_rfl) (by kernel_rfl) (fun _ _ _ h => h) ?_ (by assumption) ?_
        rotate_left
        · (intro o ho w hSw; obtain ⟨y0, y1, y2, y3, y4, y5, y6⟩ := hSw; cases ho; go_simp; try with_reducible rfl)
      try simp only [Act.put, List.setIfInBounds_toArray, List.set_cons_zero, List.set_cons_succ]
      first
      | refine skipH 13 (some 75) (by rfl) (by rfl) (by kernel_rfl) (by kernel_rfl) (by kernel_rfl) (fun _ _ _ h => h) (by assumption) ?_
      | refine takeH 13 (some 75) (v := ?_) (by rfl) (by rfl) (by kernel_rfl) (by kernel_rfl) (by kernel_rfl) (fun _ _ _ h => h) ?_ (by assumption) ?_
        rotate_left
        · (intro o ho w hSw; obtain ⟨y0, y1, y2, y3, y4, y5, y6⟩ := hSw; cases ho; go_simp; try with_reducible rfl)
      try simp only [Act.put, List.setIfInBounds_toArray, List.set_cons_zero, List.set_cons_succ]
      first
      | refine skipH 14 (some 76) (by rfl) (by rfl) (by kernel_rfl) (by kernel_rfl) (by kernel_rfl) (fun _ _ _ h => h) (by assumption) ?_
      | refine takeH 14 (some 76) (v := ?_) (by rfl) (by rfl) (by kernel_rfl) (by kernel_rfl) (by kernel_rfl) (fun _ _ _ h => h) ?_ (by assumption) ?_
        rotate_left
        · (intro o ho w hSw; obtain ⟨y0, y1, y2, y3, y4, y5, y6⟩ := hSw; cases ho; go_simp; try with_reducible rfl)
      try simp only [Act.put, List.setIfInBounds_toArray, List.set_cons_zero, List.set_cons_succ]
      first
      | refine skipH 15 (some 77) (by rfl) (by rfl) (by kernel_rfl) (by kernel_rfl) (by kernel_rfl) (fun _ _ _ h => h) (by assumption) ?_
      | refine takeH 15 (some 77) (v := ?_) (by rfl) (by rfl) (by kernel_rfl) (by kernel_rfl) (by kernel_rfl) (fun _ _ _ h => h) ?_ (by assumption) ?_
        rotate_left
        · (intro o ho w hSw; obtain ⟨y0, y1, y2, y3, y4, y5, y6⟩ := hSw; cases ho; go_simp; try with_reducible rfl)
      try simp only [Act.put, List.setIfInBounds_toArray, List.set_cons_zero, List.set_cons_succ]
      first
      | refine skipH 16 (some 78) (by rfl) (by rfl) (by kernel_rfl) (by kernel_rfl) (by kernel_rfl) (fun _ _ _ h => h) (by assumption) ?_
      | refine takeH 16 (some 78) (v := ?_) (by rfl) (by rfl) (by kernel_rfl) (by kernel_rfl) (by kernel_rfl) (fun _ _ _ h => h) ?_ (by assumption) ?_
        rotate_left
        · (intro o ho w hSw; obtain ⟨y0, y1, y2, y3, y4, y5, y6⟩ := hSw; cases ho; go_simp; try with_reducible rfl)
      try simp only [Act.put, List.setIfInBounds_toArray, List.set_cons_zero, List.set_cons_succ]
      refine takeH 17 (some 79) (v := ?_) (by rfl) (by rfl) (by kernel_rfl) (by kernel_rfl) (by kernel_rfl) (fun _ _ _ h => h) ?_ (by assumption) ?_
      rotate_left
      · (intro o ho w hSw; obtain ⟨y0, y1, y2, y3, y4, y5, y6⟩ := hSw; cases ho; go_simp; try with_reducible rfl)
      try simp only [Act.put, List.setIfInBounds_toArray, List.set_cons_zero, List.set_cons_succ]
      refine wpAnyH_done (by kernel_rfl) ?_ _
      go_wp2
      have hPx := (show Below wr.heap.size wr wr.drew.drew from below_drewN (below_drewN (Below.refl _ _) 1) 1)
      have HS22 : Hid (∀ w', Below wr.heap.size wr w' → (fun w' => w'.cell? ⟨g, 0, none⟩ = some (.slice A n c) ∧ w'.cell? ⟨gx, 0, none⟩ = some (.int .i64 o.id) ∧ w'.cell? ⟨gx, 1, none⟩ = some (.int .i64 o.acc) ∧ w'.cell? ⟨gx, 2, none⟩ = some (.bool o.buy) ∧ w'.cell? ⟨gx, 3, none⟩ = some (.int .i64 o.price) ∧ w'.cell? ⟨gx, 4, none⟩ = some (.int .i64 o.n) ∧ w'.cell? ⟨gx, 5, none⟩ = some (.int .i64 o.left) ∧ w'.cell? ⟨gx, 6, none⟩ = some (.bool false) ∧ w'.frozen? ⟨g, 0, none⟩ = false) w') := Lib.hid (fun w' hb => by
        have q := HRR.out.below hb
        have y := q.y
        exact ⟨q.rb.cell0, y.1, y.2.1, y.2.2.1, y.2.2.2.1, y.2.2.2.2.1, y.2.2.2.2.2.1, y.2.2.2.2.2.2.1, q.rb.blk.frozen 0⟩)
      have HAPP : Hid (∀ w', Below wr.heap.size wr w' → ∃ A' c' w5, (Builtin.append_ #[51, 51] 51 #[.slice A n c, .slice (some ⟨w'.heap.size, 0, none⟩) 1 1]).run Try.prog (w'.alloc (.cells #[.int .i64 o.id, .int .i64 o.acc, .bool o.buy, .int .i64 o.price, .int .i64 o.n, .int .i64 o.left, .bool false] 85)) = .ok (.slice A' (n + 1) c') w5 ∧ (fun w' => w'.cell? ⟨g, 0, none⟩ = some (.slice A n c) ∧ w'.cell? ⟨gx, 0, none⟩ = some (.int .i64 o.id) ∧ w'.cell? ⟨gx, 1, none⟩ = some (.int .i64 o.acc) ∧ w'.cell? ⟨gx, 2, none⟩ = some (.bool o.buy) ∧ w'.cell? ⟨gx, 3, none⟩ = some (.int .i64 o.price) ∧ w'.cell? ⟨gx, 4, none⟩ = some (.int .i64 o.n) ∧ w'.cell? ⟨gx, 5, none⟩ = some (.int .i64 o.left) ∧ w'.cell? ⟨gx, 6, none⟩ = some (.bool false) ∧ w'.frozen? ⟨g, 0, none⟩ = false) w5 ∧ RFin B g A n c w gx o ts At m ct l A' c' (w5.setCell ⟨g, 0, none⟩ (.slice A' (n + 1) c'))) := Lib.hid (fun w' hb => by
        have q := HRR.out.below hb
        obtain ⟨A', c', w5, hr, h1, h2, h3, h4⟩ := app_elem2 51 slT_rord q.rb.own #[.int .i64 o.id, .int .i64 o.acc, .bool o.buy, .int .i64 o.price, .int .i64 o.n, .int .i64 o.left, .bool false] rfl (one7 _ _ _ _ _ _ _) (by have := HNL.out; omega) (by decide) (Nat.le_trans q.rb.ge (Nat.le_of_lt q.rb.blk.lt))
        have ha := q.added (A' := A') (c' := c') (w5 := w5) HNL.out h3 h1 h4
        exact ⟨A', c', w5, hr, ha.1, ha.2⟩)
      refine beginG (S := (fun w' => w'.cell? ⟨g, 0, none⟩ = some (.slice A n c) ∧ w'.cell? ⟨gx, 0, none⟩ = some (.int .i64 o.id) ∧ w'.cell? ⟨gx, 1, none⟩ = some (.int .i64 o.acc) ∧ w'.cell? ⟨gx, 2, none⟩ = some (.bool o.buy) ∧ w'.cell? ⟨gx, 3, none⟩ = some (.int .i64 o.price) ∧ w'.cell? ⟨gx, 4, none⟩ = some (.int .i64 o.n) ∧ w'.cell? ⟨gx, 5, none⟩ = some (.int .i64 o.left) ∧ w'.cell? ⟨gx, 6, none⟩ = some (.bool false) ∧ w'.frozen? ⟨g, 0, none⟩ = false)) 10 (by kernel_rfl) (HS22.out _ hPx) (fun hHeld => ?_)
      refine takeG 0 (some 172) (v := ?_) (by rfl) (by rfl) (by kernel_rfl) (by kernel_rfl) (by decide) (by kernel_rfl) (by kernel_rfl) (fun _ _ _ h => h) ?_ (by assumption) ?_
      rotate_left
      · (intro o ho w hSw; obtain ⟨z0, y0, y1, y2, y3, y4, y5, y6, f0⟩ := hSw; cases ho; go_simp; try with_reducible rfl)
      try simp only [Act.put, List.setIfInBounds_toArray, List.set_cons_zero, List.set_cons_succ]
      refine takeG 1 (some 173) (v := ?_) (by rfl) (by rfl) (by kernel_rfl) (by kernel_rfl) (by decide) (by kernel_rfl) (by kernel_rfl) (fun _ _ _ h => h) ?_ (by assumption) ?_
      rotate_left
      · (intro o ho w hSw; obtain ⟨z0, y0, y1, y2, y3, y4, y5, y6, f0⟩ := hSw; cases ho; go_simp; try with_reducible rfl)
      try simp only [Act.put, List.setIfInBounds_toArray, List.set_cons_zero, List.set_cons_succ]
      refine takeG 2 (some 174) (v := ?_) (by rfl) (by rfl) (by kernel_rfl) (by kernel_rfl) (by decide) (by kernel_rfl) (by kernel_rfl) (fun _ _ _ h => h) ?_ (by assumption) ?_
      rotate_left
      · (intro o ho w hSw; obtain ⟨z0, y0, y1, y2, y3, y4, y5, y6, f0⟩ := hSw; cases ho; go_simp; try with_reducible rfl)
      try simp only [Act.put, List.setIfInBounds_toArray, List.set_cons_zero, List.set_cons_succ]
      refine takeG 3 (some 175) (v := ?_) (by rfl) (by rfl) (by kernel_rfl) (by kernel_rfl) (by decide) (by kernel_rfl) (by kernel_rfl) (fun _ _ _ h => h) ?_ (by assumption) ?_
      rotate_left
      · (intro o ho w hSw; obtain ⟨z0, y0, y1, y2, y3, y4, y5, y6, f0⟩ := hSw; cases ho; go_simp; try with_reducible rfl)
      try simp only [Act.put, List.setIfInBounds_toArray, List.set_cons_zero, List.set_cons_succ]
      refine takeG 4 (some 176) (v := ?_) (by rfl) (by rfl) (by kernel_rfl) (by kernel_rfl) (by decide) (by kernel_rfl) (by kernel_rfl) (fun _ _ _ h => h) ?_ (by assumption) ?_
      rotate_left
      · (intro o ho w hSw; obtain ⟨z0, y0, y1, y2, y3, y4, y5, y6, f0⟩ := hSw; cases ho; go_simp; try with_reducible rfl)
      try simp only [Act.put, List.setIfInBounds_toArray, List.set_cons_zero, List.set_cons_succ]
      refine takeG 5 (some 177) (v := ?_) (by rfl) (by rfl) (by kernel_rfl) (by kernel_rfl) (by decide) (by kernel_rfl) (by kernel_rfl) (fun _ _ _ h => h) ?_ (by assumption) ?_
      rotate_left
      · (intro o ho w hSw; obtain ⟨z0, y0, y1, y2, y3, y4, y5, y6, f0⟩ := hSw; cases ho; go_simp; try with_reducible rfl)
      try simp only [Act.put, List.setIfInBounds_toArray, List.set_cons_zero, List.set_cons_succ]
      refine readyG (i := 6) (by kernel_rfl) rfl (fun K hK => ?_)
      go_simp
      have hP8 := hPx.alloc hPx.size (.cells #[.int .i64 o.id, .int .i64 o.acc, .bool o.buy, .int .i64 o.price, .int .i64 o.n, .int .i64 o.left, .bool false] 85)
      refine hK.out _ _ ?_ (fun hH6 => ?_)
      · exact (HS22.out _ hP8)
      clear hK K
      (try simp only [Act.put]); (try simp only [List.setIfInBounds_toArray]); (try simp only [List.set_cons_succ]); (try simp only [List.set_cons_zero])
      refine readyG (i := 7) (by kernel_rfl) rfl (fun K hK => ?_)
      obtain ⟨A5, c5, w5, hr5, hHx, hF5⟩ := HAPP.out _ hPx
      refine step_app (t := 51) hr5 (by kernel_rfl) (by rfl) (by rfl) (by rfl) ?_
      (try simp only [List.getElem_toArray, List.getElem_cons_succ, List.getElem_cons_zero])
      refine hK.out _ _ ?_ (fun hH7 => ?_)
      · exact hHx
      clear hK K
      (try simp only [Act.put]); (try simp only [List.setIfInBounds_toArray]); (try simp only [List.set_cons_succ]); (try simp only [List.set_cons_zero])
      refine takeGD [9, 10] 8 (some 180) (v := ?_) (by rfl) (by rfl) (by kernel_rfl) (by kernel_rfl) (by decide) (by kernel_rfl) (by kernel_rfl) (fun _ _ _ h => h) ?_ (by assumption) ?_
      rotate_left
      · (intro o ho w hSw; obtain ⟨z0, y0, y1, y2, y3, y4, y5, y6, f0⟩ := hSw; cases ho; go_simp; try with_reducible rfl)
      (try simp only [Act.put]); (try simp only [List.setIfInBounds_toArray]); (try simp only [List.set_cons_succ]); (try simp only [List.set_cons_zero])
      refine takeG 9 (some 181) (v := ?_) (by rfl) (by rfl) (by kernel_rfl) (by kernel_rfl) (by decide) (by kernel_rfl) (by kernel_rfl) (fun _ _ _ h => h) ?_ (by assumption) ?_
      rotate_left
      · (intro o ho w hSw; obtain ⟨z0, y0, y1, y2, y3, y4, y5, y6, f0⟩ := hSw; cases ho; go_simp; try with_reducible rfl)
      (try simp only [Act.put]); (try simp only [List.setIfInBounds_toArray]); (try simp only [List.set_cons_succ]); (try simp only [List.set_cons_zero])
      refine lastG (by kernel_rfl) rfl (fun K hK => ?_)
      obtain ⟨z0, y0, y1, y2, y3, y4, y5, y6, f0⟩ := hHx
      go_simp
      refine hK.out _ _ ?_
      clear hK K
      (try simp only [Act.put]); (try simp only [List.setIfInBounds_toArray]); (try simp only [List.set_cons_succ]); (try simp only [List.set_cons_zero])
      refine doneG (by kernel_rfl) ?_ _
      obtain ⟨w7, hw7⟩ : ∃ w7, w7 = w5.setCell ⟨g, 0, none⟩ (.slice A5 (n + 1) c5) := ⟨_, rfl⟩
      rw [← hw7] at hF5 ⊢
      have y0' := hF5.y
      have HF5 := Lib.hid hF5
      clear hw7 hF5
      go_wp2
      refine bodyPost_ret (v := .tuple #[.int .i64 o.id, .slice At m ct, .int .i64 0]) (by simp [results, Try.results40, go_sem]) rfl (HF5.out.post (show PM b (!false) ⟨(n : Int), acc, false, price, mm, mm⟩ d o ts from by rw [← HO0.out]; exact HPM.out) HST.out HE0.out HREL.out HNB.out)
end Go.Proofs.Ytkandhpnenmleaa
