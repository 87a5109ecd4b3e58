/- book: a call on both, the reference's Place whole. -/
import Derived.Test.YtkandhpnenmleaaHBrPutT
import Derived.Test.YtkandhpnenmleaaHBrPutF
import Derived.Test.YtkandhpnenmleaaHBrOps
import Derived.Test.YtkandhpnenmleaaHBkJoin
import Derived.Test.YtkandhpnenmleaaHBkCan

namespace Go.Proofs.Ytkandhpnenmleaa
open Go.RowKit

theorem rplace_any (B g n c : Nat) (A : Option Addr) (l : List ROrd) (b : BkS) (buy : Bool) (acc price m : Int) (w : World) (HK : Hid (RAt w B g A n c l b)) (hlt : n < 100000) :
    Calls Try.prog 40 #[.pointer (some ⟨g, 0, none⟩), .int .i64 acc, .bool buy, .int .i64 price, .int .i64 m] w (RPlacePost B g A n c b acc buy price m w) := by
  by_cases h1 : acc < 1 ∨ 1073741824 < acc
  · exact rplace_err1 B g n c A l b buy acc price m w HK h1
  · by_cases h2 : inR price = false ∨ inR m = false ∨ (1099511627776 : Int).tdiv m < price
    · exact rplace_err2 B g n c A l b buy acc price m w HK (by omega) (by omega) h2
    · have hp : inR price = true := by simpa using (fun e => h2 (.inl e))
      have hn : inR m = true := by simpa using (fun e => h2 (.inr (.inl e)))
      have hq : ¬ (1099511627776 : Int).tdiv m < price := fun e => h2 (.inr (.inr e))
      by_cases h3 : 4096 ≤ b.bs.length + b.ss.length
      · exact rplace_err3 B g n c A l b buy acc price m w HK (by omega) (by omega) hp hn (by omega) h3
      · cases buy
        · exact rplace_false B g n c A l b acc price m w HK hlt (by omega) (by omega) hp hn (by omega) (by omega)
        · exact rplace_true B g n c A l b acc price m w HK hlt (by omega) (by omega) hp hn (by omega) (by omega)
section
variable {w w' : World} {B B' gb g n c : Nat} {V : BkV} {A : Option Addr} {l : List ROrd} {b b0 : BkS}
theorem RAt.all (h : RAt w B g A n c l b) (hb : Below w.heap.size w w') : RAt w' B g A n c l b := ⟨h.rb.all hb, h.rel, h.ok⟩
theorem bkF_not (hB : BkAt w B gb V b0) (hR : RB w B' g A n c l) {q : Nat} (h : RF g A n c q) : ¬ BkF gb V b0.os.length q := by
  rcases hR.ty h with ht | ht
  · exact hB.raw.isnt ht (by decide)
  · exact hB.raw.isnt ht (by decide)
theorem RAt.keep (h : RAt w B' g A n c l b) (hB : BkAt w B gb V b0) (m : Mod (BkF gb V b0.os.length) w w') : RAt w' B' g A n c l b :=
  ⟨h.rb.mod m (fun _ hq => bkF_not hB h.rb hq), h.rel, h.ok⟩
theorem BkAt.keepR (h : BkAt w B gb V b0) (hR : RAt w B' g A n c l b) (m : Mod (RF g A n c) w w') : BkAt w' B gb V b0 :=
  h.mod m (fun _ hq hf => bkF_not h hR.rb hf hq)
end
/-- A book and its reference. -/
structure PS where
  gb : Nat
  V : BkV
  g : Nat
  A : Option Addr
  n : Nat
  c : Nat
  l : List ROrd
structure Pair (W : World) (B : Nat) (P : PS) (b : BkS) : Prop where
  bk : BkAt W B P.gb P.V b
  rf : RAt W B P.g P.A P.n P.c P.l b
def QF (P : PS) (b : BkS) (q : Nat) : Prop := BkF P.gb P.V b.os.length q ∨ RF P.g P.A P.n P.c q
structure PNext (B : Nat) (P : PS) (b : BkS) (w : World) (P' : PS) (b' : BkS) (w' : World) : Prop where
  pair : Pair w' B P' b'
  mod : Mod (QF P b) w w'
  new : ∀ q, QF P' b' q → QF P b q ∨ w.heap.size ≤ q
  gb : P'.gb = P.gb
  g : P'.g = P.g
theorem Pair.all {w w' : World} {B : Nat} {P : PS} {b : BkS} (h : Pair w B P b) (hb : Below w.heap.size w w') : Pair w' B P b := ⟨h.bk.all hb, h.rf.all hb⟩
theorem Pair.lt {w : World} {B : Nat} {P : PS} {b : BkS} (h : Pair w B P b) {q : Nat} (hq : QF P b q) : B ≤ q ∧ q < w.heap.size := hq.elim h.bk.lt h.rf.rb.lt
theorem PNext.below {w0 w w' : World} {B : Nat} {P P' : PS} {b b' : BkS} (h : PNext B P b w P' b' w') (hP : Pair w B P b) (hb : Below B w0 w) (hB : B ≤ w.heap.size) : Below B w0 w' := h.mod.below hb hB (fun _ hq => (hP.lt hq).1)
theorem PNext.pre {w0 w w' : World} {B : Nat} {P P' : PS} {b b' : BkS} (h : PNext B P b w P' b' w') (hb : Below w0.heap.size w0 w) : PNext B P b w0 P' b' w' :=
  ⟨h.pair, (Mod.of_below _ hb).trans h.mod (fun _ hq => .inl hq), fun q hq => (h.new q hq).imp id (fun h2 => Nat.le_trans hb.size h2), h.gb, h.g⟩
theorem PNext.post {w w' w2 : World} {B : Nat} {P P' : PS} {b b' : BkS} (h : PNext B P b w P' b' w') (hb : Below w'.heap.size w' w2) : PNext B P b w P' b' w2 :=
  ⟨h.pair.all hb, h.mod.then_below hb, h.new, h.gb, h.g⟩
/-- Both calls. -/
theorem PNext.mk2 {w w1 w2 : World} {B gb g n c n' c' : Nat} {V V' : BkV} {A A' : Option Addr} {l l' : List ROrd} {b b' : BkS} (hB : BkAt w B gb V b) (hR : RAt w B g A n c l b) (h1 : BkNext gb B V b w V' b' w1) (h2 : RNext B g A n c w1 A' n' c' l' b' w2) : PNext B ⟨gb, V, g, A, n, c, l⟩ b w ⟨gb, V', g, A', n', c', l'⟩ b' w2 := by
  have hR1 := hR.keep hB h1.mod
  refine ⟨⟨h1.bk.keepR hR1 h2.mod, h2.at_⟩, ?_, fun q hq => ?_, rfl, rfl⟩
  · exact (h1.mod.mono (fun q hq => .inl (.inl hq))).trans h2.mod (fun q hq => .inl (.inr hq))
  · rcases hq with hq | hq
    · exact (h1.new q hq).imp .inl id
    · exact (h2.new q hq).imp .inr (fun h3 => Nat.le_trans h1.mod.size h3)
theorem matchP_len : ∀ (l : List Nat) (os : List Ord) (o : Ord), (matchP os o l).1.length ≤ l.length
  | [], os, o => by simp [matchP]
  | id :: t, os, o => by
    rw [matchP]
    split
    · split
      · have := matchP_len t os o
        simp only [List.length_cons]
        omega
      · split
        · have := matchP_len t (os.set id ((ordAt os id).less (min o.left (ordAt os id).left))) (o.less (min o.left (ordAt os id).left))
          simp only [List.length_cons]
          omega
        · simp
    · simp
theorem placeE_len {b : BkS} (h : b.Ok) (acc : Int) (buy : Bool) (price m : Int) : (placeE b acc buy price m).2.1.length ≤ 4096 := by
  unfold placeE
  split
  · show (placeS b acc buy price m).1.length ≤ 4096
    unfold placeS
    dsimp only
    have h1 := matchP_len (b.side !buy) b.os ⟨b.os.length, acc, buy, price, m, m⟩
    have h2 := h.few
    rw [BkS.few_side b buy] at h2
    omega
  · simp
def stepB (b : BkS) (x : OpP) : BkS :=
  if x.kind = 6 then (cancelE b x.acc x.id).2.2 else if x.kind = 7 then voidB b x.acc else (placeE b x.acc x.buy x.price x.n).2.2.2
def StepPost (B : Nat) (P : PS) (b : BkS) (x : OpP) (w : World) (e : Ending) (w' : World) : Prop := e = .returned (.bool true) ∧ ∃ P', PNext B P b w P' (stepB b x) w'
set_option maxRecDepth 100000 in
set_option maxHeartbeats 4000000 in
theorem step_any (B gb g n c : Nat) (V : BkV) (A : Option Addr) (l : List ROrd) (b : BkS) (x : OpP) (w : World) (HP : Hid (Pair w B ⟨gb, V, g, A, n, c, l⟩ b)) (hlt : b.os.length < 100000) :
    Calls Try.prog 20 #[.pointer (some ⟨gb, 0, none⟩), .pointer (some ⟨g, 0, none⟩), .agg #[.int .i64 x.kind, .int .i64 x.acc, .bool x.buy, .int .i64 x.price, .int .i64 x.n, .int .i64 x.id]] w (StepPost B ⟨gb, V, g, A, n, c, l⟩ b x w) := by
  have hnlt : n < 100000 := by have h1 := HP.out.rf.rb.len; have h2 := HP.out.rf.rel.len; dsimp only at h1 h2; omega
  obtain ⟨w0, hw0⟩ : ∃ w0, w0 = w.alloc (.cells #[.int .i64 x.kind, .int .i64 x.acc, .bool x.buy, .int .i64 x.price, .int .i64 x.n, .int .i64 x.id] 39) := ⟨_, rfl⟩
  have hb0 : Below w.heap.size w w0 := by rw [hw0]; exact (Below.refl _ _).alloc (Nat.le_refl _) _
  have hB0 : Blk w0 w.heap.size 39 #[.int .i64 x.kind, .int .i64 x.acc, .bool x.buy, .int .i64 x.price, .int .i64 x.n, .int .i64 x.id] := by rw [hw0]; exact Blk.new _ _ _
  have HA : Hid (BkAt w0 B gb V b ∧ RAt w0 B g A n c l b) := Lib.hid ⟨HP.out.bk.all hb0, HP.out.rf.all hb0⟩
  have HB00 := Lib.hid hb0
  obtain ⟨g5, hg5⟩ : ∃ g5, w.heap.size = g5 := ⟨_, rfl⟩
  rw [hg5] at hB0
  have HB := Lib.hid hB0
  have e0 := hB0.cell 0
  have e1 := hB0.cell 1
  have e2 := hB0.cell 2
  have e3 := hB0.cell 3
  have e4 := hB0.cell 4
  have e5 := hB0.cell 5
  simp only [List.getElem?_toArray, List.getElem?_cons_zero, List.getElem?_cons_succ] at e0 e1 e2 e3 e4 e5
  have HW0 := Lib.hid hw0
  have HG5 := Lib.hid hg5
  have HFIN : Hid (∀ b' V' A' n' c' l' w1 w2, b' = stepB b x → BkNext gb B V b w0 V' b' w1 → RNext B g A n c w1 A' n' c' l' b' w2 → StepPost B ⟨gb, V, g, A, n, c, l⟩ b x w (.returned (.bool true)) w2) := Lib.hid (fun b' V' A' n' c' l' w1 w2 hb h1 h2 => by
    subst hb
    exact ⟨rfl, _, (PNext.mk2 HA.out.1 HA.out.2 h1 h2).pre HB00.out⟩)
  clear hb0 hB0 hw0 hg5
  by_cases h6 : x.kind = 6
  · obtain ⟨p, q, b', hE⟩ : ∃ p q b', cancelE b x.acc x.id = (p, q, b') := ⟨_, _, _, rfl⟩
    have HSB : Hid (b' = stepB b x) := Lib.hid (by unfold stepB; rw [if_pos h6, hE])
    have HC : Hid (Calls Try.prog 13 #[.pointer (some ⟨gb, 0, none⟩), .int .i64 x.acc, .int .i64 x.id] w0 fun e w' => e = .returned (.tuple #[.int .i64 p, .int .i64 q]) ∧ ∃ V', BkNext gb B V b w0 V' b' w') := Lib.hid (by
      refine (cancel_any gb B V b x.acc x.id w0 (Lib.hid HA.out.1)).mono ?_
      rintro e w' ⟨h1, h2⟩
      rw [hE] at h1 h2
      exact ⟨h1, h2.next⟩)
    have HRC : Hid (∀ w1, RAt w1 B g A n c l b → Calls Try.prog 37 #[.pointer (some ⟨g, 0, none⟩), .int .i64 x.acc, .int .i64 x.id] w1 fun e w' => e = .returned (.tuple #[.int .i64 p, .int .i64 q]) ∧ ∃ A' n' c' l', RNext B g A n c w1 A' n' c' l' b' w') := Lib.hid (fun w1 h => by
      refine (rcancel_any B g n c A l b x.acc x.id w1 (Lib.hid h)).mono ?_
      rintro e w' ⟨h1, h2⟩
      rw [hE] at h1 h2
      exact ⟨h1, h2⟩)
    have hk6 : (x.kind == 6) = true := by simp [h6]
    clear hE h6
    go_enter Try.func20, Try.ntmps20
    go_upto_region 1 with (fail)
    rw [← HW0.out, HG5.out]
    go_wp2_with (first
      | (go_at_call 13
         (with_reducible refine HC.out.mono ?_)
         rintro e w1 ⟨rfl, V', hN1⟩
         have HN1 := Lib.hid hN1
         have HR1 := Lib.hid (HA.out.2.keep HA.out.1 hN1.mod)
         have hB1 : Blk w1 g5 39 #[.int .i64 x.kind, .int .i64 x.acc, .bool x.buy, .int .i64 x.price, .int .i64 x.n, .int .i64 x.id] := hN1.mod.blk HB.out (fun hf => HA.out.1.raw.isnt HB.out.ty (by decide) hf)
         have u1 := hB1.cell 1
         have u5 := hB1.cell 5
         simp only [List.getElem?_toArray, List.getElem?_cons_zero, List.getElem?_cons_succ] at u1 u5
         clear hN1 hB1 e0 e1 e2 e3 e4 e5)
      | (go_at_call 37
         (with_reducible refine (HRC.out _ HR1.out).mono ?_)
         rintro e w2 ⟨rfl, A', n', c', l', hN2⟩
         have HN2 := Lib.hid hN2
         clear hN2))
    go_ret
    exact HFIN.out _ _ _ _ _ _ _ _ HSB.out HN1.out HN2.out
  by_cases h7 : x.kind = 7
  · obtain ⟨ids, hids⟩ : ∃ ids, voidIds b x.acc = ids := ⟨_, rfl⟩
    obtain ⟨b', hb'⟩ : ∃ b', voidB b x.acc = b' := ⟨_, rfl⟩
    have HSB : Hid (b' = stepB b x) := Lib.hid (by unfold stepB; rw [if_neg h6, if_pos h7, hb'])
    obtain ⟨k, hk⟩ : ∃ k, ids.length = k := ⟨_, rfl⟩
    have HKI : Hid ((ids.map fun (k : Nat) => (k : Int)).length = k) := Lib.hid (by rw [List.length_map]; exact hk)
    have hk4 : k ≤ 100000 := by
      have h1 := List.length_filter_le (accIs b x.acc) b.openIds
      have h2 := List.length_filter_le b.isIn (List.range b.os.length)
      rw [List.length_range] at h2
      rw [← hk, ← hids]
      unfold voidIds BkS.openIds at *
      omega
    have HV : Hid (∀ w', Below w0.heap.size w0 w' → Calls Try.prog 17 #[.pointer (some ⟨gb, 0, none⟩), .int .i64 x.acc] w' fun e w'' => ∃ A1 c1 V', e = .returned (.slice A1 k c1) ∧ TI w'' (A1, k, c1) (ids.map fun (k : Nat) => (k : Int)) ∧ BkNext gb B V b w' V' b' w'') := Lib.hid (fun w' hb => by
      refine (void_any gb B V b x.acc w' (Lib.hid (HA.out.1.all hb))).mono ?_
      rintro e w'' ⟨A1, c1, h1, h2, h3⟩
      rw [hids, hk] at h1 h2
      rw [hb'] at h3
      obtain ⟨V', h4⟩ := h3.next
      exact ⟨A1, c1, V', h1, h2, h4⟩)
    have HRV : Hid (∀ w1, RAt w1 B g A n c l b → Calls Try.prog 39 #[.pointer (some ⟨g, 0, none⟩), .int .i64 x.acc] w1 fun e w' => ∃ A2 c2, e = .returned (.slice A2 k c2) ∧ TI w' (A2, k, c2) (ids.map fun (k : Nat) => (k : Int)) ∧ ∃ A' n' c' l', RNext B g A n c w1 A' n' c' l' b' w') := Lib.hid (fun w1 h => by
      refine (rvoid_any B g n c A l b x.acc w1 (Lib.hid h)).mono ?_
      rintro e w' ⟨A2, c2, h1, h2, h3⟩
      rw [hids, hk] at h1 h2
      rw [hb'] at h3
      exact ⟨A2, c2, h1, h2, h3⟩)
    have hk6 : (x.kind == 6) = false := by simp [h6]
    have hk7 : (x.kind == 7) = true := by simp [h7]
    have hP1 : Below w0.heap.size w0 w0.drew := below_drewN (Below.refl _ _) 1
    have hz1 : w0.drew.cell? ⟨g5, 1, none⟩ = some (.int .i64 x.acc) := by rw [(blk_drew HB.out).cell]; rfl
    clear hids hb' hk h6 h7
    go_enter Try.func20, Try.ntmps20
    go_upto_region 1 with (fail)
    rw [← HW0.out, HG5.out]
    go_wp2
    replace hz1 := hz1
    refine wp_region_held_drew (S := (fun w' => w'.cell? ⟨g5, 1, none⟩ = some (.int .i64 x.acc))) (by kernel_rfl) hz1 (fun hHeld => ?_)
    refine takeH 0 (some 49) (v := ?_) (by rfl) (by rfl) (by kernel_rfl) (by kernel_rfl) (by kernel_rfl) (fun _ _ _ h => h) ?_ (by assumption) ?_
    rotate_left
    · (intro o ho w hSw; have z0 := hSw; cases ho; go_simp; try with_reducible rfl)
    try simp only [Act.put, List.setIfInBounds_toArray, List.set_cons_zero, List.set_cons_succ]
    refine takeH 1 (some 50) (v := ?_) (by rfl) (by rfl) (by kernel_rfl) (by kernel_rfl) (by kernel_rfl) (fun _ _ _ h => h) ?_ (by assumption) ?_
    rotate_left
    · (intro o ho w hSw; have z0 := hSw; cases ho; go_simp; try with_reducible rfl)
    try simp only [Act.put, List.setIfInBounds_toArray, List.set_cons_zero, List.set_cons_succ]
    refine takeH 2 (some 51) (v := ?_) (by rfl) (by rfl) (by kernel_rfl) (by kernel_rfl) (by kernel_rfl) (fun _ _ _ h => h) ?_ (by assumption) ?_
    rotate_left
    · (intro o ho w hSw; have z0 := hSw; cases ho; go_simp; try with_reducible rfl)
    try simp only [Act.put, List.setIfInBounds_toArray, List.set_cons_zero, List.set_cons_succ]
    refine takeH 4 (some 53) (v := ?_) (by rfl) (by rfl) (by kernel_rfl) (by kernel_rfl) (by kernel_rfl) (fun _ _ _ h => h) ?_ (by assumption) ?_
    rotate_left
    · (intro o ho w hSw; have z0 := hSw; cases ho; go_simp; try with_reducible rfl)
    try simp only [Act.put, List.setIfInBounds_toArray, List.set_cons_zero, List.set_cons_succ]
    refine takeH 5 (some 54) (v := ?_) (by rfl) (by rfl) (by kernel_rfl) (by kernel_rfl) (by kernel_rfl) (fun _ _ _ h => h) ?_ (by assumption) ?_
    rotate_left
    · (intro o ho w hSw; have z0 := hSw; cases ho; go_simp; try with_reducible rfl)
    try simp only [Act.put, List.setIfInBounds_toArray, List.set_cons_zero, List.set_cons_succ]
    refine takeH 6 (some 55) (v := ?_) (by rfl) (by rfl) (by kernel_rfl) (by kernel_rfl) (by kernel_rfl) (fun _ _ _ h => h) ?_ (by assumption) ?_
    rotate_left
    · (intro o ho w hSw; have z0 := hSw; cases ho; go_simp; try with_reducible rfl)
    try simp only [Act.put, List.setIfInBounds_toArray, List.set_cons_zero, List.set_cons_succ]
    refine wpAnyH_ready (rs := [3]) (by kernel_rfl) (by simp) ?_
    refine AllReadyH.cons rfl (fun K hK => ?_) AllReadyH.nil
    go_simp
    go_at_call 17
    (with_reducible refine (HV.out _ hP1).mono ?_)
    rintro e w5 ⟨A1, c1, V', rfl, hT1, hN1⟩
    have HT1 := Lib.hid hT1
    have HN1 := Lib.hid hN1
    have HR1 : Hid (RAt w5 B g A n c l b) := Lib.hid (RAt.keep (HA.out.2.all hP1) (HA.out.1.all hP1) hN1.mod)
    have hB5 : Blk w5 g5 39 #[.int .i64 x.kind, .int .i64 x.acc, .bool x.buy, .int .i64 x.price, .int .i64 x.n, .int .i64 x.id] := hN1.mod.blk (HB.out.all hP1) (fun hf => (HA.out.1.all hP1).raw.isnt (HB.out.all hP1).ty (by decide) hf)
    have HB5 := Lib.hid hB5
    have hz5 : w5.cell? ⟨g5, 1, none⟩ = some (.int .i64 x.acc) := by rw [hB5.cell]; rfl
    clear hT1 hN1 hB5
    go_wp2
    refine hK.out _ _ ?_ (fun hH5 => ?_)
    · exact hz5
    clear hK K
    try simp only [Act.put, List.setIfInBounds_toArray, List.set_cons_zero, List.set_cons_succ]
    refine wpAnyH_ready (rs := [7]) (by kernel_rfl) (by simp) ?_
    refine AllReadyH.cons rfl (fun K hK => ?_) AllReadyH.nil
    go_simp
    go_at_call 39
    (with_reducible refine (HRV.out _ HR1.out).mono ?_)
    rintro e w6 ⟨A2, c2, rfl, hT2, A', n', c', l', hN2⟩
    have HT2 := Lib.hid hT2
    have HN2 := Lib.hid hN2
    have HT12 : Hid (TI w6 (A1, k, c1) (ids.map fun (k : Nat) => (k : Int))) := Lib.hid (HT1.out.mod hN2.mod (fun q hf ht => HR1.out.rb.isnt ht (by decide) hf))
    have hB6 : Blk w6 g5 39 #[.int .i64 x.kind, .int .i64 x.acc, .bool x.buy, .int .i64 x.price, .int .i64 x.n, .int .i64 x.id] := hN2.mod.blk HB5.out (fun hf => HR1.out.rb.isnt HB5.out.ty (by decide) hf)
    have HB6 := Lib.hid hB6
    have hz6 : w6.cell? ⟨g5, 1, none⟩ = some (.int .i64 x.acc) := by rw [hB6.cell]; rfl
    clear hT2 hN2 hB6
    go_wp2
    refine hK.out _ _ ?_ (fun hH6 => ?_)
    · exact hz6
    clear hK K
    try simp only [Act.put, List.setIfInBounds_toArray, List.set_cons_zero, List.set_cons_succ]
    refine wpAnyH_ready (rs := [8]) (by kernel_rfl) (by simp) ?_
    refine AllReadyH.cons rfl (fun K hK => ?_) AllReadyH.nil
    go_simp
    go_at_call 38
    (with_reducible refine (sameInts_true A1 A2 k k c1 c2 (ids.map fun (k : Nat) => (k : Int)) (ids.map fun (k : Nat) => (k : Int)) _ rfl HKI HKI HT12.out.nin.rd HT2.out.nin.rd (by omega) (by omega)).mono ?_)
    rintro e w7 ⟨rfl, hb7⟩
    have HB7 := Lib.hid hb7
    have hz7 : w7.cell? ⟨g5, 1, none⟩ = some (.int .i64 x.acc) := by rw [(HB6.out.all hb7).cell]; rfl
    go_wp2
    refine hK.out _ _ ?_ (fun hH7 => ?_)
    · exact hz7
    clear hK K
    try simp only [Act.put, List.setIfInBounds_toArray, List.set_cons_zero, List.set_cons_succ]
    refine takeH 9 (some 6) (v := ?_) (by rfl) (by rfl) (by kernel_rfl) (by kernel_rfl) (by kernel_rfl) (fun _ _ _ h => h) ?_ (by assumption) ?_
    rotate_left
    · (intro o ho w hSw; have z0 := hSw; cases ho; go_simp; try with_reducible rfl)
    try simp only [Act.put, List.setIfInBounds_toArray, List.set_cons_zero, List.set_cons_succ]
    refine wpAnyH_done (by kernel_rfl) ?_ _
    go_wp2
    go_ret
    exact HFIN.out _ _ _ _ _ _ _ _ HSB.out ⟨HN1.out.bk, (Mod.of_below _ hP1).trans HN1.out.mod (fun _ hq => .inl hq), HN1.out.new⟩ ⟨HN2.out.at_.all HB7.out, HN2.out.mod.then_below HB7.out, HN2.out.new⟩
  · obtain ⟨id, ts, err, b', hE⟩ : ∃ id ts err b', placeE b x.acc x.buy x.price x.n = (id, ts, err, b') := ⟨_, _, _, _, rfl⟩
    obtain ⟨k, hk⟩ : ∃ k, ts.length = k := ⟨_, rfl⟩
    have HSB : Hid (b' = stepB b x) := Lib.hid (by unfold stepB; rw [if_neg h6, if_neg h7, hE])
    have hk4 : k ≤ 100000 := by
      have h1 := placeE_len HP.out.bk.ok x.acc x.buy x.price x.n
      rw [hE] at h1
      dsimp only at h1
      omega
    have HPL := Lib.hid (place_step gb B V b x.buy x.acc x.price x.n w0 (Lib.hid HA.out.1) hlt hE hk)
    have HRP : Hid (∀ w1, RAt w1 B g A n c l b → Calls Try.prog 40 #[.pointer (some ⟨g, 0, none⟩), .int .i64 x.acc, .bool x.buy, .int .i64 x.price, .int .i64 x.n] w1 fun e w' => ∃ A2 c2, e = .returned (.tuple #[.int .i64 id, .slice A2 k c2, .int .i64 err]) ∧ w'.ownsRow w1.heap.size 105 4 (.slice A2 k c2) k (ts.flatMap Trd.cells) ∧ ∃ A' n' c' l', RNext B g A n c w1 A' n' c' l' b' w') := Lib.hid (fun w1 h => by
      refine (rplace_any B g n c A l b x.buy x.acc x.price x.n w1 (Lib.hid h) hnlt).mono ?_
      rintro e w' ⟨A2, c2, h1, h2, h3⟩
      obtain ⟨q1, q2, q3, q4⟩ := placeE_ok hE
      rw [q1, q2, q3, hk] at h1
      rw [q2, hk] at h2
      rw [q4] at h3
      exact ⟨A2, c2, h1, h2, h3⟩)
    have HKI := Lib.hid hk
    have hk6 : (x.kind == 6) = false := by simp [h6]
    have hk7 : (x.kind == 7) = false := by simp [h7]
    clear hE hk h6 h7
    go_enter Try.func20, Try.ntmps20
    go_upto_region 1 with (fail)
    rw [← HW0.out, HG5.out]
    go_wp2_with (first
      | (go_at_call 11
         (with_reducible refine HPL.out.mono ?_)
         rintro e w1 ⟨A1, c1, V', rfl, hr1, hN1⟩
         have HT1 := Lib.hid hr1
         have HN1 := Lib.hid hN1
         have HR1 := Lib.hid (HA.out.2.keep HA.out.1 hN1.mod)
         have hB1 : Blk w1 g5 39 #[.int .i64 x.kind, .int .i64 x.acc, .bool x.buy, .int .i64 x.price, .int .i64 x.n, .int .i64 x.id] := hN1.mod.blk HB.out (fun hf => HA.out.1.raw.isnt HB.out.ty (by decide) hf)
         have u1 := hB1.cell 1
         have u2 := hB1.cell 2
         have u3 := hB1.cell 3
         have u4 := hB1.cell 4
         simp only [List.getElem?_toArray, List.getElem?_cons_zero, List.getElem?_cons_succ] at u1 u2 u3 u4
         clear hN1 hB1 hr1 e0 e1 e2 e3 e4 e5)
      | (go_at_call 40
         (with_reducible refine (HRP.out _ HR1.out).mono ?_)
         rintro e w2 ⟨A2, c2, rfl, hr2, A', n', c', l', hN2⟩
         have HT2 := Lib.hid hr2
         have HN2 := Lib.hid hN2
         have HT12 := Lib.hid (hN2.mod.own HT1.out (fun q hq hf => HR1.out.rb.isnt (own_ty HT1.out hq) (by decide) hf))
         clear hN2 hr2)
      | (go_at_call 41
         (with_reducible refine (ltrades_any A1 A2 k c1 c2 _ _ ts _ HT12 HT2 HKI (by omega)).mono ?_)
         rintro e w3 ⟨rfl, hb3⟩
         have HB3 := Lib.hid hb3
         clear hb3))
    go_ret
    exact HFIN.out _ _ _ _ _ _ _ _ HSB.out HN1.out ⟨HN2.out.at_.all HB3.out, HN2.out.mod.then_below HB3.out, HN2.out.new⟩
end Go.Proofs.Ytkandhpnenmleaa
