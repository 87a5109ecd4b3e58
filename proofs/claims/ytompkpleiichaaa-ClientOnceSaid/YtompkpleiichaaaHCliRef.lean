/- client: the reference's Caller: Send; Body. -/
import Derived.Test.YtompkpleiichaaaHCliSend
import Derived.Test.YtompkpleiichaaaHCliRq

namespace Go.Proofs.Ytompkpleiichaaa
open Go.RowKit

/-- A few bytes made from a number. -/
def bodyL (n : Int) : List UInt8 :=
  if aroundI n 64 = 63 then List.replicate (65535 + (aroundI (n.tdiv 64) 4).toNat) 0
  else (List.range ((aroundI n 64).toNat % 4)).map fun i => UInt8.ofNat ((aroundI n 64).toNat / 4 + i)
theorem bodyL_len (n : Int) : (bodyL n).length ≤ 65538 := by
  unfold bodyL
  split
  · have := aroundI_range (n.tdiv 64) 4 (by decide)
    simp
    omega
  · simp
    omega
theorem tdiv_in {n : Int} (m : Int) (hm : 1 ≤ m) (h1 : -9223372036854775808 ≤ n) (h2 : n ≤ 9223372036854775807) : -9223372036854775808 ≤ n.tdiv m ∧ n.tdiv m ≤ 9223372036854775808 ∧ (n ≤ 9223372036854775807 → 2 ≤ m → n.tdiv m ≤ 9223372036854775807) := by
  rcases Int.le_total 0 n with h | h
  · rw [Int.tdiv_eq_ediv_of_nonneg h]
    have := Int.ediv_le_self m h
    have := Int.ediv_nonneg h (show 0 ≤ m by omega)
    omega
  · have e : n.tdiv m = -((-n).tdiv m) := by rw [Int.neg_tdiv]; simp
    rw [e, Int.tdiv_eq_ediv_of_nonneg (by omega)]
    have := Int.ediv_le_self m (show 0 ≤ -n by omega)
    have := Int.ediv_nonneg (show 0 ≤ -n by omega) (show 0 ≤ m by omega)
    omega
/-- The result of Body: a slice of bytes. -/
def BodyPost (l : List UInt8) (w : World) (e : Ending) (w' : World) : Prop := ∃ A n c, e = .returned (.slice A n c) ∧ Bts w' A n c l ∧ Below w.heap.size w w'
theorem bodyS_succ (k i : Nat) : ((List.range (i + 1)).map fun i => UInt8.ofNat (k / 4 + i)) = ((List.range i).map fun i => UInt8.ofNat (k / 4 + i)) ++ [UInt8.ofNat (k / 4 + i)] := by simp [List.range_succ]
theorem slT_u8b : SlT Try.prog 23 5 1 1 := SlT.of Try.underlying23 (by kernel_rfl) (by decide)
set_option maxRecDepth 100000 in
set_option maxHeartbeats 1000000 in
theorem body_any (n : Int) (w : World) (h1 : -9223372036854775808 ≤ n) (h2 : n ≤ 9223372036854775807) : Calls Try.prog 24 #[.int .i64 n] w (BodyPost (bodyL n) w) := by
  go_enter Try.func24, Try.ntmps24
  go_wp2_with fail
  refine (around_nat _ 64 64 _ rfl h1 h2 (by decide) (by decide)).mono ?_
  rintro e w1 ⟨k, rfl, hk, HK, rfl⟩
  by_cases h63 : k = 63
  · subst h63
    obtain ⟨hq1, -, hq2⟩ := tdiv_in 64 (by decide) h1 h2
    replace hq2 := hq2 h2 (by decide)
    go_wp2_with fail
    refine (around_nat _ 4 4 _ rfl hq1 hq2 (by decide) (by decide)).mono ?_
    rintro e w2 ⟨m, rfl, hm, HM, rfl⟩
    obtain ⟨i0, hi, hz0, hz1, hz2⟩ := info_parts info_few
    obtain ⟨w3, hmk, hown, hb, -⟩ := make_all (P := Try.prog) w 23 5 i0 _ 1 Try.underlying23 hi hz0 hz1 hz2 rfl .i64 .i64 (65535 + m) (by omega) (by unfold maxLen; omega)
    rw [show ((65535 + m : Nat) : Int) = 65535 + (m : Int) by omega] at hmk
    have HO := Lib.hid hown
    have HB := Lib.hid hb
    clear hown hb hq1 hq2
    go_wp2
    go_ret
    have e : bodyL n = List.replicate (65535 + m) 0 := by
      unfold bodyL
      rw [if_pos (show aroundI n 64 = 63 from HK.out.symm), show aroundI (n.tdiv 64) 4 = (m : Int) from HM.out.symm]
      rfl
    rw [e]
    exact ⟨_, _, _, rfl, (Bts.of_own (bs := List.replicate (65535 + m) 0) (by rw [List.map_replicate]; exact HO.out)).1, HB.out⟩
  · have hkb : ((k : Int) == 63) = false := by simp; omega
    have HL := Lib.hid (show bodyL n = (List.range (k % 4)).map fun i => UInt8.ofNat (k / 4 + i) by
      unfold bodyL
      rw [if_neg (by rw [show aroundI n 64 = (k : Int) from HK.out.symm]; omega), show aroundI n 64 = (k : Int) from HK.out.symm, Int.toNat_natCast])
    go_wp2
    go_loopw [4, 5] (fun v i wr => ∃ j : Nat, j ≤ k % 4 ∧ i = .int .i64 (j : Int) ∧ wr.ownsRow w.heap.size 5 1 v j (((List.range j).map fun i => UInt8.ofNat (k / 4 + i)).map fun b => Value.int .u8 ((b.toNat : Nat) : Int)) ∧ Below w.heap.size w wr) (fun _ i _ => 4 - (intOf i).toNat)
    case atStart => exact ⟨0, by omega, rfl, World.ownsRow_nil _ _ _ _, Below.refl _ _⟩
    case round =>
      obtain ⟨j, hj, rfl, hown, hb⟩ := hrel
      by_cases hlt : j < k % 4
      · have hlt' : (j : Int) < (k : Int) % 4 := by omega
        have hbs := hb.size
        have HO := Lib.hid hown
        have HX := Lib.hid (show (k : Int) / 4 + (j : Int) = (((UInt8.ofNat (k / 4 + j)).toNat : Nat) : Int) by
          rw [UInt8.toNat_ofNat']
          omega)
        clear hown
        go_wp2_with (at_builtin; refine wpList_append1 slT_u8b rfl rfl rfl wr.heap.size rfl (HO.out.alloc _) _ (Blk.new wr _ _) rfl (by simp; rfl) (by omega) (by decide) (by simp; omega) ?_; intro g5 cap5 w9 ho9 hg9 hat9)
        refine ⟨⟨j + 1, by omega, by go_num, ?_, (hb.alloc hbs _).grown hg9 (by simp; omega) (fun r e => (HO.out.lt r e).1)⟩, by simp [intOf]; omega⟩
        rw [bodyS_succ, List.map_append, List.map_singleton, ← HX.out]
        exact ho9
      · obtain rfl : j = k % 4 := by omega
        have hge : ¬ (((k % 4 : Nat) : Int) < (k : Int) % 4) := by omega
        go_wp2
        go_ret
        obtain ⟨A', c', rfl⟩ := own_parts hown
        rw [HL.out]
        exact ⟨A', _, c', rfl, (Bts.of_own hown).1, hb⟩
theorem slT_rreq : SlT Try.prog 61 37 4 48 := SlT.of Try.underlying61 (by kernel_rfl) (by decide)
theorem few_self {w : World} {base n n' c' : Nat} {bs bs' : List UInt8} {A' : Option Addr} (HK : Hid (n' = min n n)) (HE : Hid (bs' = bs.take n)) (HL : Hid (bs.length = n)) (ho : w.ownsRow base 5 1 (.slice A' n' c') n' (bs'.map fun b => Value.int .u8 ((b.toNat : Nat) : Int))) : n = n' ∧ Bts w A' n c' bs := by
  have e1 : n' = n := by rw [HK.out]; omega
  have e2 : bs' = bs := by rw [HE.out, ← HL.out, List.take_length]
  subst e1 e2
  exact ⟨rfl, (Bts.of_own ho).1⟩
set_option maxRecDepth 100000 in
theorem rsend_no (g : Nat) (cl key last : Int) (rv : Value) (op : List Rq) (A : Option Addr) (n c : Nat) (w : World) (HC : Hid (CallAt w 63 37 g cl key last rv op)) (hno : 65536 < n ∨ (n ≤ 65536 ∧ 16 ≤ op.length)) :
    Calls Try.prog 33 #[.pointer (some ⟨g, 0, none⟩), .slice A n c] w (SendNo w) := by
  obtain ⟨A1, n1, c1, hrv⟩ : ∃ A1 n1 c1, rv = .slice A1 n1 c1 ∧ n1 = op.length := by
    rcases HC.out.2.1.2 with ⟨h, h0⟩ | ⟨g1, cap, cur, h, _⟩
    · exact ⟨_, _, _, h, h0.symm⟩
    · exact ⟨_, _, _, h, rfl⟩
  obtain ⟨rfl, HN⟩ := hrv
  have hB := Blk.alloc HC.out.1 (.cells #[.int .i64 0, .int .i64 0, .slice none 0 0, .int .u64 0] 37)
  have c3 := (blk4 hB).2.2.2.1
  rcases hno with h | ⟨h, h'⟩
  · have h' : (65536 : Int) < (n : Int) := by omega
    clear HN
    go_enter Try.func33, Try.ntmps33
    go_wp2
    exact bodyPost_ret (v := .tuple #[.agg #[.int .i64 0, .int .i64 0, .slice none 0 0, .int .u64 0], .int .i64 4]) (by simp [results, Try.results33, go_sem]) rfl ⟨rfl, by repeat (first | with_reducible exact (Below.refl _ _).alloc (Nat.le_refl _) _ | refine Below.setCell ?_ (by simp) _)⟩
  · have h'' : ¬ ((65536 : Int) < (n : Int)) := by omega
    have h3 : (16 : Int) ≤ (n1 : Int) := by omega
    clear HN
    go_enter Try.func33, Try.ntmps33
    go_wp2
    exact bodyPost_ret (v := .tuple #[.agg #[.int .i64 0, .int .i64 0, .slice none 0 0, .int .u64 0], .int .i64 4]) (by simp [results, Try.results33, go_sem]) rfl ⟨rfl, by repeat (first | with_reducible exact (Below.refl _ _).alloc (Nat.le_refl _) _ | refine Below.setCell ?_ (by simp) _)⟩
set_option maxRecDepth 100000 in
set_option maxHeartbeats 1000000 in
theorem rsend_yes (g : Nat) (cl key last : Int) (rv : Value) (op : List Rq) (A : Option Addr) (n c : Nat) (bs : List UInt8) (w : World) (HC : Hid (CallAt w 63 37 g cl key last rv op)) (h0 : 0 ≤ last) (h1 : last ≤ 4611686018427387904)
    (hn : n ≤ 65536) (hop : op.length < 16) (HB : Hid (Bts w A n c bs)) :
    Calls Try.prog 33 #[.pointer (some ⟨g, 0, none⟩), .slice A n c] w (SendYes 63 37 g cl key last rv op bs w) := by
  obtain ⟨A1, c1, rfl⟩ := own_parts HC.out.2.1
  have hc0 := HC.out.all ((Below.refl w.heap.size w).alloc (Nat.le_refl _) (.cells #[.int .i64 0, .int .i64 0, .slice none 0 0, .int .u64 0] 37))
  have hB0 := HB.out.all ((Below.refl w.heap.size w).alloc (Nat.le_refl _) (.cells #[.int .i64 0, .int .i64 0, .slice none 0 0, .int .u64 0] 37))
  have hZ := Blk.new w 37 #[.int .i64 0, .int .i64 0, .slice none 0 0, .int .u64 0]
  have hgl : g < w.heap.size := HC.out.1.lt
  have hm : Mod (CallF g (.slice A1 op.length c1)) w ((w.alloc (.cells #[.int .i64 0, .int .i64 0, .slice none 0 0, .int .u64 0] 37)).setCell ⟨g, 2, none⟩ (.int .i64 (last + 1))) := ((Mod.refl _ _).alloc _).set (.inl (.inl rfl)) _
  have hC := hc0.setLast (by decide) (by decide) (last + 1)
  have hB := hB0.mod ((Mod.refl (fun b => b = g) _).set (p := ⟨g, 2, none⟩) (.inl rfl) (.int .i64 (last + 1))) (by rintro b rfl ht; exact absurd (Ty.unique hc0.1.ty ht) (by decide))
  replace hZ := hZ.far (p := ⟨g, 2, none⟩) (by simp; omega) (.int .i64 (last + 1))
  have HCZ := Lib.hid hC
  have HBZ := Lib.hid hB
  have HZ := Lib.hid hZ
  have HM := Lib.hid hm
  obtain ⟨c00, c01, c02, c03, f00, f01, f02, f03⟩ := blk4 hc0.1
  have g0 : ¬ ((65536 : Int) < (n : Int)) := by omega
  have g1 : ¬ ((16 : Int) ≤ (op.length : Int)) := by omega
  clear hC hB hZ hm hc0 hB0 hgl
  go_enter Try.func33, Try.ntmps33
  go_wp2
  clear c00 c01 c02 c03 f00 f01 f02 f03 g0 g1
  generalize (w.alloc (.cells #[.int .i64 0, .int .i64 0, .slice none 0 0, .int .u64 0] 37)).setCell ⟨g, 2, none⟩ (.int .i64 (last + 1)) = wz at *
  obtain ⟨c00, c01, c02, c03, f00, f01, f02, f03⟩ := blk4 HCZ.out.1
  have hlt := HCZ.out.1.lt
  have HL := Lib.hid HB.out.1
  have hnc := HB.out.2.1
  have hcmx := HB.out.2.2.1
  go_region_held3 (fun w' => Below wz.heap.size wz w' ∧ w'.cell? ⟨g, 0, none⟩ = some (.int .i64 cl) ∧ w'.cell? ⟨g, 1, none⟩ = some (.int .u64 key) ∧ w'.cell? ⟨g, 2, none⟩ = some (.int .i64 (last + 1)))
    ((refine keep3 ?_ hlt c00 c01 c02; repeat (first | with_reducible exact Below.refl _ wz | with_reducible exact hS2 | refine Below.setCell ?_ (by first | (simp; done) | (simp; omega)) _ | refine Below.alloc ?_ (by first | (simp; done) | omega | (simp; omega)) _ | refine Below.drew ?_)))
    (first
      | (go_at_call 13; have hS1 := (‹Below wz.heap.size wz _ ∧ _›).1; ((with_reducible refine (few_bytes _ _ _ n _ rfl bs _ HL (HBZ.out.all hS1).rd hnc hcmx (by omega)).mono ?_); rintro e wc ⟨A', c', n', bs', rfl, -, -, -, HKn, -, HEn, hownn, -, hb3⟩; obtain ⟨rfl, hB5⟩ := few_self HKn HEn HL hownn; (first | (have hq := Blk.all (show Blk (wz.alloc (.cells #[.int .i64 0, .int .i64 0, .slice none 0 0, .int .u64 0] 37)).drew wz.heap.size 37 #[.int .i64 0, .int .i64 0, .slice none 0 0, .int .u64 0] from Blk.new wz _ _) hb3; obtain ⟨q0, q1, q2, q3, p0, p1, p2, p3⟩ := blk4 hq) | (have hq : Blk _ wz.heap.size _ _ := Blk.all (Blk.new _ 37 #[.int .i64 0, .int .i64 0, .slice none 0 0, .int .u64 0]) hb3; obtain ⟨q0, q1, q2, q3, p0, p1, p2, p3⟩ := blk4 hq) | (have hq := Blk.all (Blk.new _ 37 #[.int .i64 0, .int .i64 0, .slice none 0 0, .int .u64 0]) hb3; obtain ⟨q0, q1, q2, q3, p0, p1, p2, p3⟩ := blk4 hq) | skip); have hS2 := bt hS1 hb3; have hz1 := hS2.size; clear hS1 hb3))
      | (go_at_call 30; have hS1 := (‹Below wz.heap.size wz _ ∧ _›).1; ((with_reducible refine (rtag_any _ _ _ _ _ _ bs _ HL hnc (by omega) (HBZ.out.all hS1).rd).mono ?_); rintro e wt ⟨rfl, hb3⟩; (first | (have hq' := Blk.all hq hb3; clear q0 q1 q2 q3 p0 p1 p2 p3; obtain ⟨q0, q1, q2, q3, p0, p1, p2, p3⟩ := blk4 hq') | (first | (have hq := Blk.all (show Blk (wz.alloc (.cells #[.int .i64 0, .int .i64 0, .slice none 0 0, .int .u64 0] 37)).drew wz.heap.size 37 #[.int .i64 0, .int .i64 0, .slice none 0 0, .int .u64 0] from Blk.new wz _ _) hb3; obtain ⟨q0, q1, q2, q3, p0, p1, p2, p3⟩ := blk4 hq) | (have hq : Blk _ wz.heap.size _ _ := Blk.all (Blk.new _ 37 #[.int .i64 0, .int .i64 0, .slice none 0 0, .int .u64 0]) hb3; obtain ⟨q0, q1, q2, q3, p0, p1, p2, p3⟩ := blk4 hq) | (have hq := Blk.all (Blk.new _ 37 #[.int .i64 0, .int .i64 0, .slice none 0 0, .int .u64 0]) hb3; obtain ⟨q0, q1, q2, q3, p0, p1, p2, p3⟩ := blk4 hq) | skip)); (first | replace hB5 := hB5.all hb3 | replace hB5 := (hB5.all ((Below.refl _ _).alloc (Nat.le_refl _) _)).all hb3); have hS2 := bt hS1 hb3; have hz1 := hS2.size; clear hS1 hb3)))
  (have hq8 := Blk.new wt 37 #[.int .i64 cl, .int .i64 (last + 1), .slice A' n c', .int .u64 (tagI key cl (last + 1) (bodyI bs))]
   have hb8 := hS2.alloc hS2.size (.cells #[.int .i64 cl, .int .i64 (last + 1), .slice A' n c', .int .u64 (tagI key cl (last + 1) (bodyI bs))] 37)
   have hB8 := hB5.all ((Below.refl wt.heap.size wt).alloc (Nat.le_refl _) (.cells #[.int .i64 cl, .int .i64 (last + 1), .slice A' n c', .int .u64 (tagI key cl (last + 1) (bodyI bs))] 37))
   have hgq : wz.heap.size ≤ wt.heap.size := hS2.size
   clear hB5 hS2
   generalize wt.alloc (.cells #[.int .i64 cl, .int .i64 (last + 1), .slice A' n c', .int .u64 (tagI key cl (last + 1) (bodyI bs))] 37) = w8 at *
   generalize wt.heap.size = gq at *)
  rotate_left
  (obtain ⟨hq8, m8⟩ := blk_set4 hq (.int .i64 cl) (.int .i64 (last + 1)) (.slice A' n c') (.int .u64 (tagI key cl (last + 1) (bodyI bs)))
   have hgq : wz.heap.size ≤ wc.heap.size := by omega
   have hb8 := m8.below hS2 hS2.size (by rintro b rfl; exact hgq)
   have hB8 := hB5.mod m8 (by rintro b rfl ht; exact absurd (Ty.unique hq.ty ht) (by decide))
   clear hB5 hS2 hq m8 q0 q1 q2 q3 p0 p1 p2 p3
   generalize (((wt.setCell ⟨wc.heap.size, 0, none⟩ (.int .i64 cl)).setCell ⟨wc.heap.size, 1, none⟩ (.int .i64 (last + 1))).setCell ⟨wc.heap.size, 2, none⟩ (.slice A' n c')).setCell ⟨wc.heap.size, 3, none⟩ (.int .u64 (tagI key cl (last + 1) (bodyI bs))) = w8 at *
   generalize wc.heap.size = gq at *)
  rotate_left
  (obtain ⟨hq8, m8⟩ := blk_set4 hq' (.int .i64 cl) (.int .i64 (last + 1)) (.slice A' n c') (.int .u64 (tagI key cl (last + 1) (bodyI bs)))
   have hgq : wz.heap.size ≤ wz.heap.size := Nat.le_refl _
   have hb8 := m8.below hS2 hS2.size (by rintro b rfl; exact hgq)
   have hB8 := hB5.mod m8 (by rintro b rfl ht; exact absurd (Ty.unique hq'.ty ht) (by decide))
   clear hB5 hS2 hq hq' m8 q0 q1 q2 q3 p0 p1 p2 p3
   generalize (((wt.setCell ⟨wz.heap.size, 0, none⟩ (.int .i64 cl)).setCell ⟨wz.heap.size, 1, none⟩ (.int .i64 (last + 1))).setCell ⟨wz.heap.size, 2, none⟩ (.slice A' n c')).setCell ⟨wz.heap.size, 3, none⟩ (.int .u64 (tagI key cl (last + 1) (bodyI bs))) = w8 at *
   obtain ⟨gq, hgq2⟩ : ∃ gq, gq = wz.heap.size := ⟨_, rfl⟩
   rw [← hgq2] at hq8
   have hgq : wz.heap.size ≤ gq := by omega
   rw [← hgq2]
   clear hgq2)
  rotate_left
  all_goals
    generalize htg : tagI key cl (last + 1) (bodyI bs) = tg at *
    have HTG := Lib.hid htg
    have hC8 := HCZ.out.all hb8
    have HZ8 := Lib.hid (HZ.out.all hb8)
    have HM8 := Lib.hid (HM.out.then_below hb8)
    have HB8 := Lib.hid hB8
    have HQ8 := Lib.hid hq8
    have hsz : w.heap.size ≤ wz.heap.size := HM.out.size
    have hsz8 : wz.heap.size ≤ w8.heap.size := hb8.size
    have hlt8 : g < w8.heap.size := hC8.1.lt
    have hgq8 : gq < w8.heap.size := hq8.lt
    have hggq : g ≠ gq := by omega
    have hrne : (Value.slice A1 op.length c1).ownBlock ≠ some g := fun e => hC8.row_ne (by decide) e rfl
    have hrnq : (Value.slice A1 op.length c1).ownBlock ≠ some gq := fun e => by
      have := (HC.out.2.1.lt gq e).2
      omega
    have HO8 := Lib.hid hC8.2.1
    have HC8 := Lib.hid hC8
    have HG8 := Lib.hid (show Blk w8 g 63 #[.int .i64 cl, .int .u64 key, .int .i64 (last + 1), .slice A1 op.length c1] from hC8.1)
    have HNE := Lib.hid hrne
    have HNQ := Lib.hid hrnq
    have d3 := (blk4 hC8.1).2.2.2.1
    have e3 := (blk4 hC8.1).2.2.2.2.2.2.2
    obtain ⟨k0, k1, k2, k3, -, -, -, -⟩ := blk4 hq8
    clear htg hC8 hq8 hB8 hb8 c00 c01 c02 c03 f00 f01 f02 f03 hrne hrnq HZ HM HCZ HBZ
    try clear hz1
    go_wp2
    go_region_law (refine step_append1 (v := .slice A1 op.length c1) slT_rreq (by rfl) (by rfl) (by rfl) w8.heap.size (by rfl) (by first | exact (HO8.out.alloc _).drew | exact HO8.out.alloc _) #[.int .i64 cl, .int .i64 (last + 1), .slice A' n c', .int .u64 tg] (by exact Blk.new w8 37 #[.int .i64 cl, .int .i64 (last + 1), .slice A' n c', .int .u64 tg]) rfl (by simp; exact ⟨rfl, rfl, rfl, rfl⟩) (by omega) (by decide) (by omega) ?_; intro g5 cap5 w9 ho9 hg9 hat9; have hBw := Blk.grown (g := g) (t := 63) (cs := #[.int .i64 cl, .int .u64 key, .int .i64 (last + 1), .slice A1 op.length c1]) (HG8.out.alloc _).drew hg9 (Ne.symm HNE.out); have s3 := (blk4 hBw).2.2.2.1; have z3 := (blk4 hBw).2.2.2.2.2.2.2)
    all_goals
      obtain ⟨hC10, hr10, m10⟩ := HC8.out.appended (by decide) (by decide) (by decide) ⟨cl, last + 1, A', n, c', bs, tg⟩ ⟨HB8.out, show n ≤ 1048576 by omega⟩ ho9 hg9
      have hq10 := m10.blk HQ8.out (by rintro (e | e); exact hggq e.symm; exact HNQ.out e)
      have hz10 := m10.blk HZ8.out (by rintro (e | e); (have := HC.out.1.lt; omega); (have := (HC.out.2.1.lt _ e).2; omega))
      have HM10 := Lib.hid (HM8.out.trans m10 (fun b hb => .inl hb))
      have HAT := Lib.hid (show (Value.slice (some ⟨g5, 0, none⟩) (op.length + 1) cap5).ownBlock = (Value.slice A1 op.length c1).ownBlock ∨ ∀ b, (Value.slice (some ⟨g5, 0, none⟩) (op.length + 1) cap5).ownBlock = some b → w.heap.size < b from by
        rcases hat9 with e | e
        · exact .inl e
        · right
          intro b hb
          cases hb
          rw [e]
          show w.heap.size < (w8.alloc _).heap.size
          rw [alloc_size]
          omega)
      clear ho9 hg9 hat9 hBw s3 z3 m10 k0 k1 k2 k3 d3 e3
      generalize w9.setCell ⟨g, 3, none⟩ (.slice (some ⟨g5, 0, none⟩) (op.length + 1) cap5) = w10 at *
      obtain ⟨k0, k1, k2, k3, -, -, -, -⟩ := blk4 hq10
      obtain ⟨y0, y1, y2, y3, v0, v1, v2, v3⟩ := blk4 hz10
      have HC11 := Lib.hid hC10
      have HR2 := Lib.hid hr10
      have hz11 := hz10
      clear hC10 hr10 hz10
      go_wp2
      obtain ⟨-, m12⟩ := blk_set4 hz11 (.int .i64 cl) (.int .i64 (last + 1)) (.slice A' n c') (.int .u64 tg)
      have nb : ∀ b, b = w.heap.size → ¬ Ty w10 b 5 := by
        rintro b rfl ht
        exact absurd (Ty.unique hz11.ty ht) (by decide)
      exact bodyPost_ret (v := .tuple #[.agg #[.int .i64 cl, .int .i64 (last + 1), .slice A' n c', .int .u64 tg], .int .i64 0]) (by simp [results, Try.results33, go_sem, y0, y1, y2, y3]) rfl
        ⟨⟨cl, last + 1, A', n, c', bs, tg⟩, ⟨cl, last + 1, A', n, c', bs, tg⟩, _, rfl, HR2.out.mod m12 nb, by rw [HTG.out]; rfl, rfl, HC11.out.mod m12 (by
          rintro b (rfl | hb) e
          · have := HC.out.1.lt
            omega
          · rcases HAT.out with h | h
            · rw [h] at hb
              have := (HC.out.2.1.lt b hb).2
              omega
            · have := h b hb
              omega) nb, HM10.out.trans m12 (fun b hb => .inr (by omega)), HAT.out.imp id (fun h b hb => Nat.le_of_lt (h b hb))⟩
end Go.Proofs.Ytompkpleiichaaa
