/- lots.firstUnits; lots.Take of an item that is not mixed. -/
import Derived.Test.YtlcalajehnaenaaGreatDoorHG3
import Derived.Shelf.Bits.Mul64
import Derived.Test.YtlcalajehnaenaaGreatDoorHG1
import Derived.Deep.DeepCutAuto
import Derived.Sort.Grow
import Derived.Lib.Small
import Derived.Shelf.SlSortCmp.NoneTotal
namespace Go.Proofs.YtlcalajehnaenaaGreatDoor
open Go.RowKit
set_option maxRecDepth 100000 in
theorem firstU_any (A : Option Addr) (n c : Nat) (m : Int) (w : World) :
 Calls Tryz.prog 226 #[.slice A n c, .int .i64 m] w fun e w' => e = .returned (.func (.func 244) #[] #[.pointer (some ⟨w.heap.size + 1, 0, none⟩), .pointer (some ⟨w.heap.size, 0, none⟩)]) ∧ w' = (w.alloc (.cells #[.slice A n c] 38)).alloc (.cells #[.int .i64 m] 3) := by
 go_enter Tryz.func226, Tryz.ntmps226
 go_wp2
 go_ret
 exact ⟨rfl, rfl⟩
def TakePost (ls : List Lot) (m : Int) (cs : List Int) (w : World) (e : Ending) (w' : World) : Prop :=
 (totL ls < m ∧ e = .returned (.tuple #[.slice none 0 0, .slice none 0 0, .int .i64 10]) ∧ Below w.heap.size w w') ∨
 (m ≤ totL ls ∧ ∃ V1 V2 : Sl, e = .returned (.tuple #[slV V1, slV V2, .int .i64 0]) ∧ LotsOwn w' w.heap.size V1.1 V1.2.1 V1.2.2 (divL [] [] ls cs).1 ∧ LotsOwn w' w.heap.size V2.1 V2.2.1 V2.2.2 (divL [] [] ls cs).2 ∧ Below w.heap.size w w')
set_option maxRecDepth 100000 in
set_option maxHeartbeats 4000000 in
theorem takeF_any (A : Option Addr) (n c : Nat) (ls : List Lot) (m : Int) (w : World) (HL : Hid (LotsAt w A n c ls)) (HK : Hid (LotsOk ls)) (hn : n ≤ 4096) (hm1 : 1 ≤ m) (hm2 : m ≤ 1099511627776) :
 Calls Tryz.prog 211 #[.slice A n c, .int .i64 m, .bool false] w (TakePost ls m (cntLt ls m) w) := by
 have h1 : ¬ m < 0 := by omega
 have h2 : ¬ 1099511627776 < m := by omega
 go_enter Tryz.func211, Tryz.ntmps211
 go_wp2_with fail
 refine (valid_any A n c ls w HL HK hn).mono ?_
 rintro e w1 ⟨rfl, hb1⟩
 have HB1 := Lib.hid hb1
 have HL1 := Lib.hid (HL.out.all hb1)
 clear hb1
 go_wp2_with fail
 refine (ltotal_any A n c ls w1 HL1 HK hn).mono ?_
 rintro e w2 ⟨rfl, hb2⟩
 have HB2 := Lib.hid (bt HB1.out hb2)
 have HL2 := Lib.hid (HL1.out.all hb2)
 clear hb2
 rcases Int.lt_or_le (totL ls) m with hlt | hge
 ·have HP : Hid (TakePost ls m (cntLt ls m) w (.returned (.tuple #[.slice none 0 0, .slice none 0 0, .int .i64 10])) w2) := Lib.hid (.inl ⟨hlt, rfl, HB2.out⟩)
  go_wp2
  go_ret3
  exact HP.out
 ·have hnl : ¬ totL ls < m := by omega
  obtain ⟨hc1, hc2⟩ := cntL_ok ls m HK.out (by omega) hge
  have HC := Lib.hid hc1
  have HS := Lib.hid hc2
  have HGE := Lib.hid hge
  clear hc1 hc2
  obtain ⟨T, hT⟩ : ∃ T, totL ls = T := ⟨_, rfl⟩
  rw [hT] at hge hnl ⊢
  clear hT
  go_wp2_with fail
  refine (firstU_any A n c m w2).mono ?_
  rintro e w3 ⟨rfl, hw3⟩
  have hba := ((Below.refl w2.heap.size w2).alloc (Nat.le_refl _) (.cells #[.slice A n c] 38)).alloc (by simp) (.cells #[.int .i64 m] 3)
  have hk1 := Blk.alloc (Blk.new w2 38 #[.slice A n c]) (.cells #[.int .i64 m] 3)
  have hk2 := Blk.new (w2.alloc (.cells #[.slice A n c] 38)) 3 #[.int .i64 m]
  rw [World.size_alloc] at hk2
  rw [← hw3] at hba hk1 hk2
  have hz3 : w3.heap.size = w2.heap.size + 2 := by rw [hw3]; simp
  have HB3 := Lib.hid (bt HB2.out hba)
  have HL3 := Lib.hid (HL2.out.all hba)
  have HJ := Lib.hid (And.intro hk2 hk1)
  have HTN := Lib.hid (Blk.ty hk2)
  have hbn : w2.heap.size + 1 < w3.heap.size ∧ w2.heap.size < w3.heap.size ∧ w2.heap.size + 1 ≠ w2.heap.size := by omega
  have HGE2 := Lib.hid (show w.heap.size ≤ w2.heap.size from HB2.out.size)
  clear hw3 hba hk1 hk2 hz3
  go_wp2_with fail
  refine (divideF_any (w2.heap.size + 1) w2.heap.size A n c ls m w3 HL3 HK HC hn ⟨by omega, hm2⟩ hbn HTN HS HJ).mono ?_
  rintro e w4 ⟨⟨A5, n5, c5⟩, ⟨A6, n6, c6⟩, rfl, ho1, ho2, hm4⟩
  have HF : Hid (TakePost ls m (cntLt ls m) w (.returned (.tuple #[.slice A5 n5 c5, .slice A6 n6 c6, .int .i64 0])) w4) := Lib.hid (.inr ⟨HGE.out, (A5, n5, c5), (A6, n6, c6), rfl, ⟨ho1.1, own_lower ho1.2 HB3.out.size⟩, ⟨ho2.1, own_lower ho2.2 HB3.out.size⟩, Mod.below HB3.out hm4 HB3.out.size (fun b hb => by have := HGE2.out; omega)⟩)
  unfold slV
  dsimp only
  clear ho1 ho2 hm4
  go_wp2
  go_ret3
  exact HF.out
end Go.Proofs.YtlcalajehnaenaaGreatDoor
namespace Go.Proofs
open Go.Shelf
def Tryz.mul64_ren : Go.Shelf.Ren := ⟨fun | 264 => 258 | n => n, fun | 46 => 136 | 53 => 201 | n => n, fun n => n⟩
theorem Tryz.mul64L : Lays.n264 Tryz.prog Tryz.mul64_ren := {
 mixed := by kernel_rfl
 f264 := Tryz.func258.trans (congrArg some (by kernel_rfl))
 t46 := Tryz.underlying136
 a46 := Tryz.isAgg136
 z46 := Tryz.sizeOf136
 v46 := Tryz.zeroValue136
 t53 := Tryz.underlying201
 a53 := Tryz.isAgg201
 z53 := Tryz.sizeOf201
 v53 := Tryz.zeroValue201 }
end Go.Proofs
namespace Go.Proofs.YtlcalajehnaenaaGreatDoor
open Go.RowKit
theorem isAmount_any (x : Int) (w : World) (h : 0 ≤ x ∧ x ≤ 1099511627776) : Calls Tryz.prog 245 #[.int .i64 x] w fun e w' => e = .returned (.bool true) ∧ w' = w := by
 obtain ⟨h0, h1⟩ := h
 go_enter Tryz.func245, Tryz.ntmps245
 go_wp2
 all_goals (go_ret; simp_all)
theorem isLarge_any (x : Int) (w : World) (h : 0 ≤ x ∧ x ≤ 1152921504606846976) : Calls Tryz.prog 257 #[.int .i64 x] w fun e w' => e = .returned (.bool true) ∧ w' = w := by
 obtain ⟨h0, h1⟩ := h
 go_enter Tryz.func257, Tryz.ntmps257
 go_wp2
 all_goals (go_ret; simp_all)
theorem mul64_any (x y : Int) (hx : 0 ≤ x) (hx1 : x < 18446744073709551616) (hy : 0 ≤ y) (hy1 : y < 18446744073709551616) (h : x * y < 18446744073709551616) (w : World) :
 Calls Tryz.prog 258 #[.int .u64 x, .int .u64 y] w fun e w' => e = .returned (.tuple #[.int .u64 0, .int .u64 (x * y)]) ∧ w' = w := by
 obtain ⟨a, rfl⟩ := Int.eq_ofNat_of_zero_le hx
 obtain ⟨b, rfl⟩ := Int.eq_ofNat_of_zero_le hy
 have h2 : a * b < 18446744073709551616 := by rw [← Int.natCast_mul] at h; omega
 have := Any.bits_Mul64 Tryz.mul64L a b (by omega) (by omega) w
 rw [Nat.div_eq_of_lt h2, Nat.mod_eq_of_lt h2] at this
 exact this
set_option maxRecDepth 100000 in
theorem div64_any (x y : Int) (hx : 0 ≤ x) (hx1 : x < 18446744073709551616) (hy : 0 < y) (w : World) :
 Calls Tryz.prog 259 #[.int .u64 0, .int .u64 x, .int .u64 y] w fun e w' => e = .returned (.tuple #[.int .u64 (x / y), .int .u64 (x % y)]) ∧ ∃ q, w' = w.drewN q := by
 have h1 : ¬ y = 0 := by omega
 have h2 : ¬ y ≤ 0 := by omega
 have e1 : x.tdiv y = x / y := Int.tdiv_eq_ediv_of_nonneg hx
 have e2 : x.tmod y = x % y := Int.tmod_eq_emod_of_nonneg hx
 have e3 : IntKind.u64.wrap (x / y) = x / y := by
  have h3 := Int.ediv_le_self y hx
  have h4 := Int.ediv_nonneg hx (by omega : 0 ≤ y)
  rw [IntKind.wrap_u64]
  exact Int.emod_eq_of_lt h4 (by omega)
 go_enter Tryz.func259, Tryz.ntmps259
 go_wp2
 go_quiet (fail)
 go_wp2
 go_ret2
 exact ⟨rfl, _, rfl⟩
def Drew (w w' : World) : Prop := ∃ q, w' = w.drewN q
set_option maxRecDepth 100000 in
set_option maxHeartbeats 2000000 in
theorem divide_small (t n d : Int) (w : World) (ht : 0 ≤ t ∧ t ≤ 1099511627776) (hn : 0 ≤ n ∧ n ≤ d) (hd : 0 < d ∧ d ≤ 1152921504606846976) (hp : t * n < 18446744073709551616) (hp0 : 0 ≤ t * n) (hq : t * n / d ≤ 1099511627776) :
 Calls Tryz.prog 246 #[.int .i64 t, .int .i64 n, .int .i64 d] w fun e w' => e = .returned (.tuple #[.int .u64 (t * n / d), .int .u64 (t * n % d), .int .i64 0]) ∧ ∃ q, w' = w.drewN q := by
 obtain ⟨ht0, ht1⟩ := ht
 obtain ⟨hn0, hn1⟩ := hn
 obtain ⟨hd0, hd1⟩ := hd
 have w1 : IntKind.u64.wrap t = t := by rw [IntKind.wrap_u64]; omega
 have w2 : IntKind.u64.wrap n = n := by rw [IntKind.wrap_u64]; omega
 have w3 : IntKind.u64.wrap d = d := by rw [IntKind.wrap_u64]; omega
 have c1 := isAmount_any t w ⟨ht0, ht1⟩
 have c2 := isLarge_any n w ⟨hn0, by omega⟩
 have c3 := isLarge_any d w ⟨by omega, hd1⟩
 have c4 := fun W => mul64_any t n (by omega) (by omega) (by omega) (by omega) hp W
 have c5 := fun W => div64_any (t * n) d hp0 hp hd0 W
 have h1 : ¬ d = 0 := by omega
 have h2 : ¬ d ≤ 0 := by omega
 obtain ⟨p, hpe⟩ : ∃ p, t * n = p := ⟨_, rfl⟩
 rw [hpe] at hq hp hp0 ⊢
 simp only [hpe] at c4 c5
 clear hpe
 have h3 : ¬ 1099511627776 < p / d := by omega
 go_enter Tryz.func246, Tryz.ntmps246
 go_wp2_with (first | (go_at_call 245; refine c1.mono ?_; rintro e w' ⟨rfl, rfl⟩) | (go_at_call 257; first | (refine c2.mono ?_; rintro e w' ⟨rfl, rfl⟩) | (refine c3.mono ?_; rintro e w' ⟨rfl, rfl⟩)) | (go_at_call 258; refine (c4 _).mono ?_; rintro e w' ⟨rfl, rfl⟩) | (go_at_call 259; refine (c5 _).mono ?_; rintro e w' ⟨rfl, q, rfl⟩))
 go_ret3
 exact ⟨rfl, _, rfl⟩
end Go.Proofs.YtlcalajehnaenaaGreatDoor
namespace Go.Proofs.YtlcalajehnaenaaGreatDoor
open Go.RowKit
theorem cmpI_any (x y : Int) (w : World) : Calls Tryz.prog 20 #[.int .i64 x, .int .i64 y] w fun e w' => e = .returned (.int .i64 (Lib.compareInt x y)) ∧ w' = w := by
 have hn : ∀ (z : Int) (W : World), Calls Tryz.prog 60 #[.int .i64 z] W fun e w' => e = .returned (.bool false) ∧ w' = W := fun z W => by
  go_enter Tryz.func60, Tryz.ntmps60
  go_wp2
  go_ret
  exact ⟨by simp, rfl⟩
 go_enter Tryz.func20, Tryz.ntmps20
 go_wp2_with (go_at_call 60; refine (hn _ _).mono ?_; rintro e w' ⟨rfl, hw⟩; rw [hw])
 all_goals (go_ret; refine ⟨?_, rfl⟩; unfold Lib.compareInt; (repeat' split) <;> first | rfl | (exfalso; omega))
theorem cmpU_any (x y : Int) (w : World) : Calls Tryz.prog 249 #[.int .u64 x, .int .u64 y] w fun e w' => e = .returned (.int .i64 (Lib.compareInt x y)) ∧ w' = w := by
 have hn : ∀ (z : Int) (W : World), Calls Tryz.prog 261 #[.int .u64 z] W fun e w' => e = .returned (.bool false) ∧ w' = W := fun z W => by
  go_enter Tryz.func261, Tryz.ntmps261
  go_wp2
  go_ret
  exact ⟨by simp, rfl⟩
 go_enter Tryz.func249, Tryz.ntmps249
 go_wp2_with (go_at_call 261; refine (hn _ _).mono ?_; rintro e w' ⟨rfl, hw⟩; rw [hw])
 all_goals (go_ret; refine ⟨?_, rfl⟩; unfold Lib.compareInt; (repeat' split) <;> first | rfl | (exfalso; omega))
def orI (a b : Int) : Int := if a = 0 then b else a
theorem or_any (g : Nat) (a b : Int) (w : World) (hb : Blk w g 3 #[.int .i64 a, .int .i64 b]) (hg : g < w.heap.size) :
 Calls Tryz.prog 19 #[.slice (some ⟨g, 0, none⟩) 2 2] w fun e w' => e = .returned (.int .i64 (orI a b)) ∧ w' = w := by
 have c0 : w.cell? ⟨g, 0, none⟩ = some (.int .i64 a) := hb.cell 0
 have c1 : w.cell? ⟨g, 1, none⟩ = some (.int .i64 b) := hb.cell 1
 have c0' : w.cell? ⟨g, 0 + 0 * 1, none⟩ = some (.int .i64 a) := hb.cell 0
 have c1' : w.cell? ⟨g, 0 + 1 * 1, none⟩ = some (.int .i64 b) := hb.cell 1
 clear hb
 go_enter Tryz.func19, Tryz.ntmps19
 go_wp2
 go_loopg [5, 8] 2 (fun gk sv iv wr => wr = w ∧ ((gk = 2 ∧ iv = .int .i64 0) ∨ (gk = 1 ∧ iv = .int .i64 1 ∧ a = 0) ∨ (gk = 0 ∧ iv = .int .i64 2 ∧ a = 0 ∧ b = 0)))
 case atStart => exact ⟨rfl, .inl ⟨rfl, rfl⟩⟩
 case round =>
  obtain ⟨rfl, ⟨rfl, rfl⟩ | ⟨rfl, rfl, h0⟩ | ⟨rfl, rfl, h0, h1⟩⟩ := hrel
  ·by_cases h0 : a = 0
   ·subst h0
    go_wp2
    go_roundg 1
    case measure => omega
    case rel => exact ⟨rfl, .inr (.inl ⟨rfl, rfl, trivial⟩)⟩
   ·go_wp2
    go_ret
    exact ⟨by simp [orI, h0], rfl⟩
  ·by_cases h1 : b = 0
   ·subst h1
    go_wp2
    go_roundg 0
    case measure => omega
    case rel => exact ⟨rfl, .inr (.inr ⟨rfl, rfl, h0, trivial⟩)⟩
   ·go_wp2
    go_ret
    exact ⟨by simp [orI, h0], rfl⟩
  ·go_wp2
   go_ret
   exact ⟨by simp [orI, h0, h1], rfl⟩
theorem grow_one (w : World) (o : Obj) : (w.alloc o).drew = Sort.grow (w.drewN 1) #[o] := by
 unfold Sort.grow World.alloc World.drew World.drewN
 simp
set_option maxRecDepth 100000 in
set_option maxHeartbeats 1000000 in
theorem split1_any (bx bR n i j : Nat) (ri rj : Int) (w : World) (h0 : w.cell? ⟨bx, 0, none⟩ = some (.slice (some ⟨bR, 0, none⟩) n n)) (hi : w.cell? ⟨bR, i, none⟩ = some (.int .u64 ri)) (hj : w.cell? ⟨bR, j, none⟩ = some (.int .u64 rj)) (hin : i < n) (hjn : j < n) :
 Calls Tryz.prog 248 #[.int .i64 i, .int .i64 j, .pointer (some ⟨bx, 0, none⟩)] w fun e w' => e = .returned (.int .i64 (orI (Lib.compareInt rj ri) (Lib.compareInt i j))) ∧ ∃ q os, w' = Sort.grow (w.drewN q) os := by
 have i1 : (i : Int) < (n : Int) := by omega
 have j1 : (j : Int) < (n : Int) := by omega
 have i0 : (0 : Int) ≤ (i : Int) := by omega
 have j0 : (0 : Int) ≤ (j : Int) := by omega
 have hal : ∀ (W : World) (o : Obj) (a : Addr) (v : Value), W.cell? a = some v → (W.alloc o).cell? a = some v := fun W o a v h => (World.cell?_alloc_some W a o (by rw [h]; rfl)).trans h
 have hA : ∀ (W : World) (o : Obj), W.heap = w.heap → (W.alloc o).cell? ⟨bx, 0, none⟩ = some (.slice (some ⟨bR, 0, none⟩) n n) ∧ (W.alloc o).cell? ⟨bR, i, none⟩ = some (.int .u64 ri) ∧ (W.alloc o).cell? ⟨bR, j, none⟩ = some (.int .u64 rj) := fun W o e => by
  have e2 : ∀ a, W.cell? a = w.cell? a := fun a => by simp only [World.cell?, e]
  exact ⟨hal _ _ _ _ ((e2 _).trans h0), hal _ _ _ _ ((e2 _).trans hi), hal _ _ _ _ ((e2 _).trans hj)⟩
 go_enter Tryz.func248, Tryz.ntmps248
 go_wp2_with fail
 refine wp_region_held_drew (S := (fun y => y.cell? ⟨bx, 0, none⟩ = some (.slice (some ⟨bR, 0, none⟩) n n) ∧ y.cell? ⟨bR, i, none⟩ = some (.int .u64 ri) ∧ y.cell? ⟨bR, j, none⟩ = some (.int .u64 rj))) (by kernel_rfl) ⟨h0, hi, hj⟩ (fun hHeld => ?_)
 refine takeJ 0 (some 6) ?_
 refine takeJ 1 (some 7) ?_
 refine takeI 2 (some 8) (v := .pointer (some ⟨bR, j, none⟩)) ?_ ?_
 skip
 ·(intro o ho w hSw; obtain ⟨z0, z1, z2⟩ := hSw; cases ho; go_simp; (try simp [Addr.add]); try with_reducible rfl)
 try simp only [Act.put, pB, pC, pD]
 refine takeJ 3 (some 9) ?_
 refine takeJ 4 (some 10) ?_
 refine takeJ 5 (some 11) ?_
 refine takeI 6 (some 12) (v := .pointer (some ⟨bR, i, none⟩)) ?_ ?_
 skip
 ·(intro o ho w hSw; obtain ⟨z0, z1, z2⟩ := hSw; cases ho; go_simp; (try simp [Addr.add]); try with_reducible rfl)
 try simp only [Act.put, pB, pC, pD]
 refine takeJ 7 (some 13) ?_
 refine takeJ 9 (some 15) ?_
 refine takeJ 10 (some 16) ?_
 refine wpAnyH_ready (rs := [8]) (by kernel_rfl) (by simp) ?_
 refine AllReadyH.cons rfl (fun K hK => ?_) AllReadyH.nil
 go_simp
 go_at_call 249
 (refine (cmpU_any rj ri _).mono ?_)
 rintro e w3 ⟨rfl, rfl⟩
 go_wp2
 refine hK.out _ _ ?_ (fun hH8 => ?_)
 ·exact ⟨h0, hi, hj⟩
 clear hK K
 try simp only [Act.put, pB, pC, pD]
 refine wpAnyH_ready (rs := [11]) (by kernel_rfl) (by simp) ?_
 refine AllReadyH.cons rfl (fun K hK => ?_) AllReadyH.nil
 go_simp
 go_at_call 20
 (refine (cmpI_any i j _).mono ?_)
 rintro e w3 ⟨rfl, rfl⟩
 go_wp2
 refine hK.out _ _ ?_ (fun hH11 => ?_)
 ·exact ⟨h0, hi, hj⟩
 clear hK K
 try simp only [Act.put, pB, pC, pD]
 refine wpAnyH_ready (rs := [12]) (by kernel_rfl) (by simp) ?_
 refine AllReadyH.cons rfl (fun K hK => ?_) AllReadyH.nil
 go_simp
 refine hK.out _ _ ?_ (fun hH12 => ?_)
 ·exact (hA _ _ rfl)
 clear hK K
 try simp only [Act.put, pB, pC, pD]
 refine wpAnyH_ready (rs := [13]) (by kernel_rfl) (by simp) ?_
 refine AllReadyH.cons rfl (fun K hK => ?_) AllReadyH.nil
 go_simp
 go_at_call 19
 (refine (or_any w.heap.size _ _ ((w.alloc (.cells #[.int .i64 (Lib.compareInt rj ri), .int .i64 (Lib.compareInt i j)] 3)).drew) (show Blk (w.alloc (.cells #[.int .i64 (Lib.compareInt rj ri), .int .i64 (Lib.compareInt i j)] 3)) w.heap.size 3 _ from Blk.new w _ _) (show w.heap.size < (w.alloc (.cells #[.int .i64 (Lib.compareInt rj ri), .int .i64 (Lib.compareInt i j)] 3)).heap.size by simp)).mono ?_)
 rintro e w3 ⟨rfl, rfl⟩
 go_wp2
 refine hK.out _ _ ?_ (fun hH13 => ?_)
 ·exact (hA _ _ rfl)
 clear hK K
 try simp only [Act.put, pB, pC, pD]
 refine takeJ 14 (some 5) ?_
 refine wpAnyH_done (by kernel_rfl) ?_ _
 go_wp2
 go_ret
 exact ⟨rfl, 1, #[_], grow_one w _⟩
end Go.Proofs.YtlcalajehnaenaaGreatDoor
namespace Go.Proofs
open Go.Shelf
def Tryz.sortFL_ren : Go.Shelf.Ren := ⟨fun | 6 => 247 | 15 => 59 | 14 => 260 | 28 => 112 | 29 => 113 | 20 => 265 | 21 => 266 | 22 => 267 | 23 => 268 | 24 => 269 | 25 => 270 | 26 => 271 | 27 => 272 | 46 => 273 | 47 => 175 | 48 => 176 | 49 => 274 | 50 => 275 | 57 => 276 | n => n, fun | 22 => 22 | 24 => 3 | 25 => 60 | 3 => 3 | 39 => 136 | 0 => 0 | 53 => 199 | 55 => 201 | 4 => 4 | 46 => 192 | 45 => 191 | 50 => 196 | 5 => 5 | 9 => 9 | 66 => 256 | 70 => 260 | 76 => 275 | 77 => 276 | n => n, fun | n => n⟩
theorem Tryz.sortFL : Go.Proofs.SlLaysF.n6 Tryz.prog Tryz.sortFL_ren := {
 mixed := by kernel_rfl
 f6 := ⟨Tryz.f247.name, by decide, Tryz.func247.trans (congrArg some (by kernel_rfl))⟩
 f14 := ⟨Tryz.f260.name, by decide, Tryz.func260.trans (congrArg some (by kernel_rfl))⟩
 f15 := Tryz.func59.trans (congrArg some (by kernel_rfl))
 f20 := ⟨Tryz.f265.name, by decide, Tryz.func265.trans (congrArg some (by kernel_rfl))⟩
 f21 := ⟨Tryz.f266.name, by decide, Tryz.func266.trans (congrArg some (by kernel_rfl))⟩
 f22 := ⟨Tryz.f267.name, by decide, Tryz.func267.trans (congrArg some (by kernel_rfl))⟩
 f23 := ⟨Tryz.f268.name, by decide, Tryz.func268.trans (congrArg some (by kernel_rfl))⟩
 f24 := ⟨Tryz.f269.name, by decide, Tryz.func269.trans (congrArg some (by kernel_rfl))⟩
 f25 := ⟨Tryz.f270.name, by decide, Tryz.func270.trans (congrArg some (by kernel_rfl))⟩
 f26 := ⟨Tryz.f271.name, by decide, Tryz.func271.trans (congrArg some (by kernel_rfl))⟩
 f27 := ⟨Tryz.f272.name, by decide, Tryz.func272.trans (congrArg some (by kernel_rfl))⟩
 f28 := Tryz.func112.trans (congrArg some (by kernel_rfl))
 f29 := Tryz.func113.trans (congrArg some (by kernel_rfl))
 f46 := ⟨Tryz.f273.name, by decide, Tryz.func273.trans (congrArg some (by kernel_rfl))⟩
 f47 := Tryz.func175.trans (congrArg some (by kernel_rfl))
 f48 := Tryz.func176.trans (congrArg some (by kernel_rfl))
 f49 := ⟨Tryz.f274.name, by decide, Tryz.func274.trans (congrArg some (by kernel_rfl))⟩
 f50 := ⟨Tryz.f275.name, by decide, Tryz.func275.trans (congrArg some (by kernel_rfl))⟩
 f57 := ⟨Tryz.f276.name, by decide, Tryz.func276.trans (congrArg some (by kernel_rfl))⟩
 t0 := Tryz.underlying0
 a0 := Tryz.isAgg0
 z0 := Tryz.sizeOf0
 v0 := Tryz.zeroValue0
 t3 := Tryz.underlying3
 a3 := Tryz.isAgg3
 z3 := Tryz.sizeOf3
 v3 := Tryz.zeroValue3
 t4 := Tryz.underlying4
 a4 := Tryz.isAgg4
 z4 := Tryz.sizeOf4
 v4 := Tryz.zeroValue4
 t5 := Tryz.underlying5
 a5 := Tryz.isAgg5
 z5 := Tryz.sizeOf5
 v5 := Tryz.zeroValue5
 t9 := Tryz.underlying9
 a9 := Tryz.isAgg9
 z9 := Tryz.sizeOf9
 v9 := Tryz.zeroValue9
 t22 := Tryz.underlying22
 a22 := Tryz.isAgg22
 z22 := Tryz.sizeOf22
 v22 := Tryz.zeroValue22
 a24 := Tryz.isAgg3
 z24 := Tryz.sizeOf3
 t25 := Tryz.underlying60
 a25 := Tryz.isAgg60
 z25 := Tryz.sizeOf60
 v25 := Tryz.zeroValue60
 t39 := Tryz.underlying136
 a39 := Tryz.isAgg136
 z39 := Tryz.sizeOf136
 v39 := Tryz.zeroValue136
 t45 := Tryz.underlying191
 a45 := Tryz.isAgg191
 z45 := Tryz.sizeOf191
 v45 := Tryz.zeroValue191
 t46 := Tryz.underlying192
 a46 := Tryz.isAgg192
 z46 := Tryz.sizeOf192
 v46 := Tryz.zeroValue192
 t50 := Tryz.underlying196
 a50 := Tryz.isAgg196
 z50 := Tryz.sizeOf196
 v50 := Tryz.zeroValue196
 t53 := Tryz.underlying199
 a53 := Tryz.isAgg199
 z53 := Tryz.sizeOf199
 v53 := Tryz.zeroValue199
 t55 := Tryz.underlying201
 a55 := Tryz.isAgg201
 z55 := Tryz.sizeOf201
 v55 := Tryz.zeroValue201
 t66 := Tryz.underlying256
 a66 := Tryz.isAgg256
 z66 := Tryz.sizeOf256
 v66 := Tryz.zeroValue256
 t70 := Tryz.underlying260
 a70 := Tryz.isAgg260
 z70 := Tryz.sizeOf260
 v70 := Tryz.zeroValue260
 t76 := Tryz.underlying275
 a76 := Tryz.isAgg275
 z76 := Tryz.sizeOf275
 v76 := Tryz.zeroValue275
 t77 := Tryz.underlying276
 a77 := Tryz.isAgg276
 z77 := Tryz.sizeOf276
 v77 := Tryz.zeroValue276 }
end Go.Proofs
