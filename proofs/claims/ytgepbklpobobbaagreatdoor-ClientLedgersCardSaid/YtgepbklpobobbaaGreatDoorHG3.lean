/- Lots in memory: continues, put, Put, slices.Clone. -/
import Derived.Test.YtgepbklpobobbaaGreatDoorHG2
import Derived.Laws.StructEq
import Derived.Shelf.SlicesE.Kit
import Derived.BigRegion
import Derived.Deep.DeepCutAuto
import Derived.Test.YtgepbklpobobbaaGreatDoorHG1
import Derived.RangeFuncNested
import Derived.RangeFuncBound
import Derived.RangeFuncCalls
import Derived.RangeFuncLeaves
import Derived.RangeFuncBox
import Derived.Shelf.Abstract
import Derived.Shelf.RegionOpen
import Derived.WalkKit
import Derived.OwnWalkIn
import Derived.TacticsInMore
import Derived.LoopNIn
import Derived.LoopIn

namespace Go.Proofs.YtgepbklpobobbaaGreatDoor
open Go.RowKit

theorem eqLot (f a f' a' : Int) (w : World) : (binOp .eql 184 (.agg #[.int .i64 f, .int .i64 a, .int .i64 0]) (.agg #[.int .i64 f', .int .i64 a', .int .i64 0])).run Tryz.prog w = .ok (.bool (decide (f = f' ∧ a = a'))) w := by
  have u3 := Tryz.underlying3
  have a3 := Tryz.isAgg3
  have z3 := Tryz.sizeOf3
  have hS : Tryz.prog.underlying 184 = some (.struct (Tryz.prog.fieldsOf 184)) := by kernel_rfl
  have hp : Tryz.prog.stoodInHeld 184 = false := by kernel_rfl
  rw [run_eql_struct, show (10000 : Nat) = 9999 + 1 from rfl, run_equalIn_agg w 9999 184 _ _ hS hp]
  simp only [Program.fieldsOf, Tryz.underlying184]
  go_simp
  by_cases h1 : f = f' <;> by_cases h2 : a = a' <;> simp [h1, h2]
def contL (x y : Lot) : Bool := decide (x.flow = y.flow) && decide (x.at_ = y.at_ + y.n)
set_option maxRecDepth 100000 in
theorem cont_any (x y : Lot) (w : World) (hy : y.ok) :
    Calls Tryz.prog 215 #[.agg #[.int .i64 x.flow, .int .i64 x.at_, .int .i64 x.n], .agg #[.int .i64 y.flow, .int .i64 y.at_, .int .i64 y.n]] w fun e w' => e = .returned (.bool (contL x y)) ∧ Below w.heap.size w w' := by
  obtain ⟨f, a, n⟩ := x
  obtain ⟨f', a', n'⟩ := y
  unfold contL
  unfold Lot.ok MaxU at hy
  dsimp only at hy ⊢
  have hw : IntKind.i64.wrap (a' + n') = a' + n' := IntWalk.i64_in _ (by omega)
  have he := eqLot f a f' (a' + n')
  have HB := Lib.hid (((Below.refl w.heap.size w).alloc (Nat.le_refl _) (.cells #[.int .i64 f, .int .i64 a, .int .i64 n] 184)).alloc (by simp) (.cells #[.int .i64 f', .int .i64 a', .int .i64 n'] 184))
  go_enter Tryz.func215, Tryz.ntmps215
  go_wp2
  go_ret
  exact ⟨rfl, HB.out⟩
/-- A row of lots of the call's own. -/
def LotsOwn (w : World) (B : Nat) (A : Option Addr) (n c : Nat) (ls : List Lot) : Prop := ls.length = n ∧ w.ownsRow B 184 3 (.slice A n c) n (ls.flatMap lotV)
theorem LotsOwn.at_ {w : World} {B : Nat} {A : Option Addr} {n c : Nat} {ls : List Lot} (h : LotsOwn w B A n c ls) : LotsAt w A n c ls := by
  obtain ⟨hl, ho⟩ := h
  refine ⟨hl, ?_, own_cap ho, RowT.of_own ho⟩
  rcases ho.2 with ⟨h2, h0⟩ | ⟨g, cap, cur, h2, -, -, hnc, -⟩
  · injection h2 with _ h3 h4
    omega
  · injection h2 with _ h3 h4
    omega
theorem LotsOwn.nil (w : World) (B : Nat) : LotsOwn w B none 0 0 [] := ⟨rfl, World.ownsRow_nil _ _ _ _⟩
theorem LotsOwn.mod {w w' : World} {B : Nat} {A : Option Addr} {n c : Nat} {ls : List Lot} {F : Nat → Prop} (h : LotsOwn w B A n c ls) (m : Mod F w w') (hF : ∀ b, (Value.slice A n c).ownBlock = some b → ¬ F b) : LotsOwn w' B A n c ls := ⟨h.1, m.own h.2 hF⟩
theorem LotsOwn.all {w w' : World} {B : Nat} {A : Option Addr} {n c : Nat} {ls : List Lot} (h : LotsOwn w B A n c ls) (hb : Below w.heap.size w w') : LotsOwn w' B A n c ls := h.mod (F := fun _ => False) (Mod.of_below _ hb) (fun _ _ hf => hf)
theorem slT_lots : SlT Tryz.prog 61 184 3 24 := SlT.of Tryz.underlying61 (by kernel_rfl) (by decide)
/-- What put leaves. -/
def PutPost (B : Nat) (A : Option Addr) (n c : Nat) (ls' : List Lot) (w : World) (e : Ending) (w' : World) : Prop :=
  ∃ A' n' c', e = .returned (.slice A' n' c') ∧ LotsOwn w' B A' n' c' ls' ∧ Mod (fun b => (Value.slice A n c).ownBlock = some b) w w' ∧ ∀ b, (Value.slice A' n' c').ownBlock = some b → (Value.slice A n c).ownBlock = some b ∨ w.heap.size ≤ b
theorem own_frzL {w : World} {base e size n m c g : Nat} {xs : List Value} (h : w.ownsRow base e size (.slice (some ⟨g, 0, none⟩) m c) n xs) (i : Nat) : w.frozen? ⟨g, i, none⟩ = false := by
  rcases h.2 with ⟨h, _⟩ | ⟨g1, cap, cur, h, _, hh, _⟩
  · cases h
  · injection h with h _ _
    injection h with h
    injection h with h _ _
    subst h
    simp [World.frozen?, hh]
theorem keep6 {w w' : World} {gx b o f a m f2 a2 m2 : _} (h : Below w.heap.size w w') (h1 : gx < w.heap.size) (h2 : b < w.heap.size) (hc : w.cell? ⟨gx, 0, none⟩ = some f ∧ w.cell? ⟨gx, 1, none⟩ = some a ∧ w.cell? ⟨gx, 2, none⟩ = some m ∧ w.cell? ⟨b, o, none⟩ = some f2 ∧ w.cell? ⟨b, o + 1, none⟩ = some a2 ∧ w.cell? ⟨b, o + 2, none⟩ = some m2) :
    w'.cell? ⟨gx, 0, none⟩ = some f ∧ w'.cell? ⟨gx, 1, none⟩ = some a ∧ w'.cell? ⟨gx, 2, none⟩ = some m ∧ w'.cell? ⟨b, o, none⟩ = some f2 ∧ w'.cell? ⟨b, o + 1, none⟩ = some a2 ∧ w'.cell? ⟨b, o + 2, none⟩ = some m2 := by
  obtain ⟨c0, c1, c2, c3, c4, c5⟩ := hc
  exact ⟨(h.cell (p := ⟨gx, 0, none⟩) h1).trans c0, (h.cell (p := ⟨gx, 1, none⟩) h1).trans c1, (h.cell (p := ⟨gx, 2, none⟩) h1).trans c2, (h.cell (p := ⟨b, o, none⟩) h2).trans c3, (h.cell (p := ⟨b, o + 1, none⟩) h2).trans c4, (h.cell (p := ⟨b, o + 2, none⟩) h2).trans c5⟩
set_option maxRecDepth 100000 in
theorem put_zero (B : Nat) (A : Option Addr) (n c : Nat) (ls : List Lot) (x : Lot) (w : World) (HO : Hid (LotsOwn w B A n c ls)) (h0 : x.n = 0) :
    Calls Tryz.prog 201 #[.slice A n c, .agg #[.int .i64 x.flow, .int .i64 x.at_, .int .i64 x.n]] w (PutPost B A n c (putL ls x) w) := by
  rw [putL_zero h0]
  obtain ⟨f, a, m⟩ := x
  dsimp only at h0 ⊢
  subst h0
  have hb := (Below.refl w.heap.size w).alloc (Nat.le_refl _) (.cells #[.int .i64 f, .int .i64 a, .int .i64 0] 184)
  have HP : Hid (PutPost B A n c ls w (.returned (.slice A n c)) (w.alloc (.cells #[.int .i64 f, .int .i64 a, .int .i64 0] 184))) := Lib.hid ⟨A, n, c, rfl, HO.out.all hb, Mod.of_below _ hb, fun _ h => .inl h⟩
  clear hb
  go_enter Tryz.func201, Tryz.ntmps201
  go_wp2
  go_ret
  exact HP.out
set_option maxRecDepth 100000 in
theorem put_nil (B : Nat) (A : Option Addr) (c : Nat) (x : Lot) (w : World) (HO : Hid (LotsOwn w B A 0 c [])) (hB : B ≤ w.heap.size) (h0 : x.n ≠ 0) :
    Calls Tryz.prog 201 #[.slice A 0 c, .agg #[.int .i64 x.flow, .int .i64 x.at_, .int .i64 x.n]] w (PutPost B A 0 c (putL [] x) w) := by
  rw [putL_nil h0]
  obtain ⟨f, a, m⟩ := x
  dsimp only at h0 ⊢
  have hm : (m == 0) = false := by simpa using h0
  have HX : Hid ((⟨f, a, m⟩ : Lot).n ≠ 0) := Lib.hid h0
  go_enter Tryz.func201, Tryz.ntmps201
  go_upto_region 4 with (fail)
  go_region
  go_upto_region 7 with (fail)
  have HB1 := Lib.hid (((Below.refl w.heap.size w).alloc (Nat.le_refl _) (.cells #[.int .i64 f, .int .i64 a, .int .i64 m] 184)).drew)
  have hz1 : (w.alloc (.cells #[.int .i64 f, .int .i64 a, .int .i64 m] 184)).drew.heap.size = w.heap.size + 1 := by simp
  have k0 : (w.alloc (.cells #[.int .i64 f, .int .i64 a, .int .i64 m] 184)).drew.cell? ⟨w.heap.size, 0, none⟩ = some (.int .i64 f) := by simp
  have k1 : (w.alloc (.cells #[.int .i64 f, .int .i64 a, .int .i64 m] 184)).drew.cell? ⟨w.heap.size, 1, none⟩ = some (.int .i64 a) := by simp
  have k2 : (w.alloc (.cells #[.int .i64 f, .int .i64 a, .int .i64 m] 184)).drew.cell? ⟨w.heap.size, 2, none⟩ = some (.int .i64 m) := by simp
  have HO1 := Lib.hid (HO.out.all HB1.out)
  obtain ⟨w1, hw1⟩ : ∃ w1, w1 = (w.alloc (.cells #[.int .i64 f, .int .i64 a, .int .i64 m] 184)).drew := ⟨_, rfl⟩
  rw [← hw1] at HB1 hz1 k0 k1 k2 HO1 ⊢
  have HW1 := Lib.hid hz1
  have hn : (0 : Nat) < 1000000 := by decide
  clear hw1 hz1
  have hnew := Blk.new w1 184 #[.int .i64 f, .int .i64 a, .int .i64 m]
  have hba := (Below.refl w1.heap.size w1).alloc (Nat.le_refl _) (.cells #[.int .i64 f, .int .i64 a, .int .i64 m] 184)
  have hO2 := HO1.out.all hba
  obtain ⟨g, cap, w3, hrun, ho3, hg3, hgb⟩ := run_append1 (P := Tryz.prog) (ty := 61) slT_lots hO2.2 hnew rfl (by intro u hu; simp at hu; rcases hu with rfl | rfl | rfl <;> rfl) (by omega) (by decide) (by have := HB1.out.size; simp; omega)
  have HP : Hid (PutPost B A 0 c ([] ++ [⟨f, a, m⟩]) w (.returned (.slice (some ⟨g, 0, none⟩) (0 + 1) cap)) w3) := Lib.hid ⟨_, _, _, rfl, ⟨by rw [List.length_append, HO.out.1]; rfl, by rw [List.flatMap_append]; exact ho3⟩, (Mod.of_below _ (bt HB1.out hba)).then_grown hg3 (fun g e => .inl e), fun b hb => by
    have hb' : g = b := by simpa [Value.ownBlock] using hb
    subst hb'
    rcases hgb with e | e
    · exact .inl e.symm
    · have := HB1.out.size
      have h2 : (w1.alloc (.cells #[.int .i64 f, .int .i64 a, .int .i64 m] 184)).heap.size = w1.heap.size + 1 := by simp
      exact .inr (by omega)⟩
  clear hnew hba hO2 ho3 hg3 hgb HO1
  go_wp2_with (at_builtin; refine wpList_append_run hrun rfl rfl rfl rfl ?_; clear hrun)
  go_ret
  exact HP.out
set_option maxRecDepth 100000 in
set_option maxHeartbeats 4000000 in
theorem put_some (B : Nat) (A : Option Addr) (n q c : Nat) (ls : List Lot) (l x : Lot) (w : World) (HO : Hid (LotsOwn w B A n c (ls ++ [l]))) (HQ : Hid (n = q + 1)) (hB : B ≤ w.heap.size) (h0 : x.n ≠ 0) (hl : l.ok) (hx : x.piece) (hn : n < 1000000) :
    Calls Tryz.prog 201 #[.slice A n c, .agg #[.int .i64 x.flow, .int .i64 x.at_, .int .i64 x.n]] w (PutPost B A n c (putL (ls ++ [l]) x) w) := by
  have HLO := Lib.hid hl
  have HPX := Lib.hid hx
  have hlen := HO.out.1
  have hq : q < n := by have := HQ.out; omega
  have hls : ls.length = q := by have := HQ.out; rw [List.length_append, List.length_singleton] at hlen; omega
  obtain ⟨b, rfl, hb1, hb2⟩ := own_some HO.out.2 (by omega)
  obtain ⟨b', off, e, -, htb, l', hl', c0, c1, c2⟩ := HO.out.at_.at_ hq
  injection e with e
  injection e with e1 e2 _
  subst e1 e2
  rw [List.getElem?_append_right (by omega), hls, Nat.sub_self, List.getElem?_cons_zero, Option.some.injEq] at hl'
  subst hl'
  rw [Nat.zero_add] at c0 c1 c2
  obtain ⟨f, a, m⟩ := x
  obtain ⟨f2, a2, m2⟩ := l
  dsimp only at h0 c0 c1 c2
  have hm : (m == 0) = false := by simpa using h0
  have HX := Lib.hid h0
  have hqI : (q : Int) < (n : Int) := by omega
  have hnI : (0 : Int) < (n : Int) := by omega
  have hq0 : (0 : Int) ≤ (q : Int) := by omega
  have hw : IntKind.i64.wrap ((n : Int) - 1) = (q : Int) := by have := HQ.out; rw [IntWalk.i64_in _ (by omega)]; omega
  have hbnd : 0 ≤ m ∧ m ≤ 1099511627776 ∧ 1 ≤ m2 ∧ m2 ≤ 1099511627776 := by
    unfold Lot.piece MaxU at hx
    unfold Lot.ok MaxU at hl
    dsimp only at hx hl
    omega
  have HLS := Lib.hid hls
  have HTB := Lib.hid htb
  clear hl hx hlen hls htb
  go_enter Tryz.func201, Tryz.ntmps201
  go_upto_region 4 with (fail)
  have HB1 := Lib.hid ((Below.refl w.heap.size w).alloc (Nat.le_refl _) (.cells #[.int .i64 f, .int .i64 a, .int .i64 m] 184))
  have hz1 : (w.alloc (.cells #[.int .i64 f, .int .i64 a, .int .i64 m] 184)).heap.size = w.heap.size + 1 := by simp
  have k0 : (w.alloc (.cells #[.int .i64 f, .int .i64 a, .int .i64 m] 184)).cell? ⟨w.heap.size, 0, none⟩ = some (.int .i64 f) := by simp
  have k1 : (w.alloc (.cells #[.int .i64 f, .int .i64 a, .int .i64 m] 184)).cell? ⟨w.heap.size, 1, none⟩ = some (.int .i64 a) := by simp
  have k2 : (w.alloc (.cells #[.int .i64 f, .int .i64 a, .int .i64 m] 184)).cell? ⟨w.heap.size, 2, none⟩ = some (.int .i64 m) := by simp
  have HO1 := Lib.hid (HO.out.all HB1.out)
  have k3 := (HB1.out.cell (p := ⟨b, q * 3, none⟩) hb2).trans c0
  have k4 := (HB1.out.cell (p := ⟨b, q * 3 + 1, none⟩) hb2).trans c1
  have k5 := (HB1.out.cell (p := ⟨b, q * 3 + 2, none⟩) hb2).trans c2
  obtain ⟨w1, hw1⟩ : ∃ w1, w1 = w.alloc (.cells #[.int .i64 f, .int .i64 a, .int .i64 m] 184) := ⟨_, rfl⟩
  rw [← hw1] at HB1 hz1 k0 k1 k2 k3 k4 k5 HO1 ⊢
  obtain ⟨gx, hgx⟩ : ∃ gx, w.heap.size = gx := ⟨_, rfl⟩
  rw [hgx] at k0 k1 k2 ⊢
  have HGX := Lib.hid (show gx < w1.drew.heap.size by show gx < w1.heap.size; omega)
  have HGB := Lib.hid (show b < w1.drew.heap.size by show b < w1.heap.size; omega)
  have HGE := Lib.hid (And.intro hgx (show b ≠ gx by omega))
  have hbx : b < gx := by omega
  have HS4 := Lib.hid (show w1.drew.cell? ⟨gx, 0, none⟩ = some (.int .i64 f) ∧ w1.drew.cell? ⟨gx, 1, none⟩ = some (.int .i64 a) ∧ w1.drew.cell? ⟨gx, 2, none⟩ = some (.int .i64 m) ∧ w1.drew.cell? ⟨b, q * 3, none⟩ = some (.int .i64 f2) ∧ w1.drew.cell? ⟨b, q * 3 + 1, none⟩ = some (.int .i64 a2) ∧ w1.drew.cell? ⟨b, q * 3 + 2, none⟩ = some (.int .i64 m2) from ⟨k0, k1, k2, k3, k4, k5⟩)
  clear hw1 hz1 hgx k0 k1 k2 k3 k4 k5 c0 c1 c2 hb1 hb2
  refine wp_region_held_drew (S := (fun y => y.cell? ⟨gx, 0, none⟩ = some (.int .i64 f) ∧ y.cell? ⟨gx, 1, none⟩ = some (.int .i64 a) ∧ y.cell? ⟨gx, 2, none⟩ = some (.int .i64 m) ∧ y.cell? ⟨b, q * 3, none⟩ = some (.int .i64 f2) ∧ y.cell? ⟨b, q * 3 + 1, none⟩ = some (.int .i64 a2) ∧ y.cell? ⟨b, q * 3 + 2, none⟩ = some (.int .i64 m2))) (by kernel_rfl) HS4.out (fun hHeld => ?_)
  refine takeI 0 (some 12) (v := ?_) ?_ ?_
  rotate_left
  · (intro o ho w hSw; obtain ⟨z0, z1, z2, z3, z4, z5⟩ := hSw; cases ho; go_simp; try with_reducible rfl)
  try simp only [Act.put, pB, pC, pD]
  refine takeI 1 (some 13) (v := (.bool true)) ?_ ?_
  skip
  · (intro o ho w hSw; obtain ⟨z0, z1, z2, z3, z4, z5⟩ := hSw; cases ho; go_simp; omega)
  try simp only [Act.put, pB, pC, pD]
  refine takeI 2 (some 14) (v := ?_) ?_ ?_
  rotate_left
  · (intro o ho w hSw; obtain ⟨z0, z1, z2, z3, z4, z5⟩ := hSw; cases ho; go_simp; try with_reducible rfl)
  try simp only [Act.put, pB, pC, pD]
  first
  | refine skipI 3 (some 15) ?_
  | refine takeI 3 (some 15) (v := ?_) ?_ ?_
    rotate_left
    · (intro o ho w hSw; obtain ⟨z0, z1, z2, z3, z4, z5⟩ := hSw; cases ho; go_simp; try with_reducible rfl)
  try simp only [Act.put, pB, pC, pD]
  first
  | refine skipI 4 (some 16) ?_
  | refine takeI 4 (some 16) (v := ?_) ?_ ?_
    rotate_left
    · (intro o ho w hSw; obtain ⟨z0, z1, z2, z3, z4, z5⟩ := hSw; cases ho; go_simp; try with_reducible rfl)
  try simp only [Act.put, pB, pC, pD]
  first
  | refine skipI 5 (some 17) ?_
  | refine takeI 5 (some 17) (v := ?_) ?_ ?_
    rotate_left
    · (intro o ho w hSw; obtain ⟨z0, z1, z2, z3, z4, z5⟩ := hSw; cases ho; go_simp; try with_reducible rfl)
  try simp only [Act.put, pB, pC, pD]
  first
  | refine skipI 6 (some 18) ?_
  | refine takeI 6 (some 18) (v := ?_) ?_ ?_
    rotate_left
    · (intro o ho w hSw; obtain ⟨z0, z1, z2, z3, z4, z5⟩ := hSw; cases ho; go_simp; try with_reducible rfl)
  try simp only [Act.put, pB, pC, pD]
  first
  | refine skipI 7 (some 19) ?_
  | refine takeI 7 (some 19) (v := ?_) ?_ ?_
    rotate_left
    · (intro o ho w hSw; obtain ⟨z0, z1, z2, z3, z4, z5⟩ := hSw; cases ho; go_simp; try with_reducible rfl)
  try simp only [Act.put, pB, pC, pD]
  first
  | refine skipI 8 (some 20) ?_
  | refine takeI 8 (some 20) (v := ?_) ?_ ?_
    rotate_left
    · (intro o ho w hSw; obtain ⟨z0, z1, z2, z3, z4, z5⟩ := hSw; cases ho; go_simp; try with_reducible rfl)
  try simp only [Act.put, pB, pC, pD]
  refine wpAnyH_ready (rs := [9]) (by kernel_rfl) (by simp) ?_
  refine AllReadyH.cons rfl (fun K hK => ?_) AllReadyH.nil
  go_simp
  go_at_call 215
  (refine (cont_any ⟨f, a, m⟩ ⟨f2, a2, m2⟩ _ HLO.out).mono ?_)
  rintro e w3 ⟨rfl, hb3⟩
  have HB3 := Lib.hid hb3
  have HS3 := Lib.hid (keep6 HB3.out HGX.out HGB.out HS4.out)
  clear hb3
  go_wp2
  refine hK.out _ _ ?_ (fun hH4 => ?_)
  · exact HS3.out
  clear hK K
  try simp only [Act.put, pB, pC, pD]
  refine takeI 10 (some 22) (v := ?_) ?_ ?_
  rotate_left
  · (intro o ho w hSw; obtain ⟨z0, z1, z2, z3, z4, z5⟩ := hSw; cases ho; go_simp; try with_reducible rfl)
  try simp only [Act.put, pB, pC, pD]
  refine wpAnyH_done (by kernel_rfl) ?_ _
  obtain ⟨k0, k1, k2, k3, k4, k5⟩ := HS3.out
  have HB13 := Lib.hid (bt HB1.out (bt (Below.refl w1.heap.size w1).drew HB3.out))
  have HO3 := Lib.hid ((HO1.out.all (Below.refl w1.heap.size w1).drew).all HB3.out)
  obtain ⟨cc, hcc⟩ : ∃ cc, contL ⟨f, a, m⟩ ⟨f2, a2, m2⟩ = cc := ⟨_, rfl⟩
  rw [hcc]
  have HCC := Lib.hid hcc
  clear hcc
  cases cc
  · have hno : ¬ (f = f2 ∧ a = a2 + m2) := by
      have := HCC.out
      unfold contL at this
      simpa using this
    have hput : putL (ls ++ [⟨f2, a2, m2⟩]) ⟨f, a, m⟩ = (ls ++ [⟨f2, a2, m2⟩]) ++ [⟨f, a, m⟩] := by rw [putL_snoc HX.out hno, List.append_assoc]; rfl
    have HPUT := Lib.hid hput
    clear hno hput
    go_upto_region 7 with (fail)
    have hnew := Blk.new w3 184 #[.int .i64 f, .int .i64 a, .int .i64 m]
    have hba := (Below.refl w3.heap.size w3).alloc (Nat.le_refl _) (.cells #[.int .i64 f, .int .i64 a, .int .i64 m] 184)
    have hO2 := HO3.out.all hba
    obtain ⟨g, cap, w5, hrun, ho3, hg3, hgb⟩ := run_append1 (P := Tryz.prog) (ty := 61) slT_lots hO2.2 hnew rfl (by intro u hu; simp at hu; rcases hu with rfl | rfl | rfl <;> rfl) (by omega) (by decide) (by have := HB13.out.size; simp; omega)
    have HP : Hid (PutPost B (some ⟨b, 0, none⟩) n c ((ls ++ [⟨f2, a2, m2⟩]) ++ [⟨f, a, m⟩]) w (.returned (.slice (some ⟨g, 0, none⟩) (n + 1) cap)) w5) := Lib.hid ⟨_, _, _, rfl, ⟨by rw [List.length_append, HO.out.1]; rfl, by rw [List.flatMap_append]; exact ho3⟩, (Mod.of_below _ (bt HB13.out hba)).then_grown hg3 (fun g e => .inl e), fun b hb => by
      have hb' : g = b := by simpa [Value.ownBlock] using hb
      subst hb'
      rcases hgb with e | e
      · exact .inl e.symm
      · have := HB13.out.size
        have h2 : (w3.alloc (.cells #[.int .i64 f, .int .i64 a, .int .i64 m] 184)).heap.size = w3.heap.size + 1 := by simp
        exact .inr (by omega)⟩
    clear hnew hba hO2 ho3 hg3 hgb HO3
    go_wp2_with (at_builtin; refine wpList_append_run hrun rfl rfl rfl rfl ?_; clear hrun)
    go_ret
    rw [HPUT.out]
    exact HP.out
  · have hyes : f = f2 ∧ a = a2 + m2 := by
      have := HCC.out
      unfold contL at this
      simpa using this
    obtain ⟨e1, e2⟩ := hyes
    have hput : putL (ls ++ [⟨f2, a2, m2⟩]) ⟨f, a, m⟩ = ls ++ [⟨f2, a2, m2 + m⟩] := putL_join HX.out e1 e2
    have HPUT := Lib.hid hput
    have hwr : IntKind.i64.wrap (m2 + m) = m2 + m := IntWalk.i64_in _ (by omega)
    have hfz := own_frzL HO3.out.2 (q * 3 + 2)
    have HP : ∀ k, Hid (PutPost B (some ⟨b, 0, none⟩) n c (ls ++ [⟨f2, a2, m2 + m⟩]) w (.returned (.slice (some ⟨b, 0, none⟩) n c)) ((w3.setCell ⟨b, q * 3 + 2, none⟩ (.int .i64 (m2 + m))).drewN k)) := fun k => Lib.hid (by
      have hs := (HO3.out.2.stored (q * 3 + 2) (.int .i64 (m2 + m))).1
      rw [flatT_set lotV 3 lotV_len ⟨f2, a2, m2 + m⟩ 2 (by decide) _ _ q (by rw [List.length_append, HLS.out]; simp) (by rw [List.getElem_append_right (by rw [HLS.out]; exact Nat.le_refl _)]; simp [lotV, HLS.out]), List.set_append_right _ _ (by rw [HLS.out]; exact Nat.le_refl _), HLS.out, Nat.sub_self, List.set_cons_zero] at hs
      have hbk : Below (w3.setCell ⟨b, q * 3 + 2, none⟩ (.int .i64 (m2 + m))).heap.size (w3.setCell ⟨b, q * 3 + 2, none⟩ (.int .i64 (m2 + m))) ((w3.setCell ⟨b, q * 3 + 2, none⟩ (.int .i64 (m2 + m))).drewN k) := below_drewN (Below.refl _ _) k
      have hl : LotsOwn (w3.setCell ⟨b, q * 3 + 2, none⟩ (.int .i64 (m2 + m))) B (some ⟨b, 0, none⟩) n c (ls ++ [⟨f2, a2, m2 + m⟩]) := ⟨by rw [List.length_append, HLS.out, HQ.out]; rfl, hs⟩
      have hm : Mod (fun g => (Value.slice (some ⟨b, 0, none⟩) n c).ownBlock = some g) w (w3.setCell ⟨b, q * 3 + 2, none⟩ (.int .i64 (m2 + m))) := (Mod.of_below (fun g => (Value.slice (some ⟨b, 0, none⟩) n c).ownBlock = some g) HB13.out).set (p := ⟨b, q * 3 + 2, none⟩) (.inl rfl) _
      exact ⟨_, _, _, rfl, hl.all hbk, hm.then_below hbk, fun g hg => .inl hg⟩)
    clear e1 e2 hput
    go_upto_region 5 with (fail)
    go_region
    go_wp2
    go_ret
    rw [HPUT.out]
    exact (HP _).out
end Go.Proofs.YtgepbklpobobbaaGreatDoor

/- share.Split, plain: parts in proportion, by the largest remainders. -/
namespace Go.Proofs.YtgepbklpobobbaaGreatDoor

def wAt (ws : List Int) (i : Nat) : Int := ws[i]?.getD 0
def quoL (n : Int) (ws : List Int) (i : Nat) : Int := n * wAt ws i / sumZ ws
def remL (n : Int) (ws : List Int) (i : Nat) : Int := n * wAt ws i % sumZ ws
/-- i comes before j: it has the greater remainder, or the same one and the lesser index. -/
def befL (n : Int) (ws : List Int) (i j : Nat) : Bool := decide (remL n ws j < remL n ws i ∨ (remL n ws i = remL n ws j ∧ i ≤ j))
def ordL (n : Int) (ws : List Int) : List Nat := (List.range ws.length).mergeSort (befL n ws)
def restL (n : Int) (ws : List Int) : Nat := (n - sumZ ((List.range ws.length).map (quoL n ws))).toNat
def splitL (n : Int) (ws : List Int) : List Int := (List.range ws.length).map fun i => quoL n ws i + if i ∈ (ordL n ws).take (restL n ws) then 1 else 0
theorem sumI_append (a b : List Int) : sumZ (a ++ b) = sumZ a + sumZ b := by
  induction a with
  | nil => simp [sumZ]
  | cons x a ih => simp only [List.cons_append, sumZ, ih]; omega
theorem sumI_map_add {α : Type} (f g : α → Int) (l : List α) : sumZ (l.map fun x => f x + g x) = sumZ (l.map f) + sumZ (l.map g) := by
  induction l with
  | nil => simp [sumZ]
  | cons x l ih => simp only [List.map_cons, sumZ, ih]; omega
theorem sumI_map_mul {α : Type} (c : Int) (f : α → Int) (l : List α) : sumZ (l.map fun x => c * f x) = c * sumZ (l.map f) := by
  induction l with
  | nil => simp [sumZ]
  | cons x l ih => simp only [List.map_cons, sumZ, ih, Int.mul_add]
theorem sumI_wAt (ws : List Int) : sumZ ((List.range ws.length).map (wAt ws)) = sumZ ws := by
  congr 1
  apply List.ext_getElem?
  intro i
  rw [List.getElem?_map]
  by_cases h : i < ws.length
  · simp [wAt, h]
  · rw [List.getElem?_eq_none (by simpa using h), List.getElem?_eq_none (by simpa using h)]
    rfl
theorem sumI_nonneg {l : List Int} (h : ∀ x ∈ l, 0 ≤ x) : 0 ≤ sumZ l := by
  induction l with
  | nil => simp [sumZ]
  | cons x l ih =>
    have h1 := h x (by simp)
    have h2 := ih (fun y hy => h y (by simp [hy]))
    simp only [sumZ]
    omega
/-- A sum of ones over a list without repetition. -/
theorem sumI_ones (t : List Nat) : ∀ (l : List Nat), l.Nodup → t.Nodup → (∀ x ∈ t, x ∈ l) → sumZ (l.map fun i => if i ∈ t then (1 : Int) else 0) = (t.length : Int)
  | [], _, _, h => by
    cases t with
    | nil => rfl
    | cons x t => exact absurd (h x (by simp)) (by simp)
  | a :: l, hl, ht, h => by
    rw [List.nodup_cons] at hl
    simp only [List.map_cons, sumZ]
    by_cases ha : a ∈ t
    · have h1 := sumI_ones (t.erase a) l hl.2 (ht.erase a) (fun x hx => by
        rw [ht.mem_erase_iff] at hx
        rcases List.mem_cons.1 (h x hx.2) with e | e
        · exact absurd e hx.1
        · exact e)
      have h2 : l.map (fun i => if i ∈ t.erase a then (1 : Int) else 0) = l.map (fun i => if i ∈ t then (1 : Int) else 0) := by
        refine List.map_congr_left fun x hx => ?_
        have hxa : x ≠ a := fun e => hl.1 (e ▸ hx)
        have : (x ∈ t.erase a) = (x ∈ t) := by rw [eq_iff_iff, ht.mem_erase_iff]; exact ⟨fun h => h.2, fun h => ⟨hxa, h⟩⟩
        simp only [this]
      rw [h2] at h1
      rw [h1, if_pos ha, List.length_erase_of_mem ha]
      have := List.length_pos_of_mem ha
      omega
    · rw [if_neg ha, sumI_ones t l hl.2 ht (fun x hx => (List.mem_cons.1 (h x hx)).resolve_left (fun e => ha (e ▸ hx)))]
      omega
theorem befL_trans (n : Int) (ws : List Int) (a b c : Nat) (h1 : befL n ws a b = true) (h2 : befL n ws b c = true) : befL n ws a c = true := by
  unfold befL at *
  simp only [decide_eq_true_eq] at *
  omega
theorem befL_total (n : Int) (ws : List Int) (a b : Nat) : (befL n ws a b || befL n ws b a) = true := by
  unfold befL
  simp only [Bool.or_eq_true, decide_eq_true_eq]
  omega
theorem ordL_perm (n : Int) (ws : List Int) : (ordL n ws).Perm (List.range ws.length) := List.mergeSort_perm _ _
theorem ordL_sorted (n : Int) (ws : List Int) : (ordL n ws).Pairwise (fun a b => befL n ws a b = true) := by
  have := List.pairwise_mergeSort (le := befL n ws) (fun a b c h1 h2 => befL_trans n ws a b c h1 h2) (fun a b => befL_total n ws a b) (List.range ws.length)
  exact this
theorem ordL_nodup (n : Int) (ws : List Int) : (ordL n ws).Nodup := (ordL_perm n ws).nodup_iff.2 List.nodup_range
/-- What is left over after the quotients: the remainders make it up. -/
theorem rest_eq {n : Int} {ws : List Int} : (n - sumZ ((List.range ws.length).map (quoL n ws))) * sumZ ws = sumZ ((List.range ws.length).map (remL n ws)) := by
  have h1 : ∀ i, n * wAt ws i = sumZ ws * quoL n ws i + remL n ws i := fun i => by
    unfold quoL remL
    exact (Int.mul_ediv_add_emod _ _).symm
  have h2 : sumZ ((List.range ws.length).map fun i => n * wAt ws i) = sumZ ((List.range ws.length).map fun i => sumZ ws * quoL n ws i + remL n ws i) := by
    congr 1
    exact List.map_congr_left fun i _ => h1 i
  rw [sumI_map_mul, sumI_wAt, sumI_map_add, sumI_map_mul] at h2
  rw [Int.sub_mul, h2, Int.mul_comm (sumZ ws) (sumZ (List.map (quoL n ws) _))]
  omega
theorem rem_lt {n : Int} {ws : List Int} (hS : 0 < sumZ ws) (i : Nat) : 0 ≤ remL n ws i ∧ remL n ws i < sumZ ws := ⟨Int.emod_nonneg _ (by omega), Int.emod_lt_of_pos _ hS⟩
theorem sumI_lt {f : Nat → Int} {S : Int} : ∀ (l : List Nat), (∀ i ∈ l, 0 ≤ f i ∧ f i < S) → sumZ (l.map f) ≤ S * ((l.filter fun i => decide (0 < f i)).length : Int) ∧ ((∃ i ∈ l, 0 < f i) → sumZ (l.map f) < S * ((l.filter fun i => decide (0 < f i)).length : Int)) ∧ 0 ≤ sumZ (l.map f)
  | [], _ => by simp [sumZ]
  | a :: l, h => by
    obtain ⟨h1, h2, h3⟩ := sumI_lt l (fun i hi => h i (by simp [hi]))
    obtain ⟨a0, a1⟩ := h a (by simp)
    simp only [List.map_cons, sumZ]
    by_cases ha : 0 < f a
    · rw [List.filter_cons_of_pos (by simpa using ha), List.length_cons]
      have e : S * (((l.filter fun i => decide (0 < f i)).length + 1 : Nat) : Int) = S * ((l.filter fun i => decide (0 < f i)).length : Int) + S := by
        rw [Int.natCast_add, Int.mul_add]
        simp
      rw [e]
      exact ⟨by omega, fun _ => by omega, by omega⟩
    · rw [List.filter_cons_of_neg (by simpa using ha)]
      refine ⟨by omega, ?_, by omega⟩
      rintro ⟨i, hi, hp⟩
      rcases List.mem_cons.1 hi with rfl | hi
      · exact absurd hp ha
      · have := h2 ⟨i, hi, hp⟩
        omega
/-- Not more are left than have a remainder; all of them are before the others. -/
theorem rest_le {n : Int} {ws : List Int} (hS : 0 < sumZ ws) : (0 ≤ n - sumZ ((List.range ws.length).map (quoL n ws))) ∧ (restL n ws) ≤ ((List.range ws.length).filter fun i => decide (0 < remL n ws i)).length := by
  have h1 := rest_eq (n := n) (ws := ws)
  obtain ⟨h2, -, h3⟩ := sumI_lt (f := remL n ws) (List.range ws.length) (fun i _ => rem_lt hS i)
  rw [← h1] at h2 h3
  have h4 : 0 ≤ n - sumZ ((List.range ws.length).map (quoL n ws)) := by
    rcases Int.lt_or_le (n - sumZ ((List.range ws.length).map (quoL n ws))) 0 with h | h
    · have := Int.mul_neg_of_neg_of_pos h hS
      omega
    · exact h
  refine ⟨h4, ?_⟩
  have h5 : n - sumZ ((List.range ws.length).map (quoL n ws)) ≤ (((List.range ws.length).filter fun i => decide (0 < remL n ws i)).length : Int) := by
    rw [Int.mul_comm] at h2
    exact Int.le_of_mul_le_mul_left h2 hS
  unfold restL
  omega
theorem take_rem {n : Int} {ws : List Int} (hS : 0 < sumZ ws) {i : Nat} (hi : i ∈ (ordL n ws).take (restL n ws)) : 0 < remL n ws i := by
  rcases Int.lt_or_le 0 (remL n ws i) with h | h
  · exact h
  · exfalso
    have h0 : remL n ws i = 0 := by have := (rem_lt (n := n) hS i).1; omega
    obtain ⟨k, hk, hki⟩ := List.getElem_of_mem hi
    rw [List.length_take] at hk
    rw [List.getElem_take] at hki
    -- all with a remainder stand before k
    have hsub : ((ordL n ws).filter fun i => decide (0 < remL n ws i)).length ≤ k := by
      have hsplit : ordL n ws = (ordL n ws).take k ++ (ordL n ws).drop k := (List.take_append_drop k _).symm
      have hdrop : ((ordL n ws).drop k).filter (fun i => decide (0 < remL n ws i)) = [] := by
        rw [List.filter_eq_nil_iff]
        intro j hj
        obtain ⟨m, hm, hmj⟩ := List.getElem_of_mem hj
        rw [List.length_drop] at hm
        rw [List.getElem_drop] at hmj
        simp only [decide_eq_true_eq]
        rcases Nat.eq_zero_or_pos m with h0m | hpos
        · subst h0m
          simp only [Nat.add_zero] at hmj
          rw [hki] at hmj
          rw [← hmj, h0]
          omega
        · have hb := List.pairwise_iff_getElem.1 (ordL_sorted n ws) k (k + m) (by omega) (by omega) (by omega)
          rw [hki, hmj] at hb
          unfold befL at hb
          simp only [decide_eq_true_eq] at hb
          omega
      rw [hsplit, List.filter_append, hdrop, List.append_nil]
      exact Nat.le_trans (List.length_filter_le _ _) (by rw [List.length_take]; omega)
    have hcount : ((ordL n ws).filter fun i => decide (0 < remL n ws i)).length = ((List.range ws.length).filter fun i => decide (0 < remL n ws i)).length := ((ordL_perm n ws).filter _).length_eq
    have := (rest_le (n := n) hS).2
    omega
theorem rest_len {n : Int} {ws : List Int} (hS : 0 < sumZ ws) : restL n ws ≤ ws.length := by
  have h1 := (rest_le (n := n) hS).2
  have h2 := List.length_filter_le (fun i => decide (0 < remL n ws i)) (List.range ws.length)
  rw [List.length_range] at h2
  omega
theorem splitL_len (n : Int) (ws : List Int) : (splitL n ws).length = ws.length := by simp [splitL]
theorem splitL_sum {n : Int} {ws : List Int} (hS : 0 < sumZ ws) : sumZ (splitL n ws) = n := by
  unfold splitL
  rw [sumI_map_add]
  have hnd : ((ordL n ws).take (restL n ws)).Nodup := (List.take_sublist _ _).nodup (ordL_nodup n ws)
  rw [sumI_ones _ _ List.nodup_range hnd (fun x hx => (ordL_perm n ws).mem_iff.1 ((List.take_sublist _ _).subset hx)), List.length_take, (ordL_perm n ws).length_eq, List.length_range]
  have h1 := rest_len (n := n) hS
  have h2 := (rest_le (n := n) hS).1
  have h3 : (restL n ws : Int) = n - sumZ ((List.range ws.length).map (quoL n ws)) := by unfold restL; omega
  rw [Nat.min_eq_left h1, h3]
  have e : ((List.range ws.length).map fun i => quoL n ws i) = (List.range ws.length).map (quoL n ws) := rfl
  rw [e]
  omega
theorem splitL_bound {n : Int} {ws : List Int} (h0 : 0 ≤ n) (hS : 0 < sumZ ws) (hn : n ≤ sumZ ws) (hw : ∀ w ∈ ws, 0 ≤ w) {i : Nat} (hi : i < ws.length) : ∃ c, (splitL n ws)[i]? = some c ∧ 0 ≤ c ∧ c ≤ wAt ws i := by
  have hwi : 0 ≤ wAt ws i := by
    unfold wAt
    rw [List.getElem?_eq_getElem hi]
    exact hw _ (List.getElem_mem hi)
  refine ⟨_, by unfold splitL; rw [List.getElem?_map, List.getElem?_range hi]; rfl, ?_, ?_⟩
  · have : 0 ≤ quoL n ws i := Int.ediv_nonneg (Int.mul_nonneg h0 hwi) (by omega)
    dsimp only
    split <;> omega
  · have hq : sumZ ws * quoL n ws i + remL n ws i = n * wAt ws i := Int.mul_ediv_add_emod _ _
    have hm : n * wAt ws i ≤ sumZ ws * wAt ws i := Int.mul_le_mul_of_nonneg_right hn hwi
    dsimp only
    split
    · rename_i hin
      have hr := take_rem hS hin
      have : sumZ ws * quoL n ws i < sumZ ws * wAt ws i := by omega
      have := Int.lt_of_mul_lt_mul_left this (by omega)
      omega
    · have hr := (rem_lt (n := n) hS i).1
      have : sumZ ws * quoL n ws i ≤ sumZ ws * wAt ws i := by omega
      have := Int.le_of_mul_le_mul_left this hS
      omega
theorem cntOk_of : ∀ (ls : List Lot) (cs : List Int), cs.length = ls.length → (∀ (i : Nat) (h : i < ls.length), ∃ c, cs[i]? = some c ∧ 0 ≤ c ∧ c ≤ ls[i].n) → CntOk ls cs
  | [], [], _, _ => trivial
  | [], _ :: _, h, _ => by simp at h
  | _ :: _, [], h, _ => by simp at h
  | l :: ls, c :: cs, h, hi => by
    obtain ⟨c', h1, h2, h3⟩ := hi 0 (by simp)
    simp only [List.getElem?_cons_zero, Option.some.injEq] at h1
    subst h1
    refine ⟨h2, h3, cntOk_of ls cs (by simpa using h) (fun i hh => ?_)⟩
    have := hi (i + 1) (by simpa using hh)
    simpa using this
theorem split_cnt {ls : List Lot} {n : Int} (hok : LotsOk ls) (h0 : 1 ≤ n) (hn : n ≤ totL ls) : CntOk ls (splitL n (ls.map Lot.n)) ∧ sumZ (splitL n (ls.map Lot.n)) = n := by
  have htot : sumZ (ls.map Lot.n) = totL ls := by
    clear hok hn
    induction ls with
    | nil => rfl
    | cons l ls ih => simp [sumZ, totL, ih]
  have hS : 0 < sumZ (ls.map Lot.n) := by omega
  have hw : ∀ w ∈ ls.map Lot.n, 0 ≤ w := by
    intro w hwm
    obtain ⟨l, hl, rfl⟩ := List.mem_map.1 hwm
    have := hok l hl
    unfold Lot.ok at this
    omega
  refine ⟨cntOk_of _ _ (by rw [splitL_len, List.length_map]) (fun i hi => ?_), splitL_sum hS⟩
  obtain ⟨c, h1, h2, h3⟩ := splitL_bound (n := n) (by omega) hS (by omega) hw (i := i) (by rw [List.length_map]; exact hi)
  refine ⟨c, h1, h2, ?_⟩
  unfold wAt at h3
  simpa [hi] using h3
end Go.Proofs.YtgepbklpobobbaaGreatDoor

/- A range over a function whose iterator keeps a state in memory: one law for the caller. -/
namespace Go.Proofs.YtgepbklpobobbaaGreatDoor
open Go.RowKit Go.Shelf

/-- How a round's body may be left: going on in the next state, or leaving by a jump. -/
def statePost (B : Nat) (I : World → Prop) (Ix : Code → World → Prop) (W : World) : Exit → Act → World → Prop
  | .normal, _, W' => KeepsFrom B W W' ∧ I W'
  | .ret, _, W' => KeepsFrom B W W' ∧ Ix .ret W'
  | .exit id, _, W' => KeepsFrom B W W' ∧ Ix (.exit id) W'
  | .goto t, _, W' => KeepsFrom B W W' ∧ Ix (.goto t) W'
  | .panic _, _, _ => False
  | .outgrown, _, _ => False

/-- The iterator's promise: 'Iy s x W': it stands at yield with the value x, in state s; a round that goes on leads to 'I (nxt s x)'; R: what the law keeps of the loop's own record. -/
def SeqState {α β : Type} (F : Fence) (n : Nat) (P : Program) (gf : Nat) (lb : Array Value) (encs : α → Array Value) (B : Nat) (I : β → World → Prop) (Iy : β → α → World → Prop) (nxt : β → α → β) (Ix : Code → β → World → Prop) (s0 : β) (Fin : β → Prop) : Prop :=
  ∀ (l : Nat) (R : World → Prop) (Rx : Code → World → Prop), (∀ W W', R W → KeepsFrom B W W' → R W') →
    (∀ s x W, Iy s x W → R W → YieldAt F (n - 1) P l (encs x) W fun e W' => (e = .returned (.bool true) ∧ I (nxt s x) W' ∧ R W') ∨ (e = .returned (.bool false) ∧ ∃ c, Ix c (nxt s x) W' ∧ Rx c W')) →
    ∀ W, I s0 W → R W → CallsIn F n P gf (#[.func (.yield l) #[] #[]] ++ lb) W fun e W' => (∃ v, e = .returned v) ∧ ((∃ s, Fin s ∧ I s W' ∧ R W') ∨ ∃ c s, Ix c s W' ∧ Rx c W')

variable {F : Fence} {n : Nat} {P : Program}

end Go.Proofs.YtgepbklpobobbaaGreatDoor
