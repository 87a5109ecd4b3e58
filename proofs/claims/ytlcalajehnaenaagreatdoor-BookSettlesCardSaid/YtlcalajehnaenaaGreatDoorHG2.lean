/- share.Split, plain: parts in proportion, by the largest remainders. -/
import Derived.Test.YtlcalajehnaenaaGreatDoorHG0
import Derived.RangeFuncNested
import Derived.RangeFuncBound
import Derived.RangeFuncCalls
import Derived.RangeFuncLeaves
import Derived.RangeFuncBox
import Derived.Shelf.Abstract
import Derived.Shelf.RegionOpen
import Derived.WalkKit
import Derived.OwnWalkIn
import Derived.TacticsInMore
import Derived.LoopNIn
import Derived.LoopIn
import Derived.Test.YtlcalajehnaenaaGreatDoorHG1
import Derived.Deep.DeepCutAuto
namespace Go.Proofs.YtlcalajehnaenaaGreatDoor
def wAt (ws : List Int) (i : Nat) : Int := ws[i]?.getD 0
def quoL (n : Int) (ws : List Int) (i : Nat) : Int := n * wAt ws i / sumZ ws
def remL (n : Int) (ws : List Int) (i : Nat) : Int := n * wAt ws i % sumZ ws
def befL (n : Int) (ws : List Int) (i j : Nat) : Bool := decide (remL n ws j < remL n ws i ∨ (remL n ws i = remL n ws j ∧ i ≤ j))
def ordL (n : Int) (ws : List Int) : List Nat := (List.range ws.length).mergeSort (befL n ws)
def restL (n : Int) (ws : List Int) : Nat := (n - sumZ ((List.range ws.length).map (quoL n ws))).toNat
def splitL (n : Int) (ws : List Int) : List Int := (List.range ws.length).map fun i => quoL n ws i + if i ∈ (ordL n ws).take (restL n ws) then 1 else 0
theorem sumI_append (a b : List Int) : sumZ (a ++ b) = sumZ a + sumZ b := by
 induction a with
 | nil => simp [sumZ]
 | cons x a ih => simp only [List.cons_append, sumZ, ih]; omega
theorem sumI_map_add {α : Type} (f g : α → Int) (l : List α) : sumZ (l.map fun x => f x + g x) = sumZ (l.map f) + sumZ (l.map g) := by
 induction l with
 | nil => simp [sumZ]
 | cons x l ih => simp only [List.map_cons, sumZ, ih]; omega
theorem sumI_map_mul {α : Type} (c : Int) (f : α → Int) (l : List α) : sumZ (l.map fun x => c * f x) = c * sumZ (l.map f) := by
 induction l with
 | nil => simp [sumZ]
 | cons x l ih => simp only [List.map_cons, sumZ, ih, Int.mul_add]
theorem sumI_wAt (ws : List Int) : sumZ ((List.range ws.length).map (wAt ws)) = sumZ ws := by
 congr 1
 apply List.ext_getElem?
 intro i
 rw [List.getElem?_map]
 by_cases h : i < ws.length
 ·simp [wAt, h]
 ·rw [List.getElem?_eq_none (by simpa using h), List.getElem?_eq_none (by simpa using h)]
  rfl
theorem sumI_nonneg {l : List Int} (h : ∀ x ∈ l, 0 ≤ x) : 0 ≤ sumZ l := by
 induction l with
 | nil => simp [sumZ]
 | cons x l ih =>
   have h1 := h x (by simp)
   have h2 := ih (fun y hy => h y (by simp [hy]))
   simp only [sumZ]
   omega
theorem sumI_ones (t : List Nat) : ∀ (l : List Nat), l.Nodup → t.Nodup → (∀ x ∈ t, x ∈ l) → sumZ (l.map fun i => if i ∈ t then (1 : Int) else 0) = (t.length : Int)
 | [], _, _, h => by
   cases t with
   | nil => rfl
   | cons x t => exact absurd (h x (by simp)) (by simp)
 | a :: l, hl, ht, h => by
   rw [List.nodup_cons] at hl
   simp only [List.map_cons, sumZ]
   by_cases ha : a ∈ t
   ·have h1 := sumI_ones (t.erase a) l hl.2 (ht.erase a) (fun x hx => by
     rw [ht.mem_erase_iff] at hx
     rcases List.mem_cons.1 (h x hx.2) with e | e
     ·exact absurd e hx.1
     ·exact e)
    have h2 : l.map (fun i => if i ∈ t.erase a then (1 : Int) else 0) = l.map (fun i => if i ∈ t then (1 : Int) else 0) := by
     refine List.map_congr_left fun x hx => ?_
     have hxa : x ≠ a := fun e => hl.1 (e ▸ hx)
     have : (x ∈ t.erase a) = (x ∈ t) := by rw [eq_iff_iff, ht.mem_erase_iff]; exact ⟨fun h => h.2, fun h => ⟨hxa, h⟩⟩
     simp only [this]
    rw [h2] at h1
    rw [h1, if_pos ha, List.length_erase_of_mem ha]
    have := List.length_pos_of_mem ha
    omega
   ·rw [if_neg ha, sumI_ones t l hl.2 ht (fun x hx => (List.mem_cons.1 (h x hx)).resolve_left (fun e => ha (e ▸ hx)))]
    omega
theorem befL_trans (n : Int) (ws : List Int) (a b c : Nat) (h1 : befL n ws a b = true) (h2 : befL n ws b c = true) : befL n ws a c = true := by
 unfold befL at *
 simp only [decide_eq_true_eq] at *
 omega
theorem befL_total (n : Int) (ws : List Int) (a b : Nat) : (befL n ws a b || befL n ws b a) = true := by
 unfold befL
 simp only [Bool.or_eq_true, decide_eq_true_eq]
 omega
theorem ordL_perm (n : Int) (ws : List Int) : (ordL n ws).Perm (List.range ws.length) := List.mergeSort_perm _ _
theorem ordL_sorted (n : Int) (ws : List Int) : (ordL n ws).Pairwise (fun a b => befL n ws a b = true) := by
 have := List.pairwise_mergeSort (le := befL n ws) (fun a b c h1 h2 => befL_trans n ws a b c h1 h2) (fun a b => befL_total n ws a b) (List.range ws.length)
 exact this
theorem ordL_nodup (n : Int) (ws : List Int) : (ordL n ws).Nodup := (ordL_perm n ws).nodup_iff.2 List.nodup_range
theorem rest_eq {n : Int} {ws : List Int} : (n - sumZ ((List.range ws.length).map (quoL n ws))) * sumZ ws = sumZ ((List.range ws.length).map (remL n ws)) := by
 have h1 : ∀ i, n * wAt ws i = sumZ ws * quoL n ws i + remL n ws i := fun i => by
  unfold quoL remL
  exact (Int.mul_ediv_add_emod _ _).symm
 have h2 : sumZ ((List.range ws.length).map fun i => n * wAt ws i) = sumZ ((List.range ws.length).map fun i => sumZ ws * quoL n ws i + remL n ws i) := by
  congr 1
  exact List.map_congr_left fun i _ => h1 i
 rw [sumI_map_mul, sumI_wAt, sumI_map_add, sumI_map_mul] at h2
 rw [Int.sub_mul, h2, Int.mul_comm (sumZ ws) (sumZ (List.map (quoL n ws) _))]
 omega
theorem rem_lt {n : Int} {ws : List Int} (hS : 0 < sumZ ws) (i : Nat) : 0 ≤ remL n ws i ∧ remL n ws i < sumZ ws := ⟨Int.emod_nonneg _ (by omega), Int.emod_lt_of_pos _ hS⟩
theorem sumI_lt {f : Nat → Int} {S : Int} : ∀ (l : List Nat), (∀ i ∈ l, 0 ≤ f i ∧ f i < S) → sumZ (l.map f) ≤ S * ((l.filter fun i => decide (0 < f i)).length : Int) ∧ ((∃ i ∈ l, 0 < f i) → sumZ (l.map f) < S * ((l.filter fun i => decide (0 < f i)).length : Int)) ∧ 0 ≤ sumZ (l.map f)
 | [], _ => by simp [sumZ]
 | a :: l, h => by
   obtain ⟨h1, h2, h3⟩ := sumI_lt l (fun i hi => h i (by simp [hi]))
   obtain ⟨a0, a1⟩ := h a (by simp)
   simp only [List.map_cons, sumZ]
   by_cases ha : 0 < f a
   ·rw [List.filter_cons_of_pos (by simpa using ha), List.length_cons]
    have e : S * (((l.filter fun i => decide (0 < f i)).length + 1 : Nat) : Int) = S * ((l.filter fun i => decide (0 < f i)).length : Int) + S := by
     rw [Int.natCast_add, Int.mul_add]
     simp
    rw [e]
    exact ⟨by omega, fun _ => by omega, by omega⟩
   ·rw [List.filter_cons_of_neg (by simpa using ha)]
    refine ⟨by omega, ?_, by omega⟩
    rintro ⟨i, hi, hp⟩
    rcases List.mem_cons.1 hi with rfl | hi
    ·exact absurd hp ha
    ·have := h2 ⟨i, hi, hp⟩
     omega
theorem rest_le {n : Int} {ws : List Int} (hS : 0 < sumZ ws) : (0 ≤ n - sumZ ((List.range ws.length).map (quoL n ws))) ∧ (restL n ws) ≤ ((List.range ws.length).filter fun i => decide (0 < remL n ws i)).length := by
 have h1 := rest_eq (n := n) (ws := ws)
 obtain ⟨h2, -, h3⟩ := sumI_lt (f := remL n ws) (List.range ws.length) (fun i _ => rem_lt hS i)
 rw [← h1] at h2 h3
 have h4 : 0 ≤ n - sumZ ((List.range ws.length).map (quoL n ws)) := by
  rcases Int.lt_or_le (n - sumZ ((List.range ws.length).map (quoL n ws))) 0 with h | h
  ·have := Int.mul_neg_of_neg_of_pos h hS
   omega
  ·exact h
 refine ⟨h4, ?_⟩
 have h5 : n - sumZ ((List.range ws.length).map (quoL n ws)) ≤ (((List.range ws.length).filter fun i => decide (0 < remL n ws i)).length : Int) := by
  rw [Int.mul_comm] at h2
  exact Int.le_of_mul_le_mul_left h2 hS
 unfold restL
 omega
theorem take_rem {n : Int} {ws : List Int} (hS : 0 < sumZ ws) {i : Nat} (hi : i ∈ (ordL n ws).take (restL n ws)) : 0 < remL n ws i := by
 rcases Int.lt_or_le 0 (remL n ws i) with h | h
 ·exact h
 ·exfalso
  have h0 : remL n ws i = 0 := by have := (rem_lt (n := n) hS i).1; omega
  obtain ⟨k, hk, hki⟩ := List.getElem_of_mem hi
  rw [List.length_take] at hk
  rw [List.getElem_take] at hki
  have hsub : ((ordL n ws).filter fun i => decide (0 < remL n ws i)).length ≤ k := by
   have hsplit : ordL n ws = (ordL n ws).take k ++ (ordL n ws).drop k := (List.take_append_drop k _).symm
   have hdrop : ((ordL n ws).drop k).filter (fun i => decide (0 < remL n ws i)) = [] := by
    rw [List.filter_eq_nil_iff]
    intro j hj
    obtain ⟨m, hm, hmj⟩ := List.getElem_of_mem hj
    rw [List.length_drop] at hm
    rw [List.getElem_drop] at hmj
    simp only [decide_eq_true_eq]
    rcases Nat.eq_zero_or_pos m with h0m | hpos
    ·subst h0m
     simp only [Nat.add_zero] at hmj
     rw [hki] at hmj
     rw [← hmj, h0]
     omega
    ·have hb := List.pairwise_iff_getElem.1 (ordL_sorted n ws) k (k + m) (by omega) (by omega) (by omega)
     rw [hki, hmj] at hb
     unfold befL at hb
     simp only [decide_eq_true_eq] at hb
     omega
   rw [hsplit, List.filter_append, hdrop, List.append_nil]
   exact Nat.le_trans (List.length_filter_le _ _) (by rw [List.length_take]; omega)
  have hcount : ((ordL n ws).filter fun i => decide (0 < remL n ws i)).length = ((List.range ws.length).filter fun i => decide (0 < remL n ws i)).length := ((ordL_perm n ws).filter _).length_eq
  have := (rest_le (n := n) hS).2
  omega
theorem rest_len {n : Int} {ws : List Int} (hS : 0 < sumZ ws) : restL n ws ≤ ws.length := by
 have h1 := (rest_le (n := n) hS).2
 have h2 := List.length_filter_le (fun i => decide (0 < remL n ws i)) (List.range ws.length)
 rw [List.length_range] at h2
 omega
theorem splitL_len (n : Int) (ws : List Int) : (splitL n ws).length = ws.length := by simp [splitL]
theorem splitL_sum {n : Int} {ws : List Int} (hS : 0 < sumZ ws) : sumZ (splitL n ws) = n := by
 unfold splitL
 rw [sumI_map_add]
 have hnd : ((ordL n ws).take (restL n ws)).Nodup := (List.take_sublist _ _).nodup (ordL_nodup n ws)
 rw [sumI_ones _ _ List.nodup_range hnd (fun x hx => (ordL_perm n ws).mem_iff.1 ((List.take_sublist _ _).subset hx)), List.length_take, (ordL_perm n ws).length_eq, List.length_range]
 have h1 := rest_len (n := n) hS
 have h2 := (rest_le (n := n) hS).1
 have h3 : (restL n ws : Int) = n - sumZ ((List.range ws.length).map (quoL n ws)) := by unfold restL; omega
 rw [Nat.min_eq_left h1, h3]
 have e : ((List.range ws.length).map fun i => quoL n ws i) = (List.range ws.length).map (quoL n ws) := rfl
 rw [e]
 omega
theorem splitL_bound {n : Int} {ws : List Int} (h0 : 0 ≤ n) (hS : 0 < sumZ ws) (hn : n ≤ sumZ ws) (hw : ∀ w ∈ ws, 0 ≤ w) {i : Nat} (hi : i < ws.length) : ∃ c, (splitL n ws)[i]? = some c ∧ 0 ≤ c ∧ c ≤ wAt ws i := by
 have hwi : 0 ≤ wAt ws i := by
  unfold wAt
  rw [List.getElem?_eq_getElem hi]
  exact hw _ (List.getElem_mem hi)
 refine ⟨_, by unfold splitL; rw [List.getElem?_map, List.getElem?_range hi]; rfl, ?_, ?_⟩
 ·have : 0 ≤ quoL n ws i := Int.ediv_nonneg (Int.mul_nonneg h0 hwi) (by omega)
  dsimp only
  split <;> omega
 ·have hq : sumZ ws * quoL n ws i + remL n ws i = n * wAt ws i := Int.mul_ediv_add_emod _ _
  have hm : n * wAt ws i ≤ sumZ ws * wAt ws i := Int.mul_le_mul_of_nonneg_right hn hwi
  dsimp only
  split
  ·rename_i hin
   have hr := take_rem hS hin
   have : sumZ ws * quoL n ws i < sumZ ws * wAt ws i := by omega
   have := Int.lt_of_mul_lt_mul_left this (by omega)
   omega
  ·have hr := (rem_lt (n := n) hS i).1
   have : sumZ ws * quoL n ws i ≤ sumZ ws * wAt ws i := by omega
   have := Int.le_of_mul_le_mul_left this hS
   omega
theorem cntOk_of : ∀ (ls : List Lot) (cs : List Int), cs.length = ls.length → (∀ (i : Nat) (h : i < ls.length), ∃ c, cs[i]? = some c ∧ 0 ≤ c ∧ c ≤ ls[i].n) → CntOk ls cs
 | [], [], _, _ => trivial
 | [], _ :: _, h, _ => by simp at h
 | _ :: _, [], h, _ => by simp at h
 | l :: ls, c :: cs, h, hi => by
   obtain ⟨c', h1, h2, h3⟩ := hi 0 (by simp)
   simp only [List.getElem?_cons_zero, Option.some.injEq] at h1
   subst h1
   refine ⟨h2, h3, cntOk_of ls cs (by simpa using h) (fun i hh => ?_)⟩
   have := hi (i + 1) (by simpa using hh)
   simpa using this
theorem split_cnt {ls : List Lot} {n : Int} (hok : LotsOk ls) (h0 : 1 ≤ n) (hn : n ≤ totL ls) : CntOk ls (splitL n (ls.map Lot.n)) ∧ sumZ (splitL n (ls.map Lot.n)) = n := by
 have htot : sumZ (ls.map Lot.n) = totL ls := by
  clear hok hn
  induction ls with
  | nil => rfl
  | cons l ls ih => simp [sumZ, totL, ih]
 have hS : 0 < sumZ (ls.map Lot.n) := by omega
 have hw : ∀ w ∈ ls.map Lot.n, 0 ≤ w := by
  intro w hwm
  obtain ⟨l, hl, rfl⟩ := List.mem_map.1 hwm
  have := hok l hl
  unfold Lot.ok at this
  omega
 refine ⟨cntOk_of _ _ (by rw [splitL_len, List.length_map]) (fun i hi => ?_), splitL_sum hS⟩
 obtain ⟨c, h1, h2, h3⟩ := splitL_bound (n := n) (by omega) hS (by omega) hw (i := i) (by rw [List.length_map]; exact hi)
 refine ⟨c, h1, h2, ?_⟩
 unfold wAt at h3
 simpa [hi] using h3
end Go.Proofs.YtlcalajehnaenaaGreatDoor
namespace Go.Proofs.YtlcalajehnaenaaGreatDoor
open Go.RowKit Go.Shelf
def statePost (B : Nat) (I : World → Prop) (Ix : Code → World → Prop) (W : World) : Exit → Act → World → Prop
 | .normal, _, W' => KeepsFrom B W W' ∧ I W'
 | .ret, _, W' => KeepsFrom B W W' ∧ Ix .ret W'
 | .exit id, _, W' => KeepsFrom B W W' ∧ Ix (.exit id) W'
 | .goto t, _, W' => KeepsFrom B W W' ∧ Ix (.goto t) W'
 | .panic _, _, _ => False
 | .outgrown, _, _ => False
def SeqState {α β : Type} (F : Fence) (n : Nat) (P : Program) (gf : Nat) (lb : Array Value) (encs : α → Array Value) (B : Nat) (I : β → World → Prop) (Iy : β → α → World → Prop) (nxt : β → α → β) (Ix : Code → β → World → Prop) (s0 : β) (Fin : β → Prop) : Prop :=
 ∀ (l : Nat) (R : World → Prop) (Rx : Code → World → Prop), (∀ W W', R W → KeepsFrom B W W' → R W') →
  (∀ s x W, Iy s x W → R W → YieldAt F (n - 1) P l (encs x) W fun e W' => (e = .returned (.bool true) ∧ I (nxt s x) W' ∧ R W') ∨ (e = .returned (.bool false) ∧ ∃ c, Ix c (nxt s x) W' ∧ Rx c W')) →
  ∀ W, I s0 W → R W → CallsIn F n P gf (#[.func (.yield l) #[] #[]] ++ lb) W fun e W' => (∃ v, e = .returned v) ∧ ((∃ s, Fin s ∧ I s W' ∧ R W') ∨ ∃ c s, Ix c s W' ∧ Rx c W')
variable {F : Fence} {n : Nat} {P : Program}
end Go.Proofs.YtlcalajehnaenaaGreatDoor
namespace Go.Proofs.YtlcalajehnaenaaGreatDoor
open Go.RowKit Go.Shelf
theorem put_any (B : Nat) (A : Option Addr) (n c : Nat) (ls : List Lot) (x : Lot) (w : World) (HO : Hid (LotsOwn w B A n c ls)) (HK : Hid (LotsOk ls)) (hB : B ≤ w.heap.size) (hx : x.piece) (hn : n < 1000000) :
 Calls Tryz.prog 193 #[.slice A n c, .agg #[.int .i64 x.flow, .int .i64 x.at_, .int .i64 x.n]] w (PutPost B A n c (putL ls x) w) := by
 by_cases h0 : x.n = 0
 ·exact put_zero B A n c ls x w HO h0
 ·rcases snoc_cases ls with rfl | ⟨a, l, rfl⟩
  ·obtain rfl : n = 0 := HO.out.1.symm
   exact put_nil B A c x w HO hB h0
  ·exact put_some B A n a.length c a l x w HO (Lib.hid (by rw [← HO.out.1, List.length_append]; rfl)) hB h0 (HK.out l (by simp)) hx hn
def RecL (B : Nat) (W : World) (b : Nat) : Prop := B ≤ b ∧ ∃ o, W.heap[b]? = some o ∧ o.isCells = false
theorem RecL.not_ty {B : Nat} {W : World} {b : Nat} {t : TypeId} (h : RecL B W b) (h' : Ty W b t) : False := by
 obtain ⟨-, o, h1, h2⟩ := h
 obtain ⟨cs, fr, h3⟩ := h'
 rw [h1] at h3
 injection h3 with h3
 rw [h3] at h2
 cases h2
theorem keepsFrom_mod {F : Nat → Prop} {B : Nat} {W W' : World} (m : Mod F W W') (hF : ∀ b, F b → ∃ t, Ty W b t) : KeepsFrom B W W' :=
 ⟨m.size, fun k o _ hk ho => (m.block k (Array.getElem?_eq_some_iff.1 hk).1 (fun hf => by
  obtain ⟨t, cs, fr, h⟩ := hF k hf
  rw [hk] at h
  injection h with h
  rw [h] at ho
  cases ho)).trans hk⟩
structure DivB (w : World) (B : Nat) (Fc : Nat → Prop) (b4 b5 : Nat) (st : List Lot × List Lot) (V1 V2 : Sl) (W : World) : Prop where
 c4 : Blk W b4 38 #[slV V1]
 c5 : Blk W b5 38 #[slV V2]
 o1 : LotsOwn W B V1.1 V1.2.1 V1.2.2 st.1
 o2 : LotsOwn W B V2.1 V2.2.1 V2.2.2 st.2
 k1 : LotsOk st.1
 k2 : LotsOk st.2
 ap : ∀ b, (slV V1).ownBlock = some b → (slV V2).ownBlock ≠ some b
 mo : Mod Fc w W
 lt : b4 < B ∧ b5 < B ∧ w.heap.size ≤ b4 ∧ w.heap.size ≤ b5 ∧ b4 ≠ b5 ∧ B ≤ W.heap.size
def FD (b4 b5 B : Nat) (V1 V2 : Sl) (U : World) (b : Nat) : Prop := b = b4 ∨ b = b5 ∨ (slV V1).ownBlock = some b ∨ (slV V2).ownBlock = some b ∨ RecL B U b
def stpD (st : List Lot × List Lot) (x : Lot × Bool) : List Lot × List Lot := if x.2 then (putL st.1 x.1, st.2) else (st.1, putL st.2 x.1)
section
variable {w W W' : World} {B b4 b5 : Nat} {Fc F : Nat → Prop} {st : List Lot × List Lot} {V1 V2 : Sl}
theorem DivB.t1 (h : DivB w B Fc b4 b5 st V1 V2 W) {b : Nat} (hb : (slV V1).ownBlock = some b) : Ty W b 163 ∧ B ≤ b ∧ b < W.heap.size := ⟨Ty.of_own h.o1.2 hb, h.o1.2.lt b hb⟩
theorem DivB.t2 (h : DivB w B Fc b4 b5 st V1 V2 W) {b : Nat} (hb : (slV V2).ownBlock = some b) : Ty W b 163 ∧ B ≤ b ∧ b < W.heap.size := ⟨Ty.of_own h.o2.2 hb, h.o2.2.lt b hb⟩
theorem DivB.mod (h : DivB w B Fc b4 b5 st V1 V2 W) (m : Mod F W W') (hF : ∀ b, F b → b < w.heap.size ∧ Fc b ∨ RecL B W b) : DivB w B Fc b4 b5 st V1 V2 W' := by
 obtain ⟨l1, l2, l3, l4, l5, l6⟩ := h.lt
 have hs := h.mo.size
 refine ⟨m.blk h.c4 (fun hf => ?_), m.blk h.c5 (fun hf => ?_), h.o1.mod m (fun b hb hf => ?_), h.o2.mod m (fun b hb hf => ?_), h.k1, h.k2, h.ap, h.mo.trans m (fun b hf => ?_), l1, l2, l3, l4, l5, Nat.le_trans l6 m.size⟩
 ·rcases hF _ hf with h1 | h1
  ·omega
  ·exact h1.not_ty h.c4.ty
 ·rcases hF _ hf with h1 | h1
  ·omega
  ·exact h1.not_ty h.c5.ty
 ·have := h.t1 hb
  rcases hF _ hf with h1 | h1
  ·omega
  ·exact h1.not_ty this.1
 ·have := h.t2 hb
  rcases hF _ hf with h1 | h1
  ·omega
  ·exact h1.not_ty this.1
 ·rcases hF _ hf with h1 | h1
  ·exact .inl h1.2
  ·have := h1.1
   exact .inr (by omega)
theorem DivB.all (h : DivB w B Fc b4 b5 st V1 V2 W) (hb : Below W.heap.size W W') : DivB w B Fc b4 b5 st V1 V2 W' := h.mod (F := fun _ => False) (Mod.of_below _ hb) (fun _ hf => hf.elim)
theorem DivB.put1 (h : DivB w B Fc b4 b5 st V1 V2 W) {x : Lot} (hx : x.piece) {e : Ending} (hp : PutPost B V1.1 V1.2.1 V1.2.2 (putL st.1 x) W e W') :
 ∃ V1' : Sl, e = .returned (slV V1') ∧ DivB w B Fc b4 b5 (putL st.1 x, st.2) V1' V2 (W'.setCell ⟨b4, 0, none⟩ (slV V1')) ∧ Mod (fun b => b = b4 ∨ (slV V1).ownBlock = some b) W (W'.setCell ⟨b4, 0, none⟩ (slV V1')) ∧ W'.frozen? ⟨b4, 0, none⟩ = false ∧ W'.cell? ⟨b4, 0, none⟩ = some (slV V1) := by
 obtain ⟨A', n', c', rfl, ho, m, hn⟩ := hp
 obtain ⟨l1, l2, l3, l4, l5, l6⟩ := h.lt
 have hs := h.mo.size
 have n4 : ¬ (slV V1).ownBlock = some b4 := fun e => by have := h.t1 e; omega
 have n5 : ¬ (slV V1).ownBlock = some b5 := fun e => by have := h.t1 e; omega
 have m0 : Mod (fun b => b = b4) W' (W'.setCell ⟨b4, 0, none⟩ (slV (A', n', c'))) := (Mod.refl (fun b => b = b4) W').set (p := ⟨b4, 0, none⟩) (.inl rfl) _
 have hc4 := m.blk h.c4 n4
 have hnew : ∀ b, (slV (A', n', c')).ownBlock = some b → B ≤ b ∧ b < W'.heap.size := fun b hb => ho.2.lt b hb
 have m2 : Mod (fun b => b = b4 ∨ (slV V1).ownBlock = some b) W (W'.setCell ⟨b4, 0, none⟩ (slV (A', n', c'))) := (m.mono (fun b hb => .inl (.inr hb))).trans m0 (fun b hb => .inl (.inl hb))
 refine ⟨(A', n', c'), rfl, ⟨?_, m0.blk (m.blk h.c5 n5) (fun e => l5 e.symm), ho.mod m0 (fun b hb e => ?_), (h.o2.mod m (fun b hb e => h.ap b e hb)).mod m0 (fun b hb e => ?_), putL_ok h.k1 hx, h.k2, fun b hb e => ?_, h.mo.trans m2 (fun b hb => ?_), l1, l2, l3, l4, l5, ?_⟩, m2, hc4.frozen 0, hc4.cell 0⟩
 ·exact Blk.set_ hc4 0 _
 ·have := hnew b hb
  omega
 ·have := h.t2 hb
  omega
 ·rcases hn b hb with h1 | h1
  ·exact h.ap b h1 e
  ·have := h.t2 e
   omega
 ·rcases hb with hb | hb
  ·exact .inr (by omega)
  ·have := h.t1 hb
   exact .inr (by omega)
 ·have := m2.size
  omega
theorem DivB.put2 (h : DivB w B Fc b4 b5 st V1 V2 W) {x : Lot} (hx : x.piece) {e : Ending} (hp : PutPost B V2.1 V2.2.1 V2.2.2 (putL st.2 x) W e W') :
 ∃ V2' : Sl, e = .returned (slV V2') ∧ DivB w B Fc b4 b5 (st.1, putL st.2 x) V1 V2' (W'.setCell ⟨b5, 0, none⟩ (slV V2')) ∧ Mod (fun b => b = b5 ∨ (slV V2).ownBlock = some b) W (W'.setCell ⟨b5, 0, none⟩ (slV V2')) ∧ W'.frozen? ⟨b5, 0, none⟩ = false ∧ W'.cell? ⟨b5, 0, none⟩ = some (slV V2) := by
 obtain ⟨A', n', c', rfl, ho, m, hn⟩ := hp
 obtain ⟨l1, l2, l3, l4, l5, l6⟩ := h.lt
 have hs := h.mo.size
 have n4 : ¬ (slV V2).ownBlock = some b4 := fun e => by have := h.t2 e; omega
 have n5 : ¬ (slV V2).ownBlock = some b5 := fun e => by have := h.t2 e; omega
 have m0 : Mod (fun b => b = b5) W' (W'.setCell ⟨b5, 0, none⟩ (slV (A', n', c'))) := (Mod.refl (fun b => b = b5) W').set (p := ⟨b5, 0, none⟩) (.inl rfl) _
 have hc5 := m.blk h.c5 n5
 have hnew : ∀ b, (slV (A', n', c')).ownBlock = some b → B ≤ b ∧ b < W'.heap.size := fun b hb => ho.2.lt b hb
 have m2 : Mod (fun b => b = b5 ∨ (slV V2).ownBlock = some b) W (W'.setCell ⟨b5, 0, none⟩ (slV (A', n', c'))) := (m.mono (fun b hb => .inl (.inr hb))).trans m0 (fun b hb => .inl (.inl hb))
 refine ⟨(A', n', c'), rfl, ⟨m0.blk (m.blk h.c4 n4) (fun e => l5 e), ?_, (h.o1.mod m (fun b hb e => h.ap b hb e)).mod m0 (fun b hb e => ?_), ho.mod m0 (fun b hb e => ?_), h.k1, putL_ok h.k2 hx, fun b hb e => ?_, h.mo.trans m2 (fun b hb => ?_), l1, l2, l3, l4, l5, ?_⟩, m2, hc5.frozen 0, hc5.cell 0⟩
 ·exact Blk.set_ hc5 0 _
 ·have := h.t1 hb
  omega
 ·have := hnew b hb
  omega
 ·rcases hn b e with h1 | h1
  ·exact h.ap b hb h1
  ·have := h.t1 hb
   omega
 ·rcases hb with hb | hb
  ·exact .inr (by omega)
  ·have := h.t2 hb
   exact .inr (by omega)
 ·have := m2.size
  omega
end
theorem cntL_get : ∀ (ls : List Lot) (n : Int) (k : Nat) (hk : k < ls.length), (cntLt ls n)[k]? = some (min (n - sumZ ((cntLt ls n).take k)) (ls[k]).n)
 | [], _, _, hk => by simp at hk
 | l :: ls, n, 0, _ => by simp [cntLt, sumZ]
 | l :: ls, n, k + 1, hk => by
   have := cntL_get ls (n - min n l.n) k (by simpa using hk)
   simp only [cntLt, List.getElem?_cons_succ, List.take_succ_cons, sumZ, List.getElem_cons_succ]
   rw [this]
   congr 2
   omega
theorem sumI_take_succ {l : List Int} {k : Nat} {x : Int} (h : l[k]? = some x) : sumZ (l.take (k + 1)) = sumZ (l.take k) + x := by
 obtain ⟨hk, rfl⟩ := List.getElem?_eq_some_iff.1 h
 rw [← List.take_append_getElem hk, sumI_append]
 simp [sumZ]
set_option maxRecDepth 100000 in
theorem first1_any (bn bl : Nat) (r : Int) (A : Option Addr) (n c k : Nat) (ls : List Lot) (l : Lot) (w : World) (hn : Blk w bn 3 #[.int .i64 r]) (hl : Blk w bl 38 #[.slice A n c]) (HL : Hid (LotsAt w A n c ls)) (HG : Hid (ls[k]? = some l)) (hk : k < n) (h0 : 0 ≤ r) (h1 : r ≤ 1099511627776) (h2 : 0 ≤ l.n) :
 Calls Tryz.prog 244 #[.int .i64 (k : Int), .pointer (some ⟨bn, 0, none⟩), .pointer (some ⟨bl, 0, none⟩)] w fun e w' => e = .returned (.int .i64 (min r l.n)) ∧ Blk w' bn 3 #[.int .i64 (r - min r l.n)] ∧ Mod (fun b => b = bn) w w' := by
 obtain ⟨b, off, rfl, hb, -, l', hl', k0, k1, k2⟩ := HL.out.at_ hk
 obtain rfl : l = l' := by have := HG.out; rw [hl'] at this; injection this with this; exact this.symm
 obtain ⟨m, hm⟩ : ∃ m, min r l.n = m := ⟨_, rfl⟩
 rw [hm]
 have hkI : (k : Int) < (n : Int) := by omega
 have hk0 : (0 : Int) ≤ (k : Int) := by omega
 have hw : IntKind.i64.wrap (r - m) = r - m := IntWalk.i64_in _ (by omega)
 have n0 := hn.cell 0
 have n1 := hn.frozen 0
 have l0 := hl.cell 0
 simp at n0 l0
 have HP : ∀ q, Hid (Blk ((w.drewN q).setCell ⟨bn, 0, none⟩ (.int .i64 (r - m))) bn 3 #[.int .i64 (r - m)] ∧ Mod (fun b => b = bn) w ((w.drewN q).setCell ⟨bn, 0, none⟩ (.int .i64 (r - m)))) := fun q => Lib.hid (by
  have hb : Below w.heap.size w (w.drewN q) := below_drewN (Below.refl _ _) q
  exact ⟨Blk.set_ (hn.all hb) 0 _, (Mod.of_below (fun b => b = bn) hb).set (p := ⟨bn, 0, none⟩) (.inl rfl) _⟩)
 clear hn hl
 go_enter Tryz.func244, Tryz.ntmps244
 go_wp2
 go_region
 go_wp2
 go_ret
 exact ⟨rfl, HP 1 |>.out⟩
end Go.Proofs.YtlcalajehnaenaaGreatDoor
namespace Go.Proofs.YtlcalajehnaenaaGreatDoor
open Go.RowKit Go.Shelf
attribute [local go_sem] Oper.semAt_some
theorem divL_snoc : ∀ (ls : List Lot) (cs : List Int) (tk lf : List Lot) (l : Lot) (c : Int), cs.length = ls.length → divL tk lf (ls ++ [l]) (cs ++ [c]) = (putL (divL tk lf ls cs).1 ⟨l.flow, l.at_, c⟩, putL (divL tk lf ls cs).2 ⟨l.flow, l.at_ + c, l.n - c⟩)
 | [], [], _, _, _, _, _ => by simp [divL]
 | _ :: _, [], _, _, _, _, h => by simp at h
 | [], _ :: _, _, _, _, _, h => by simp at h
 | x :: ls, y :: cs, tk, lf, l, c, h => by
   simp only [List.cons_append, divL]
   exact divL_snoc ls cs _ _ l c (by simpa using h)
theorem cntOk_len : ∀ (ls : List Lot) (cs : List Int), CntOk ls cs → cs.length = ls.length
 | [], [], _ => rfl
 | _ :: _, [], h => by cases h
 | [], _ :: _, h => by cases h
 | _ :: ls, _ :: cs, h => by simp [cntOk_len ls cs h.2.2]
theorem cntOk_get : ∀ (ls : List Lot) (cs : List Int) (k : Nat) (l : Lot) (c : Int), CntOk ls cs → ls[k]? = some l → cs[k]? = some c → 0 ≤ c ∧ c ≤ l.n
 | [], _, _, _, _, _, h, _ => by simp at h
 | _ :: _, [], _, _, _, h, _, _ => by cases h
 | x :: ls, y :: cs, 0, l, c, h, h1, h2 => by
   simp only [List.getElem?_cons_zero, Option.some.injEq] at h1 h2
   subst h1 h2
   exact ⟨h.1, h.2.1⟩
 | x :: ls, y :: cs, k + 1, l, c, h, h1, h2 => cntOk_get ls cs k l c h.2.2 (by simpa using h1) (by simpa using h2)
theorem cntOk_take : ∀ (ls : List Lot) (cs : List Int) (k : Nat), CntOk ls cs → CntOk (ls.take k) (cs.take k)
 | [], [], _, _ => by simp [CntOk]
 | _ :: _, [], _, h => by cases h
 | [], _ :: _, _, h => by cases h
 | _ :: _, _ :: _, 0, _ => by simp [CntOk]
 | _ :: ls, _ :: cs, k + 1, h => ⟨h.1, h.2.1, cntOk_take ls cs k h.2.2⟩
theorem FD.sub {b4 b5 B : Nat} {V1 V2 : Sl} {U : World} {b : Nat} (h : FD b4 b5 B V1 V2 U b) (hb4 : b ≠ b4) (hb5 : b ≠ b5) (h1 : (slV V1).ownBlock ≠ some b) (h2 : (slV V2).ownBlock ≠ some b) : RecL B U b := by
 rcases h with h | h | h | h | h
 ·exact absurd h hb4
 ·exact absurd h hb5
 ·exact absurd h h1
 ·exact absurd h h2
 ·exact h
theorem cntOk_sum : ∀ (ls : List Lot) (cs : List Int) (k : Nat), CntOk ls cs → 0 ≤ sumZ (cs.take k) ∧ sumZ (cs.take k) ≤ sumZ cs
 | [], [], _, _ => by simp [sumZ]
 | _ :: _, [], _, h => by cases h
 | [], _ :: _, _, h => by cases h
 | _ :: ls, _ :: cs, 0, h => by
   have h1 := (cntOk_sum ls cs 0 h.2.2).2
   have := h.1
   simp only [List.take_zero, sumZ] at h1 ⊢
   omega
 | _ :: ls, _ :: cs, k + 1, h => by
   obtain ⟨h1, h2⟩ := cntOk_sum ls cs k h.2.2
   have := h.1
   simp only [List.take_succ_cons, sumZ]
   omega
theorem sum_rest {ls : List Lot} {cs : List Int} {n : Int} (h : CntOk ls cs) (hs : sumZ cs = n) (k : Nat) : 0 ≤ n - sumZ (cs.take k) ∧ n - sumZ (cs.take k) ≤ n := by
 obtain ⟨h1, h2⟩ := cntOk_sum ls cs k h
 omega
theorem take_snoc {α : Type} {l : List α} {k : Nat} {x : α} (h : l[k]? = some x) : l.take (k + 1) = l.take k ++ [x] := by
 obtain ⟨hk, rfl⟩ := List.getElem?_eq_some_iff.1 h
 exact (List.take_append_getElem hk).symm
theorem fdold {w : World} {B b4 b5 g : Nat} {Fc : Nat → Prop} {st : List Lot × List Lot} {V1 V2 : Sl} {U : World} {t : TypeId} {cs : Array Value} (h : DivB w B Fc b4 b5 st V1 V2 U) (hb : Blk U g t cs) (h1 : g < B) (h2 : g ≠ b4) (h3 : g ≠ b5) : ¬ FD b4 b5 B V1 V2 U g := fun hf => by
 refine (hf.sub h2 h3 (fun e => ?_) (fun e => ?_)).not_ty hb.ty
 ·have := h.t1 e
  omega
 ·have := h.t2 e
  omega
theorem fdbox {w : World} {B b4 b5 bx : Nat} {Fc : Nat → Prop} {st : List Lot × List Lot} {V1 V2 : Sl} {U : World} {cs : Array Value} (h : DivB w B Fc b4 b5 st V1 V2 U) (hl : B ≤ bx ∧ (∀ b, (slV V1).ownBlock = some b → b < bx) ∧ (∀ b, (slV V2).ownBlock = some b → b < bx)) (hb : Blk U bx 163 cs) : ¬ FD b4 b5 B V1 V2 U bx := fun hf => by
 obtain ⟨l1, l2, l3, l4, l5, l6⟩ := h.lt
 refine (hf.sub (by omega) (by omega) (fun e => ?_) (fun e => ?_)).not_ty hb.ty
 ·have := hl.2.1 _ e
  omega
 ·have := hl.2.2 _ e
  omega
def PIF (w : World) (B b4 b5 pL pC bn bl : Nat) (A : Option Addr) (n c : Nat) (ls : List Lot) (n0 : Int) (R : World → Prop) (k : Nat) (wr : World) : Prop :=
 (∃ V1 V2 : Sl, DivB w B (fun b => b = bn) b4 b5 (divL [] [] (ls.take k) ((cntLt ls n0).take k)) V1 V2 wr) ∧ Blk wr pL 38 #[.slice A n c] ∧ Blk wr pC 61 #[.func (.func 244) #[] #[.pointer (some ⟨bn, 0, none⟩), .pointer (some ⟨bl, 0, none⟩)]] ∧ (Blk wr bn 3 #[.int .i64 (n0 - sumZ ((cntLt ls n0).take k))] ∧ Blk wr bl 38 #[.slice A n c]) ∧ R wr
set_option maxRecDepth 100000 in
set_option maxHeartbeats 8000000 in
theorem pieces1F_any (w : World) (B b4 b5 pL pC bn bl : Nat) (A : Option Addr) (n c : Nat) (ls : List Lot) (n0 : Int) (l : Nat) (R : World → Prop) (HR : Hid (∀ W W', R W → KeepsFrom B W W' → R W'))
 (HL : Hid (LotsAt w A n c ls)) (HK : Hid (LotsOk ls)) (HC : Hid (CntOk ls (cntLt ls n0))) (hn : n ≤ 4096) (hn0 : 0 ≤ n0 ∧ n0 ≤ 1099511627776) (hbn : bn < w.heap.size ∧ bl < w.heap.size ∧ bn ≠ bl) (HTN : Hid (Ty w bn 3)) (HSUM : Hid (sumZ (cntLt ls n0) = n0)) (hpl : w.heap.size ≤ pL ∧ pL < B ∧ w.heap.size ≤ pC ∧ pC < B ∧ pL ≠ b4 ∧ pL ≠ b5 ∧ pC ≠ b4 ∧ pC ≠ b5)
 (HY : Hid (∀ (st : List Lot × List Lot) (V1 V2 : Sl) (x : Lot × Bool) (U : World), DivB w B (fun b => b = bn) b4 b5 st V1 V2 U → R U → x.1.piece → V1.2.1 ≤ 5000 → V2.2.1 ≤ 5000 → YieldAt Fence.wide 4 Tryz.prog l #[.agg #[.int .i64 x.1.flow, .int .i64 x.1.at_, .int .i64 x.1.n], .bool x.2] U fun e W' => e = .returned (.bool true) ∧ (∃ V1' V2' : Sl, DivB w B (fun b => b = bn) b4 b5 (stpD st x) V1' V2' W') ∧ Mod (FD b4 b5 B V1 V2 U) U W' ∧ R W'))
 (W : World) (HI : Hid (PIF w B b4 b5 pL pC bn bl A n c ls n0 R 0 W)) :
 Calls Tryz.prog 262 #[.func (.yield l) #[] #[], .pointer (some ⟨pL, 0, none⟩), .pointer (some ⟨pC, 0, none⟩)] W fun e W' => (∃ v, e = .returned v) ∧ (∃ V1 V2 : Sl, DivB w B (fun b => b = bn) b4 b5 (divL [] [] ls (cntLt ls n0)) V1 V2 W') ∧ R W' := by
 have HLEN := Lib.hid (cntOk_len _ _ HC.out)
 obtain ⟨-, hp1, hp2, -⟩ := HI.out
 have p1 := hp1.cell 0
 have p2 := hp2.cell 0
 simp at p1 p2
 clear hp1 hp2
 go_enter Tryz.func262, Tryz.ntmps262
 go_wp2
 go_loopg [9] n (fun gk iv wr => ∃ k : Nat, k + gk = n ∧ iv = .int .i64 (k : Int) ∧ Hid (PIF w B b4 b5 pL pC bn bl A n c ls n0 R k wr))
 case atStart => exact ⟨0, by omega, rfl, HI⟩
 case round =>
  clear HI p1 p2
  obtain ⟨k, hk, rfl, HI⟩ := hrel
  have HHK := Lib.hid hk
  rcases Nat.lt_or_ge k n with hlt | hge
  ·have hltI : (k : Int) < (n : Int) := by omega
   have hk0 : (0 : Int) ≤ (k : Int) := by omega
   obtain ⟨⟨V1, V2, hD⟩, hpL, hpC, hJ, hRr⟩ := HI.out
   have hLw := HL.out.mod hD.mo (fun b hb => fun ht => by subst hb; exact absurd (HTN.out.unique ht) (by decide))
   obtain ⟨b, off, rfl, -, -, lk, hlk, k0, k1, k2⟩ := hLw.at_ hlt
   have hcs : ∃ cc, (cntLt ls n0)[k]? = some cc := ⟨_, List.getElem?_eq_getElem (by rw [HLEN.out, HL.out.len]; exact hlt)⟩
   obtain ⟨cc, hcc⟩ := hcs
   obtain ⟨hc0, hc1⟩ := cntOk_get _ _ k lk cc HC.out hlk hcc
   have hok := HK.out lk (List.mem_of_getElem? hlk)
   have q1 := hpL.cell 0
   have q2 := hpC.cell 0
   simp at q1 q2
   obtain ⟨bx, hbx⟩ : ∃ bx, wr.heap.size = bx := ⟨_, rfl⟩
   have hba := (Below.refl wr.heap.size wr).alloc (Nat.le_refl _) (.cells #[.int .i64 lk.flow, .int .i64 lk.at_, .int .i64 lk.n] 163)
   have hbox := Blk.new wr 163 #[.int .i64 lk.flow, .int .i64 lk.at_, .int .i64 lk.n]
   have hlt6 := hD.lt
   have hws := hD.mo.size
   have HLT := Lib.hid (show B ≤ bx ∧ (∀ b, (slV V1).ownBlock = some b → b < bx) ∧ (∀ b, (slV V2).ownBlock = some b → b < bx) from ⟨by omega, fun b hb => by have := hD.t1 hb; omega, fun b hb => by have := hD.t2 hb; omega⟩)
   have HD1 := Lib.hid (hD.all hba)
   have HPL1 := Lib.hid (hpL.all hba)
   have HPC1 := Lib.hid (hpC.all hba)
   have HR1 := Lib.hid (HR.out _ _ hRr (keepsFrom_mod (F := fun _ => False) (Mod.of_below _ hba) (fun _ hf => hf.elim)))
   have HJ1 := Lib.hid (show Blk (wr.alloc (.cells #[.int .i64 lk.flow, .int .i64 lk.at_, .int .i64 lk.n] 163)) bn 3 #[.int .i64 (n0 - sumZ ((cntLt ls n0).take k))] ∧ Blk (wr.alloc (.cells #[.int .i64 lk.flow, .int .i64 lk.at_, .int .i64 lk.n] 163)) bl 38 #[.slice (some ⟨b, off, none⟩) n c] from ⟨hJ.1.all hba, hJ.2.all hba⟩)
   have HLW1 := Lib.hid (hLw.all hba)
   have HBX1 := Lib.hid hbox
   have HLK := Lib.hid hlk
   have HCC := Lib.hid hcc
   have HOK := Lib.hid hok
   have HST := Lib.hid (show (divL [] [] (ls.take k) ((cntLt ls n0).take k)).1.length ≤ 4096 ∧ (divL [] [] (ls.take k) ((cntLt ls n0).take k)).2.length ≤ 4096 by
    obtain ⟨-, -, -, -, h5, h6⟩ := divL_facts (ls.take k) ((cntLt ls n0).take k) [] [] (HK.out.take k) (cntOk_take _ _ k HC.out) (fun _ h => absurd h (by simp)) (fun _ h => absurd h (by simp))
    have : (ls.take k).length ≤ k := by rw [List.length_take]; omega
    simp only [List.length_nil, Nat.zero_add] at h5 h6
    omega)
   clear hD hpL hpC hJ hRr hLw hba hbox hlt6 hws hlk hcc hok
   go_upto_region 3 with (fail)
   obtain ⟨W1, hW1⟩ : ∃ W1, W1 = wr.alloc (.cells #[.int .i64 lk.flow, .int .i64 lk.at_, .int .i64 lk.n] 163) := ⟨_, rfl⟩
   rw [← hW1] at HD1 HPL1 HPC1 HR1 HJ1 HLW1 HBX1 ⊢
   rw [hbx] at HBX1
   clear hW1 hbx q1 q2 k0 k1 k2
   have q2 := HPC1.out.cell 0
   simp at q2
   go_wp2_with fail
   have hrem := sum_rest HC.out HSUM.out k
   refine (first1_any bn bl _ (some ⟨b, off, none⟩) n c k ls lk W1 HJ1.out.1 HJ1.out.2 HLW1 HLK hlt (by omega) (by omega) (by have := HOK.out; unfold Lot.ok at this; omega)).mono ?_
   rintro e W2 ⟨rfl, hbn2, hm2⟩
   have hmin : min (n0 - sumZ ((cntLt ls n0).take k)) lk.n = cc := by
    have h1 := cntL_get ls n0 k (by rw [HL.out.len]; exact hlt)
    have h2 : ls[k]'(by rw [HL.out.len]; exact hlt) = lk := by
     have := HLK.out
     rw [List.getElem?_eq_getElem (by rw [HL.out.len]; exact hlt)] at this
     injection this
    rw [h2, HCC.out] at h1
    injection h1 with h1
    exact h1.symm
   rw [hmin] at hbn2 ⊢
   have hs1 := sumI_take_succ HCC.out
   have HJ2 := Lib.hid (show Blk W2 bn 3 #[.int .i64 (n0 - sumZ ((cntLt ls n0).take (k + 1)))] ∧ Blk W2 bl 38 #[.slice (some ⟨b, off, none⟩) n c] from ⟨by rw [hs1, show n0 - (sumZ ((cntLt ls n0).take k) + cc) = n0 - sumZ ((cntLt ls n0).take k) - cc by omega]; exact hbn2, hm2.blk HJ1.out.2 (fun e => hbn.2.2 e.symm)⟩)
   have HD2 := Lib.hid (HD1.out.mod hm2 (fun b hb => .inl ⟨by omega, hb⟩))
   have HPL2 := Lib.hid (hm2.blk HPL1.out (fun e => by omega))
   have HPC2 := Lib.hid (hm2.blk HPC1.out (fun e => by omega))
   have HR2 := Lib.hid (HR.out _ _ HR1.out (keepsFrom_mod hm2 (fun b hb => by subst hb; exact ⟨_, HJ1.out.1.ty⟩)))
   have HBX2 := Lib.hid (hm2.blk HBX1.out (fun e => by have := HLT.out.1; omega))
   have HCC2 := HCC
   clear hbn2 hm2 hmin hs1 hrem HD1 HPL1 HPC1 HR1 HJ1 HBX1 q2
   obtain ⟨f0, a0, m0⟩ := lk
   have hoks := HOK.out
   unfold Lot.ok MaxU at hoks
   dsimp only at hoks hc1
   have hw1 : IntKind.i64.wrap (a0 + cc) = a0 + cc := IntWalk.i64_in _ (by omega)
   have hw2 : IntKind.i64.wrap (m0 - cc) = m0 - cc := IntWalk.i64_in _ (by omega)
   have hp1 : (⟨f0, a0, cc⟩ : Lot).piece := by unfold Lot.piece MaxU; dsimp only; omega
   have hp2 : (⟨f0, a0 + cc, m0 - cc⟩ : Lot).piece := by unfold Lot.piece MaxU; dsimp only; omega
   have e0 := HBX2.out.cell 0
   have e1 := HBX2.out.cell 1
   have e2 := HBX2.out.cell 2
   simp at e0 e1 e2
   obtain ⟨fn, tmps, assign, body, hy1, hy2⟩ := HY.out _ V1 V2 (⟨f0, a0, cc⟩, true) W2 HD2.out HR2.out hp1 (by have := HD2.out.o1.1; have := HST.out.1; omega) (by have := HD2.out.o2.1; have := HST.out.2; omega)
   dsimp only at hy1
   clear hc0 hc1 hoks HCC2
   go_upto_region 4 with (fail)
   refine (wpIn_wide (n := 5)).1 ?_
   gi_wp2_with (first
    | (refine hz2.mono ?_; clear hz1 hz2; rintro e W4 ⟨rfl, ⟨V1'', V2'', hD4⟩, hM4, hR4⟩)
    | (refine hy2.mono ?_; clear hy1 hy2; rintro e W3 ⟨rfl, ⟨V1', V2', hD3⟩, hM3, hR3⟩; have hBX3 := hM3.blk HBX2.out (fdbox HD2.out HLT.out HBX2.out); have d0 := hBX3.cell 0; have d1 := hBX3.cell 1; have d2 := hBX3.cell 2; simp at d0 d1 d2; obtain ⟨fn', tmps', assign', body', hz1, hz2⟩ := HY.out _ V1' V2' (⟨f0, a0 + cc, m0 - cc⟩, false) W3 hD3 hR3 hp2 (by have h1 := hD3.o1.1; have h2 := HST.out.1; have h3 := (putL_len (divL [] [] (ls.take k) ((cntLt ls n0).take k)).1 ⟨f0, a0, cc⟩).2; simp only [stpD, if_true] at h1; omega) (by have h1 := hD3.o2.1; have h2 := HST.out.2; simp only [stpD, if_true] at h1; omega); dsimp only at hz1))
   have hstep : divL [] [] (ls.take (k + 1)) ((cntLt ls n0).take (k + 1)) = stpD (stpD (divL [] [] (ls.take k) ((cntLt ls n0).take k)) (⟨f0, a0, cc⟩, true)) (⟨f0, a0 + cc, m0 - cc⟩, false) := by
    have e1 : ls.take (k + 1) = ls.take k ++ [⟨f0, a0, m0⟩] := take_snoc HLK.out
    have e2 : (cntLt ls n0).take (k + 1) = (cntLt ls n0).take k ++ [cc] := take_snoc HCC.out
    rw [e1, e2, divL_snoc _ _ _ _ _ _ (by rw [List.length_take, List.length_take, HLEN.out])]
    rfl
   have hI4 : PIF w B b4 b5 pL pC bn bl (some ⟨b, off, none⟩) n c ls n0 R (k + 1) W4 := by
    have l2 := HD2.out.lt
    have f3 : ∀ {g t cs}, Blk W2 g t cs → g < B → g ≠ b4 → g ≠ b5 → Blk W4 g t cs := fun {g t cs} hg h1 h2 h3 => hM4.blk (hM3.blk hg (fdold HD2.out hg h1 h2 h3)) (fdold hD3 (hM3.blk hg (fdold HD2.out hg h1 h2 h3)) h1 h2 h3)
    exact ⟨⟨V1'', V2'', by rw [hstep]; exact hD4⟩, f3 HPL2.out (by omega) (by omega) (by omega), f3 HPC2.out (by omega) (by omega) (by omega), ⟨f3 HJ2.out.1 (by omega) (by omega) (by omega), f3 HJ2.out.2 (by omega) (by omega) (by omega)⟩, hR4⟩
   have HI4 := Lib.hid hI4
   clear hstep hI4 hD3 hD4 hM3 hM4 hR3 hR4 hBX3 d0 d1 d2 e0 e1 e2 HBX2 HD2 HPL2 HPC2 HR2 HJ2 hw1 hw2 hp1 hp2 hk
   go_wp2
   go_roundg (n - (k + 1))
   case measure => have := HHK.out; omega
   case rel => exact ⟨k + 1, by have := HHK.out; omega, by go_num, HI4⟩
  ·obtain rfl : k = n := by omega
   have HF : Hid ((∃ V1 V2 : Sl, DivB w B (fun b => b = bn) b4 b5 (divL [] [] ls (cntLt ls n0)) V1 V2 wr) ∧ R wr) := Lib.hid (by
    obtain ⟨hD, -, -, -, hr⟩ := HI.out
    rw [List.take_of_length_le (by rw [HL.out.len]; exact Nat.le_refl _), List.take_of_length_le (by rw [HLEN.out, HL.out.len]; exact Nat.le_refl _)] at hD
    exact ⟨hD, hr⟩)
   go_wp2
   go_end0
   exact ⟨⟨_, rfl⟩, HF.out.1, HF.out.2⟩
end Go.Proofs.YtlcalajehnaenaaGreatDoor
namespace Go.Proofs.YtlcalajehnaenaaGreatDoor
open Go.RowKit Go.Shelf
variable {F : Fence} {n : Nat} {P : Program}
theorem range_state2 {α β : Type} {g : Operand} {ps : Array Tmp} {assign body : Code} {Q : Exit → Act → World → Prop} {a : Act} {w : World}
 (hro : F.round = none) (h1 : 1 ≤ n) {gf : Nat} {lb : Array Value} (hg : a.eval g = .func (.func gf) #[] lb) (hFg : F.fn gf) (eg : ∀ args w, (callFunc gf args).run P w = .ok (.enter gf args) w)
 {encs : α → Array Value} (hps : ∀ x, (encs x).size = ps.size)
 (I : β → World → Prop) (Iy : β → α → World → Prop) (nxt : β → α → β) (Ix : Code → β → World → Prop) (s0 : β) (Fin : β → Prop)
 (hseq : SeqState F (n - 1) P gf lb encs w.heap.size I Iy nxt Ix s0 Fin)
 (hI : OwnFrom w.heap.size I) (hIy : ∀ x, OwnFrom w.heap.size (fun s => Iy s x)) (hIx : ∀ c, OwnFrom w.heap.size (Ix c)) (h0 : I s0 w) (ob : α → Obj) (a₁ : α → Nat → Act)
 (hassign : ∀ (l : Nat) (x : α) (W : World) (K : Act → World → Prop), K (a₁ x W.heap.size) (W.alloc (ob x)) →
  assign.wpIn (F.inRound l) (n - 1 - 1) P (Exit.then K (fun _ _ _ => False)) { tmps := (ps.zip (encs x)).foldl (fun t (p, v) => t.setIfInBounds p v) a.tmps, defers := [] } W)
 (hbody : ∀ (l : Nat) (s : β) (x : α) (W : World) (g : Nat), Iy s x W → W.heap[g]? = some (ob x) → w.heap.size ≤ g → body.wpIn (F.inRound l) (n - 1 - 1) P (statePost w.heap.size (I (nxt s x)) (fun c => Ix c (nxt s x)) W) (a₁ x g) W)
 (hdone : ∀ (D : Nat) (s : β) (W : World), w.heap.size ≤ D → Fin s → I s W → W.heap[D]? = some (.deferred (some [])) → Q .normal { a with defers := { target := .collected D, args := #[] } :: a.defers } W)
 (hstop : ∀ (D : Nat) (c : Code) (s : β) (W : World), w.heap.size ≤ D → Ix c s W → W.heap[D]? = some (.deferred (some [])) → c.wpIn F n P Q { a with defers := { target := .collected D, args := #[] } :: a.defers } W) :
 (Code.rangeFunc g ps assign body).wpIn F n P Q a w := by
 refine wpIn_rangeFunc ?_
 intro fn hfn
 rw [hro]
 obtain ⟨rec, hrec⟩ : ∃ rec : LoopState → Option Code → Loop, rec = fun st pe => { state := st, pending := pe, fn, tmps := a.tmps, params := ps, assign, body, defers := w.heap.size } := ⟨_, rfl⟩
 obtain ⟨W1, hW1⟩ : ∃ W1, (w.alloc (.deferred (some []))).alloc (.loop (rec .ready none)) = W1 := ⟨_, rfl⟩
 have hL1 : W1.heap[w.heap.size + 1]? = some (.loop (rec .ready none)) := by
  rw [← hW1]; have := World.alloc_heap_new (w.alloc (.deferred (some []))) (.loop (rec .ready none)); rwa [World.size_alloc] at this
 have hK1 : W1.heap[w.heap.size]? = some (.deferred (some [])) := by
  rw [← hW1]; exact (Below.heap_alloc _ _ _ (by simp)).trans (World.alloc_heap_new w _)
 have hI1 : I s0 W1 := by rw [← hW1]; exact hI.alloc _ (hI.alloc _ h0)
 refine ⟨w.heap.size + 1, [{ target := .collected w.heap.size, args := #[] }], W1, { target := .fn (.func gf) lb, args := #[.func (.yield (w.heap.size + 1)) #[] #[]] }, W1, gf,
  #[.func (.yield (w.heap.size + 1)) #[] #[]] ++ lb, W1, ?_, ?_, ?_, ?_, fun _ => h1, ?_⟩
 ·rw [← hW1, hrec]; exact run_enterLoop_outer _ _ _ _ _
 ·simp only [resolve, hg]
  simp [go_sem]
 ·intro f' hf'; simp [Target.leads] at hf'; subst hf'; exact hFg
 ·simp [invoke, go_sem, eg]
 ·-- the record's two blocks are kept by whatever keeps what is no cells
  have hput : ∀ (W : World) (o o' : Obj), W.heap[w.heap.size + 1]? = some o → W.heap[w.heap.size]? = some (.deferred (some [])) →
   (W.putObj (w.heap.size + 1) o').heap[w.heap.size + 1]? = some o' ∧ (W.putObj (w.heap.size + 1) o').heap[w.heap.size]? = some (.deferred (some [])) := fun W o o' hl hk =>
   ⟨World.putObj_heap_same (Array.getElem?_eq_some_iff.1 hl).1, (World.putObj_heap_other (by omega)).trans hk⟩
  refine (hseq (w.heap.size + 1)
   (fun W => W.heap[w.heap.size + 1]? = some (.loop (rec .ready none)) ∧ W.heap[w.heap.size]? = some (.deferred (some [])))
   (fun c W => W.heap[w.heap.size + 1]? = some (.loop (rec .done (some c))) ∧ W.heap[w.heap.size]? = some (.deferred (some [])))
   (fun W W' hR hk => ⟨hk.same _ _ (by omega) hR.1 rfl, hk.same _ _ (Nat.le_refl _) hR.2 rfl⟩) ?_ W1 hI1 ⟨hL1, hK1⟩).mono ?_
  ·-- one round
   rintro s x W hi ⟨hl, hk⟩
   have hy := run_yield (P := P) (args := encs x) hl (by rw [hrec]; exact hps x)
   rw [hrec] at hy
   have hlt := (Array.getElem?_eq_some_iff.1 hl).1
   have hg : (W.alloc (ob x)).heap[W.heap.size]? = some (ob x) := World.alloc_heap_new W _
   have hl := (Below.heap_alloc W (ob x) _ hlt).trans hl
   have hk := (Below.heap_alloc W (ob x) _ (Array.getElem?_eq_some_iff.1 hk).1).trans hk
   refine ⟨fn, _, assign, body, hy, roundIn_of_wpIn hfn (hassign _ x W _ ⟨_, run_beginRound hl (by rw [hrec]), ?_⟩)⟩
   obtain ⟨hl2, hk2⟩ := hput (W.alloc (ob x)) _ (.loop { rec .ready none with state := .busy }) hl hk
   refine wpIn_mono (hbody _ s x _ W.heap.size ((hIy x).putObj _ ((hIy x).alloc _ hi) (by omega) hl rfl) ((World.putObj_heap_other (by omega)).trans hg) (by omega)) ?_
   have fin : ∀ (jump : Option Code) (W3 : World), KeepsFrom w.heap.size ((W.alloc (ob x)).putObj (w.heap.size + 1) (.loop { rec .ready none with state := .busy })) W3 →
    (Instr.endRound (w.heap.size + 1) jump).run P W3 = .ok (.bool jump.isNone) (W3.putObj (w.heap.size + 1) (.loop (rec (if jump.isNone then .ready else .done) jump))) ∧
    W3.heap[w.heap.size + 1]? = some (.loop { rec .ready none with state := .busy }) ∧
    (W3.putObj (w.heap.size + 1) (.loop (rec (if jump.isNone then .ready else .done) jump))).heap[w.heap.size + 1]? = some (.loop (rec (if jump.isNone then .ready else .done) jump)) ∧
    (W3.putObj (w.heap.size + 1) (.loop (rec (if jump.isNone then .ready else .done) jump))).heap[w.heap.size]? = some (.deferred (some [])) := fun jump W3 hk3 => by
    have hl3 := hk3.same _ _ (by omega) hl2 rfl
    have hd3 := hk3.same _ _ (Nat.le_refl _) hk2 rfl
    have hrun := run_endRound (P := P) jump hl3
    obtain ⟨h4, h5⟩ := hput W3 _ (.loop (rec (if jump.isNone then .ready else .done) jump)) hl3 hd3
    refine ⟨?_, hl3, h4, h5⟩
    rw [hrun, hrec]
   rintro e a3 W3 hp
   cases e with
   | normal =>
     obtain ⟨hk3, hi3⟩ := hp
     obtain ⟨hr, hl3, hl4, hk4⟩ := fin none W3 hk3
     exact ⟨_, _, hr, .inl ⟨rfl, hI.putObj _ hi3 (by omega) hl3 rfl, hl4, hk4⟩⟩
   | ret =>
     obtain ⟨hk3, hi3⟩ := hp
     obtain ⟨hr, hl3, hl4, hk4⟩ := fin (some .ret) W3 hk3
     exact ⟨_, _, hr, .inr ⟨rfl, .ret, (hIx _).putObj _ hi3 (by omega) hl3 rfl, hl4, hk4⟩⟩
   | exit id =>
     obtain ⟨hk3, hi3⟩ := hp
     obtain ⟨hr, hl3, hl4, hk4⟩ := fin (some (.exit id)) W3 hk3
     exact ⟨_, _, hr, .inr ⟨rfl, .exit id, (hIx _).putObj _ hi3 (by omega) hl3 rfl, hl4, hk4⟩⟩
   | goto t =>
     obtain ⟨hk3, hi3⟩ := hp
     obtain ⟨hr, hl3, hl4, hk4⟩ := fin (some (.goto t)) W3 hk3
     exact ⟨_, _, hr, .inr ⟨rfl, .goto t, (hIx _).putObj _ hi3 (by omega) hl3 rfl, hl4, hk4⟩⟩
   | panic ch => exact hp.elim
   | outgrown => exact hp.elim
  ·-- behind the iterator
   rintro e W2 ⟨⟨v, rfl⟩, (⟨s, hS, hi, hl, hk⟩ | ⟨c, s, hi, hl, hk⟩)⟩
   ·have hrun := run_endLoop (P := P) hl (by rw [hrec]; simp)
    rw [hrec] at hrun
    exact ⟨none, _, hrun, hdone _ s _ (Nat.le_refl _) hS (hI.putObj _ hi (by omega) hl rfl) ((World.putObj_heap_other (by omega)).trans hk)⟩
   ·have hrun := run_endLoop (P := P) hl (by rw [hrec]; simp)
    rw [hrec] at hrun
    exact ⟨some c, _, hrun, hstop _ c s _ (Nat.le_refl _) ((hIx c).putObj _ hi (by omega) hl rfl) ((World.putObj_heap_other (by omega)).trans hk)⟩
end Go.Proofs.YtlcalajehnaenaaGreatDoor
