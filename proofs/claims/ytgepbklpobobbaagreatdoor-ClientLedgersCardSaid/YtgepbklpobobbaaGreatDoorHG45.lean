/- client: Sessions of the reference: find, Last, Join, Copy. -/
import Derived.Test.YtgepbklpobobbaaGreatDoorHG1
import Derived.Test.YtgepbklpobobbaaGreatDoorHG44
import Derived.Test.YtgepbklpobobbaaGreatDoorHG43
import Derived.Test.YtgepbklpobobbaaGreatDoorHG13
import Derived.Test.YtgepbklpobobbaaGreatDoorHG42
import Derived.WalkKit
import Derived.Test.YtgepbklpobobbaaGreatDoorHG41

namespace Go.Proofs.YtgepbklpobobbaaGreatDoor
open Go.RowKit

structure Old where
  num : Int
  hash : Int
  done : Bool
  A : Option Addr
  n : Nat
  c : Nat
  bs : List UInt8
def Old.cells (o : Old) : List Value := [.int .i64 o.num, .int .u64 o.hash, .bool o.done, .slice o.A o.n o.c]
def Old.log (o : Old) : AL := (o.hash, o.done, o.bs)
def Old.ok (w : World) (o : Old) : Prop := Bts w o.A o.n o.c o.bs ∧ o.n ≤ 1048576
theorem Old.cells_length (o : Old) : o.cells.length = 4 := rfl
structure RCl where
  id : Int
  key : Int
  last : Int
  A : Option Addr
  n : Nat
  c : Nat
  olds : List Old
def RCl.cells (r : RCl) : List Value := [.int .i64 r.id, .int .u64 r.key, .int .i64 r.last, .slice r.A r.n r.c]
theorem RCl.cells_length (r : RCl) : r.cells.length = 4 := rfl
def RSesF (g : Nat) (rv : Value) (b : Nat) : Prop := b = g ∨ rv.ownBlock = some b
section
variable {w w' : World} {g : Nat} {rv rv' : Value} {rl rl' : List RCl} {F : Nat → Prop} {r : RCl}
end
/-- What is known of a client: its key, its last number, and what was accepted. -/
abbrev CSt := Int × Int × List AL
def RCl.st (r : RCl) : CSt := (r.key, r.last, r.olds.map Old.log)
def upd (σ : Int → Option CSt) (id : Int) (s : CSt) : Int → Option CSt := fun j => if j = id then some s else σ j
def joinE (o : Option CSt) (id : Int) : Int := if ¬ (1 ≤ id ∧ id ≤ 1073741824) then 1 else if o.isSome then 8 else 0
def joinS (σ : Int → Option CSt) (id key : Int) : Int → Option CSt := if joinE (σ id) id = 0 then upd σ id (key, 0, []) else σ
end Go.Proofs.YtgepbklpobobbaaGreatDoor

/- client: Accept of the reference. -/
namespace Go.Proofs.YtgepbklpobobbaaGreatDoor
open Go.RowKit

theorem RowT.news {w : World} {t : TypeId} {A : Option Addr} {xs : List Value} (h : RowT w t A xs) : ∀ ad, A = some ad → ∀ j u, xs[j]? = some u → w.cell? (ad.add j) = some u := by
  intro ad e j u hu
  have hj := (List.getElem?_eq_some_iff.1 hu).1
  obtain ⟨b, off, e2, -, -, hc⟩ := h.cells (by omega)
  rw [e] at e2
  injection e2 with e2
  subst e2
  have ea : (⟨b, off, none⟩ : Addr).add j = ⟨b, off + j, none⟩ := by unfold Addr.add; split <;> simp_all
  rw [ea, hc j hj]
  exact hu
theorem RowT.none_ {w : World} {t : TypeId} {A : Option Addr} {xs : List Value} {m size : Nat} (h : RowT w t A xs) (hl : xs.length = m * size) (hs : 0 < size) : A = none → m = 0 := by
  rintro rfl
  rcases Nat.eq_zero_or_pos m with h0 | h0
  · exact h0
  · obtain ⟨_, _, e, _⟩ := h.cells (by rw [hl]; exact Nat.mul_pos h0 hs)
    cases e
def acRes (σ : Int → Option CSt) (r : Rq) : Bool × List UInt8 × Int :=
  if (r.cl < 1 ∨ 1073741824 < r.cl) ∨ r.num < 1 ∨ 65536 < r.n then (false, [], 1)
  else match σ r.cl with
    | none => (false, [], 7)
    | some s => accRes (tagOk s.1 r) s.2.1 s.2.2 r.num (bodyI r.bs)
def acSt (σ : Int → Option CSt) (r : Rq) : Int → Option CSt :=
  if (acRes σ r).1 then (match σ r.cl with
    | none => σ
    | some s => upd σ r.cl (s.1, accNew (tagOk s.1 r) s.2.1 s.2.2 r.num (bodyI r.bs))) else σ
end Go.Proofs.YtgepbklpobobbaaGreatDoor

/- client: Accept of the reference, of a client that has joined. -/
namespace Go.Proofs.YtgepbklpobobbaaGreatDoor
open Go.RowKit

end Go.Proofs.YtgepbklpobobbaaGreatDoor

/- client: Accept refuses; Answer. -/
namespace Go.Proofs.YtgepbklpobobbaaGreatDoor
open Go.RowKit

set_option maxRecDepth 100000 in
theorem accept_arg (g : Nat) (r : Rq) (w : World) (h : ¬ (1 ≤ r.cl ∧ r.cl ≤ 1073741824) ∨ ((1 ≤ r.cl ∧ r.cl ≤ 1073741824) ∧ (r.num < 1 ∨ (1 ≤ r.num ∧ 65536 < r.n)))) :
    Calls Tryz.prog 14 #[.pointer (some ⟨g, 0, none⟩), r.val] w fun e w' => e = .returned (.tuple #[.bool false, .slice none 0 0, .int .i64 1]) ∧ Below w.heap.size w w' := by
  unfold Rq.val
  rcases h with h | ⟨⟨h1, h2⟩, h⟩
  · have hi : decide (1 ≤ r.cl ∧ r.cl ≤ 1073741824) = false := by simpa using h
    clear h
    go_enter Tryz.func14, Tryz.ntmps14
    go_wp2_with (go_at_call 34; ((with_reducible refine (isClient_any _ _).mono ?_); rintro e w1 ⟨rfl, rfl⟩; rw [hi]))
    go_ret3
    exact ⟨rfl, (Below.refl _ _).alloc (Nat.le_refl _) _⟩
  · have hi : decide (1 ≤ r.cl ∧ r.cl ≤ 1073741824) = true := by simp [h1, h2]
    rcases h with h | ⟨h, h'⟩
    · go_enter Tryz.func14, Tryz.ntmps14
      go_wp2_with (go_at_call 34; ((with_reducible refine (isClient_any _ _).mono ?_); rintro e w1 ⟨rfl, rfl⟩; rw [hi]))
      go_ret3
      exact ⟨rfl, (Below.refl _ _).alloc (Nat.le_refl _) _⟩
    · have h3 : ¬ (r.num < 1) := by omega
      have h4 : (65536 : Int) < (r.n : Int) := by omega
      go_enter Tryz.func14, Tryz.ntmps14
      go_wp2_with (go_at_call 34; ((with_reducible refine (isClient_any _ _).mono ?_); rintro e w1 ⟨rfl, rfl⟩; rw [hi]))
      go_ret3
      exact ⟨rfl, (Below.refl _ _).alloc (Nat.le_refl _) _⟩
set_option maxRecDepth 100000 in
theorem accept_none (g mb : Nat) (cl : List Cl) (r : Rq) (w : World) (HS : Hid (SesAt w g mb cl)) (HF : Hid (findC cl r.cl = none)) (h1 : 1 ≤ r.cl) (h2 : r.cl ≤ 1073741824) (h3 : 1 ≤ r.num) (h4 : r.n ≤ 65536) :
    Calls Tryz.prog 14 #[.pointer (some ⟨g, 0, none⟩), r.val] w fun e w' => e = .returned (.tuple #[.bool false, .slice none 0 0, .int .i64 7]) ∧ Below w.heap.size w w' := by
  unfold Rq.val
  have hi : decide (1 ≤ r.cl ∧ r.cl ≤ 1073741824) = true := by simp [h1, h2]
  have g3 : ¬ (r.num < 1) := by omega
  have g4 : ¬ ((65536 : Int) < (r.n : Int)) := by omega
  have hS := HS.out.all ((Below.refl w.heap.size w).alloc (Nat.le_refl _) (.cells #[.int .i64 r.cl, .int .i64 r.num, .slice r.A r.n r.c, .int .u64 r.tag] 49))
  have hq := Blk.new w 49 #[.int .i64 r.cl, .int .i64 r.num, .slice r.A r.n r.c, .int .u64 r.tag]
  have hb := (Below.refl w.heap.size w).alloc (Nat.le_refl _) (.cells #[.int .i64 r.cl, .int .i64 r.num, .slice r.A r.n r.c, .int .u64 r.tag] 49)
  go_enter Tryz.func14, Tryz.ntmps14
  go_wp2_with (go_at_call 34; ((with_reducible refine (isClient_any _ _).mono ?_); rintro e w1 ⟨rfl, rfl⟩; rw [hi]))
  clear hi g3 g4
  generalize w.alloc (.cells #[.int .i64 r.cl, .int .i64 r.num, .slice r.A r.n r.c, .int .u64 r.tag] 49) = wi at *
  obtain ⟨q0, q1, q2, q3, -, -, -, -⟩ := blk4 hq
  have hg := hS.blk.cell 0
  simp only [List.getElem?_toArray, List.getElem?_cons_zero] at hg
  have hl := fun n => (hS.drewN n).look r.cl
  rw [HF.out] at hl
  simp only [Option.map_none, Option.getD_none] at hl
  go_quiet (fail)
  go_wp2
  go_ret3
  exact ⟨rfl, below_drewN hb _⟩

def ansErr (last : Int) (acc : List AL) (num : Int) (n : Nat) : Int := if waitsL acc = false ∨ num ≠ last then 24 else if 65536 < n then 4 else 0
def ansNew (last : Int) (acc : List AL) (num : Int) (n : Nat) (bs : List UInt8) : List AL := if ansErr last acc num n = 0 then acc.set (acc.length - 1) ((acc.getLast?.map (·.1)).getD 0, true, bs) else acc
/-- Answer, for the client c among cl. -/
def AnswerPost (g mb : Nat) (l1 l2 : List Cl) (c : Cl) (num : Int) (n : Nat) (bs : List UInt8) (w : World) (e : Ending) (w' : World) : Prop :=
  ∃ (c' : Cl), e = .returned (.int .i64 (ansErr c.last (c.acc.map Acc.log) num n)) ∧ c'.id = c.id ∧ c'.key = c.key ∧ c'.last = c.last ∧ c'.acc.map Acc.log = ansNew c.last (c.acc.map Acc.log) num n bs ∧
    SesAt w' g mb (l1 ++ c' :: l2) ∧ Mod (SesF g mb (l1 ++ c :: l2)) w w' ∧ ∀ b, SesF g mb (l1 ++ c' :: l2) b → SesF g mb (l1 ++ c :: l2) b ∨ w.heap.size ≤ b
theorem AnswerPost.same {g mb : Nat} {l1 l2 : List Cl} {c : Cl} {num x : Int} {n : Nat} {bs : List UInt8} {w0 w : World} (h : SesAt w g mb (l1 ++ c :: l2)) (hb : Below w0.heap.size w0 w) (hx : ansErr c.last (c.acc.map Acc.log) num n = x) (h0 : x ≠ 0) :
    AnswerPost g mb l1 l2 c num n bs w0 (.returned (.int .i64 x)) w :=
  ⟨c, by rw [hx], rfl, rfl, rfl, by unfold ansNew; rw [hx, if_neg h0], h, Mod.of_below _ hb, fun b hb => .inl hb⟩
theorem flat_set2 (l : List Acc) : ∀ (k : Nat) (hk : k < l.length) (A : Option Addr) (n c : Nat) (bs : List UInt8),
    ((l.flatMap Acc.cells).set (k * 3 + 1) (.bool true)).set (k * 3 + 2) (.slice A n c) = (l.set k ⟨(l[k]).body, true, A, n, c, bs⟩).flatMap Acc.cells := by
  induction l with
  | nil => intro k hk; simp at hk
  | cons a l ih =>
    intro k hk A n c bs
    rcases k with _ | k
    · simp [Acc.cells]
    · have e1 : (k + 1) * 3 + 1 = a.cells.length + (k * 3 + 1) := by rw [Acc.cells_length]; omega
      have e2 : (k + 1) * 3 + 2 = a.cells.length + (k * 3 + 2) := by rw [Acc.cells_length]; omega
      rw [List.flatMap_cons, e1, e2, List.set_append_right _ _ (by omega), List.set_append_right _ _ (by omega), Nat.add_sub_cancel_left, Nat.add_sub_cancel_left, ih k (by simpa using hk) A n c bs]
      rfl
set_option maxRecDepth 100000 in
theorem answer_none (g mb : Nat) (cl : List Cl) (id num : Int) (A : Option Addr) (n cc : Nat) (w : World) (HS : Hid (SesAt w g mb cl)) (HF : Hid (findC cl id = none)) :
    Calls Tryz.prog 18 #[.pointer (some ⟨g, 0, none⟩), .int .i64 id, .int .i64 num, .slice A n cc] w fun e w' => e = .returned (.int .i64 7) ∧ w = w' := by
  have hl := HS.out.look id
  rw [HF.out] at hl
  simp only [Option.map_none, Option.getD_none] at hl
  have hg := HS.out.blk.cell 0
  simp only [List.getElem?_toArray, List.getElem?_cons_zero] at hg
  go_enter Tryz.func18, Tryz.ntmps18
  go_wp2
  go_ret
  exact ⟨rfl, rfl⟩
set_option maxRecDepth 100000 in
set_option maxHeartbeats 1000000 in
theorem answer_joined (g mb : Nat) (l1 l2 : List Cl) (c : Cl) (id num : Int) (A : Option Addr) (n cc : Nat) (bs : List UInt8) (w : World) (HS : Hid (SesAt w g mb (l1 ++ c :: l2))) (HF : Hid (findC (l1 ++ c :: l2) id = some c)) (HB : Hid (Bts w A n cc bs)) (hn : n ≤ 1048576) :
    Calls Tryz.prog 18 #[.pointer (some ⟨g, 0, none⟩), .int .i64 id, .int .i64 num, .slice A n cc] w (AnswerPost g mb l1 l2 c num n bs w) := by
  have hl := HS.out.look id
  rw [HF.out] at hl
  simp only [Option.map_some, Option.getD_some, Cl.ptr] at hl
  have hg := HS.out.blk.cell 0
  simp only [List.getElem?_toArray, List.getElem?_cons_zero] at hg
  have HOK := Lib.hid (HS.out.ok c (by simp))
  have HW := Lib.hid (waitsB_log c.acc)
  go_enter Tryz.func18, Tryz.ntmps18
  go_wp2_with fail
  refine (waits_any c _ HOK).mono ?_
  rintro e w1 ⟨rfl, m, rfl⟩
  have hS := HS.out.drewN m
  have hB := HB.out.all (w' := w.drewN m) ⟨rfl, rfl, rfl, Nat.le_refl _, fun _ _ => rfl⟩
  have hb := below_drewN (Below.refl w.heap.size w) m
  clear hl hg HOK
  generalize w.drewN m = wi at *
  have hok := hS.ok c (by simp)
  obtain ⟨s0, s1, s2, -, -, -⟩ := blk3 hok.1
  rcases hw : waitsB c.acc with _ | _
  · go_wp2
    go_ret
    exact AnswerPost.same hS hb (by unfold ansErr; rw [← HW.out, hw, if_pos (.inl rfl)]) (by decide)
  by_cases hnum : num = c.last
  rotate_left
  · have hne : (num != c.last) = true := by simpa [bne] using hnum
    go_wp2
    go_ret
    exact AnswerPost.same hS hb (by unfold ansErr; rw [if_pos (.inr hnum)]) (by decide)
  have hne : (num != c.last) = false := by simp [hnum]
  have HNUM := Lib.hid hnum
  clear hnum
  by_cases hbig : 65536 < n
  · have hbig' : (65536 : Int) < (n : Int) := by omega
    go_wp2
    go_ret
    exact AnswerPost.same hS hb (by unfold ansErr; rw [← HW.out, hw, if_neg (by simp [HNUM.out]), if_pos hbig]) (by decide)
  have hbig' : ¬ ((65536 : Int) < (n : Int)) := by omega
  have hpos : 0 < c.acc.length := by
    rcases hz : c.acc with _ | ⟨x, l⟩
    · rw [hz] at hw
      simp [waitsB] at hw
    · simp
  obtain ⟨k, hk⟩ : ∃ k, c.acc.length = k + 1 := ⟨c.acc.length - 1, by omega⟩
  have hkl : k < c.acc.length := by omega
  obtain ⟨g1, cap, hv, -⟩ := hok.row hkl
  have hlen := hok.2.2.2.2
  rw [hv, hk] at s2
  have HERR := Lib.hid (show ansErr c.last (c.acc.map Acc.log) num n = 0 by unfold ansErr; rw [← HW.out, hw, if_neg (by simp [HNUM.out]), if_neg hbig])
  have HK := Lib.hid hk
  have HV := Lib.hid hv
  have HOK := Lib.hid hok
  have hk1 : (k : Int) < (k : Int) + 1 := by omega
  have hkm : k + 1 ≤ 16 := by omega
  clear hk hv hok hpos hlen
  go_wp2
  go_quiet (fail)
  replace hS := hS.drewN nq
  replace hB := hB.all (w' := wi.drewN nq) ⟨rfl, rfl, rfl, Nat.le_refl _, fun _ _ => rfl⟩
  replace hb := below_drewN hb nq
  clear s0 s1 s2 HOK
  generalize wi.drewN nq = wj at *
  have HL := Lib.hid hB.1
  go_wp2_with fail
  refine (cloneB_any _ _ _ bs _ HL (by omega) hB.rd).mono ?_
  rintro e wz ⟨A', c', rfl, hB', hb'⟩
  replace hS := hS.all hb'
  replace hb := bt hb hb'
  clear hb' hB
  have hok := hS.ok c (by simp)
  obtain ⟨g2, cap2, hv2, -, t1, t2, tf, -⟩ := hok.row hkl
  rw [HV.out] at hv2
  injection hv2 with hv3 _ hv4
  injection hv3 with hv3
  injection hv3 with hv3
  subst hv3 hv4
  have tf1 := tf (k * 3 + 1)
  have tf2 := tf (k * 3 + 2)
  have HOK := Lib.hid hok
  clear tf hok
  go_wp2
  go_ret
  have hok := HOK.out
  have ho := hok.2.1
  rw [HV.out] at ho
  have ho2 := ((ho.stored (k * 3 + 1) (.bool true)).1.stored (k * 3 + 2) (.slice A' n c')).1
  rw [flat_set2 c.acc k hkl A' n c' bs] at ho2
  have hne1 : c.sb ≠ g1 := by
    rintro e
    have := Ty.of_own ho (g := g1) rfl
    rw [← e] at this
    exact absurd (Ty.unique hok.1.ty this) (by decide)
  have hm : Mod c.F wz ((wz.setCell ⟨g1, k * 3 + 1, none⟩ (.bool true)).setCell ⟨g1, k * 3 + 2, none⟩ (.slice A' n c')) :=
    ((Mod.refl c.F wz).set (p := ⟨g1, k * 3 + 1, none⟩) (.inl (.inr (by rw [HV.out]; rfl))) _).set (p := ⟨g1, k * 3 + 2, none⟩) (.inl (.inr (by rw [HV.out]; rfl))) _
  obtain ⟨u1, u2, u3⟩ := hS.upd (c' := ⟨c.id, c.key, c.last, c.acc.set k ⟨(c.acc[k]).body, true, A', n, c', bs⟩, c.sb, c.rv⟩) hm rfl rfl
    ⟨(hok.1.far (p := ⟨g1, k * 3 + 1, none⟩) hne1 _).far (p := ⟨g1, k * 3 + 2, none⟩) hne1 _, by
      dsimp only
      rw [HV.out, List.length_set]
      exact ho2, fun a ha => by
      rcases List.mem_or_eq_of_mem_set ha with ha | rfl
      · exact (hok.2.2.1 a ha).mod hm hok.noB
      · exact ⟨hB'.mod hm hok.noB, hn⟩, hok.2.2.2.1, by dsimp only; rw [List.length_set]; exact hok.2.2.2.2⟩ (.inl rfl)
  have hlw := hb.size
  refine ⟨⟨c.id, c.key, c.last, c.acc.set k ⟨(c.acc[k]).body, true, A', n, c', bs⟩, c.sb, c.rv⟩, by rw [HERR.out]; rfl, rfl, rfl, rfl, ?_, u1, (Mod.of_below _ hb).trans u2 (fun b hb => .inl hb), fun b hb => (u3 b hb).imp (fun h => h) (fun h => by omega)⟩
  unfold ansNew
  rw [if_pos HERR.out, List.map_set, List.length_map, HK.out, List.getLast?_map, List.getLast?_eq_getElem?, HK.out, Nat.add_sub_cancel, List.getElem?_eq_getElem hkl]
  rfl
end Go.Proofs.YtgepbklpobobbaaGreatDoor

/- client: Accept (all cases) and Answer of the reference. -/
namespace Go.Proofs.YtgepbklpobobbaaGreatDoor
open Go.RowKit

def anErr (σ : Int → Option CSt) (id num : Int) (n : Nat) : Int := match σ id with
  | none => 7
  | some s => ansErr s.2.1 s.2.2 num n
def anSt (σ : Int → Option CSt) (id num : Int) (n : Nat) (bs : List UInt8) : Int → Option CSt := match σ id with
  | none => σ
  | some s => upd σ id (s.1, s.2.1, ansNew s.2.1 s.2.2 num n bs)
theorem upd_same {σ : Int → Option CSt} {id : Int} {s : CSt} (h : σ id = some s) : upd σ id s = σ := by
  funext j
  unfold upd
  split
  · rename_i e
    rw [e, h]
  · rfl
end Go.Proofs.YtgepbklpobobbaaGreatDoor

/- client: IndexFunc within Got. -/
namespace Go.Proofs.YtgepbklpobobbaaGreatDoor
open Go.RowKit

end Go.Proofs.YtgepbklpobobbaaGreatDoor

/- Delete of one element of a row of structs: the two steps (append over itself, clear of the last) as runs. -/
namespace Go.Proofs.YtgepbklpobobbaaGreatDoor
open Go.RowKit

end Go.Proofs.YtgepbklpobobbaaGreatDoor

/- client: Copy of the package's Sessions. -/
namespace Go.Proofs.YtgepbklpobobbaaGreatDoor
open Go.RowKit

theorem IMap.nodup' {w : World} {b : Nat} {es : List (Int × Value)} (h : IMap w b es) : (es.map Prod.fst).Nodup := by
  obtain ⟨_, _, _, _, h, _⟩ := h
  exact h
def Cl.st (c : Cl) : CSt := (c.key, c.last, c.acc.map Acc.log)
def sigP (cl : List Cl) (id : Int) : Option CSt := (findC cl id).map Cl.st
theorem sigP_snoc {cl : List Cl} {c : Cl} (hno : findC cl c.id = none) : sigP (cl ++ [c]) = upd (sigP cl) c.id c.st := by
  funext j
  unfold sigP upd findC
  rw [List.find?_append]
  by_cases hj : j = c.id
  · subst hj
    unfold findC at hno
    simp [hno]
  · have : ¬ c.id = j := fun e => hj e.symm
    simp [hj, this]
end Go.Proofs.YtgepbklpobobbaaGreatDoor

/- client: the package's Sessions told as the reference's are. -/
namespace Go.Proofs.YtgepbklpobobbaaGreatDoor
open Go.RowKit

def PNext (g mb : Nat) (cl : List Cl) (σ : Int → Option CSt) (w w' : World) : Prop := ∃ cl', SesAt w' g mb cl' ∧ sigP cl' = σ ∧ Mod (SesF g mb cl) w w' ∧ ∀ b, SesF g mb cl' b → SesF g mb cl b ∨ w.heap.size ≤ b
theorem PNext.same {g mb : Nat} {cl : List Cl} {w w' : World} (h : SesAt w g mb cl) (hb : Below w.heap.size w w') : PNext g mb cl (sigP cl) w w' := ⟨cl, h.all hb, rfl, Mod.of_below _ hb, fun _ h => .inl h⟩
theorem sigP_upd {w : World} {g mb : Nat} {l1 l2 : List Cl} {c c' : Cl} (h : SesAt w g mb (l1 ++ c :: l2)) (hid : c'.id = c.id) : sigP (l1 ++ c' :: l2) = upd (sigP (l1 ++ c :: l2)) c.id c'.st := by
  have hn := IMap.nodup' h.map
  rw [List.map_map] at hn
  have hno : ∀ x ∈ l1, x.id ≠ c.id := by
    intro x hx e
    rw [List.map_append, List.nodup_append] at hn
    exact hn.2.2 x.id (List.mem_map.2 ⟨x, hx, rfl⟩) c.id (by simp) e
  funext j
  unfold sigP upd findC
  dsimp only
  rw [List.find?_append, List.find?_append, List.find?_cons, List.find?_cons, hid]
  by_cases hj : j = c.id
  · subst hj
    have h1 : l1.find? (fun x => x.id == c.id) = none := by
      rw [List.find?_eq_none]
      intro x hx
      simpa using hno x hx
    simp [h1]
  · have : ¬ c.id = j := fun e => hj e.symm
    rw [show (c.id == j) = false by simpa using this]
    simp [hj]
theorem sigP_some {cl : List Cl} {id : Int} {c : Cl} (h : findC cl id = some c) : sigP cl id = some c.st := by unfold sigP; rw [h]; rfl
theorem sigP_none {cl : List Cl} {id : Int} (h : findC cl id = none) : sigP cl id = none := by unfold sigP; rw [h]; rfl
theorem lastP_any (g mb : Nat) (cl : List Cl) (id : Int) (w : World) (HS : Hid (SesAt w g mb cl)) : Calls Tryz.prog 20 #[.pointer (some ⟨g, 0, none⟩), .int .i64 id] w fun e w' => e = .returned (.int .i64 ((sigP cl id).elim 0 (·.2.1))) ∧ w = w' :=
  (lastS_any g mb cl id w HS).mono fun e w' ⟨he, hw⟩ => ⟨by
    rw [he]
    unfold sigP
    cases findC cl id <;> rfl, hw⟩
theorem joinP_any (g mb : Nat) (cl : List Cl) (id key : Int) (w : World) (HS : Hid (SesAt w g mb cl)) :
    Calls Tryz.prog 8 #[.pointer (some ⟨g, 0, none⟩), .int .i64 id, .int .u64 key] w fun e w' => e = .returned (.int .i64 (joinE (sigP cl id) id)) ∧ PNext g mb cl (joinS (sigP cl) id key) w w' := by
  by_cases h : 1 ≤ id ∧ id ≤ 1073741824
  · rcases hf : findC cl id with _ | c
    · have he : joinE (sigP cl id) id = 0 := by unfold joinE; rw [if_neg (by omega), sigP_none hf]; rfl
      refine (join_yes g mb cl id key w HS h.1 h.2 hf).mono ?_
      rintro e w' ⟨sb, rfl, hS, hm, hF⟩
      exact ⟨by rw [he], _, hS, by unfold joinS; rw [if_pos he]; exact sigP_snoc (c := ⟨id, key, 0, [], sb, .slice none 0 0⟩) hf, hm, hF⟩
    · have he : joinE (sigP cl id) id = 8 := by unfold joinE; rw [if_neg (by omega), sigP_some hf]; rfl
      refine (join_twice g mb cl c id key w HS h.1 h.2 hf).mono ?_
      rintro e w' ⟨rfl, rfl⟩
      exact ⟨by rw [he], by unfold joinS; rw [if_neg (by rw [he]; decide)]; exact PNext.same HS.out (Below.refl _ _)⟩
  · have he : joinE (sigP cl id) id = 1 := by unfold joinE; rw [if_pos h]
    refine (join_arg g id key w h).mono ?_
    rintro e w' ⟨rfl, rfl⟩
    exact ⟨by rw [he], by unfold joinS; rw [if_neg (by rw [he]; decide)]; exact PNext.same HS.out (Below.refl _ _)⟩
def PAccPost (g mb : Nat) (cl : List Cl) (r : Rq) (w : World) (e : Ending) (w' : World) : Prop :=
  ∃ A n cap, e = .returned (.tuple #[.bool (acRes (sigP cl) r).1, .slice A n cap, .int .i64 (acRes (sigP cl) r).2.2]) ∧ Bts w' A n cap (acRes (sigP cl) r).2.1 ∧ PNext g mb cl (acSt (sigP cl) r) w w'
theorem acceptP_any (g mb : Nat) (cl : List Cl) (r : Rq) (w : World) (HS : Hid (SesAt w g mb cl)) (HR : Hid (r.ok w)) (h5 : r.num ≤ 9223372036854775807) (HLT : Hid (∀ s, sigP cl r.cl = some s → s.2.1 < 4611686018427387904)) :
    Calls Tryz.prog 14 #[.pointer (some ⟨g, 0, none⟩), .agg #[.int .i64 r.cl, .int .i64 r.num, .slice r.A r.n r.c, .int .u64 r.tag]] w (PAccPost g mb cl r w) := by
  by_cases h : (r.cl < 1 ∨ 1073741824 < r.cl) ∨ r.num < 1 ∨ 65536 < r.n
  · have he : acRes (sigP cl) r = (false, [], 1) := by unfold acRes; rw [if_pos h]
    refine (accept_arg g r w (by omega)).mono ?_
    rintro e w' ⟨rfl, hb⟩
    exact ⟨none, 0, 0, by rw [he], by rw [he]; exact Bts.nil _, by unfold acSt; rw [he]; exact PNext.same HS.out hb⟩
  · rcases hf : findC cl r.cl with _ | c
    · have he : acRes (sigP cl) r = (false, [], 7) := by unfold acRes; rw [if_neg h, sigP_none hf]
      refine (accept_none g mb cl r w HS (Lib.hid hf) (by omega) (by omega) (by omega) (by omega)).mono ?_
      rintro e w' ⟨rfl, hb⟩
      exact ⟨none, 0, 0, by rw [he], by rw [he]; exact Bts.nil _, by unfold acSt; rw [he]; exact PNext.same HS.out hb⟩
    · obtain ⟨l1, l2, rfl, hid⟩ := findC_split hf
      have hs := sigP_some hf
      have he : acRes (sigP (l1 ++ c :: l2)) r = accRes (tagOk c.key r) c.last (c.acc.map Acc.log) r.num (bodyI r.bs) := by unfold acRes; rw [if_neg h, hs]; rfl
      refine (accept_joined g mb l1 l2 c r w HS (Lib.hid hf) HR (by omega) (by omega) (by omega) (by omega) h5 (HLT.out _ hs)).mono ?_
      rintro e w' ⟨A, n, cap, c', rfl, hB, hi, hk, hst, hS, hm, hF⟩
      refine ⟨A, n, cap, by rw [he], by rw [he]; exact hB, _, hS, ?_, hm, hF⟩
      rw [sigP_upd HS.out hi]
      unfold acSt
      rw [hs, he]
      dsimp only
      have hst' : c'.st = (c.key, accNew (tagOk c.key r) c.last (c.acc.map Acc.log) r.num (bodyI r.bs)) := by unfold Cl.st; rw [hk, hst]
      rw [hst', hid]
      split
      · rfl
      · rename_i hno
        refine upd_same ?_
        rw [hs]
        unfold accNew Cl.st
        rw [if_neg hno]
def PAnsPost (g mb : Nat) (cl : List Cl) (id num : Int) (n : Nat) (bs : List UInt8) (w : World) (e : Ending) (w' : World) : Prop := e = .returned (.int .i64 (anErr (sigP cl) id num n)) ∧ PNext g mb cl (anSt (sigP cl) id num n bs) w w'
theorem answerP_any (g mb : Nat) (cl : List Cl) (id num : Int) (A : Option Addr) (n cc : Nat) (bs : List UInt8) (w : World) (HS : Hid (SesAt w g mb cl)) (HB : Hid (Bts w A n cc bs)) (hn : n ≤ 1048576) :
    Calls Tryz.prog 18 #[.pointer (some ⟨g, 0, none⟩), .int .i64 id, .int .i64 num, .slice A n cc] w (PAnsPost g mb cl id num n bs w) := by
  rcases hf : findC cl id with _ | c
  · refine (answer_none g mb cl id num A n cc w HS (Lib.hid hf)).mono ?_
    rintro e w' ⟨rfl, rfl⟩
    exact ⟨by unfold anErr; rw [sigP_none hf], by unfold anSt; rw [sigP_none hf]; exact PNext.same HS.out (Below.refl _ _)⟩
  · obtain ⟨l1, l2, rfl, hid⟩ := findC_split hf
    have hs := sigP_some hf
    refine (answer_joined g mb l1 l2 c id num A n cc bs w HS (Lib.hid hf) HB hn).mono ?_
    rintro e w' ⟨c', rfl, hi, hk, hl, hst, hS, hm, hF⟩
    refine ⟨by unfold anErr; rw [hs]; rfl, _, hS, ?_, hm, hF⟩
    rw [sigP_upd HS.out hi]
    unfold anSt
    rw [hs]
    dsimp only
    have hst' : c'.st = (c.key, c.last, ansNew c.last (c.acc.map Acc.log) num n bs) := by unfold Cl.st; rw [hk, hl, hst]
    rw [hst', hid]
    rfl
end Go.Proofs.YtgepbklpobobbaaGreatDoor

/- client: a Caller of the package and one of the reference, side by side. -/
namespace Go.Proofs.YtgepbklpobobbaaGreatDoor
open Go.RowKit

theorem CallAt.apart {w : World} {T E T' E' : TypeId} {g g' : Nat} {cl key last cl' key' last' : Int} {rv rv' : Value} {op op' : List Rq} (h : CallAt w T E g cl key last rv op) (h' : CallAt w T' E' g' cl' key' last' rv' op') (h1 : T ≠ T') (h2 : T ≠ E') (h3 : E ≠ T') (h4 : E ≠ E') : ∀ b, CallF g rv b → ¬ CallF g' rv' b := by
  rintro b (rfl | hb) (rfl | hb')
  · exact h1 (Ty.unique h.1.ty h'.1.ty)
  · exact h2 (Ty.unique h.1.ty (Ty.of_own h'.2.1 hb'))
  · exact h3 (Ty.unique (Ty.of_own h.2.1 hb) h'.1.ty)
  · exact h4 (Ty.unique (Ty.of_own h.2.1 hb) (Ty.of_own h'.2.1 hb'))
section
variable {W w w' : World} {gc gm : Nat} {cl key last lastm last' lastm' : Int} {rv rvm rv' rvm' : Value} {op opm op' opm' : List Rq}
end
end Go.Proofs.YtgepbklpobobbaaGreatDoor

/- client: Send of the package and of the reference, told alike. -/
namespace Go.Proofs.YtgepbklpobobbaaGreatDoor
open Go.RowKit

end Go.Proofs.YtgepbklpobobbaaGreatDoor

/- Plain Lean: varints, zigzag, and reading them. -/
namespace Go.Proofs.YtgepbklpobobbaaGreatDoor
open Go.RowKit

/-- The varint of a number. -/
def varint (n : Nat) : List UInt8 := if _h : n < 128 then [UInt8.ofNat n] else UInt8.ofNat (n % 128 + 128) :: varint (n / 128)
termination_by n
decreasing_by omega
theorem varint_lt {n : Nat} (h : n < 128) : varint n = [UInt8.ofNat n] := by rw [varint, dif_pos h]
theorem varint_ge {n : Nat} (h : 128 ≤ n) : varint n = UInt8.ofNat (n % 128 + 128) :: varint (n / 128) := by rw [varint, dif_neg (by omega)]
theorem varint_len (k : Nat) : ∀ {n : Nat}, n < 128 ^ (k + 1) → (varint n).length ≤ k + 1 := by
  induction k with
  | zero => intro n h; rw [varint_lt (by simpa using h)]; simp
  | succ k ih =>
    intro n h
    by_cases h1 : n < 128
    · rw [varint_lt h1]; simp
    · rw [varint_ge (by omega)]
      have : n / 128 < 128 ^ (k + 1) := Nat.div_lt_of_lt_mul (by rw [Nat.pow_succ] at h; omega)
      have := ih this
      simp only [List.length_cons]; omega
theorem varint_len10 {n : Nat} (h : n ≤ 18446744073709551615) : (varint n).length ≤ 10 := varint_len 9 (by omega)
/-- The zigzag form. -/
def zigI (n : Int) : Nat := if n < 0 then (2 * (-(n + 1)) + 1).toNat else (2 * n).toNat
def unzigI (z : Nat) : Int := if z % 2 = 1 then -((z / 2 : Nat) : Int) - 1 else ((z / 2 : Nat) : Int)
theorem zigI_lt {n : Int} (h1 : -9223372036854775808 ≤ n) (h2 : n ≤ 9223372036854775807) : zigI n ≤ 18446744073709551615 := by unfold zigI; split <;> omega
theorem unzig_zig (n : Int) : unzigI (zigI n) = n := by unfold unzigI zigI; split <;> split <;> omega
/-- The encodings. -/
def encInt (n : Int) : List UInt8 := varint (zigI n)
theorem ofNat_toNat {n : Nat} (h : n < 256) : (((UInt8.ofNat n).toNat : Nat) : Int) = (n : Int) := by rw [UInt8.toNat_ofNat']; omega
end Go.Proofs.YtgepbklpobobbaaGreatDoor

/- The hash is one to one in each of its words: no program in sight. -/
namespace Go.Proofs.YtgepbklpobobbaaGreatDoor
open Go.RowKit

theorem bits_xor_u64 (a b : Int) : bits BinOp.xor IntKind.u64 a b = ((BitVec.ofInt 64 a ^^^ BitVec.ofInt 64 b).toNat : Int) := by
  show IntKind.u64.wrap ((BitVec.ofInt 64 a ^^^ BitVec.ofInt 64 b).toNat : Int) = _
  rw [wrap_u64]
  have := (BitVec.ofInt 64 a ^^^ BitVec.ofInt 64 b).isLt
  omega

end Go.Proofs.YtgepbklpobobbaaGreatDoor

/- Plain Lean: what the bit operations of package wire come to. -/
namespace Go.Proofs.YtgepbklpobobbaaGreatDoor
open Go.RowKit

theorem not64 (x : Nat) (hx : x < 18446744073709551616) : (BitVec.ofNat 64 x ^^^ BitVec.allOnes 64).toNat = 18446744073709551615 - x := by
  rw [BitVec.xor_allOnes, BitVec.toNat_not, BitVec.toNat_ofNat]
  omega
theorem zig_bits {n : Int} (h1 : -9223372036854775808 ≤ n) (h2 : n ≤ 9223372036854775807) :
    bits BinOp.xor IntKind.u64 (IntKind.u64.wrap (IntKind.u64.wrap n * 2)) (IntKind.u64.wrap (n / 9223372036854775808)) = ((zigI n : Nat) : Int) := by
  rw [bits_xor_u64]
  simp only [wrap_u64]
  unfold zigI
  by_cases h : n < 0
  · rw [if_pos h]
    have e1 : n / 9223372036854775808 % 18446744073709551616 = 18446744073709551615 := by omega
    have e2 : n % 18446744073709551616 * 2 % 18446744073709551616 = ((18446744073709551616 + 2 * n).toNat : Int) := by omega
    have e3 : BitVec.ofInt 64 18446744073709551615 = BitVec.allOnes 64 := by decide +kernel
    rw [e1, e2, e3, BitVec.ofInt_natCast, not64 _ (by omega)]
    omega
  · rw [if_neg h]
    have e1 : n / 9223372036854775808 % 18446744073709551616 = 0 := by omega
    have e2 : n % 18446744073709551616 * 2 % 18446744073709551616 = ((2 * n).toNat : Int) := by omega
    rw [e1, e2, BitVec.ofInt_natCast, show BitVec.ofInt 64 0 = 0#64 by decide +kernel, BitVec.xor_zero, BitVec.toNat_ofNat]
    omega
theorem bits_and_one (n : Nat) : bits BinOp.and IntKind.u64 (n : Int) 1 = ((n % 2 : Nat) : Int) := by
  show IntKind.u64.wrap ((BitVec.ofInt 64 (n : Int) &&& BitVec.ofInt 64 1).toNat : Int) = _
  rw [wrap_u64, BitVec.toNat_and, BitVec.ofInt_natCast, BitVec.toNat_ofNat, show (BitVec.ofInt 64 1).toNat = 1 by decide +kernel, Nat.and_one_is_mod]
  omega
theorem unzig_bits {n : Nat} (h : n ≤ 18446744073709551615) :
    bits BinOp.xor IntKind.i64 ((n : Int) / 2) (wrap64 (-wrap64 (bits BinOp.and IntKind.u64 (n : Int) 1))) = unzigI n := by
  rw [bits_and_one n]
  show IntKind.i64.wrap ((BitVec.ofInt 64 ((n : Int) / 2) ^^^ BitVec.ofInt 64 (wrap64 (-wrap64 ((n % 2 : Nat) : Int)))).toNat : Int) = _
  unfold unzigI
  have ew : ∀ x : Int, IntKind.i64.wrap x = (x + 9223372036854775808) % 18446744073709551616 - 9223372036854775808 := by
    intro x
    simp [IntKind.wrap, IntKind.bits, IntKind.signed]
    omega
  have e0 : BitVec.ofInt 64 ((n : Int) / 2) = BitVec.ofNat 64 (n / 2) := by rw [show (n : Int) / 2 = ((n / 2 : Nat) : Int) by omega, BitVec.ofInt_natCast]
  rw [e0]
  by_cases h2 : n % 2 = 1
  · rw [if_pos h2, h2]
    have e1 : wrap64 (-wrap64 ((1 : Nat) : Int)) = -1 := by decide +kernel
    have e3 : BitVec.ofInt 64 (-1) = BitVec.allOnes 64 := by decide +kernel
    rw [e1, e3, not64 _ (by omega), ew]
    omega
  · rw [if_neg h2]
    have e1 : wrap64 (-wrap64 ((n % 2 : Nat) : Int)) = 0 := by rw [show n % 2 = 0 by omega]; decide +kernel
    rw [e1, show BitVec.ofInt 64 0 = 0#64 by decide +kernel, BitVec.xor_zero, BitVec.toNat_ofNat, ew]
    omega
theorem and127_fin : ∀ n : Fin 256, bits BinOp.and IntKind.u8 ((n.val : Nat) : Int) 127 = ((n.val % 128 : Nat) : Int) := by decide +kernel
theorem and127 (c : UInt8) : bits BinOp.and IntKind.u8 ((c.toNat : Nat) : Int) 127 = ((c.toNat % 128 : Nat) : Int) := and127_fin ⟨c.toNat, c.toNat_lt⟩
theorem or_step {i acc : Nat} {c : UInt8} (hi : i ≤ 9) (ha : acc < 128 ^ i) (h9 : i = 9 → c.toNat % 128 ≤ 1) :
    bits BinOp.or IntKind.u64 (acc : Int) (IntKind.u64.wrap (IntKind.u64.wrap (bits BinOp.and IntKind.u8 ((c.toNat : Nat) : Int) 127) * 2 ^ (7 * i))) = ((acc + c.toNat % 128 * 128 ^ i : Nat) : Int) := by
  rw [and127]
  have hm : c.toNat % 128 < 128 := Nat.mod_lt _ (by decide)
  generalize c.toNat % 128 = x at *
  have hp : (128 : Nat) ^ i = 2 ^ (7 * i) := by rw [show (128 : Nat) = 2 ^ 7 from rfl, ← Nat.pow_mul]
  have hbound : 2 ^ (7 * i) * x < 18446744073709551616 := by
    by_cases e : i = 9
    · subst e
      have := h9 rfl
      have : 2 ^ (7 * 9) * x ≤ 2 ^ (7 * 9) * 1 := Nat.mul_le_mul (Nat.le_refl _) this
      omega
    · have h8 : 2 ^ (7 * i) ≤ 2 ^ 56 := Nat.pow_le_pow_right (by decide) (by omega)
      have : 2 ^ (7 * i) * x ≤ 2 ^ 56 * 127 := Nat.mul_le_mul h8 (by omega)
      omega
  have hacc : acc < 18446744073709551616 := by
    have : 128 ^ i ≤ 128 ^ 9 := Nat.pow_le_pow_right (by decide) hi
    omega
  rw [wrap_u64, wrap_u64]
  have e2 : ((x : Int) % 18446744073709551616 * 2 ^ (7 * i)) % 18446744073709551616 = ((2 ^ (7 * i) * x : Nat) : Int) := by
    rw [Int.emod_eq_of_lt (a := (x : Int)) (by omega) (by omega)]
    rw [show ((x : Int) * 2 ^ (7 * i)) = ((2 ^ (7 * i) * x : Nat) : Int) from by push_cast; exact Int.mul_comm _ _]
    exact Int.emod_eq_of_lt (by omega) (by omega)
  rw [hp] at ha ⊢
  rw [e2, u64_or_nat _ _ (by omega) (by omega)]
  congr 1
  rw [Nat.or_comm, ← Nat.two_pow_add_eq_or_of_lt (by omega), Nat.mul_comm x]
  omega
end Go.Proofs.YtgepbklpobobbaaGreatDoor
