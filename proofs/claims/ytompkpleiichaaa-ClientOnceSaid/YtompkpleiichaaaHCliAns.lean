/- client: Accept refuses; Answer. -/
import Derived.Test.YtompkpleiichaaaHCliAcc

namespace Go.Proofs.Ytompkpleiichaaa
open Go.RowKit

set_option maxRecDepth 100000 in
theorem accept_arg (g : Nat) (r : Rq) (w : World) (h : ¬ (1 ≤ r.cl ∧ r.cl ≤ 1073741824) ∨ ((1 ≤ r.cl ∧ r.cl ≤ 1073741824) ∧ (r.num < 1 ∨ (1 ≤ r.num ∧ 65536 < r.n)))) :
    Calls Try.prog 20 #[.pointer (some ⟨g, 0, none⟩), r.val] w fun e w' => e = .returned (.tuple #[.bool false, .slice none 0 0, .int .i64 1]) ∧ Below w.heap.size w w' := by
  unfold Rq.val
  rcases h with h | ⟨⟨h1, h2⟩, h⟩
  · have hi : decide (1 ≤ r.cl ∧ r.cl ≤ 1073741824) = false := by simpa using h
    clear h
    go_enter Try.func20, Try.ntmps20
    go_wp2_with (go_at_call 47; ((with_reducible refine (isClient_any _ _).mono ?_); rintro e w1 ⟨rfl, rfl⟩; rw [hi]))
    go_ret3
    exact ⟨rfl, (Below.refl _ _).alloc (Nat.le_refl _) _⟩
  · have hi : decide (1 ≤ r.cl ∧ r.cl ≤ 1073741824) = true := by simp [h1, h2]
    rcases h with h | ⟨h, h'⟩
    · go_enter Try.func20, Try.ntmps20
      go_wp2_with (go_at_call 47; ((with_reducible refine (isClient_any _ _).mono ?_); rintro e w1 ⟨rfl, rfl⟩; rw [hi]))
      go_ret3
      exact ⟨rfl, (Below.refl _ _).alloc (Nat.le_refl _) _⟩
    · have h3 : ¬ (r.num < 1) := by omega
      have h4 : (65536 : Int) < (r.n : Int) := by omega
      go_enter Try.func20, Try.ntmps20
      go_wp2_with (go_at_call 47; ((with_reducible refine (isClient_any _ _).mono ?_); rintro e w1 ⟨rfl, rfl⟩; rw [hi]))
      go_ret3
      exact ⟨rfl, (Below.refl _ _).alloc (Nat.le_refl _) _⟩
set_option maxRecDepth 100000 in
theorem accept_none (g mb : Nat) (cl : List Cl) (r : Rq) (w : World) (HS : Hid (SesAt w g mb cl)) (HF : Hid (findC cl r.cl = none)) (h1 : 1 ≤ r.cl) (h2 : r.cl ≤ 1073741824) (h3 : 1 ≤ r.num) (h4 : r.n ≤ 65536) :
    Calls Try.prog 20 #[.pointer (some ⟨g, 0, none⟩), r.val] w fun e w' => e = .returned (.tuple #[.bool false, .slice none 0 0, .int .i64 7]) ∧ Below w.heap.size w w' := by
  unfold Rq.val
  have hi : decide (1 ≤ r.cl ∧ r.cl ≤ 1073741824) = true := by simp [h1, h2]
  have g3 : ¬ (r.num < 1) := by omega
  have g4 : ¬ ((65536 : Int) < (r.n : Int)) := by omega
  have hS := HS.out.all ((Below.refl w.heap.size w).alloc (Nat.le_refl _) (.cells #[.int .i64 r.cl, .int .i64 r.num, .slice r.A r.n r.c, .int .u64 r.tag] 32))
  have hq := Blk.new w 32 #[.int .i64 r.cl, .int .i64 r.num, .slice r.A r.n r.c, .int .u64 r.tag]
  have hb := (Below.refl w.heap.size w).alloc (Nat.le_refl _) (.cells #[.int .i64 r.cl, .int .i64 r.num, .slice r.A r.n r.c, .int .u64 r.tag] 32)
  go_enter Try.func20, Try.ntmps20
  go_wp2_with (go_at_call 47; ((with_reducible refine (isClient_any _ _).mono ?_); rintro e w1 ⟨rfl, rfl⟩; rw [hi]))
  clear hi g3 g4
  generalize w.alloc (.cells #[.int .i64 r.cl, .int .i64 r.num, .slice r.A r.n r.c, .int .u64 r.tag] 32) = wi at *
  obtain ⟨q0, q1, q2, q3, -, -, -, -⟩ := blk4 hq
  have hg := hS.blk.cell 0
  simp only [List.getElem?_toArray, List.getElem?_cons_zero] at hg
  have hl := fun n => (hS.drewN n).look r.cl
  rw [HF.out] at hl
  simp only [Option.map_none, Option.getD_none] at hl
  go_quiet (fail)
  go_wp2
  go_ret3
  exact ⟨rfl, below_drewN hb _⟩

def ansErr (last : Int) (acc : List AL) (num : Int) (n : Nat) : Int := if waitsL acc = false ∨ num ≠ last then 24 else if 65536 < n then 4 else 0
def ansNew (last : Int) (acc : List AL) (num : Int) (n : Nat) (bs : List UInt8) : List AL := if ansErr last acc num n = 0 then acc.set (acc.length - 1) ((acc.getLast?.map (·.1)).getD 0, true, bs) else acc
/-- Answer, for the client c among cl. -/
def AnswerPost (g mb : Nat) (l1 l2 : List Cl) (c : Cl) (num : Int) (n : Nat) (bs : List UInt8) (w : World) (e : Ending) (w' : World) : Prop :=
  ∃ (c' : Cl), e = .returned (.int .i64 (ansErr c.last (c.acc.map Acc.log) num n)) ∧ c'.id = c.id ∧ c'.key = c.key ∧ c'.last = c.last ∧ c'.acc.map Acc.log = ansNew c.last (c.acc.map Acc.log) num n bs ∧
    SesAt w' g mb (l1 ++ c' :: l2) ∧ Mod (SesF g mb (l1 ++ c :: l2)) w w' ∧ ∀ b, SesF g mb (l1 ++ c' :: l2) b → SesF g mb (l1 ++ c :: l2) b ∨ w.heap.size ≤ b
theorem AnswerPost.same {g mb : Nat} {l1 l2 : List Cl} {c : Cl} {num x : Int} {n : Nat} {bs : List UInt8} {w0 w : World} (h : SesAt w g mb (l1 ++ c :: l2)) (hb : Below w0.heap.size w0 w) (hx : ansErr c.last (c.acc.map Acc.log) num n = x) (h0 : x ≠ 0) :
    AnswerPost g mb l1 l2 c num n bs w0 (.returned (.int .i64 x)) w :=
  ⟨c, by rw [hx], rfl, rfl, rfl, by unfold ansNew; rw [hx, if_neg h0], h, Mod.of_below _ hb, fun b hb => .inl hb⟩
theorem flat_set2 (l : List Acc) : ∀ (k : Nat) (hk : k < l.length) (A : Option Addr) (n c : Nat) (bs : List UInt8),
    ((l.flatMap Acc.cells).set (k * 3 + 1) (.bool true)).set (k * 3 + 2) (.slice A n c) = (l.set k ⟨(l[k]).body, true, A, n, c, bs⟩).flatMap Acc.cells := by
  induction l with
  | nil => intro k hk; simp at hk
  | cons a l ih =>
    intro k hk A n c bs
    rcases k with _ | k
    · simp [Acc.cells]
    · have e1 : (k + 1) * 3 + 1 = a.cells.length + (k * 3 + 1) := by rw [Acc.cells_length]; omega
      have e2 : (k + 1) * 3 + 2 = a.cells.length + (k * 3 + 2) := by rw [Acc.cells_length]; omega
      rw [List.flatMap_cons, e1, e2, List.set_append_right _ _ (by omega), List.set_append_right _ _ (by omega), Nat.add_sub_cancel_left, Nat.add_sub_cancel_left, ih k (by simpa using hk) A n c bs]
      rfl
set_option maxRecDepth 100000 in
theorem answer_none (g mb : Nat) (cl : List Cl) (id num : Int) (A : Option Addr) (n cc : Nat) (w : World) (HS : Hid (SesAt w g mb cl)) (HF : Hid (findC cl id = none)) :
    Calls Try.prog 26 #[.pointer (some ⟨g, 0, none⟩), .int .i64 id, .int .i64 num, .slice A n cc] w fun e w' => e = .returned (.int .i64 7) ∧ w = w' := by
  have hl := HS.out.look id
  rw [HF.out] at hl
  simp only [Option.map_none, Option.getD_none] at hl
  have hg := HS.out.blk.cell 0
  simp only [List.getElem?_toArray, List.getElem?_cons_zero] at hg
  go_enter Try.func26, Try.ntmps26
  go_wp2
  go_ret
  exact ⟨rfl, rfl⟩
set_option maxRecDepth 100000 in
set_option maxHeartbeats 1000000 in
theorem answer_joined (g mb : Nat) (l1 l2 : List Cl) (c : Cl) (id num : Int) (A : Option Addr) (n cc : Nat) (bs : List UInt8) (w : World) (HS : Hid (SesAt w g mb (l1 ++ c :: l2))) (HF : Hid (findC (l1 ++ c :: l2) id = some c)) (HB : Hid (Bts w A n cc bs)) (hn : n ≤ 1048576) :
    Calls Try.prog 26 #[.pointer (some ⟨g, 0, none⟩), .int .i64 id, .int .i64 num, .slice A n cc] w (AnswerPost g mb l1 l2 c num n bs w) := by
  have hl := HS.out.look id
  rw [HF.out] at hl
  simp only [Option.map_some, Option.getD_some, Cl.ptr] at hl
  have hg := HS.out.blk.cell 0
  simp only [List.getElem?_toArray, List.getElem?_cons_zero] at hg
  have HOK := Lib.hid (HS.out.ok c (by simp))
  have HW := Lib.hid (waitsB_log c.acc)
  go_enter Try.func26, Try.ntmps26
  go_wp2_with fail
  refine (waits_any c _ HOK).mono ?_
  rintro e w1 ⟨rfl, m, rfl⟩
  have hS := HS.out.drewN m
  have hB := HB.out.all (w' := w.drewN m) ⟨rfl, rfl, rfl, Nat.le_refl _, fun _ _ => rfl⟩
  have hb := below_drewN (Below.refl w.heap.size w) m
  clear hl hg HOK
  generalize w.drewN m = wi at *
  have hok := hS.ok c (by simp)
  obtain ⟨s0, s1, s2, -, -, -⟩ := blk3 hok.1
  rcases hw : waitsB c.acc with _ | _
  · go_wp2
    go_ret
    exact AnswerPost.same hS hb (by unfold ansErr; rw [← HW.out, hw, if_pos (.inl rfl)]) (by decide)
  by_cases hnum : num = c.last
  rotate_left
  · have hne : (num != c.last) = true := by simpa [bne] using hnum
    go_wp2
    go_ret
    exact AnswerPost.same hS hb (by unfold ansErr; rw [if_pos (.inr hnum)]) (by decide)
  have hne : (num != c.last) = false := by simp [hnum]
  have HNUM := Lib.hid hnum
  clear hnum
  by_cases hbig : 65536 < n
  · have hbig' : (65536 : Int) < (n : Int) := by omega
    go_wp2
    go_ret
    exact AnswerPost.same hS hb (by unfold ansErr; rw [← HW.out, hw, if_neg (by simp [HNUM.out]), if_pos hbig]) (by decide)
  have hbig' : ¬ ((65536 : Int) < (n : Int)) := by omega
  have hpos : 0 < c.acc.length := by
    rcases hz : c.acc with _ | ⟨x, l⟩
    · rw [hz] at hw
      simp [waitsB] at hw
    · simp
  obtain ⟨k, hk⟩ : ∃ k, c.acc.length = k + 1 := ⟨c.acc.length - 1, by omega⟩
  have hkl : k < c.acc.length := by omega
  obtain ⟨g1, cap, hv, -⟩ := hok.row hkl
  have hlen := hok.2.2.2.2
  rw [hv, hk] at s2
  have HERR := Lib.hid (show ansErr c.last (c.acc.map Acc.log) num n = 0 by unfold ansErr; rw [← HW.out, hw, if_neg (by simp [HNUM.out]), if_neg hbig])
  have HK := Lib.hid hk
  have HV := Lib.hid hv
  have HOK := Lib.hid hok
  have hk1 : (k : Int) < (k : Int) + 1 := by omega
  have hkm : k + 1 ≤ 16 := by omega
  clear hk hv hok hpos hlen
  go_wp2
  go_quiet (fail)
  replace hS := hS.drewN nq
  replace hB := hB.all (w' := wi.drewN nq) ⟨rfl, rfl, rfl, Nat.le_refl _, fun _ _ => rfl⟩
  replace hb := below_drewN hb nq
  clear s0 s1 s2 HOK
  generalize wi.drewN nq = wj at *
  have HL := Lib.hid hB.1
  go_wp2_with fail
  refine (cloneB_any _ _ _ bs _ HL (by omega) hB.rd).mono ?_
  rintro e wz ⟨A', c', rfl, hB', hb'⟩
  replace hS := hS.all hb'
  replace hb := bt hb hb'
  clear hb' hB
  have hok := hS.ok c (by simp)
  obtain ⟨g2, cap2, hv2, -, t1, t2, tf, -⟩ := hok.row hkl
  rw [HV.out] at hv2
  injection hv2 with hv3 _ hv4
  injection hv3 with hv3
  injection hv3 with hv3
  subst hv3 hv4
  have tf1 := tf (k * 3 + 1)
  have tf2 := tf (k * 3 + 2)
  have HOK := Lib.hid hok
  clear tf hok
  go_wp2
  go_ret
  have hok := HOK.out
  have ho := hok.2.1
  rw [HV.out] at ho
  have ho2 := ((ho.stored (k * 3 + 1) (.bool true)).1.stored (k * 3 + 2) (.slice A' n c')).1
  rw [flat_set2 c.acc k hkl A' n c' bs] at ho2
  have hne1 : c.sb ≠ g1 := by
    rintro e
    have := Ty.of_own ho (g := g1) rfl
    rw [← e] at this
    exact absurd (Ty.unique hok.1.ty this) (by decide)
  have hm : Mod c.F wz ((wz.setCell ⟨g1, k * 3 + 1, none⟩ (.bool true)).setCell ⟨g1, k * 3 + 2, none⟩ (.slice A' n c')) :=
    ((Mod.refl c.F wz).set (p := ⟨g1, k * 3 + 1, none⟩) (.inl (.inr (by rw [HV.out]; rfl))) _).set (p := ⟨g1, k * 3 + 2, none⟩) (.inl (.inr (by rw [HV.out]; rfl))) _
  obtain ⟨u1, u2, u3⟩ := hS.upd (c' := ⟨c.id, c.key, c.last, c.acc.set k ⟨(c.acc[k]).body, true, A', n, c', bs⟩, c.sb, c.rv⟩) hm rfl rfl
    ⟨(hok.1.far (p := ⟨g1, k * 3 + 1, none⟩) hne1 _).far (p := ⟨g1, k * 3 + 2, none⟩) hne1 _, by
      dsimp only
      rw [HV.out, List.length_set]
      exact ho2, fun a ha => by
      rcases List.mem_or_eq_of_mem_set ha with ha | rfl
      · exact (hok.2.2.1 a ha).mod hm hok.noB
      · exact ⟨hB'.mod hm hok.noB, hn⟩, hok.2.2.2.1, by dsimp only; rw [List.length_set]; exact hok.2.2.2.2⟩ (.inl rfl)
  have hlw := hb.size
  refine ⟨⟨c.id, c.key, c.last, c.acc.set k ⟨(c.acc[k]).body, true, A', n, c', bs⟩, c.sb, c.rv⟩, by rw [HERR.out]; rfl, rfl, rfl, rfl, ?_, u1, (Mod.of_below _ hb).trans u2 (fun b hb => .inl hb), fun b hb => (u3 b hb).imp (fun h => h) (fun h => by omega)⟩
  unfold ansNew
  rw [if_pos HERR.out, List.map_set, List.length_map, HK.out, List.getLast?_map, List.getLast?_eq_getElem?, HK.out, Nat.add_sub_cancel, List.getElem?_eq_getElem hkl]
  rfl
end Go.Proofs.Ytompkpleiichaaa
