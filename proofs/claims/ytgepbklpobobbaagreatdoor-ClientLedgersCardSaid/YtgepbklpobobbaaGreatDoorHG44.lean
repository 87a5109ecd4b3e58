/- client: Accept. -/
import Derived.Test.YtgepbklpobobbaaGreatDoorHG43
import Derived.IntWalk
import Derived.Deep.DeepMust
import Derived.Test.YtgepbklpobobbaaGreatDoorHG42
import Derived.Test.YtgepbklpobobbaaGreatDoorHLaw

namespace Go.Proofs.YtgepbklpobobbaaGreatDoor
open Go.RowKit

theorem blk3 {w : World} {g : Nat} {t : TypeId} {a b c : Value} (h : Blk w g t #[a, b, c]) :
    w.cell? ⟨g, 0, none⟩ = some a ∧ w.cell? ⟨g, 1, none⟩ = some b ∧ w.cell? ⟨g, 2, none⟩ = some c ∧ w.frozen? ⟨g, 0, none⟩ = false ∧ w.frozen? ⟨g, 1, none⟩ = false ∧ w.frozen? ⟨g, 2, none⟩ = false :=
  ⟨h.cell 0, h.cell 1, h.cell 2, h.frozen 0, h.frozen 1, h.frozen 2⟩
theorem keepAcc {wz w' : World} {g s : Nat} {a b c d : Value} (h : Below wz.heap.size wz w') (hlt : g < wz.heap.size) (hls : s < wz.heap.size) (c0 : wz.cell? ⟨g, 0, none⟩ = some a) (c1 : wz.cell? ⟨g, 1, none⟩ = some b) (c3 : wz.cell? ⟨g, 3, none⟩ = some c) (d0 : wz.cell? ⟨s, 0, none⟩ = some d) :
    Below wz.heap.size wz w' ∧ w'.cell? ⟨g, 0, none⟩ = some a ∧ w'.cell? ⟨g, 1, none⟩ = some b ∧ w'.cell? ⟨g, 3, none⟩ = some c ∧ w'.cell? ⟨s, 0, none⟩ = some d :=
  ⟨h, (h.cell (p := ⟨g, 0, none⟩) hlt).trans c0, (h.cell (p := ⟨g, 1, none⟩) hlt).trans c1, (h.cell (p := ⟨g, 3, none⟩) hlt).trans c3, (h.cell (p := ⟨s, 0, none⟩) hls).trans d0⟩
abbrev AL := Int × Bool × List UInt8
def waitsL (acc : List AL) : Bool := match acc.getLast? with | some a => !a.2.1 | none => false
theorem waitsB_log (acc : List Acc) : waitsB acc = waitsL (acc.map Acc.log) := by
  unfold waitsB waitsL
  rw [List.getLast?_map]
  cases acc.getLast? <;> rfl
def posL (len : Nat) (last num : Int) : Int := (len : Int) - 1 - (last - num)
def cut16 {α : Type} (l : List α) : List α := if 16 < l.length then l.tail else l
/-- What Accept answers to a request of a client that has joined: (whether it is to be performed, the answer, the error). -/
def accRes (tagok : Bool) (last : Int) (acc : List AL) (num body : Int) : Bool × List UInt8 × Int :=
  if tagok = false then (false, [], 20)
  else if last + 1 < num then (false, [], 3)
  else if num = last + 1 then (if waitsL acc then (false, [], 13) else (true, [], 0))
  else if posL acc.length last num < 0 then (false, [], 14)
  else match acc[(posL acc.length last num).toNat]? with
    | none => (false, [], 14)
    | some a => if a.1 ≠ body then (false, [], 8) else if a.2.1 then (false, a.2.2, 0) else (false, [], 13)
def accNew (tagok : Bool) (last : Int) (acc : List AL) (num body : Int) : Int × List AL :=
  if (accRes tagok last acc num body).1 then (last + 1, cut16 (acc ++ [(body, false, [])])) else (last, acc)
def tagOk (key : Int) (r : Rq) : Bool := r.tag == tagI key r.cl r.num (bodyI r.bs)
/-- Accept, for the client c among cl. -/
def AcceptPost (g mb : Nat) (l1 l2 : List Cl) (c : Cl) (r : Rq) (w : World) (e : Ending) (w' : World) : Prop :=
  ∃ (A : Option Addr) (n cap : Nat) (c' : Cl), e = .returned (.tuple #[.bool (accRes (tagOk c.key r) c.last (c.acc.map Acc.log) r.num (bodyI r.bs)).1, .slice A n cap, .int .i64 (accRes (tagOk c.key r) c.last (c.acc.map Acc.log) r.num (bodyI r.bs)).2.2]) ∧
    Bts w' A n cap (accRes (tagOk c.key r) c.last (c.acc.map Acc.log) r.num (bodyI r.bs)).2.1 ∧ c'.id = c.id ∧ c'.key = c.key ∧ (c'.last, c'.acc.map Acc.log) = accNew (tagOk c.key r) c.last (c.acc.map Acc.log) r.num (bodyI r.bs) ∧
    SesAt w' g mb (l1 ++ c' :: l2) ∧ Mod (SesF g mb (l1 ++ c :: l2)) w w' ∧ ∀ b, SesF g mb (l1 ++ c' :: l2) b → SesF g mb (l1 ++ c :: l2) b ∨ w.heap.size ≤ b
/-- The state within Accept. -/
structure AccI (w0 : World) (g mb gr : Nat) (cl : List Cl) (r : Rq) (w : World) : Prop where
  ses : SesAt w g mb cl
  req : Blk w gr 49 #[.int .i64 r.cl, .int .i64 r.num, .slice r.A r.n r.c, .int .u64 r.tag]
  bts : Bts w r.A r.n r.c r.bs
  below : Below w0.heap.size w0 w
section
variable {w0 w w' : World} {g mb gr : Nat} {cl l1 l2 : List Cl} {r : Rq} {c : Cl}
theorem AccI.all (h : AccI w0 g mb gr cl r w) (hb : Below w.heap.size w w') : AccI w0 g mb gr cl r w' := ⟨h.ses.all hb, h.req.all hb, h.bts.all hb, bt h.below hb⟩
theorem AccI.drewN (h : AccI w0 g mb gr cl r w) (n : Nat) : AccI w0 g mb gr cl r (w.drewN n) := h.all ⟨rfl, rfl, rfl, Nat.le_refl _, fun _ _ => rfl⟩
theorem AccI.start (w : World) (hS : SesAt w g mb cl) (hB : Bts w r.A r.n r.c r.bs) : AccI w g mb w.heap.size cl r (w.alloc (.cells #[.int .i64 r.cl, .int .i64 r.num, .slice r.A r.n r.c, .int .u64 r.tag] 49)) :=
  ⟨hS.all ((Below.refl _ _).alloc (Nat.le_refl _) _), Blk.new _ _ _, hB.all ((Below.refl _ _).alloc (Nat.le_refl _) _), (Below.refl _ _).alloc (Nat.le_refl _) _⟩
/-- Nothing has changed. -/
theorem AcceptPost.same {x : Bool × List UInt8 × Int} {A : Option Addr} {n cap : Nat} (h : AccI w0 g mb gr (l1 ++ c :: l2) r w) (hx : accRes (tagOk c.key r) c.last (c.acc.map Acc.log) r.num (bodyI r.bs) = x) (h1 : x.1 = false) (hB : Bts w A n cap x.2.1) :
    AcceptPost g mb l1 l2 c r w0 (.returned (.tuple #[.bool x.1, .slice A n cap, .int .i64 x.2.2])) w :=
  ⟨A, n, cap, c, by rw [hx], by rw [hx]; exact hB, rfl, rfl, by unfold accNew; rw [hx, h1]; rfl, h.ses, Mod.of_below _ h.below, fun b hb => .inl hb⟩
end
theorem blk_new_set (w : World) (p : Addr) (v : Value) (t : TypeId) (cs : Array Value) : Blk ((w.setCell p v).alloc (.cells cs t)) w.heap.size t cs := by
  have := Blk.new (w.setCell p v) t cs
  rwa [show (w.setCell p v).heap.size = w.heap.size by simp] at this
theorem own_len_cap {w : World} {base e size n m c : Nat} {A : Option Addr} {xs : List Value} (h : w.ownsRow base e size (.slice A m c) n xs) : n ≤ c := by
  rcases h.2 with ⟨h, h0⟩ | ⟨g, cap, cur, h, _, _, hnc, _⟩
  · omega
  · injection h with _ _ h
    omega
/-- A row is put in the place of the remembered one. -/
theorem Cl.reset {w : World} {sb base : Nat} {id key last : Int} {rv0 : Value} {A' : Option Addr} {n c' : Nat} {acc' : List Acc} (hb : Blk w sb 111 #[.int .u64 key, .int .i64 last, rv0]) (ho : w.ownsRow base 121 3 (.slice A' n c') n (acc'.flatMap Acc.cells)) (hn : acc'.length = n)
    (hok : ∀ a ∈ acc', a.ok w) (hl : 0 ≤ last ∧ last ≤ 4611686018427387904) (h16 : n ≤ 16) : Cl.ok (w.setCell ⟨sb, 2, none⟩ (.slice A' n c')) ⟨id, key, last, acc', sb, .slice A' n c'⟩ := by
  have m : Mod (fun b => b = sb) w (w.setCell ⟨sb, 2, none⟩ (.slice A' n c')) := (Mod.refl (fun b => b = sb) w).set (p := ⟨sb, 2, none⟩) (.inl rfl) _
  refine ⟨?_, ?_, fun a ha => (hok a ha).mod m ?_, hl, by dsimp only; omega⟩
  · have := Blk.set_ hb 2 (.slice A' n c')
    simpa using this
  · have := m.own ho (fun b hb' e => absurd (Ty.unique hb.ty (Ty.of_own ho (e ▸ hb'))) (by decide))
    dsimp only
    rw [hn]
    exact own_lower this (Nat.zero_le _)
  · rintro b rfl ht
    exact absurd (Ty.unique hb.ty ht) (by decide)
theorem tail_cells {l : List Acc} {n : Nat} (h : l.length = n + 1) (j : Nat) : (l.tail.flatMap Acc.cells)[j]? = (l.flatMap Acc.cells)[3 + j]? := by
  rcases l with _ | ⟨a, l⟩
  · simp at h
  · rw [List.tail_cons, List.flatMap_cons, List.getElem?_append_right (by rw [Acc.cells_length]; omega), Acc.cells_length]
    congr 1
    omega
theorem cells_one (l : List Acc) : ∀ u ∈ l.flatMap Acc.cells, u.oneCell' = true := by
  intro u hu
  obtain ⟨a, _, hu⟩ := List.mem_flatMap.1 hu
  simp only [Acc.cells, List.mem_cons, List.not_mem_nil, or_false] at hu
  rcases hu with rfl | rfl | rfl <;> rfl
theorem drewN_twice (w : World) (a b : Nat) : ∃ n, (w.drewN a).drewN b = w.drewN n := ⟨a + b, by simp [World.drewN, Nat.add_assoc]⟩
theorem slT_acc : SlT Tryz.prog 109 121 3 40 := SlT.of Tryz.underlying109 (by kernel_rfl) (by decide)
theorem Cl.ok.pushed {w w9 : World} {c : Cl} (h : c.ok w) (x : Int) (a : Acc) (ha : a.ok w) {o : Obj} {g5 cap5 : Nat}
    (ho9 : w9.ownsRow 0 121 3 (.slice (some ⟨g5, 0, none⟩) (c.acc.length + 1) cap5) (c.acc.length + 1) (c.acc.flatMap Acc.cells ++ a.cells)) (hg9 : ((w.setCell ⟨c.sb, 1, none⟩ (.int .i64 x)).alloc o).grownBy w9 c.rv.ownBlock) :
    Blk w9 c.sb 111 #[.int .u64 c.key, .int .i64 x, c.rv] ∧
    Blk (w9.setCell ⟨c.sb, 2, none⟩ (.slice (some ⟨g5, 0, none⟩) (c.acc.length + 1) cap5)) c.sb 111 #[.int .u64 c.key, .int .i64 x, .slice (some ⟨g5, 0, none⟩) (c.acc.length + 1) cap5] ∧
    (w9.setCell ⟨c.sb, 2, none⟩ (.slice (some ⟨g5, 0, none⟩) (c.acc.length + 1) cap5)).ownsRow 0 121 3 (.slice (some ⟨g5, 0, none⟩) (c.acc.length + 1) cap5) (c.acc.length + 1) ((c.acc ++ [a]).flatMap Acc.cells) ∧
    (∀ b ∈ c.acc ++ [a], b.ok (w9.setCell ⟨c.sb, 2, none⟩ (.slice (some ⟨g5, 0, none⟩) (c.acc.length + 1) cap5))) ∧ Mod c.F w (w9.setCell ⟨c.sb, 2, none⟩ (.slice (some ⟨g5, 0, none⟩) (c.acc.length + 1) cap5)) := by
  have hne : c.rv.ownBlock ≠ some c.sb := fun e => absurd (Ty.unique h.1.ty (Ty.of_own h.2.1 e)) (by decide)
  have hb1 : Blk (w.setCell ⟨c.sb, 1, none⟩ (.int .i64 x)) c.sb 111 #[.int .u64 c.key, .int .i64 x, c.rv] := by
    have := Blk.set_ h.1 1 (.int .i64 x)
    simpa using this
  have hb9 : Blk w9 c.sb 111 #[.int .u64 c.key, .int .i64 x, c.rv] := Blk.grown (hb1.alloc o) hg9 (Ne.symm hne)
  have m9 : Mod c.F w w9 := Mod.then_grown (((Mod.refl c.F w).set (p := ⟨c.sb, 1, none⟩) (.inl (.inl rfl)) (.int .i64 x)).alloc o) hg9 (fun b e => .inl (.inr e))
  have m10 : Mod c.F w (w9.setCell ⟨c.sb, 2, none⟩ (.slice (some ⟨g5, 0, none⟩) (c.acc.length + 1) cap5)) := m9.set (p := ⟨c.sb, 2, none⟩) (.inl (.inl rfl)) _
  refine ⟨hb9, ?_, ?_, ?_, m10⟩
  · have := Blk.set_ hb9 2 (.slice (some ⟨g5, 0, none⟩) (c.acc.length + 1) cap5)
    simpa using this
  · have hn5 : g5 ≠ c.sb := by
      rintro rfl
      exact absurd (Ty.unique hb9.ty (Ty.of_own ho9 rfl)) (by decide)
    have := Mod.own ((Mod.refl (fun b => b = c.sb) w9).set (p := ⟨c.sb, 2, none⟩) (.inl rfl) (.slice (some ⟨g5, 0, none⟩) (c.acc.length + 1) cap5)) ho9 (by
      intro b hb e
      cases hb
      exact hn5 e)
    rw [List.flatMap_append]
    simpa using this
  · intro b hb
    rw [List.mem_append, List.mem_singleton] at hb
    rcases hb with hb | rfl
    · exact (h.2.2.1 b hb).mod m10 h.noB
    · exact ha.mod m10 h.noB
set_option maxRecDepth 100000 in
theorem cloneA_any (g off n c : Nat) (xs : List Value) (w : World) (HX : Hid (xs.length = n * 3)) (hn : n ≤ 1048576) (HC : Hid (∀ j u, xs[j]? = some u → w.cell? ⟨g, off + j, none⟩ = some u)) (H1 : Hid (∀ u ∈ xs, u.oneCell' = true)) :
    Calls Tryz.prog 43 #[.slice (some ⟨g, off, none⟩) n c] w fun e w' => ∃ A' c', e = .returned (.slice A' n c') ∧ w'.ownsRow w.heap.size 121 3 (.slice A' n c') n xs ∧ Below w.heap.size w w' := by
  obtain ⟨i, z, ht, hi, hz, hs, hb, hzs, hsz⟩ := slT_acc
  have hB := (Below.refl w.heap.size w).alloc (Nat.le_refl _) (.cells #[] 121)
  obtain ⟨v', w', hap, hown, hg, -, -⟩ := run_append_own_at (P := Tryz.prog) (w.alloc (.cells #[] 121)) w.heap.size 109 109 121 i z 3 40 ht hi hz hs hb hzs hsz (.slice (some ⟨w.heap.size, 0, none⟩) 0 0) 0 []
      (World.ownsRow_made w #[] 0 (Nat.le_refl _) (by decide) rfl) ⟨g, off, none⟩ n c xs HX.out (fun j u hu => by
        have ea : (⟨g, off, none⟩ : Addr).add j = ⟨g, off + j, none⟩ := by unfold Addr.add; split <;> simp_all
        rw [ea]
        have h0 := HC.out j u hu
        exact (hB.cell (p := ⟨g, off + j, none⟩) (World.block_lt_of_cell? w _ h0)).trans h0) H1.out (by unfold maxLen; omega) (by omega) (by simp)
  have HA := Lib.hid hap
  rw [Nat.zero_add, List.nil_append] at hown
  have HO := Lib.hid hown
  have HB := Lib.hid (show Below w.heap.size w w' from hB.grown hg (by simp) (fun k e => by simp [Value.ownBlock] at e; omega))
  clear hap hown hg hB hz hi hs hb hzs hsz ht
  have hq := Lib.run_eql_slice_nil (P := Tryz.prog) w 109 121 (some ⟨g, off, none⟩) n c 0 0 Tryz.underlying109
  go_enter Tryz.func43, Tryz.ntmps43
  go_wp2_with (at_builtin; refine wpList_append_run HA.out rfl rfl rfl rfl ?_)
  go_ret
  obtain ⟨A', c', rfl⟩ := own_parts HO.out
  exact ⟨A', c', rfl, HO.out, HB.out⟩
set_option maxRecDepth 100000 in
set_option maxHeartbeats 1000000 in
theorem accept_joined (g mb : Nat) (l1 l2 : List Cl) (c : Cl) (r : Rq) (w : World) (HS : Hid (SesAt w g mb (l1 ++ c :: l2))) (HF : Hid (findC (l1 ++ c :: l2) r.cl = some c)) (HB : Hid (r.ok w)) (h1 : 1 ≤ r.cl) (h2 : r.cl ≤ 1073741824) (h3 : 1 ≤ r.num) (h4 : r.n ≤ 65536) (h5 : r.num ≤ 9223372036854775807) (hlt : c.last < 4611686018427387904) :
    Calls Tryz.prog 14 #[.pointer (some ⟨g, 0, none⟩), r.val] w (AcceptPost g mb l1 l2 c r w) := by
  have hI := AccI.start w HS.out HB.out.1
  have HL := Lib.hid HB.out.1.1
  have hnc := HB.out.1.2.1
  unfold Rq.val
  have hi : decide (1 ≤ r.cl ∧ r.cl ≤ 1073741824) = true := by simp [h1, h2]
  have g3 : ¬ (r.num < 1) := by omega
  have g4 : ¬ ((65536 : Int) < (r.n : Int)) := by omega
  go_enter Tryz.func14, Tryz.ntmps14
  go_wp2_with (go_at_call 34; ((with_reducible refine (isClient_any _ _).mono ?_); rintro e w1 ⟨rfl, rfl⟩; rw [hi]))
  clear hi g3 g4
  generalize hgr : w.heap.size = gr at *
  have HGR := Lib.hid hgr
  clear hgr
  generalize w.alloc (.cells #[.int .i64 r.cl, .int .i64 r.num, .slice r.A r.n r.c, .int .u64 r.tag] 49) = wi at *
  obtain ⟨q0, q1, q2, q3, -, -, -, -⟩ := blk4 hI.req
  have hg := hI.ses.blk.cell 0
  simp only [List.getElem?_toArray, List.getElem?_cons_zero] at hg
  have hl := fun n => (hI.drewN n).ses.look r.cl
  rw [HF.out] at hl
  simp only [Option.map_some, Option.getD_some, Cl.ptr] at hl
  go_quiet (fail)
  clear q0 q1 q2 q3 hg hl
  replace hI := hI.drewN nq
  generalize wi.drewN nq = wj at *
  obtain ⟨q0, q1, q2, q3, -, -, -, -⟩ := blk4 hI.req
  obtain ⟨s0, s1, s2, -, -, -⟩ := blk3 (hI.ses.ok c (by simp)).1
  go_wp2_with fail
  refine (bodyHash_any _ _ _ r.bs _ HL hnc (by omega) hI.bts.rd).mono ?_
  rintro e wk ⟨rfl, hb⟩
  replace hI := hI.all hb
  clear hb q0 q1 q2 q3 s0 s1 s2
  obtain ⟨q0, q1, q2, q3, -, -, -, -⟩ := blk4 hI.req
  obtain ⟨s0, s1, s2, -, -, -⟩ := blk3 (hI.ses.ok c (by simp)).1
  have hlq := hI.req.lt
  have hls := (hI.ses.ok c (by simp)).1.lt
  obtain ⟨bd, hbd⟩ : ∃ bd, bodyI r.bs = bd := ⟨_, rfl⟩
  have HBD := Lib.hid hbd
  rw [hbd]
  clear hbd
  go_wp2
  go_region_held3 (fun w' => Below wk.heap.size wk w' ∧ w'.cell? ⟨gr, 0, none⟩ = some (.int .i64 r.cl) ∧ w'.cell? ⟨gr, 1, none⟩ = some (.int .i64 r.num) ∧ w'.cell? ⟨gr, 3, none⟩ = some (.int .u64 r.tag) ∧ w'.cell? ⟨c.sb, 0, none⟩ = some (.int .u64 c.key))
    (first | with_reducible exact keepAcc (Below.refl _ wk).drew hlq hls q0 q1 q3 s0 | with_reducible exact keepAcc hS2 hlq hls q0 q1 q3 s0)
    (first
      | (go_at_call 41; have hS1 := (‹Below wk.heap.size wk _ ∧ _›).1; ((with_reducible refine (tag_any _ _ _ _ _).mono ?_); rintro e wt ⟨rfl, hb3⟩; have hS2 := bt hS1 hb3; clear hS1 hb3)))
  replace hI := hI.all hS2
  clear hS2 q0 q1 q2 q3 s0 s1 s2 hlq hls
  obtain ⟨q0, q1, q2, q3, -, -, -, -⟩ := blk4 hI.req
  obtain ⟨s0, s1, s2, -, -, -⟩ := blk3 (hI.ses.ok c (by simp)).1
  obtain ⟨hla0, hla1⟩ := (hI.ses.ok c (by simp)).2.2.2.1
  have hlen := (hI.ses.ok c (by simp)).2.2.2.2
  rcases h20 : (r.tag != tagI c.key r.cl r.num bd) with _ | _
  rotate_left
  · go_wp2
    go_ret3
    exact AcceptPost.same (x := (false, [], 20)) hI (by
      unfold accRes
      rw [if_pos (by unfold tagOk; rw [HBD.out]; simpa [bne] using h20)]) rfl (Bts.nil _)
  have HT := Lib.hid (show tagOk c.key r = true by unfold tagOk; rw [HBD.out]; simpa [bne] using h20)
  clear h20
  have e1 : IntKind.i64.wrap (c.last + 1) = c.last + 1 := IntWalk.i64_in _ (by omega)
  go_wp2
  go_quiet (fail)
  clear q0 q1 q2 q3 s0 s1 s2
  replace hI := hI.drewN nq
  generalize wt.drewN nq = wu at *
  obtain ⟨q0, q1, q2, q3, -, -, -, -⟩ := blk4 hI.req
  obtain ⟨s0, s1, s2, -, -, -⟩ := blk3 (hI.ses.ok c (by simp)).1
  by_cases h3' : c.last + 1 < r.num
  · clear e1
    go_wp2
    go_ret3
    exact AcceptPost.same (x := (false, [], 3)) hI (by
      unfold accRes
      rw [HT.out, if_neg (by decide), if_pos h3']) rfl (Bts.nil _)
  by_cases he : r.num = c.last + 1
  · have heb : (r.num == c.last + 1) = true := by simpa using he
    have HOK := Lib.hid (hI.ses.ok c (by simp))
    have HE := Lib.hid he
    clear he
    go_wp2
    go_quiet ((go_at_call 42; exact (waits_any c _ (Lib.hid ((HOK.out.mod (F := fun _ => False) ((Mod.refl _ _).drewN _) (fun _ _ h => h) (fun _ h => h.elim))))).mono (fun e w'' h => ⟨h.1, by obtain ⟨m, rfl⟩ := h.2; exact drewN_twice _ _ _⟩)))
    clear q0 q1 q2 q3 s0 s1 s2 HOK
    replace hI := hI.drewN nq
    generalize wu.drewN nq = wv at *
    obtain ⟨q0, q1, q2, q3, -, -, -, -⟩ := blk4 hI.req
    obtain ⟨s0, s1, s2, z0, z1, z2⟩ := blk3 (hI.ses.ok c (by simp)).1
    have HW := Lib.hid (waitsB_log c.acc)
    rcases hw : waitsB c.acc with _ | _
    rotate_left
    · clear e1
      go_wp2
      go_ret3
      exact AcceptPost.same (x := (false, [], 13)) hI (by
        unfold accRes
        rw [HT.out, if_neg (by decide), if_neg (by omega), if_pos HE.out, ← HW.out, hw]
        rfl) rfl (Bts.nil _)
    have HRES := Lib.hid (show accRes (tagOk c.key r) c.last (c.acc.map Acc.log) r.num (bodyI r.bs) = (true, [], 0) by
        unfold accRes
        rw [HT.out, if_neg (by decide), if_neg (by omega), if_pos HE.out, ← HW.out, hw]
        rfl)
    clear hw HW
    go_wp2
    go_quiet (fail)
    clear q0 q1 q2 q3 s0 s1 s2 z0 z1 z2 heb
    replace hI := hI.drewN nq
    generalize wv.drewN nq = wx at *
    obtain ⟨q0, q1, q2, q3, -, -, -, -⟩ := blk4 hI.req
    obtain ⟨s0, s1, s2, z0, z1, z2⟩ := blk3 (hI.ses.ok c (by simp)).1
    obtain ⟨A1, c1, hrv⟩ := own_parts (hI.ses.ok c (by simp)).2.1
    have hok := hI.ses.ok c (by simp)
    have HRV := Lib.hid hrv
    rw [hrv] at s2
    have HOW := Lib.hid (show (wx.setCell ⟨c.sb, 1, none⟩ (.int .i64 (c.last + 1))).ownsRow 0 121 3 (.slice A1 c.acc.length c1) c.acc.length (c.acc.flatMap Acc.cells) from by
      rw [← hrv]
      exact ((Mod.refl (fun b => b = c.sb) wx).set (p := ⟨c.sb, 1, none⟩) (.inl rfl) _).own hok.2.1 (fun b hb e => absurd (Ty.unique hok.1.ty (Ty.of_own hok.2.1 (e ▸ hb))) (by decide)))
    have HOKK := Lib.hid hok
    clear hrv hok
    by_cases hbig : (16 : Int) < (c.acc.length : Int) + 1
    · go_wp2_with (first | (go_at_call 43; fail) | (at_builtin; go_must (refine wpList_append1 (v := .slice A1 c.acc.length c1) slT_acc rfl rfl rfl wx.heap.size rfl (HOW.out.alloc _) #[.int .u64 bd, .bool false, .slice none 0 0] (blk_new_set _ _ _ _ _) rfl (by simp; exact ⟨rfl, rfl, rfl⟩) (by omega) (by decide) (by omega) ?_; intro g5 cap5 w9 ho9 hg9 hat9; (have hB9 := (HOKK.out.pushed (c.last + 1) ⟨bd, false, none, 0, 0, []⟩ ⟨Bts.nil _, Nat.zero_le _⟩ ho9 (by rw [HRV.out]; exact hg9)).1); obtain ⟨y0, y1, y2, x0, x1, x2⟩ := blk3 hB9; have hcp := own_len_cap ho9; have hcp1 : (1 : Int) < (cap5 : Int) := by omega)))
      obtain ⟨-, p1, p2, p3, p4⟩ := HOKK.out.pushed (c.last + 1) ⟨bd, false, none, 0, 0, []⟩ ⟨Bts.nil _, Nat.zero_le _⟩ ho9 (by rw [HRV.out]; exact hg9)
      clear y0 y1 y2 x0 x1 x2 hB9 hg9 hat9 ho9
      generalize w9.setCell ⟨c.sb, 2, none⟩ (.slice (some ⟨g5, 0, none⟩) (c.acc.length + 1) cap5) = w10 at *
      have hll : (c.acc ++ [(⟨bd, false, none, 0, 0, []⟩ : Acc)]).length = c.acc.length + 1 := by simp
      have HLL := Lib.hid hll
      refine (cloneA_any g5 3 c.acc.length (cap5 - 1) ((c.acc ++ [(⟨bd, false, none, 0, 0, []⟩ : Acc)]).tail.flatMap Acc.cells) w10 (Lib.hid (by rw [flatC_length Acc.cells 3 Acc.cells_length, List.length_tail, hll]; rfl)) (by omega) (Lib.hid (fun j u hu => by
        rw [tail_cells HLL.out] at hu
        rw [p2.cellAt (3 + j) (by
          have := (List.getElem?_eq_some_iff.1 hu).1
          rw [flatC_length Acc.cells 3 Acc.cells_length, HLL.out] at this
          exact this)]
        exact hu)) (Lib.hid (cells_one _))).mono ?_
      rintro e w11 ⟨A', c', rfl, ho11, hb11⟩
      have p1' := p1.all hb11
      have hok12 := Cl.reset (id := c.id) p1' ho11 (by rw [List.length_tail, HLL.out]; rfl) (fun a ha => by
        obtain ⟨x, y⟩ := p3 a (List.mem_of_mem_tail ha)
        exact ⟨x.all hb11, y⟩) ⟨by omega, by omega⟩ (by omega)
      have HOK12 := Lib.hid hok12
      have HM12 := Lib.hid (Mod.set (p := ⟨c.sb, 2, none⟩) (p4.then_below hb11) (.inl (.inl rfl)) (.slice A' c.acc.length c'))
      have HLT := Lib.hid (fun b (hb : (Value.slice A' c.acc.length c').ownBlock = some b) => (Nat.le_trans p4.size (ho11.lt b hb).1))
      clear hok12 ho11 hb11 p2 p3 p4 p1 hll
      obtain ⟨y0, y1, y2, x0, x1, x2⟩ := blk3 p1'
      go_wp2
      go_ret3
      obtain ⟨u1, u2, u3⟩ := hI.ses.upd (c' := ⟨c.id, c.key, c.last + 1, (c.acc ++ [(⟨bd, false, none, 0, 0, []⟩ : Acc)]).tail, c.sb, .slice A' c.acc.length c'⟩) HM12.out rfl rfl HOK12.out (.inr HLT.out)
      have hlw := hI.below.size
      exact ⟨none, 0, 0, ⟨c.id, c.key, c.last + 1, (c.acc ++ [(⟨bd, false, none, 0, 0, []⟩ : Acc)]).tail, c.sb, .slice A' c.acc.length c'⟩, by rw [HRES.out]; rfl, by rw [HRES.out]; exact Bts.nil _, rfl, rfl, by
        unfold accNew
        rw [HRES.out]
        have hc : cut16 (c.acc.map Acc.log ++ [(bd, false, [])]) = (c.acc.map Acc.log ++ [(bd, false, [])]).tail := by
          unfold cut16
          rw [if_pos (by simp; omega)]
        simp only [if_true, HBD.out, hc]
        simp [Acc.log, List.map_tail], u1, (Mod.of_below _ hI.below).trans u2 (fun b hb => .inl hb), fun b hb => (u3 b hb).imp id (fun h => by omega)⟩
    · go_wp2_with (at_builtin; go_must (refine wpList_append1 (v := .slice A1 c.acc.length c1) slT_acc rfl rfl rfl wx.heap.size rfl (HOW.out.alloc _) #[.int .u64 bd, .bool false, .slice none 0 0] (blk_new_set _ _ _ _ _) rfl (by simp; exact ⟨rfl, rfl, rfl⟩) (by omega) (by decide) (by omega) ?_; intro g5 cap5 w9 ho9 hg9 hat9; (have hB9 := (HOKK.out.pushed (c.last + 1) ⟨bd, false, none, 0, 0, []⟩ ⟨Bts.nil _, Nat.zero_le _⟩ ho9 (by rw [HRV.out]; exact hg9)).1); obtain ⟨y0, y1, y2, x0, x1, x2⟩ := blk3 hB9))
      go_ret3
      obtain ⟨-, p1, p2, p3, p4⟩ := HOKK.out.pushed (c.last + 1) ⟨bd, false, none, 0, 0, []⟩ ⟨Bts.nil _, Nat.zero_le _⟩ ho9 (by rw [HRV.out]; exact hg9)
      obtain ⟨u1, u2, u3⟩ := hI.ses.upd (c' := ⟨c.id, c.key, c.last + 1, c.acc ++ [⟨bd, false, none, 0, 0, []⟩], c.sb, .slice (some ⟨g5, 0, none⟩) (c.acc.length + 1) cap5⟩) p4 rfl rfl ⟨p1, by simpa using p2, p3, ⟨by dsimp only; omega, by dsimp only; omega⟩, by simp; omega⟩ (by
        rw [HRV.out]
        rcases hat9 with e | e
        · exact .inl e
        · right
          intro b hb
          cases hb
          rw [e]
          show wx.heap.size ≤ _
          rw [alloc_size]
          simp)
      have hlw := hI.below.size
      exact ⟨none, 0, 0, ⟨c.id, c.key, c.last + 1, c.acc ++ [⟨bd, false, none, 0, 0, []⟩], c.sb, .slice (some ⟨g5, 0, none⟩) (c.acc.length + 1) cap5⟩, by rw [HRES.out]; rfl, by rw [HRES.out]; exact Bts.nil _, rfl, rfl, by
        unfold accNew
        rw [HRES.out]
        have hc : cut16 (c.acc.map Acc.log ++ [(bd, false, [])]) = c.acc.map Acc.log ++ [(bd, false, [])] := by
          unfold cut16
          rw [if_neg (by simp; omega)]
        simp only [if_true, HBD.out, hc]
        simp [Acc.log], u1, (Mod.of_below _ hI.below).trans u2 (fun b hb => .inl hb), fun b hb => (u3 b hb).imp id (fun h => by omega)⟩
  · have heb : (r.num == c.last + 1) = false := by simpa using he
    go_wp2
    go_quiet (fail)
    clear q0 q1 q2 q3 s0 s1 s2
    replace hI := hI.drewN nq
    generalize wu.drewN nq = wv at *
    obtain ⟨q0, q1, q2, q3, -, -, -, -⟩ := blk4 hI.req
    obtain ⟨s0, s1, s2, -, -, -⟩ := blk3 (hI.ses.ok c (by simp)).1
    go_wp2
    go_quiet (fail)
    clear q0 q1 q2 q3 s0 s1 s2 e1 heb
    replace hI := hI.drewN nq
    generalize wv.drewN nq = wx at *
    obtain ⟨q0, q1, q2, q3, -, -, -, -⟩ := blk4 hI.req
    obtain ⟨s0, s1, s2, -, -, -⟩ := blk3 (hI.ses.ok c (by simp)).1
    obtain ⟨A1, c1, hrv⟩ := own_parts (hI.ses.ok c (by simp)).2.1
    rw [hrv] at s2
    have HRV := Lib.hid hrv
    clear hrv
    have hle : r.num ≤ c.last := by omega
    have e2 : IntKind.i64.wrap ((c.acc.length : Int) - 1) = (c.acc.length : Int) - 1 := IntWalk.i64_in _ (by omega)
    have e3 : IntKind.i64.wrap (c.last - r.num) = c.last - r.num := IntWalk.i64_in _ (by omega)
    have e4 : IntKind.i64.wrap ((c.acc.length : Int) - 1 - (c.last - r.num)) = (c.acc.length : Int) - 1 - (c.last - r.num) := IntWalk.i64_in _ (by omega)
    go_wp2
    go_quiet (fail)
    clear q0 q1 q2 q3 s0 s1 s2 e2 e3 e4
    replace hI := hI.drewN nq
    generalize wx.drewN nq = wy at *
    obtain ⟨q0, q1, q2, q3, -, -, -, -⟩ := blk4 hI.req
    obtain ⟨s0, s1, s2, -, -, -⟩ := blk3 (hI.ses.ok c (by simp)).1
    rw [HRV.out] at s2
    have HP := Lib.hid (show posL (c.acc.map Acc.log).length c.last r.num = (c.acc.length : Int) - 1 - (c.last - r.num) by unfold posL; rw [List.length_map])
    by_cases hp : (c.acc.length : Int) - 1 - (c.last - r.num) < 0
    · go_wp2
      go_ret3
      exact AcceptPost.same (x := (false, [], 14)) hI (by
        unfold accRes
        rw [HT.out, if_neg (by decide), if_neg (by omega), if_neg (by omega), HP.out, if_pos (by omega)]) rfl (Bts.nil _)
    obtain ⟨k, hk⟩ : ∃ k : Nat, (c.acc.length : Int) - 1 - (c.last - r.num) = (k : Int) := ⟨((c.acc.length : Int) - 1 - (c.last - r.num)).toNat, by omega⟩
    have hkl : k < c.acc.length := by omega
    obtain ⟨g1, cap, hv, t0, t1, t2, -, -⟩ := (hI.ses.ok c (by simp)).row hkl
    have hbk := (hI.ses.ok c (by simp)).2.2.1 _ (List.getElem_mem hkl)
    have HRES := Lib.hid (show accRes (tagOk c.key r) c.last (c.acc.map Acc.log) r.num (bodyI r.bs) = if (c.acc[k]).body ≠ bd then (false, [], 8) else if (c.acc[k]).done then (false, (c.acc[k]).bs, 0) else (false, [], 13) by
      unfold accRes
      rw [HT.out, if_neg (by decide), if_neg (by omega), if_neg (by omega), HP.out, if_neg (by omega), hk, Int.toNat_natCast, List.getElem?_map, List.getElem?_eq_getElem hkl, HBD.out]
      rfl)
    rw [HRV.out] at hv
    injection hv with hv1 _ hv3
    subst hv1 hv3
    rw [hk]
    clear hp HP
    have HK := Lib.hid hk
    clear hk
    have hk0 : (0 : Int) ≤ (k : Int) := by omega
    have hk1 : (k : Int) < (c.acc.length : Int) := by omega
    generalize c.acc[k] = a at *
    rcases hbody : (a.body != bd) with _ | _
    rotate_left
    · go_wp2
      go_ret3
      exact AcceptPost.same (x := (false, [], 8)) hI (by rw [HRES.out, if_pos (by simpa [bne] using hbody)]) rfl (Bts.nil _)
    rcases hdone : a.done with _ | _
    · rw [hdone] at t1
      go_wp2
      go_ret3
      exact AcceptPost.same (x := (false, [], 13)) hI (by rw [HRES.out, if_neg (by simpa [bne] using hbody), hdone]; rfl) rfl (Bts.nil _)
    · rw [hdone] at t1
      have HLA := Lib.hid hbk.1.1
      have HDN := Lib.hid hdone
      clear hdone
      go_wp2_with fail
      refine (cloneB_any _ _ _ a.bs _ HLA (by have := hbk.2; omega) hbk.1.rd).mono ?_
      rintro e wz ⟨A', c', rfl, hB', hb'⟩
      replace hI := hI.all hb'
      go_wp2
      go_ret3
      exact AcceptPost.same (x := (false, a.bs, 0)) hI (by rw [HRES.out, if_neg (by simpa [bne] using hbody), HDN.out]; rfl) rfl hB'
end Go.Proofs.YtgepbklpobobbaaGreatDoor

/- client: requests of the package and of the reference; Same; Changed. -/
namespace Go.Proofs.YtgepbklpobobbaaGreatDoor
open Go.RowKit

end Go.Proofs.YtgepbklpobobbaaGreatDoor

/- client: the reference's Caller: Send; Body. -/
namespace Go.Proofs.YtgepbklpobobbaaGreatDoor
open Go.RowKit

end Go.Proofs.YtgepbklpobobbaaGreatDoor

/- client: Again. -/
namespace Go.Proofs.YtgepbklpobobbaaGreatDoor
open Go.RowKit

/-- The cells of an open request. -/
theorem CallAt.row {w : World} {T E : TypeId} {g : Nat} {cl key last : Int} {rv : Value} {op : List Rq} (h : CallAt w T E g cl key last rv op) {k : Nat} (hk : k < op.length) : ∃ g1 cap, rv = .slice (some ⟨g1, 0, none⟩) op.length cap ∧
    w.cell? ⟨g1, k * 4, none⟩ = some (.int .i64 (op[k]).cl) ∧ w.cell? ⟨g1, k * 4 + 1, none⟩ = some (.int .i64 (op[k]).num) ∧ w.cell? ⟨g1, k * 4 + 2, none⟩ = some (.slice (op[k]).A (op[k]).n (op[k]).c) ∧ w.cell? ⟨g1, k * 4 + 3, none⟩ = some (.int .u64 (op[k]).tag) := by
  have ho := h.2.1
  rcases ho.2 with ⟨_, h0⟩ | ⟨g, cap, cur, hv, _⟩
  · omega
  · rw [hv] at ho
    have hat := flatC_at Rq.cells 4 Rq.cells_length op k
    have hlt : ∀ i, i < 4 → k * 4 + i < op.length * 4 := fun i hi => by omega
    have hc : ∀ i, i < 4 → w.cell? ⟨g, k * 4 + i, none⟩ = (Rq.cells op[k])[i]? := fun i hi => (ho.cellAt (k * 4 + i) (hlt i hi)).trans (hat i hk hi)
    exact ⟨g, cap, hv, hc 0 (by omega), hc 1 (by omega), hc 2 (by omega), hc 3 (by omega)⟩
/-- The list that Again returns. -/
def AgainPost (op : List Rq) (w : World) (e : Ending) (w' : World) : Prop :=
  ∃ (A : Option Addr) (c : Nat) (l : List Rq), e = .returned (.slice A op.length c) ∧ l.map Rq.log = op.map Rq.log ∧ w'.ownsRow w.heap.size 49 4 (.slice A op.length c) op.length (l.flatMap Rq.cells) ∧ (∀ r ∈ l, r.ok w') ∧ Below w.heap.size w w'
set_option maxRecDepth 100000 in
set_option maxHeartbeats 1000000 in
theorem again_any (g : Nat) (cl key last : Int) (rv : Value) (op : List Rq) (w : World) (HC : Hid (CallAt w 106 49 g cl key last rv op)) (hop : op.length ≤ 1048576) :
    Calls Tryz.prog 50 #[.pointer (some ⟨g, 0, none⟩)] w (AgainPost op w) := by
  obtain ⟨A1, c1, rfl⟩ := own_parts HC.out.2.1
  have d3 := (blk4 HC.out.1).2.2.2.1
  go_enter Tryz.func50, Tryz.ntmps50
  go_wp2
  clear d3
  go_loopw [3, 11] (fun v i wr => ∃ (j : Nat) (l : List Rq), j ≤ op.length ∧ i = .int .i64 (j : Int) ∧ Hid (l.map Rq.log = (op.take j).map Rq.log) ∧ wr.ownsRow w.heap.size 49 4 v j (l.flatMap Rq.cells) ∧ Hid (∀ r ∈ l, r.ok wr) ∧ Below w.heap.size w wr) (fun _ i _ => op.length - (intOf i).toNat)
  case atStart => exact ⟨0, [], by omega, rfl, Lib.hid rfl, World.ownsRow_nil _ _ _ _, Lib.hid (by simp), Below.refl _ _⟩
  case round =>
    obtain ⟨j, l, hj, rfl, HLG, hown, HOK, hb⟩ := hrel
    by_cases hlt : j < op.length
    · have hCr := HC.out.all hb
      obtain ⟨g1, cap, hv, t0, t1, t2, t3⟩ := hCr.row hlt
      injection hv with hv1 _ hv3
      subst hv1 hv3
      have hrk := hCr.2.2 _ (List.getElem_mem hlt)
      have HTK := Lib.hid (show (op.take (j + 1)).map Rq.log = (op.take j).map Rq.log ++ [(op[j]).log] by rw [List.take_succ_eq_append_getElem hlt, List.map_append]; rfl)
      have hbs := hb.size
      have hi0 : (0 : Int) ≤ (j : Int) := by omega
      have hi1 : (j : Int) < (op.length : Int) := by omega
      generalize op[j] = r at *
      obtain ⟨rcl, rnum, rA, rn, rc, rbs, rtag⟩ := r
      dsimp only at t0 t1 t2 t3
      have hB2 := (Below.refl wr.heap.size wr).alloc (Nat.le_refl _) (.cells #[.int .i64 rcl, .int .i64 rnum, .slice rA rn rc, .int .u64 rtag] 49)
      have hrk2 := hrk.all hB2
      have HRK := Lib.hid hrk2
      have HB2 := Lib.hid hB2
      have HOW := Lib.hid hown
      clear hCr hrk hrk2 hB2 hown
      go_wp2_with fail
      refine (copyReq_any ⟨rcl, rnum, rA, rn, rc, rbs, rtag⟩ _ HRK.out).mono ?_
      rintro e w3 ⟨⟨cl2, num2, A2, n2, c2, bs2, tag2⟩, rfl, hr2, hl2, hb3⟩
      have hb4 := bt HB2.out hb3
      have HO4 := Lib.hid (own_keep HOW.out hb4)
      have hs4 := hb4.size
      have HB4 := Lib.hid (bt hb hb4)
      have HB34 := Lib.hid hb4
      clear hb3 hb4 t0 t1 t2 t3 HB2 HOW
      unfold Rq.val
      dsimp only
      go_wp2_with (at_builtin; refine wpList_append1 slT_req rfl rfl rfl w3.heap.size rfl (HO4.out.alloc _) #[.int .i64 cl2, .int .i64 num2, .slice A2 n2 c2, .int .u64 tag2] (Blk.new w3 _ _) rfl (by simp; exact ⟨rfl, rfl, rfl, rfl⟩) (by omega) (by decide) (by simp; omega) ?_; intro g5 cap5 w9 ho9 hg9 hat9)
      have hmod : Mod (fun b => w.heap.size ≤ b ∧ Ty w3 b 49) w3 w9 := Mod.then_grown ((Mod.refl _ w3).alloc _) hg9 (fun b e => .inl ⟨(HO4.out.lt b e).1, Ty.of_own HO4.out e⟩)
      have hnb : ∀ b, (w.heap.size ≤ b ∧ Ty w3 b 49) → ¬ Ty w3 b 5 := fun b h ht => absurd (Ty.unique h.2 ht) (by decide)
      refine ⟨⟨j + 1, l ++ [⟨cl2, num2, A2, n2, c2, bs2, tag2⟩], by omega, by go_num, Lib.hid ?_, ?_, Lib.hid ?_, hmod.below HB4.out (by omega) (fun b h => h.1)⟩, by simp [intOf]; omega⟩
      · rw [List.map_append, HLG.out, HTK.out, List.map_singleton, hl2]
      · rw [List.flatMap_append, List.flatMap_singleton]
        exact ho9
      · intro r hr
        rw [List.mem_append, List.mem_singleton] at hr
        rcases hr with hr | rfl
        · exact ((HOK.out r hr).all HB34.out).mod hmod hnb
        · exact hr2.mod hmod hnb
    · obtain rfl : j = op.length := by omega
      go_wp2
      go_ret
      obtain ⟨A', c', rfl⟩ := own_parts hown
      exact ⟨A', c', l, rfl, by rw [HLG.out, List.take_length], hown, HOK.out, hb⟩
end Go.Proofs.YtgepbklpobobbaaGreatDoor

/- client: Got of the reference. -/
namespace Go.Proofs.YtgepbklpobobbaaGreatDoor
open Go.RowKit

end Go.Proofs.YtgepbklpobobbaaGreatDoor
