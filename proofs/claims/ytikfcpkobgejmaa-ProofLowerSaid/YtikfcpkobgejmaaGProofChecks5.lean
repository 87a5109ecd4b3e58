/- Part 5 of the texts that ProofChecks needs: PfApp PfGiven PfCert PfLives RefPick PfBids PfR29A RowT PfTI. -/
import Derived.OpenShut
import Derived.Test.YtikfcpkobgejmaaGProofChecks4

/- append of a whole row, or of one element, onto a row of the call's own. -/
namespace Go.Proofs.Ytikfcpkobgejmaa
open Go.RowKit

theorem own_split {w : World} {base e size n : Nat} {v : Value} {xs : List Value} (h : w.ownsRow base e size v n xs) : ∃ A c, v = .slice A n c := by
  rcases h.2 with ⟨h, h0⟩ | ⟨g1, cap, cur, h, _⟩
  · exact ⟨none, 0, by rw [h, h0]⟩
  · exact ⟨_, _, h⟩
theorem own_below {w w' : World} {base e size n : Nat} {v : Value} {xs : List Value} (h : w.ownsRow base e size v n xs) (hg : w.grownBy w' v.ownBlock) (hB : base ≤ w.heap.size) : Below base w w' := by
  refine (Below.refl base w).grown hg hB (fun k e => ?_)
  rcases h.2 with ⟨rfl, _⟩ | ⟨g, cap, cur, rfl, hg2, _⟩
  · cases e
  · simp [Value.ownBlock] at e
    omega
section
variable {P : Program} {w : World} {base t e size bytes n : Nat} {v : Value} {xs : List Value}
/-- append of a slice whose cells are known. -/
theorem app_cells {ty : TypeId} (hT : SlT P t e size bytes) (hown : w.ownsRow base e size v n xs) (A : Option Addr) (m c : Nat) (news : List Value) (hl : news.length = m * size) (hA : A = none → m = 0)
    (hnews : ∀ ad, A = some ad → ∀ j u, news[j]? = some u → w.cell? (ad.add j) = some u) (h1 : ∀ u ∈ news, u.oneCell' = true) (hn : n + m < 1099511627776) (hby : bytes ≤ 64) (hbase : base ≤ w.heap.size) :
    ∃ A' c' w', (Builtin.append_ #[t, t] ty #[v, .slice A m c]).run P w = .ok (.slice A' (n + m) c') w' ∧ w'.ownsRow base e size (.slice A' (n + m) c') (n + m) (xs ++ news) ∧ Below base w w' := by
  have hT' := hT
  obtain ⟨i, z, ht, hi, hz, hs, hb, hzs, hsz⟩ := hT
  rcases A with _ | ad
  · have hm := hA rfl
    subst hm
    have hnil : news = [] := List.eq_nil_of_length_eq_zero (by simpa using hl)
    subst hnil
    obtain ⟨A', c', rfl⟩ := own_split hown
    refine ⟨A', c', w, ?_, by simpa using hown, Below.refl _ _⟩
    rcases hown.2 with ⟨h, h0⟩ | ⟨g, cap, cur, h, _, _, hnc, _⟩
    · cases h
      simp [Builtin.append_, run_underlying ht, sizeOf, typeInfo, hi, Builtin.lenOf, Builtin.firstCells]
    · injection h with h _ h3
      subst h h3
      simp [Builtin.append_, run_underlying ht, sizeOf, typeInfo, hi, Builtin.lenOf, Builtin.firstCells, hnc, storeCells]
  · have hmul : (n + m) * bytes ≤ 140737488355328 := Nat.le_trans (Nat.mul_le_mul (show n + m ≤ 1099511627776 by omega) hby) (by decide)
    obtain ⟨v', w', hrun, h2, h3, _, h5⟩ := run_append_own_at (P := P) w base t ty e i z size bytes ht hi hz hs hb hzs hsz v n xs hown ad m c news hl (hnews ad rfl) h1 (by unfold maxLen; omega) hmul hbase
    obtain ⟨A', c', rfl⟩ := own_split h2
    exact ⟨A', c', w', hrun, h2, own_below hown h3 hbase⟩
/-- append of one element that lies in a block of its own. -/
theorem app_one {ty : TypeId} (hT : SlT P t e size bytes) (hown : w.ownsRow base e size v n xs) {gb : Nat} {cs : Array Value} (hsrc : Blk w gb e cs) (hcs : cs.size = size) (h1 : ∀ u ∈ cs.toList, u.oneCell' = true)
    (hn : n < 1099511627776) (hby : bytes ≤ 64) (hbase : base ≤ w.heap.size) :
    ∃ A' c' w', (Builtin.append_ #[t, t] ty #[v, .slice (some ⟨gb, 0, none⟩) 1 1]).run P w = .ok (.slice A' (n + 1) c') w' ∧ w'.ownsRow base e size (.slice A' (n + 1) c') (n + 1) (xs ++ cs.toList) ∧ Below base w w' := by
  obtain ⟨g, cap, w', hrun, h2, h3, -⟩ := run_append1 (ty := ty) hT hown hsrc hcs h1 hn hby hbase
  exact ⟨_, _, w', hrun, h2, own_below hown h3 hbase⟩
/-- A step of a region that draws: append, its guard met. -/
theorem step_app {w w' : World} {ops : Array Oper} {o : Oper} {a : Act} {K : Act → World → Prop} {Q : Exit → Act → World → Prop} {E : Prop} {s x : Operand} {v vx v' : Value} (hrun : (Builtin.append_ #[t, t] o.type #[v, vx]).run P w = .ok v' w')
    (hw : Region.wanted o (yielded ops a.tmps) = true) (ho : o.op = .call { callee := .builtin .append, args := #[s, x], argTypes := #[t, t] }) (hs : a.eval s = v) (hx : a.eval x = vx)
    (hK : K (a.put o.dst v') w') : if Region.wanted o (yielded ops a.tmps) = true then Oper.wp P o a w K Q else E := by
  rw [if_pos hw]
  unfold Oper.wp
  simp [execOp, ho, resolve, invoke, builtin, hs, hx, hrun, Result.andThen]
  exact hK
end
/-- What reads as cells. -/
theorem Rows.news {α : Type} {f : α → List Value} {size : Nat} {w : World} {s : Sl} {L : List α} (hf : ∀ x, (f x).length = size) (h : Rows f size w s L) : ∀ ad, s.1 = some ad → ∀ j u, (L.flatMap f)[j]? = some u → w.cell? (ad.add j) = some u := by
  intro ad e j u hu
  have hj := (List.getElem?_eq_some_iff.1 hu).1
  rw [flat_len hf] at hj
  obtain ⟨b, off, e2, -, hc⟩ := h.rd (by omega)
  rw [e] at e2
  injection e2 with e2
  subst e2
  have ea : (⟨b, off, none⟩ : Addr).add j = ⟨b, off + j, none⟩ := by unfold Addr.add; split <;> simp_all
  rw [ea, hc j hj]
  dsimp only
  rw [hu]
  rfl
theorem Rows.none_ {α : Type} {f : α → List Value} {size : Nat} {w : World} {s : Sl} {L : List α} (h : Rows f size w s L) (hs : 0 < size) : s.1 = none → s.2.1 = 0 := by
  intro e
  rw [← h.len]
  rcases Nat.eq_zero_or_pos L.length with h0 | h0
  · exact h0
  · obtain ⟨_, _, e2, _⟩ := h.rd (Nat.mul_pos h0 hs)
    rw [e] at e2
    cases e2
theorem NIn.news {w : World} {B : Nat} {s : Sl} {xs : List Int} (h : NIn w B s xs) : ∀ ad, s.1 = some ad → ∀ j u, (xs.map (Value.int .i64))[j]? = some u → w.cell? (ad.add j) = some u := by
  intro ad e j u hu
  have hj := (List.getElem?_eq_some_iff.1 hu).1
  rw [List.length_map, h.len] at hj
  obtain ⟨b, off, e2, -, hc⟩ := h.cell hj
  rw [e] at e2
  injection e2 with e2
  subst e2
  have ea : (⟨b, off, none⟩ : Addr).add j = ⟨b, off + j, none⟩ := by unfold Addr.add; split <;> simp_all
  rw [ea, hc, ← hu]
  have hj2 : j < xs.length := by rw [h.len]; exact hj
  simp [hj2]
theorem NIn.none_ {w : World} {B : Nat} {s : Sl} {xs : List Int} (h : NIn w B s xs) : s.1 = none → s.2.1 = 0 := by
  intro e
  rcases Nat.eq_zero_or_pos s.2.1 with h0 | h0
  · exact h0
  · obtain ⟨_, _, e2, _⟩ := h.cell h0
    rw [e] at e2
    cases e2
/-- A row of ints of the call's own. -/
def OwnI (w : World) (B : Nat) (A : Option Addr) (n c : Nat) (xs : List Int) : Prop := w.ownsRow B 3 1 (.slice A n c) n (xs.map (Value.int .i64))
theorem OwnI.nin {w : World} {B n c : Nat} {A : Option Addr} {xs : List Int} (h : OwnI w B A n c xs) : NIn w w.heap.size (A, n, c) xs := NIn.own h
theorem OwnI.all {w w' : World} {B n c : Nat} {A : Option Addr} {xs : List Int} (h : OwnI w B A n c xs) (hb : Below w.heap.size w w') : OwnI w' B A n c xs := own_keep h hb
theorem OwnI.nil (w : World) (B : Nat) : OwnI w B none 0 0 [] := World.ownsRow_nil w B _ 1
/-- append(nil, xs...). -/
theorem app_ints {w : World} {s : Sl} {xs : List Int} (B : Nat) (ty : TypeId) (h : NIn w w.heap.size s xs) (hn : s.2.1 ≤ 1000000) (hB : B ≤ w.heap.size) :
    ∃ A' c' w', (Builtin.append_ #[22, 22] ty #[.slice none 0 0, slV s]).run Try.prog w = .ok (.slice A' s.2.1 c') w' ∧ OwnI w' B A' s.2.1 c' xs ∧ Below w.heap.size w w' := by
  obtain ⟨A', c', w', hrun, hown, hb⟩ := app_cells (ty := ty) (base := w.heap.size) slT_ints (World.ownsRow_nil w w.heap.size _ 1) s.1 s.2.1 s.2.2 (xs.map (Value.int .i64)) (by rw [List.length_map, h.len, Nat.mul_one]) h.none_ h.news (by
    intro u hu
    obtain ⟨x, -, rfl⟩ := List.mem_map.1 hu
    rfl) (by omega) (by decide) (Nat.le_refl _)
  rw [Nat.zero_add] at hrun hown
  rw [List.nil_append] at hown
  refine ⟨A', c', w', hrun, ⟨hown.1, ?_⟩, hb⟩
  rcases hown.2 with h2 | ⟨g, cap, cur, h2, h3, h4⟩
  · exact .inl h2
  · exact .inr ⟨g, cap, cur, h2, Nat.le_trans hB h3, h4⟩
/-- append of one int that a literal holds. -/
theorem app_int {w : World} {B n c : Nat} {A : Option Addr} {xs : List Int} (ty : TypeId) (x : Int) (h : OwnI w B A n c xs) (hn : n ≤ 1000000) (hB : B ≤ w.heap.size) :
    ∃ A' c' w', (Builtin.append_ #[22, 22] ty #[.slice A n c, .slice (some ⟨w.heap.size, 0, none⟩) 1 1]).run Try.prog (w.alloc (.cells #[.int .i64 x] 3)) = .ok (.slice A' (n + 1) c') w' ∧ OwnI w' B A' (n + 1) c' (xs ++ [x]) ∧ Below B w w' := by
  obtain ⟨A', c', w', hrun, hown, hb⟩ := app_one (ty := ty) (w := w.alloc (.cells #[.int .i64 x] 3)) slT_ints (World.ownsRow.alloc h _) (Blk.new w 3 #[.int .i64 x]) rfl (by intro u hu; simp at hu; subst hu; rfl) (by omega) (by decide) (by simp; omega)
  refine ⟨A', c', w', hrun, ?_, ((Below.refl B w).alloc hB _).trans hb⟩
  unfold OwnI
  rw [List.map_append]
  exact hown
/-- append of one element that a literal holds. -/
theorem app_elem {P : Program} {w : World} {B t e size bytes n c : Nat} {A : Option Addr} {xs : List Value} (ty : TypeId) (hT : SlT P t e size bytes) (h : w.ownsRow B e size (.slice A n c) n xs) (cs : Array Value) (hcs : cs.size = size) (h1 : ∀ u ∈ cs.toList, u.oneCell' = true) (hn : n ≤ 1000000) (hby : bytes ≤ 64) (hB : B ≤ w.heap.size) :
    ∃ A' c' w', (Builtin.append_ #[t, t] ty #[.slice A n c, .slice (some ⟨w.heap.size, 0, none⟩) 1 1]).run P (w.alloc (.cells cs e)) = .ok (.slice A' (n + 1) c') w' ∧ w'.ownsRow B e size (.slice A' (n + 1) c') (n + 1) (xs ++ cs.toList) ∧ Below B w w' ∧ w.grownBy w' (Value.slice A n c).ownBlock := by
  have hg0 : w.grownBy (w.alloc (.cells cs e)) (Value.slice A n c).ownBlock := World.grownBy_alloc w _ _
  obtain ⟨g, cap, w', hrun, h2, h3, -⟩ := run_append1 (ty := ty) (w := w.alloc (.cells cs e)) hT (h.alloc _) (Blk.new w e cs) hcs h1 (by omega) hby (by simp; omega)
  exact ⟨_, _, w', hrun, h2, own_below h (hg0.trans h3) hB, hg0.trans h3⟩
/-- A row of another element's type stays. -/
theorem own_other {w w' : World} {B B' e e' size size' n n' : Nat} {v v' : Value} {xs ys : List Value} (h : w.ownsRow B e size v n xs) (h' : w.ownsRow B' e' size' v' n' ys) (hne : e ≠ e') (hg : w.grownBy w' v'.ownBlock) : w'.ownsRow B e size v n xs := by
  refine h.kept hg ?_
  rcases h.2 with ⟨rfl, _⟩ | ⟨g, cap, cur, rfl, -, hh, -⟩
  · exact .inl rfl
  · right
    rcases h'.2 with ⟨rfl, _⟩ | ⟨g', cap', cur', rfl, -, hh', -⟩
    · simp [Value.ownBlock]
    · simp only [Value.ownBlock]
      intro he
      injection he with he
      subst he
      rw [hh] at hh'
      injection hh' with hh'
      injection hh' with _ he _
      exact hne he
end Go.Proofs.Ytikfcpkobgejmaa

/- law 29: given. -/
namespace Go.Proofs.Ytikfcpkobgejmaa
open Go.RowKit

theorem slT_bid : SlT Try.prog 40 70 3 40 := SlT.of Try.underlying40 (by kernel_rfl) (by decide)
def GivenPost (L : List Bd) (w : World) (e : Ending) (w' : World) : Prop := ∃ A' c', e = .returned (.slice A' L.length c') ∧ w'.ownsRow w.heap.size 70 3 (.slice A' L.length c') L.length (L.flatMap Bd.cells) ∧ Below w.heap.size w w'
set_option maxRecDepth 100000 in
set_option maxHeartbeats 4000000 in
theorem given_any (A : Option Addr) (m c : Nat) (L : List Bd) (w : World) (HL : Hid (Bds w (A, m, c) L)) (hm : m ≤ 1000) :
    Calls Try.prog 19 #[.slice A m c] w (GivenPost L w) := by
  have HLL := Lib.hid HL.out.rows.len
  dsimp only at HLL
  go_enter Try.func19, Try.ntmps19
  go_wp2
  go_loopw [3, 4] (fun v iv wr => ∃ (k : Nat) (A' : Option Addr) (c' : Nat), k ≤ m ∧ iv = .int .i64 (k : Int) ∧ v = .slice A' k c' ∧ Hid (wr.ownsRow w.heap.size 70 3 (.slice A' k c') k ((L.take k).flatMap Bd.cells)) ∧ Hid (Below w.heap.size w wr)) (fun _ iv _ => m - (intOf iv).toNat)
  case atStart => exact ⟨0, none, 0, by omega, rfl, rfl, Lib.hid (by rw [List.take_zero]; exact World.ownsRow_nil _ _ _ _), Lib.hid (Below.refl _ _)⟩
  case round =>
    obtain ⟨k, A', c', hk, rfl, rfl, HO, HB⟩ := hrel
    by_cases hkm : k < m
    · obtain ⟨b, off, bi, pr, sA, sn, sc, lots, hA, hbw, c0, c1, c2, hin, he⟩ := HL.out.get (k := k) (by rw [HLL.out]; exact hkm)
      subst hA
      have HS : Hid (∀ w', Below w.heap.size w w' → (fun w' => w'.cell? ⟨b, off + k * 3, none⟩ = some (.int .i64 bi) ∧ w'.cell? ⟨b, off + k * 3 + 1, none⟩ = some (.int .i64 pr) ∧ w'.cell? ⟨b, off + k * 3 + 2, none⟩ = some (.slice sA sn sc)) w') := Lib.hid (fun w' hb => ⟨(hb.cell (p := ⟨b, off + k * 3, none⟩) hbw).trans c0, (hb.cell (p := ⟨b, off + k * 3 + 1, none⟩) hbw).trans c1, (hb.cell (p := ⟨b, off + k * 3 + 2, none⟩) hbw).trans c2⟩)
      have HTK : Hid ((L.take (k + 1)).flatMap Bd.cells = (L.take k).flatMap Bd.cells ++ #[.int .i64 bi, .int .i64 pr, .slice sA sn sc].toList) := Lib.hid (by
        have hkl : k < L.length := by rw [HLL.out]; exact hkm
        rw [← List.take_append_getElem hkl, List.flatMap_append]
        rw [← bdAt_eq hkl, he]
        rfl)
      have HD : Hid (Below w.heap.size w wr.drew) := Lib.hid (bt HB.out (below_drewN (Below.refl _ _) 1))
      obtain ⟨A5, c5, w5, hr5, ho5, hb5, -⟩ := app_elem (w := wr.drew) 40 slT_bid (own_keep HO.out (below_drewN (Below.refl wr.heap.size wr) 1)) #[.int .i64 bi, .int .i64 pr, .slice sA sn sc] rfl (by intro u hu; simp at hu; rcases hu with rfl | rfl | rfl <;> rfl) (by omega) (by decide) HD.out.size
      have HR5 := Lib.hid hr5
      have HO5 : Hid (w5.ownsRow w.heap.size 70 3 (.slice A5 (k + 1) c5) (k + 1) ((L.take (k + 1)).flatMap Bd.cells)) := Lib.hid (by rw [HTK.out]; exact ho5)
      have HE : Hid (Below w.heap.size w (wr.drew.alloc (.cells #[.int .i64 bi, .int .i64 pr, .slice sA sn sc] 70))) := Lib.hid (HD.out.alloc HD.out.size _)
      have HB5 : Hid (Below w.heap.size w w5) := Lib.hid (HD.out.trans hb5)
      clear hr5 ho5 hb5 c0 c1 c2 hin he hbw
      have hki : (k : Int) < (m : Int) := by omega
      go_wp2
      refine wp_region_held_drew (S := (fun w' => w'.cell? ⟨b, off + k * 3, none⟩ = some (.int .i64 bi) ∧ w'.cell? ⟨b, off + k * 3 + 1, none⟩ = some (.int .i64 pr) ∧ w'.cell? ⟨b, off + k * 3 + 2, none⟩ = some (.slice sA sn sc))) (by kernel_rfl) (HS.out _ HD.out) (fun hHeld => ?_)
      refine takeH 0 (some 11) (v := ?_) (by rfl) (by rfl) (by kernel_rfl) (by kernel_rfl) (by kernel_rfl) (fun _ _ _ h => h) ?_ (by assumption) ?_
      rotate_left
      · (intro o ho w hSw; obtain ⟨z0, z1, z2⟩ := hSw; cases ho; go_simp; try with_reducible rfl)
      try simp only [Act.put, List.setIfInBounds_toArray, List.set_cons_zero, List.set_cons_succ]
      refine takeH 1 (some 12) (v := ?_) (by rfl) (by rfl) (by kernel_rfl) (by kernel_rfl) (by kernel_rfl) (fun _ _ _ h => h) ?_ (by assumption) ?_
      rotate_left
      · (intro o ho w hSw; obtain ⟨z0, z1, z2⟩ := hSw; cases ho; go_simp; try with_reducible rfl)
      try simp only [Act.put, List.setIfInBounds_toArray, List.set_cons_zero, List.set_cons_succ]
      refine takeH 2 (some 13) (v := ?_) (by rfl) (by rfl) (by kernel_rfl) (by kernel_rfl) (by kernel_rfl) (fun _ _ _ h => h) ?_ (by assumption) ?_
      rotate_left
      · (intro o ho w hSw; obtain ⟨z0, z1, z2⟩ := hSw; cases ho; go_simp; try with_reducible rfl)
      try simp only [Act.put, List.setIfInBounds_toArray, List.set_cons_zero, List.set_cons_succ]
      refine takeH 3 (some 14) (v := ?_) (by rfl) (by rfl) (by kernel_rfl) (by kernel_rfl) (by kernel_rfl) (fun _ _ _ h => h) ?_ (by assumption) ?_
      rotate_left
      · (intro o ho w hSw; obtain ⟨z0, z1, z2⟩ := hSw; cases ho; go_simp; try with_reducible rfl)
      try simp only [Act.put, List.setIfInBounds_toArray, List.set_cons_zero, List.set_cons_succ]
      refine takeH 4 (some 15) (v := ?_) (by rfl) (by rfl) (by kernel_rfl) (by kernel_rfl) (by kernel_rfl) (fun _ _ _ h => h) ?_ (by assumption) ?_
      rotate_left
      · (intro o ho w hSw; obtain ⟨z0, z1, z2⟩ := hSw; cases ho; go_simp; try with_reducible rfl)
      try simp only [Act.put, List.setIfInBounds_toArray, List.set_cons_zero, List.set_cons_succ]
      refine takeH 5 (some 16) (v := ?_) (by rfl) (by rfl) (by kernel_rfl) (by kernel_rfl) (by kernel_rfl) (fun _ _ _ h => h) ?_ (by assumption) ?_
      rotate_left
      · (intro o ho w hSw; obtain ⟨z0, z1, z2⟩ := hSw; cases ho; go_simp; try with_reducible rfl)
      try simp only [Act.put, List.setIfInBounds_toArray, List.set_cons_zero, List.set_cons_succ]
      refine takeH 6 (some 17) (v := ?_) (by rfl) (by rfl) (by kernel_rfl) (by kernel_rfl) (by kernel_rfl) (fun _ _ _ h => h) ?_ (by assumption) ?_
      rotate_left
      · (intro o ho w hSw; obtain ⟨z0, z1, z2⟩ := hSw; cases ho; go_simp; try with_reducible rfl)
      try simp only [Act.put, List.setIfInBounds_toArray, List.set_cons_zero, List.set_cons_succ]
      refine takeH 7 (some 18) (v := ?_) (by rfl) (by rfl) (by kernel_rfl) (by kernel_rfl) (by kernel_rfl) (fun _ _ _ h => h) ?_ (by assumption) ?_
      rotate_left
      · (intro o ho w hSw; obtain ⟨z0, z1, z2⟩ := hSw; cases ho; go_simp; try with_reducible rfl)
      try simp only [Act.put, List.setIfInBounds_toArray, List.set_cons_zero, List.set_cons_succ]
      refine takeH 8 (some 19) (v := ?_) (by rfl) (by rfl) (by kernel_rfl) (by kernel_rfl) (by kernel_rfl) (fun _ _ _ h => h) ?_ (by assumption) ?_
      rotate_left
      · (intro o ho w hSw; obtain ⟨z0, z1, z2⟩ := hSw; cases ho; go_simp; try with_reducible rfl)
      try simp only [Act.put, List.setIfInBounds_toArray, List.set_cons_zero, List.set_cons_succ]
      refine takeH 9 (some 20) (v := ?_) (by rfl) (by rfl) (by kernel_rfl) (by kernel_rfl) (by kernel_rfl) (fun _ _ _ h => h) ?_ (by assumption) ?_
      rotate_left
      · (intro o ho w hSw; obtain ⟨z0, z1, z2⟩ := hSw; cases ho; go_simp; try with_reducible rfl)
      try simp only [Act.put, List.setIfInBounds_toArray, List.set_cons_zero, List.set_cons_succ]
      refine takeH 10 (some 21) (v := ?_) (by rfl) (by rfl) (by kernel_rfl) (by kernel_rfl) (by kernel_rfl) (fun _ _ _ h => h) ?_ (by assumption) ?_
      rotate_left
      · (intro o ho w hSw; obtain ⟨z0, z1, z2⟩ := hSw; cases ho; go_simp; try with_reducible rfl)
      try simp only [Act.put, List.setIfInBounds_toArray, List.set_cons_zero, List.set_cons_succ]
      refine takeH 11 (some 22) (v := ?_) (by rfl) (by rfl) (by kernel_rfl) (by kernel_rfl) (by kernel_rfl) (fun _ _ _ h => h) ?_ (by assumption) ?_
      rotate_left
      · (intro o ho w hSw; obtain ⟨z0, z1, z2⟩ := hSw; cases ho; go_simp; try with_reducible rfl)
      try simp only [Act.put, List.setIfInBounds_toArray, List.set_cons_zero, List.set_cons_succ]
      refine takeH 12 (some 23) (v := ?_) (by rfl) (by rfl) (by kernel_rfl) (by kernel_rfl) (by kernel_rfl) (fun _ _ _ h => h) ?_ (by assumption) ?_
      rotate_left
      · (intro o ho w hSw; obtain ⟨z0, z1, z2⟩ := hSw; cases ho; go_simp; try with_reducible rfl)
      try simp only [Act.put, List.setIfInBounds_toArray, List.set_cons_zero, List.set_cons_succ]
      refine takeH 13 (some 24) (v := ?_) (by rfl) (by rfl) (by kernel_rfl) (by kernel_rfl) (by kernel_rfl) (fun _ _ _ h => h) ?_ (by assumption) ?_
      rotate_left
      · (intro o ho w hSw; obtain ⟨z0, z1, z2⟩ := hSw; cases ho; go_simp; try with_reducible rfl)
      try simp only [Act.put, List.setIfInBounds_toArray, List.set_cons_zero, List.set_cons_succ]
      refine takeH 14 (some 25) (v := ?_) (by rfl) (by rfl) (by kernel_rfl) (by kernel_rfl) (by kernel_rfl) (fun _ _ _ h => h) ?_ (by assumption) ?_
      rotate_left
      · (intro o ho w hSw; obtain ⟨z0, z1, z2⟩ := hSw; cases ho; go_simp; try with_reducible rfl)
      try simp only [Act.put, List.setIfInBounds_toArray, List.set_cons_zero, List.set_cons_succ]
      refine takeH 15 (some 26) (v := ?_) (by rfl) (by rfl) (by kernel_rfl) (by kernel_rfl) (by kernel_rfl) (fun _ _ _ h => h) ?_ (by assumption) ?_
      rotate_left
      · (intro o ho w hSw; obtain ⟨z0, z1, z2⟩ := hSw; cases ho; go_simp; try with_reducible rfl)
      try simp only [Act.put, List.setIfInBounds_toArray, List.set_cons_zero, List.set_cons_succ]
      refine takeH 16 (some 27) (v := ?_) (by rfl) (by rfl) (by kernel_rfl) (by kernel_rfl) (by kernel_rfl) (fun _ _ _ h => h) ?_ (by assumption) ?_
      rotate_left
      · (intro o ho w hSw; obtain ⟨z0, z1, z2⟩ := hSw; cases ho; go_simp; try with_reducible rfl)
      try simp only [Act.put, List.setIfInBounds_toArray, List.set_cons_zero, List.set_cons_succ]
      refine wpAnyH_ready (rs := [17]) (by kernel_rfl) (by simp) ?_
      refine AllReadyH.cons rfl (fun K hK => ?_) AllReadyH.nil
      go_simp
      refine hK.out _ _ ?_ (fun hHa => ?_)
      · exact (HS.out _ HE.out)
      clear hK K
      try simp only [Act.put, List.setIfInBounds_toArray, List.set_cons_zero, List.set_cons_succ]
      refine wpAnyH_ready (rs := [18]) (by kernel_rfl) (by simp) ?_
      refine AllReadyH.cons rfl (fun K hK => ?_) AllReadyH.nil
      refine step_app (t := 40) HR5.out (by kernel_rfl) (by rfl) (by rfl) (by rfl) ?_
      refine hK.out _ _ ?_ (fun hHb => ?_)
      · exact (HS.out _ HB5.out)
      clear hK K
      try simp only [Act.put, List.setIfInBounds_toArray]
      refine takeH 19 (some 3) (v := ?_) (by rfl) (by rfl) (by kernel_rfl) (by kernel_rfl) (by kernel_rfl) (fun _ _ _ h => h) ?_ (by assumption) ?_
      rotate_left
      · (intro o ho w hSw; obtain ⟨z0, z1, z2⟩ := hSw; cases ho; go_simp; try with_reducible rfl)
      (try simp only [Act.put]); (try simp only [List.setIfInBounds_toArray]); (try simp only [List.set_cons_succ]); (try simp only [List.set_cons_zero])
      refine wpAnyH_done (by kernel_rfl) ?_ _
      clear hHa hHb hHeld
      go_wp2
      exact ⟨⟨k + 1, A5, c5, by omega, by go_num, rfl, HO5, HB5⟩, by simp [intOf]; omega⟩
    · obtain rfl : k = m := by omega
      have HF : Hid (GivenPost L w (.returned (.slice A' k c')) wr) := Lib.hid (by
        have h := HO.out
        rw [List.take_of_length_le (by rw [HLL.out]; exact Nat.le_refl _)] at h
        refine ⟨A', c', by rw [HLL.out], ?_, HB.out⟩
        rw [HLL.out]
        exact h)
      go_wp2
      go_ret
      exact HF.out
end Go.Proofs.Ytikfcpkobgejmaa

/- law 29: cert. -/
namespace Go.Proofs.Ytikfcpkobgejmaa
open Go.RowKit

theorem slT_cert : SlT Try.prog 42 55 4 48 := SlT.of Try.underlying42 (by kernel_rfl) (by decide)
def CertPost (v : Int) (N : List Nd) (w : World) (e : Ending) (w' : World) : Prop := ∃ A' c', e = .returned (.agg #[.int .i64 v, .slice A' N.length c']) ∧ w'.ownsRow w.heap.size 55 4 (.slice A' N.length c') N.length (N.flatMap Nd.cells) ∧ Below w.heap.size w w'
set_option maxRecDepth 100000 in
set_option maxHeartbeats 4000000 in
theorem cert_any (v : Int) (An : Option Addr) (nn cn : Nat) (N : List Nd) (w : World) (HN : Hid (Nds w (An, nn, cn) N)) (hm : nn ≤ 10000) :
    Calls Try.prog 20 #[.agg #[.int .i64 v, .slice An nn cn]] w (CertPost v N w) := by
  have HNL := Lib.hid HN.out.rows.len
  dsimp only at HNL
  go_enter Try.func20, Try.ntmps20
  go_wp2
  have hb0 := (((Below.refl w.heap.size w).alloc (Nat.le_refl _) (.cells #[.int .i64 v, .slice An nn cn] 30)).alloc (by simp) (.cells #[.int .i64 0, .slice none 0 0] 44)).alloc (by simp; omega) (.cells #[.int .i64 v, .slice none 0 0] 44)
  have hk0 := Blk.alloc (Blk.alloc (Blk.new w 30 #[.int .i64 v, .slice An nn cn]) (.cells #[.int .i64 0, .slice none 0 0] 44)) (.cells #[.int .i64 v, .slice none 0 0] 44)
  have hk1 := Blk.alloc (Blk.new (w.alloc (.cells #[.int .i64 v, .slice An nn cn] 30)) 44 #[.int .i64 0, .slice none 0 0]) (.cells #[.int .i64 v, .slice none 0 0] 44)
  have hk2 := Blk.new ((w.alloc (.cells #[.int .i64 v, .slice An nn cn] 30)).alloc (.cells #[.int .i64 0, .slice none 0 0] 44)) 44 #[.int .i64 v, .slice none 0 0]
  simp only [World.size_alloc] at hk1 hk2
  obtain ⟨w0, hw0⟩ : ∃ w0, ((w.alloc (.cells #[.int .i64 v, .slice An nn cn] 30)).alloc (.cells #[.int .i64 0, .slice none 0 0] 44)).alloc (.cells #[.int .i64 v, .slice none 0 0] 44) = w0 := ⟨_, rfl⟩
  have hz0 : w0.heap.size = w.heap.size + 1 + 1 + 1 := by rw [← hw0]; simp
  rw [hw0] at hb0 hk0 hk1 hk2 ⊢
  obtain ⟨gp, hgp⟩ : ∃ gp, w.heap.size = gp := ⟨_, rfl⟩
  rw [hgp] at hk0 hk1 hk2 hz0 ⊢
  have HZ := Lib.hid hz0
  have HGP := Lib.hid hgp
  have HB0 := Lib.hid hb0
  have HK0 := Lib.hid hk0
  have HK1 := Lib.hid hk1
  have HK2 := Lib.hid hk2
  clear hw0 hz0 hgp hb0 hk0 hk1 hk2
  go_loopw [4] (fun iv wr => ∃ (k : Nat) (A' : Option Addr) (c' : Nat), k ≤ nn ∧ iv = .int .i64 (k : Int) ∧ Hid (Blk wr gp 30 #[.int .i64 v, .slice An nn cn]) ∧ Hid (Blk wr (gp + 1) 44 #[.int .i64 0, .slice none 0 0]) ∧ Hid (Blk wr (gp + 1 + 1) 44 #[.int .i64 v, .slice A' k c']) ∧ Hid (wr.ownsRow (gp + 1 + 1 + 1) 55 4 (.slice A' k c') k ((N.take k).flatMap Nd.cells)) ∧ Hid (Below w.heap.size w wr)) (fun iv _ => nn - (intOf iv).toNat)
  case atStart => exact ⟨0, none, 0, by omega, rfl, HK0, HK1, HK2, Lib.hid (by rw [List.take_zero]; exact World.ownsRow_nil _ _ _ _), HB0⟩
  case round =>
    clear HK0 HK1 HK2
    obtain ⟨k, A', c', hk, rfl, HK0, HK1, HK2, HO, HB⟩ := hrel
    have p1 := HK0.out.cell 1
    have r0 := HK2.out.cell 0
    have r1 := HK2.out.cell 1
    simp at p1 r0 r1
    by_cases hkm : k < nn
    · obtain ⟨b, off, bi, iq, oq, sA, sn, sc, ps, hA, hbw, c0, c1, c2, c3, hin, he⟩ := (HN.out.all HB.out).get (k := k) (by rw [HNL.out]; exact hkm)
      subst hA
      have HTK : Hid ((N.take (k + 1)).flatMap Nd.cells = (N.take k).flatMap Nd.cells ++ #[.int .i64 bi, .int .i64 iq, .int .i64 oq, .slice sA sn sc].toList) := Lib.hid (by
        have hkl : k < N.length := by rw [HNL.out]; exact hkm
        rw [← List.take_append_getElem hkl, List.flatMap_append]
        rw [← ndAt_eq hkl, he]
        rfl)
      have hlt2 : gp + 1 + 1 < wr.heap.size := HK2.out.lt
      obtain ⟨A5, c5, w5, hr5, ho5, hb5, -⟩ := app_elem (w := wr.alloc (.cells #[.int .i64 bi, .int .i64 iq, .int .i64 oq, .slice sA sn sc] 34)) 42 slT_cert (HO.out.alloc _) #[.int .i64 bi, .int .i64 iq, .int .i64 oq, .slice sA sn sc] rfl (by intro u hu; simp at hu; rcases hu with rfl | rfl | rfl | rfl <;> rfl) (by omega) (by decide) (by simp; omega)
      have hba : Below (gp + 1 + 1 + 1) wr w5 := ((Below.refl (gp + 1 + 1 + 1) wr).alloc (by omega) _).trans hb5
      rw [World.size_alloc] at hr5
      have HR5 := Lib.hid hr5
      have HO5 := Lib.hid ho5
      have HK05 : Hid (Blk w5 gp 30 #[.int .i64 v, .slice (some ⟨b, off, none⟩) nn cn]) := Lib.hid (HK0.out.below hba (by omega))
      have HK15 : Hid (Blk w5 (gp + 1) 44 #[.int .i64 0, .slice none 0 0]) := Lib.hid (HK1.out.below hba (by omega))
      have hk25 : Blk w5 (gp + 1 + 1) 44 #[.int .i64 v, .slice A' k c'] := HK2.out.below hba (by omega)
      have HK25 := Lib.hid hk25
      have HB5 : Hid (Below w.heap.size w w5) := Lib.hid (HB.out.trans (hba.mono (by rw [HGP.out]; omega)))
      have d0 := hk25.cell 1
      have d1 := hk25.frozen 1
      simp at d0
      clear hr5 ho5 hb5 hin he hbw hba hk25
      have hki : (k : Int) < (nn : Int) := by omega
      go_wp2_with (at_builtin; refine wpList_append_run HR5.out (by rfl) (by rfl) (by rfl) (by rfl) ?_)
      refine ⟨⟨k + 1, A5, c5, by omega, by go_num, Lib.hid ?_, Lib.hid ?_, Lib.hid ?_, Lib.hid ?_, Lib.hid ?_⟩, by simp [intOf]; omega⟩
      · exact HK05.out.far (by simp; omega) _
      · exact HK15.out.far (by simp) _
      · exact HK25.out.set_ 1 _
      · rw [HTK.out]
        exact ownsRow_setCell_below HO5.out (by simp) _
      · exact HB5.out.setCell (by rw [HGP.out]; simp; omega) _
    · obtain rfl : k = nn := by omega
      have q0 := HK1.out.cell 0
      have q1 := HK1.out.cell 1
      have q2 := HK1.out.frozen 0
      have q3 := HK1.out.frozen 1
      simp at q0 q1
      have HF : Hid (∀ wz, Below w.heap.size w wz → wz.ownsRow (gp + 1 + 1 + 1) 55 4 (.slice A' k c') k ((N.take k).flatMap Nd.cells) → CertPost v N w (.returned (.agg #[.int .i64 v, .slice A' k c'])) wz) := Lib.hid (fun wz hbz h => by
        rw [List.take_of_length_le (by rw [HNL.out]; exact Nat.le_refl _)] at h
        refine ⟨A', c', by rw [HNL.out], ?_, hbz⟩
        rw [HNL.out]
        exact own_lower h (by rw [HGP.out]; omega))
      have hkz := (HK1.out.set_ 0 (.int .i64 v)).set_ 1 (.slice A' k c')
      have y0 := hkz.cell 0
      have y1 := hkz.cell 1
      simp at y0 y1
      clear hkz
      go_wp2
      refine bodyPost_ret (v := .agg #[.int .i64 v, .slice A' k c']) (by simp [results, Try.results20, go_sem, y0, y1]) rfl (HF.out _ ?_ ?_)
      · exact (HB.out.setCell (by rw [HGP.out]; simp) _).setCell (by rw [HGP.out]; simp) _
      · exact ownsRow_setCell_below (ownsRow_setCell_below HO.out (by simp) _) (by simp) _
end Go.Proofs.Ytikfcpkobgejmaa

/- law 29: lives. -/
namespace Go.Proofs.Ytikfcpkobgejmaa
open Go.RowKit

theorem size_any (v : Int) (An : Option Addr) (nn cn : Nat) (w : World) : Calls Try.prog 30 #[.agg #[.int .i64 v, .slice An nn cn]] w fun e w' => e = .returned (.int .i64 (nn : Int)) ∧ Below w.heap.size w w' := by
  have hk := Blk.new w 44 #[.int .i64 v, .slice An nn cn]
  have k1 := hk.cell 1
  simp at k1
  clear hk
  go_enter Try.func30, Try.ntmps30
  go_wp2
  go_ret
  exact ⟨rfl, (Below.refl _ _).alloc (Nat.le_refl _) _⟩
theorem NIn.of_blk {w : World} {g n : Nat} {t : TypeId} {cs : Array Value} {xs : List Int} (h : Blk w g t cs) (hc : cs.toList = xs.map (Value.int .i64)) (hn : xs.length = n) (hm : n ≤ 1000) : NIn w w.heap.size (some ⟨g, 0, none⟩, n, n) xs := by
  refine ⟨hn, Nat.le_refl _, by dsimp only; omega, fun _ => ⟨g, 0, rfl, h.lt, fun j hj => ?_⟩⟩
  dsimp only at hj
  have hjx : j < xs.length := by omega
  rw [Nat.zero_add, h.cell j, ← Array.getElem?_toList, hc]
  simp [vInt, hjx]
theorem Rows.of_blk {α : Type} {f : α → List Value} {size : Nat} {w : World} {g n : Nat} {t : TypeId} {cs : Array Value} {L : List α} (h : Blk w g t cs) (hf : ∀ x, (f x).length = size) (hc : cs.toList = L.flatMap f) (hn : L.length = n) (hm : n ≤ 1000) : Rows f size w (some ⟨g, 0, none⟩, n, n) L := by
  refine ⟨hn, Nat.le_refl _, by dsimp only; omega, fun _ => ⟨g, 0, rfl, h.lt, fun j hj => ?_⟩⟩
  rw [Nat.zero_add, h.cell j, ← Array.getElem?_toList, hc]
  have hl := flat_len hf L
  dsimp only
  rw [List.getElem?_eq_getElem (by omega)]
  rfl
theorem Blk.new' {g : Nat} (w : World) (t : TypeId) (cs : Array Value) (h : g = w.heap.size) : Blk (w.alloc (.cells cs t)) g t cs := by rw [h]; exact Blk.new _ _ _
set_option maxRecDepth 100000 in
set_option maxHeartbeats 4000000 in
theorem lives_any (w : World) : Calls Try.prog 22 #[] w fun e w' => e = .returned (.bool true) ∧ Below w.heap.size w w' := by
  obtain ⟨gx, hgx⟩ : ∃ gx, w.heap.size = gx := ⟨_, rfl⟩
  go_enter Try.func22, Try.ntmps22
  go_wp2_with fail
  obtain ⟨wz, hwz⟩ : ∃ wz, (((((((((((w.alloc (.cells #[.int .i64 0, .int .i64 1] 3)).alloc (.cells #[.int .i64 0] 3)).alloc (.cells #[.int .i64 1] 3)).alloc (.cells #[.int .i64 1, .int .i64 6, .slice (some ⟨gx, 0, none⟩) 2 2, .int .i64 2, .int .i64 4, .slice (some ⟨gx + 1, 0, none⟩) 1 1, .int .i64 3, .int .i64 4, .slice (some ⟨gx + 1 + 1, 0, none⟩) 1 1] 70)).alloc (.cells #[.int .i64 3, .int .i64 3] 3)).alloc (.cells #[.int .i64 (-1), .int .i64 0, .int .i64 0, .slice (some ⟨gx + 1 + 1 + 1 + 1, 0, none⟩) 2 2] 55)).alloc (.cells #[.int .i64 8, .slice (some ⟨gx + 1 + 1 + 1 + 1 + 1, 0, none⟩) 1 1] 44)).alloc (.cells #[.int .i64 0, .int .i64 0] 3)).alloc (.cells #[.int .i64 (-1), .int .i64 0, .int .i64 0, .slice (some ⟨gx + 1 + 1 + 1 + 1 + 1 + 1 + 1, 0, none⟩) 2 2] 55)).alloc (.cells #[.int .i64 8, .slice (some ⟨gx + 1 + 1 + 1 + 1 + 1 + 1 + 1 + 1, 0, none⟩) 1 1] 44)).alloc (.cells #[.int .i64 1, .int .i64 2] 3)) = wz := ⟨_, rfl⟩
  have h0 : Blk wz (gx) 3 #[.int .i64 0, .int .i64 1] := by rw [← hwz]; repeat (first | exact Blk.new' _ _ _ (by simp [hgx]) | refine Blk.alloc ?_ _)
  have h1 : Blk wz (gx + 1) 3 #[.int .i64 0] := by rw [← hwz]; repeat (first | exact Blk.new' _ _ _ (by simp [hgx]) | refine Blk.alloc ?_ _)
  have h2 : Blk wz (gx + 1 + 1) 3 #[.int .i64 1] := by rw [← hwz]; repeat (first | exact Blk.new' _ _ _ (by simp [hgx]) | refine Blk.alloc ?_ _)
  have h3 : Blk wz (gx + 1 + 1 + 1) 70 #[.int .i64 1, .int .i64 6, .slice (some ⟨gx, 0, none⟩) 2 2, .int .i64 2, .int .i64 4, .slice (some ⟨gx + 1, 0, none⟩) 1 1, .int .i64 3, .int .i64 4, .slice (some ⟨gx + 1 + 1, 0, none⟩) 1 1] := by rw [← hwz]; repeat (first | exact Blk.new' _ _ _ (by simp [hgx]) | refine Blk.alloc ?_ _)
  have h4 : Blk wz (gx + 1 + 1 + 1 + 1) 3 #[.int .i64 3, .int .i64 3] := by rw [← hwz]; repeat (first | exact Blk.new' _ _ _ (by simp [hgx]) | refine Blk.alloc ?_ _)
  have h5 : Blk wz (gx + 1 + 1 + 1 + 1 + 1) 55 #[.int .i64 (-1), .int .i64 0, .int .i64 0, .slice (some ⟨gx + 1 + 1 + 1 + 1, 0, none⟩) 2 2] := by rw [← hwz]; repeat (first | exact Blk.new' _ _ _ (by simp [hgx]) | refine Blk.alloc ?_ _)
  have h6 : Blk wz (gx + 1 + 1 + 1 + 1 + 1 + 1) 44 #[.int .i64 8, .slice (some ⟨gx + 1 + 1 + 1 + 1 + 1, 0, none⟩) 1 1] := by rw [← hwz]; repeat (first | exact Blk.new' _ _ _ (by simp [hgx]) | refine Blk.alloc ?_ _)
  have h7 : Blk wz (gx + 1 + 1 + 1 + 1 + 1 + 1 + 1) 3 #[.int .i64 0, .int .i64 0] := by rw [← hwz]; repeat (first | exact Blk.new' _ _ _ (by simp [hgx]) | refine Blk.alloc ?_ _)
  have h8 : Blk wz (gx + 1 + 1 + 1 + 1 + 1 + 1 + 1 + 1) 55 #[.int .i64 (-1), .int .i64 0, .int .i64 0, .slice (some ⟨gx + 1 + 1 + 1 + 1 + 1 + 1 + 1, 0, none⟩) 2 2] := by rw [← hwz]; repeat (first | exact Blk.new' _ _ _ (by simp [hgx]) | refine Blk.alloc ?_ _)
  have h9 : Blk wz (gx + 1 + 1 + 1 + 1 + 1 + 1 + 1 + 1 + 1) 44 #[.int .i64 8, .slice (some ⟨gx + 1 + 1 + 1 + 1 + 1 + 1 + 1 + 1, 0, none⟩) 1 1] := by rw [← hwz]; repeat (first | exact Blk.new' _ _ _ (by simp [hgx]) | refine Blk.alloc ?_ _)
  have h10 : Blk wz (gx + 1 + 1 + 1 + 1 + 1 + 1 + 1 + 1 + 1 + 1) 3 #[.int .i64 1, .int .i64 2] := by rw [← hwz]; repeat (first | exact Blk.new' _ _ _ (by simp [hgx]) | refine Blk.alloc ?_ _)
  have hb : Below w.heap.size w wz := by
    rw [← hwz]
    repeat (first | exact (Below.refl _ _).alloc (Nat.le_refl _) _ | refine Below.alloc ?_ (by simp <;> omega) _)
  rw [hwz]
  have HL : Hid (Bds wz (some ⟨gx + 1 + 1 + 1, 0, none⟩, 3, 3) [⟨1, 6, (some ⟨gx, 0, none⟩, 2, 2), [0, 1]⟩, ⟨2, 4, (some ⟨gx + 1, 0, none⟩, 1, 1), [0]⟩, ⟨3, 4, (some ⟨gx + 1 + 1, 0, none⟩, 1, 1), [1]⟩]) := Lib.hid ⟨Rows.of_blk h3 Bd.cells_length rfl rfl (by decide), by
    intro b hb
    simp only [List.mem_cons, List.not_mem_nil, or_false] at hb
    rcases hb with rfl | rfl | rfl
    · exact NIn.of_blk h0 rfl rfl (by decide)
    · exact NIn.of_blk h1 rfl rfl (by decide)
    · exact NIn.of_blk h2 rfl rfl (by decide)⟩
  have HN1 : Hid (Nds wz (some ⟨gx + 1 + 1 + 1 + 1 + 1, 0, none⟩, 1, 1) [⟨-1, 0, 0, (some ⟨gx + 1 + 1 + 1 + 1, 0, none⟩, 2, 2), [3, 3]⟩]) := Lib.hid ⟨Rows.of_blk h5 Nd.cells_length rfl rfl (by decide), by
    intro b hb
    simp only [List.mem_cons, List.not_mem_nil, or_false] at hb
    subst hb
    exact NIn.of_blk h4 rfl rfl (by decide)⟩
  have HN2 : Hid (Nds wz (some ⟨gx + 1 + 1 + 1 + 1 + 1 + 1 + 1 + 1, 0, none⟩, 1, 1) [⟨-1, 0, 0, (some ⟨gx + 1 + 1 + 1 + 1 + 1 + 1 + 1, 0, none⟩, 2, 2), [0, 0]⟩]) := Lib.hid ⟨Rows.of_blk h8 Nd.cells_length rfl rfl (by decide), by
    intro b hb
    simp only [List.mem_cons, List.not_mem_nil, or_false] at hb
    subst hb
    exact NIn.of_blk h7 rfl rfl (by decide)⟩
  have HW1 := Lib.hid (NIn.of_blk (xs := [1, 2]) h10 rfl rfl (by decide))
  have HK2 := Lib.hid h6
  have HK3 := Lib.hid h9
  have HBZ := Lib.hid hb
  clear hwz h0 h1 h2 h3 h4 h5 h6 h7 h8 h9 h10 hb
  refine (check_any 2 _ 3 3 _ 2 2 8 _ 1 1 [⟨1, 6, (some ⟨gx, 0, none⟩, 2, 2), [0, 1]⟩, ⟨2, 4, (some ⟨gx + 1, 0, none⟩, 1, 1), [0]⟩, ⟨3, 4, (some ⟨gx + 1 + 1, 0, none⟩, 1, 1), [1]⟩] [1, 2] [⟨-1, 0, 0, (some ⟨gx + 1 + 1 + 1 + 1, 0, none⟩, 2, 2), [3, 3]⟩] wz HL HW1 HN1 (by decide)).mono ?_
  rintro e w2 ⟨rfl, hb2⟩
  have e1 : checkE 2 [⟨1, 6, (some ⟨gx, 0, none⟩, 2, 2), [0, 1]⟩, ⟨2, 4, (some ⟨gx + 1, 0, none⟩, 1, 1), [0]⟩, ⟨3, 4, (some ⟨gx + 1 + 1, 0, none⟩, 1, 1), [1]⟩] [1, 2] 8 [⟨-1, 0, 0, (some ⟨gx + 1 + 1 + 1 + 1, 0, none⟩, 2, 2), [3, 3]⟩] = 0 := by rfl
  rw [e1]
  have HB2 := Lib.hid hb2
  have HBA : Hid (Below wz.heap.size wz (w2.alloc (.cells #[.int .i64 1, .int .i64 2] 3))) := Lib.hid (HB2.out.alloc HB2.out.size _)
  have m0 := (HK3.out.all HBA.out).cell 0
  have m1 := (HK3.out.all HBA.out).cell 1
  simp at m0 m1
  clear hb2 e1
  go_wp2_with fail
  clear m0 m1
  refine (check_any 2 _ 3 3 _ 2 2 8 _ 1 1 [⟨1, 6, (some ⟨gx, 0, none⟩, 2, 2), [0, 1]⟩, ⟨2, 4, (some ⟨gx + 1, 0, none⟩, 1, 1), [0]⟩, ⟨3, 4, (some ⟨gx + 1 + 1, 0, none⟩, 1, 1), [1]⟩] [1, 2] [⟨-1, 0, 0, (some ⟨gx + 1 + 1 + 1 + 1 + 1 + 1 + 1, 0, none⟩, 2, 2), [0, 0]⟩] _ (Lib.hid (HL.out.all HBA.out)) (Lib.hid (NIn.of_blk (Blk.new _ _ _) rfl rfl (by decide))) (Lib.hid (HN2.out.all HBA.out)) (by decide)).mono ?_
  rintro e w3 ⟨rfl, hb3⟩
  have e1 : checkE 2 [⟨1, 6, (some ⟨gx, 0, none⟩, 2, 2), [0, 1]⟩, ⟨2, 4, (some ⟨gx + 1, 0, none⟩, 1, 1), [0]⟩, ⟨3, 4, (some ⟨gx + 1 + 1, 0, none⟩, 1, 1), [1]⟩] [1, 2] 8 [⟨-1, 0, 0, (some ⟨gx + 1 + 1 + 1 + 1 + 1 + 1 + 1, 0, none⟩, 2, 2), [0, 0]⟩] = 20 := by rfl
  rw [e1]
  have HB3 := Lib.hid (bt HBA.out hb3)
  clear HBA
  have HBA : Hid (Below wz.heap.size wz (w3.alloc (.cells #[.int .i64 0, .int .i64 1] 3))) := Lib.hid (HB3.out.alloc HB3.out.size _)
  have m0 := (HK2.out.all HBA.out).cell 0
  have m1 := (HK2.out.all HBA.out).cell 1
  simp at m0 m1
  clear hb3 HB2 e1
  go_wp2_with fail
  clear m0 m1
  refine (check_any 2 _ 3 3 _ 2 2 8 _ 1 1 [⟨1, 6, (some ⟨gx, 0, none⟩, 2, 2), [0, 1]⟩, ⟨2, 4, (some ⟨gx + 1, 0, none⟩, 1, 1), [0]⟩, ⟨3, 4, (some ⟨gx + 1 + 1, 0, none⟩, 1, 1), [1]⟩] [0, 1] [⟨-1, 0, 0, (some ⟨gx + 1 + 1 + 1 + 1, 0, none⟩, 2, 2), [3, 3]⟩] _ (Lib.hid (HL.out.all HBA.out)) (Lib.hid (NIn.of_blk (Blk.new _ _ _) rfl rfl (by decide))) (Lib.hid (HN1.out.all HBA.out)) (by decide)).mono ?_
  rintro e w4 ⟨rfl, hb4⟩
  have e1 : checkE 2 [⟨1, 6, (some ⟨gx, 0, none⟩, 2, 2), [0, 1]⟩, ⟨2, 4, (some ⟨gx + 1, 0, none⟩, 1, 1), [0]⟩, ⟨3, 4, (some ⟨gx + 1 + 1, 0, none⟩, 1, 1), [1]⟩] [0, 1] 8 [⟨-1, 0, 0, (some ⟨gx + 1 + 1 + 1 + 1, 0, none⟩, 2, 2), [3, 3]⟩] = 1 := by rfl
  rw [e1]
  have HB4 := Lib.hid (bt HBA.out hb4)
  have m0 := (HK2.out.all HB4.out).cell 0
  have m1 := (HK2.out.all HB4.out).cell 1
  simp at m0 m1
  clear hb4 HBA HB3 e1
  go_wp2_with fail
  refine (size_any _ _ _ _ _).mono ?_
  rintro e w5 ⟨rfl, hb5⟩
  go_wp2
  go_ret
  exact ⟨rfl, bt HBZ.out (bt HB4.out hb5)⟩
end Go.Proofs.Ytikfcpkobgejmaa

/- worldmintref01: Pick. -/
namespace Go.Proofs.Ytikfcpkobgejmaa
open Go.RowKit

/-- Element i of a list of numbers, reduced; 0 where there is none. -/
def pickI (n : Nat) (f : Nat → Int) (i most : Nat) : Int := if i < n then aroundI (f i) (most : Int) else 0
set_option maxRecDepth 100000 in
theorem pick_nat (A : Option Addr) (n c : Nat) (f : Nat → Int) (i : Nat) (ii : Int) (m : Nat) (mi : Int) (w : World) (B : Nat) (hii : ii = (i : Int)) (hmi : mi = (m : Int)) (hR : Rd w B A n (fun j => .int .i64 (f j))) (hw : Hid (∀ j, j < n → -9223372036854775808 ≤ f j ∧ f j ≤ 9223372036854775807)) (h3 : 0 < m) (h4 : m ≤ 9223372036854775807) :
    Calls Try.prog 43 #[.slice A n c, .int .i64 ii, .int .i64 mi] w fun e w' => ∃ k : Nat, e = .returned (.int .i64 (k : Int)) ∧ k < m ∧ Hid ((k : Int) = pickI n f i m) ∧ w = w' := by
  subst hii hmi
  by_cases h : i < n
  · obtain ⟨b, off, hA, hb, hc⟩ := hR (by omega)
    subst hA
    have hci := hc i h
    obtain ⟨l0, l1⟩ := hw.out i h
    have h0 : (0 : Int) ≤ (i : Int) := by omega
    have h1 : ¬ ((n : Int) ≤ (i : Int)) := by omega
    have h2 : (i : Int) < (n : Int) := by omega
    clear hc hR
    go_enter Try.func43, Try.ntmps43
    go_wp2_with fail
    refine (around_nat _ m _ _ rfl l0 l1 h3 h4).mono ?_
    rintro e w1 ⟨k, rfl, hk, HK, rfl⟩
    go_wp2
    go_ret
    exact ⟨k, rfl, hk, Lib.hid (by unfold pickI; rw [if_pos h]; exact HK.out), rfl⟩
  · have h1 : (n : Int) ≤ (i : Int) := by omega
    have h0 : (0 : Int) ≤ (i : Int) := by omega
    go_enter Try.func43, Try.ntmps43
    go_wp2
    go_ret
    exact ⟨0, rfl, h3, Lib.hid (by unfold pickI; rw [if_neg h]; rfl), rfl⟩
end Go.Proofs.Ytikfcpkobgejmaa

/- reference: Bids. -/
namespace Go.Proofs.Ytikfcpkobgejmaa
open Go.RowKit

theorem slT_rbid : SlT Try.prog 24 85 3 40 := SlT.of Try.underlying24 (by kernel_rfl) (by decide)
theorem lotsBad_snoc {n : Int} : ∀ {xs : List Int} {last j : Int}, lotsBad n last xs = false → last < j → (∀ x ∈ xs, x < j) → j < n → lotsBad n last (xs ++ [j]) = false
  | [], last, j, _, h1, _, h3 => by simp [lotsBad]; omega
  | x :: t, last, j, h, h1, h2, h3 => by
    simp only [lotsBad, Bool.or_eq_false_iff, decide_eq_false_iff_not, List.cons_append] at h ⊢
    exact ⟨h.1, lotsBad_snoc h.2 (h2 x (by simp)) (fun y hy => h2 y (by simp [hy])) h3⟩
theorem firstE_snoc {n : Int} : ∀ {L : List Bd} {b : Bd}, firstE n L = 0 → bidE n b = 0 → firstE n (L ++ [b]) = 0
  | [], b, _, h => by simp [firstE, h]
  | x :: t, b, h, hb => by
    simp only [firstE, List.cons_append] at h ⊢
    split at h
    · rename_i hx
      rw [if_pos hx]
      exact firstE_snoc h hb
    · rename_i hx
      exact absurd h hx
theorem OwnI.ok {w : World} {B : Nat} {b : Bd} (h : OwnI w B b.s.1 b.s.2.1 b.s.2.2 b.lots) : b.ok w := h.nin
/-- What Bids returns. -/
def BidsPost (n most : Nat) (w : World) (e : Ending) (w' : World) : Prop := ∃ A' c' L, e = .returned (.slice A' L.length c') ∧ L.length ≤ most ∧ w'.ownsRow w.heap.size 85 3 (.slice A' L.length c') L.length (L.flatMap Bd.cells) ∧ (∀ b ∈ L, OwnI w' w.heap.size b.s.1 b.s.2.1 b.s.2.2 b.lots) ∧ firstE (n : Int) L = 0 ∧ Below w.heap.size w w'
theorem tm_ok (a : Int) (b : Int) (ha : 0 ≤ a) (hb : 0 < b) : 0 ≤ a.tmod b ∧ a.tmod b < b := by
  rw [Int.tmod_eq_emod_of_nonneg ha]
  exact ⟨Int.emod_nonneg _ (by omega), Int.emod_lt_of_pos _ hb⟩
theorem td_ok (a : Int) (b : Int) (ha : 0 ≤ a) (hb : 0 < b) : 0 ≤ a.tdiv b ∧ a.tdiv b ≤ a := by
  rw [Int.tdiv_eq_ediv_of_nonneg ha]
  exact ⟨Int.ediv_nonneg ha (by omega), Int.ediv_le_self _ ha⟩
theorem td2_ok (x : Int) (h1 : -9223372036854775808 ≤ x) (h2 : x ≤ 9223372036854775807) : -9223372036854775808 ≤ x.tdiv 2 ∧ x.tdiv 2 ≤ 9223372036854775807 := by
  rcases Int.le_total 0 x with h | h
  · have := td_ok x 2 h (by omega)
    omega
  · obtain ⟨y, hy⟩ : ∃ y, -x = y := ⟨_, rfl⟩
    obtain rfl : x = -y := by omega
    have := td_ok y 2 (by omega) (by omega)
    rw [Int.neg_tdiv]
    omega
set_option maxRecDepth 100000 in
set_option maxHeartbeats 8000000 in
theorem bids_any (n : Nat) (A : Option Addr) (m c : Nat) (f : Nat → Int) (most : Nat) (mi : Int) (hmi : mi = (most : Int)) (w : World) (hn1 : 1 ≤ n) (hn8 : n ≤ 8) (hmo : most ≤ 1000) (hR : Rd w w.heap.size A m (fun j => .int .i64 (f j))) (hw : Hid (∀ j, j < m → -9223372036854775808 ≤ f j ∧ f j ≤ 9223372036854775807)) :
    Calls Try.prog 11 #[.int .i64 (n : Int), .slice A m c, .int .i64 mi] w (BidsPost n most w) := by
  subst hmi
  have HPI : Hid (∀ (q : Nat) (qi : Int) (M : Nat) (Mi : Int), qi = (q : Int) → Mi = (M : Int) → 0 < M → M ≤ 1000000 → ∀ w', Below w.heap.size w w' → Calls Try.prog 43 #[.slice A m c, .int .i64 qi, .int .i64 Mi] w' fun e w'' => ∃ k : Nat, e = .returned (.int .i64 (k : Int)) ∧ k < M ∧ w' = w'') := Lib.hid (fun q qi M Mi h1 h2 h3 h4 w' hb => (pick_nat A m c f q qi M Mi w' _ h1 h2 (hR.all hb) hw h3 (by omega)).mono fun e w'' ⟨k, h5, h6, _, h7⟩ => ⟨k, h5, h6, h7⟩)
  obtain ⟨K, hK, HP0⟩ : ∃ K : Nat, K ≤ most ∧ Hid (∀ w', Below w.heap.size w w' → Calls Try.prog 43 #[.slice A m c, .int .i64 0, .int .i64 ((most : Int) + 1)] w' fun e w'' => e = .returned (.int .i64 (K : Int)) ∧ w' = w'') := by
    have hp : 0 ≤ pickI m f 0 (most + 1) ∧ pickI m f 0 (most + 1) < ((most + 1 : Nat) : Int) := by
      unfold pickI
      split
      · exact aroundI_range _ _ (by omega)
      · omega
    refine ⟨(pickI m f 0 (most + 1)).toNat, by omega, Lib.hid fun w' hb => (pick_nat A m c f 0 0 (most + 1) _ w' _ rfl (by omega) (hR.all hb) hw (by omega) (by omega)).mono ?_⟩
    rintro e w'' ⟨k, rfl, -, h, rfl⟩
    have := h.out
    exact ⟨by rw [← this]; simp, rfl⟩
  clear hR hw
  go_enter Try.func11, Try.ntmps11
  go_wp2_with fail
  go_loopw [7, 8] (fun v iv wr => ∃ (i : Nat) (A' : Option Addr) (c' : Nat) (L : List Bd), i ≤ K ∧ iv = .int .i64 (i : Int) ∧ v = .slice A' i c' ∧ Hid (L.length = i) ∧ Hid (wr.ownsRow w.heap.size 85 3 (.slice A' i c') i (L.flatMap Bd.cells)) ∧ Hid (∀ b ∈ L, OwnI wr w.heap.size b.s.1 b.s.2.1 b.s.2.2 b.lots) ∧ Hid (firstE (n : Int) L = 0) ∧ Hid (Below w.heap.size w wr)) (fun _ iv _ => K - (intOf iv).toNat)
  case atStart => exact ⟨0, none, 0, [], by omega, rfl, rfl, Lib.hid rfl, Lib.hid (World.ownsRow_nil _ _ _ _), Lib.hid (fun b hb => by simp at hb), Lib.hid rfl, Lib.hid (Below.refl _ _)⟩
  case round =>
    obtain ⟨i, A', c', L, hi, rfl, rfl, HLN, HO, HLO, HFE, HB⟩ := hrel
    by_cases hik : i < K
    rotate_left
    · obtain rfl : i = K := by omega
      have HF : Hid (BidsPost n most w (.returned (.slice A' i c')) wr) := Lib.hid ⟨A', c', L, by rw [HLN.out], by rw [HLN.out]; exact hK, by rw [HLN.out]; exact HO.out, HLO.out, HFE.out, HB.out⟩
      go_wp2_with (go_at_call 43; ((with_reducible refine (HP0.out _ HB.out).mono ?_); rintro e w2 ⟨rfl, rfl⟩))
      go_ret
      exact HF.out
    have hiki : (i : Int) < (K : Int) := by omega
    have hib : i ≤ 1000 := by omega
    go_wp2_with (go_at_call 43; ((with_reducible refine (HP0.out _ HB.out).mono ?_); rintro e w2 ⟨rfl, rfl⟩))
    refine (HPI.out (1 + 3 * i) _ 1000000 _ (by omega) (by rfl) (by omega) (by omega) _ HB.out).mono ?_
    rintro e w2 ⟨k1, rfl, hk1, rfl⟩
    have h6 := tm_ok (k1 : Int) 6 (by omega) (by omega)
    have d6 := td_ok (k1 : Int) 6 (by omega) (by omega)
    have d54 := td_ok (k1 : Int) 54 (by omega) (by omega)
    have d216 := td_ok (k1 : Int) 216 (by omega) (by omega)
    obtain ⟨a1, ha1⟩ : ∃ a, (k1 : Int).tmod 6 = a := ⟨_, rfl⟩
    obtain ⟨a2, ha2⟩ : ∃ a, (k1 : Int).tdiv 6 = a := ⟨_, rfl⟩
    obtain ⟨a4, ha4⟩ : ∃ a, (k1 : Int).tdiv 54 = a := ⟨_, rfl⟩
    obtain ⟨a6, ha6⟩ : ∃ a, (k1 : Int).tdiv 216 = a := ⟨_, rfl⟩
    rw [ha1] at h6
    rw [ha2] at d6
    rw [ha4] at d54
    rw [ha6] at d216
    have h9 := tm_ok a2 9 d6.1 (by omega)
    have h4 := tm_ok a4 4 d54.1 (by omega)
    have h50 := tm_ok a6 50 d216.1 (by omega)
    obtain ⟨a3, ha3⟩ : ∃ a, a2.tmod 9 = a := ⟨_, rfl⟩
    obtain ⟨a5, ha5⟩ : ∃ a, a4.tmod 4 = a := ⟨_, rfl⟩
    obtain ⟨a7, ha7⟩ : ∃ a, a6.tmod 50 = a := ⟨_, rfl⟩
    rw [ha3] at h9
    rw [ha5] at h4
    rw [ha7] at h50
    obtain ⟨z0, z1⟩ := h6
    obtain ⟨z2, z3⟩ := d6
    obtain ⟨z4, z5⟩ := d54
    obtain ⟨z6, z7⟩ := d216
    obtain ⟨z8, z9⟩ := h9
    obtain ⟨y0, y1⟩ := h4
    obtain ⟨y2, y3⟩ := h50
    obtain ⟨p0, hp0⟩ : ∃ p, 1 + a3 = p := ⟨_, rfl⟩
    obtain ⟨p1, hp1⟩ : ∃ p, 1 + a7 = p := ⟨_, rfl⟩
    obtain ⟨bi, hbi⟩ : ∃ p, 1 + a1 = p := ⟨_, rfl⟩
    have q0 : 1 ≤ p0 ∧ p0 ≤ 9 := by omega
    have q1 : 1 ≤ p1 ∧ p1 ≤ 50 := by omega
    have q2 : 1 ≤ bi ∧ bi ≤ 6 := by omega
    have q3 : 1 ≤ p0 * p1 ∧ p0 * p1 ≤ 450 := ⟨Int.le_trans (by decide) (Int.mul_le_mul q0.1 q1.1 (by omega) (by omega)), Int.le_trans (Int.mul_le_mul q0.2 q1.2 (by omega) (by omega)) (by decide)⟩
    obtain ⟨gx, hgx⟩ : ∃ gx, wr.heap.size = gx := ⟨_, rfl⟩
    have HKX : Hid (∀ pr, Blk (wr.alloc (.cells #[.int .i64 bi, .int .i64 pr, .slice none 0 0] 85)) gx 85 #[.int .i64 bi, .int .i64 pr, .slice none 0 0]) := Lib.hid (fun pr => by rw [← hgx]; exact Blk.new _ _ _)
    have HBX : Hid (∀ pr, Below wr.heap.size wr (wr.alloc (.cells #[.int .i64 bi, .int .i64 pr, .slice none 0 0] 85))) := Lib.hid (fun pr => (Below.refl _ _).alloc (Nat.le_refl _) _)
    by_cases hz : a5 = 0
    · subst hz
      have HKX1 : Hid (Blk (wr.alloc (.cells #[.int .i64 bi, .int .i64 (p0 * p1), .slice none 0 0] 85)) gx 85 #[.int .i64 bi, .int .i64 (p0 * p1), .slice none 0 0]) := Lib.hid (HKX.out (p0 * p1))
      have HBX1 : Hid (Below wr.heap.size wr (wr.alloc (.cells #[.int .i64 bi, .int .i64 (p0 * p1), .slice none 0 0] 85))) := Lib.hid (HBX.out (p0 * p1))
      have c0 := (HKX.out p0).cell 1
      have c1 := (HKX.out p0).frozen 1
      simp at c0
      clear HKX HBX
      have HKX := HKX1
      have HBX := HBX1
      clear HKX1 HBX1
      go_wp2_with fail
      refine (HPI.out (2 + 3 * i) _ 255 _ (by omega) (by rfl) (by omega) (by omega) _ (bt HB.out HBX.out)).mono ?_
      rintro e w2 ⟨k2, rfl, hk2, rfl⟩
      go_wp2_with fail
      refine (HPI.out (3 + 3 * i) _ 255 _ (by omega) (by rfl) (by omega) (by omega) _ (bt HB.out HBX.out)).mono ?_
      rintro e w2 ⟨k3, rfl, hk3, rfl⟩
      go_wp2_with fail
      obtain ⟨wx, hwx⟩ : ∃ wx, wr.alloc (.cells #[.int .i64 bi, .int .i64 (p0 * p1), .slice none 0 0] 85) = wx := ⟨_, rfl⟩
      obtain ⟨pr, hpr⟩ : ∃ pr, p0 * p1 = pr := ⟨_, rfl⟩
      have hprb : 1 ≤ pr ∧ pr ≤ 450 := by omega
      rw [hwx, hpr] at HKX
      rw [hwx] at HBX ⊢
      clear hwx
      have HGX := Lib.hid hgx
      clear ha1 ha2 ha4 ha6 ha3 ha5 ha7 hp0 hp1 hbi hpr hgx q0 q1 q3 z0 z1 z2 z3 z4 z5 z6 z7 z8 z9 y0 y1 y2 y3
      obtain ⟨x0, hx0⟩ : ∃ x, bits BinOp.and IntKind.i64 (k2 : Int) (bits BinOp.or IntKind.i64 (k3 : Int) 17) = x := ⟨_, rfl⟩
      have hxw : -9223372036854775808 ≤ x0 ∧ x0 ≤ 9223372036854775807 := by
        rw [← hx0]
        exact bounds_i64 (wf_bits _ _ _ _)
      rw [hx0]
      clear hx0 hk1 hk2 hk3
      obtain ⟨wo, rfl⟩ : ∃ wo : World, wo = wr := ⟨_, rfl⟩
      go_loopw [11, 12] (fun xv jv wr => ∃ (x : Int) (j : Nat) (Al : Option Addr) (nl cl : Nat) (lots : List Int), j ≤ n ∧ xv = .int .i64 x ∧ jv = .int .i64 (j : Int) ∧ -9223372036854775808 ≤ x ∧ x ≤ 9223372036854775807 ∧ nl ≤ j ∧ Hid (lots.length = nl) ∧ Hid (Blk wr gx 85 #[.int .i64 bi, .int .i64 pr, .slice Al nl cl]) ∧ Hid (OwnI wr (gx + 1) Al nl cl lots) ∧ Hid (lotsBad (n : Int) (-1) lots = false) ∧ Hid (∀ y ∈ lots, y < (j : Int)) ∧ (j = n → 0 < nl) ∧ Hid (Below wo.heap.size wo wr)) (fun _ jv _ => n - (intOf jv).toNat)
      case atStart => exact ⟨x0, 0, none, 0, 0, [], by omega, rfl, rfl, hxw.1, hxw.2, by omega, Lib.hid rfl, HKX, Lib.hid (OwnI.nil _ _), Lib.hid rfl, Lib.hid (fun y hy => by simp at hy), by omega, HBX⟩
      case round =>
        clear HKX HBX hxw
        obtain ⟨x, j, Al, nl, cl, lots, hj, rfl, rfl, hx1, hx2, hnl, HLL, HK, HOL, HLB, HLT, hjn, HBW⟩ := hrel
        have k0 := HK.out.cell 0
        have k1 := HK.out.cell 1
        have k2 := HK.out.cell 2
        have k3 := HK.out.frozen 2
        simp at k0 k1 k2
        by_cases hlt : j < n
        · have hti := td2_ok x hx1 hx2
          have hxl : gx < wr.heap.size := HK.out.lt
          obtain ⟨A5, c5, w5, hr5, ho5, hb5⟩ := app_int (w := wr) 22 (j : Int) HOL.out (by omega) (by omega)
          have HR5 := Lib.hid hr5
          have HAFT : Hid (Blk (w5.setCell ⟨gx, 2, none⟩ (.slice A5 (nl + 1) c5)) gx 85 #[.int .i64 bi, .int .i64 pr, .slice A5 (nl + 1) c5] ∧ OwnI (w5.setCell ⟨gx, 2, none⟩ (.slice A5 (nl + 1) c5)) (gx + 1) A5 (nl + 1) c5 (lots ++ [(j : Int)]) ∧ Below wo.heap.size wo (w5.setCell ⟨gx, 2, none⟩ (.slice A5 (nl + 1) c5))) := Lib.hid ⟨(HK.out.below hb5 (by omega)).set_ 2 _, ownsRow_setCell_below ho5 (by simp) _, (HBW.out.trans (hb5.mono (by rw [HGX.out]; omega))).setCell (by rw [HGX.out]; exact Nat.le_refl _) _⟩
          have HLB2 : Hid (lotsBad (n : Int) (-1) (lots ++ [(j : Int)]) = false) := Lib.hid (lotsBad_snoc HLB.out (by omega) HLT.out (by omega))
          have HLT2 : Hid (∀ y ∈ lots ++ [(j : Int)], y < ((j + 1 : Nat) : Int)) := Lib.hid (fun y hy => by
            rcases List.mem_append.1 hy with h | h
            · have := HLT.out y h
              omega
            · simp at h
              omega)
          have HLT3 : Hid (∀ y ∈ lots, y < ((j + 1 : Nat) : Int)) := Lib.hid (fun y hy => by have := HLT.out y hy; omega)
          have HLL2 : Hid ((lots ++ [(j : Int)]).length = nl + 1) := Lib.hid (by rw [List.length_append, HLL.out]; rfl)
          have d1 := (HK.out.below hb5 (by omega)).frozen 2
          have d2 := (HK.out.below hb5 (by omega)).cell 2
          simp at d2
          clear hr5 ho5 hb5
          have hji : (j : Int) < (n : Int) := by omega
          obtain ⟨xh, hxh⟩ : ∃ y, x.tdiv 2 = y := ⟨_, rfl⟩
          rw [hxh] at hti
          obtain ⟨xm, hxm⟩ : ∃ y, x.tmod 2 = y := ⟨_, rfl⟩
          by_cases hm1 : xm = 1
          · subst hm1
            go_wp2_with (at_builtin; refine wpList_append_run HR5.out (by rfl) (by rfl) (by rfl) (by rfl) ?_)
            exact ⟨⟨xh, j + 1, A5, nl + 1, c5, _, by omega, rfl, by go_num, hti.1, hti.2, by omega, HLL2, Lib.hid HAFT.out.1, Lib.hid HAFT.out.2.1, HLB2, HLT2, by omega, Lib.hid HAFT.out.2.2⟩, by simp [intOf]; omega⟩
          have hm2 : (xm == 1) = false := by simpa using hm1
          clear hm1
          by_cases hl1 : (j : Int) = (n : Int) - 1
          · have hl2 : ((j : Int) == (n : Int) - 1) = true := by simpa using hl1
            clear hl1
            by_cases h0 : nl = 0
            · subst h0
              go_wp2_with (at_builtin; refine wpList_append_run HR5.out (by rfl) (by rfl) (by rfl) (by rfl) ?_)
              exact ⟨⟨xh, j + 1, A5, 0 + 1, c5, _, by omega, rfl, by go_num, hti.1, hti.2, by omega, HLL2, Lib.hid HAFT.out.1, Lib.hid HAFT.out.2.1, HLB2, HLT2, by omega, Lib.hid HAFT.out.2.2⟩, by simp [intOf]; omega⟩
            · have h1 : ((nl : Int) == 0) = false := by simp; omega
              clear HAFT HR5
              go_wp2
              exact ⟨⟨xh, j + 1, Al, nl, cl, lots, by omega, rfl, by go_num, hti.1, hti.2, by omega, HLL, HK, HOL, HLB, HLT3, by omega, HBW⟩, by simp [intOf]; omega⟩
          · have hl2 : ((j : Int) == (n : Int) - 1) = false := by simpa using hl1
            have hl3 : j + 1 ≠ n := by omega
            clear hl1 HAFT HR5
            go_wp2
            exact ⟨⟨xh, j + 1, Al, nl, cl, lots, by omega, rfl, by go_num, hti.1, hti.2, by omega, HLL, HK, HOL, HLB, HLT3, by omega, HBW⟩, by simp [intOf]; omega⟩
        · obtain rfl : j = n := by omega
          have hnl0 := hjn rfl
          obtain ⟨A5, c5, w5, hr5, ho5, hb5, hg5⟩ := app_elem (w := wr) 24 slT_rbid (own_keep HO.out HBW.out) #[.int .i64 bi, .int .i64 pr, .slice Al nl cl] rfl (by intro u hu; simp at hu; rcases hu with rfl | rfl | rfl <;> rfl) (by omega) (by decide) (Nat.le_trans HB.out.size HBW.out.size)
          have HR5 := Lib.hid hr5
          have HO5 : Hid (w5.ownsRow w.heap.size 85 3 (.slice A5 (i + 1) c5) (i + 1) ((L ++ [(⟨bi, pr, (Al, nl, cl), lots⟩ : Bd)]).flatMap Bd.cells)) := Lib.hid (by
            rw [List.flatMap_append]
            exact ho5)
          have HLO5 : Hid (∀ b ∈ L ++ [(⟨bi, pr, (Al, nl, cl), lots⟩ : Bd)], OwnI w5 w.heap.size b.s.1 b.s.2.1 b.s.2.2 b.lots) := Lib.hid (fun b hb => by
            have hne : 3 ≠ 85 := by decide
            rcases List.mem_append.1 hb with h | h
            · exact own_other ((HLO.out b h).all HBW.out) (own_keep HO.out HBW.out) hne hg5
            · rw [List.mem_singleton] at h
              subst h
              exact own_lower (own_other HOL.out (own_keep HO.out HBW.out) hne hg5) (by have := HB.out.size; have := HGX.out; omega))
          have HFE5 : Hid (firstE (j : Int) (L ++ [⟨bi, pr, (Al, nl, cl), lots⟩]) = 0) := Lib.hid (firstE_snoc HFE.out (by
            unfold bidE
            dsimp only
            rw [if_neg (by omega), if_neg (by omega), if_neg (by intro h; rw [h] at HLL; have := HLL.out; simp at this; omega), HLB.out]
            rfl))
          have HB5 : Hid (Below w.heap.size w w5) := Lib.hid ((bt HB.out HBW.out).trans hb5)
          have HLN5 : Hid ((L ++ [(⟨bi, pr, (Al, nl, cl), lots⟩ : Bd)]).length = i + 1) := Lib.hid (by rw [List.length_append, HLN.out]; rfl)
          clear hr5 ho5 hb5 hg5
          go_wp2_with (at_builtin; refine wpList_append_run HR5.out (by rfl) (by rfl) (by rfl) (by rfl) ?_)
          exact ⟨⟨i + 1, A5, c5, _, by omega, by go_num, rfl, HLN5, HO5, HLO5, HFE5, HB5⟩, by simp [intOf]; omega⟩
    · have hz2 : (a5 == 0) = false := by simpa using hz
      clear hz
      have HKX1 := Lib.hid (HKX.out p0)
      have HBX1 := Lib.hid (HBX.out p0)
      clear HKX HBX
      have HKX := HKX1
      have HBX := HBX1
      clear HKX1 HBX1
      go_wp2_with fail
      refine (HPI.out (2 + 3 * i) _ 255 _ (by omega) (by rfl) (by omega) (by omega) _ (bt HB.out HBX.out)).mono ?_
      rintro e w2 ⟨k2, rfl, hk2, rfl⟩
      go_wp2_with fail
      refine (HPI.out (3 + 3 * i) _ 255 _ (by omega) (by rfl) (by omega) (by omega) _ (bt HB.out HBX.out)).mono ?_
      rintro e w2 ⟨k3, rfl, hk3, rfl⟩
      go_wp2_with fail
      obtain ⟨wx, hwx⟩ : ∃ wx, wr.alloc (.cells #[.int .i64 bi, .int .i64 p0, .slice none 0 0] 85) = wx := ⟨_, rfl⟩
      obtain ⟨pr, hpr⟩ : ∃ pr, p0 = pr := ⟨_, rfl⟩
      have hprb : 1 ≤ pr ∧ pr ≤ 450 := by omega
      rw [hwx, hpr] at HKX
      rw [hwx] at HBX ⊢
      clear hwx
      have HGX := Lib.hid hgx
      clear ha1 ha2 ha4 ha6 ha3 ha5 ha7 hp0 hp1 hbi hpr hgx q0 q1 q3 z0 z1 z2 z3 z4 z5 z6 z7 z8 z9 y0 y1 y2 y3
      obtain ⟨x0, hx0⟩ : ∃ x, bits BinOp.and IntKind.i64 (k2 : Int) (bits BinOp.or IntKind.i64 (k3 : Int) 17) = x := ⟨_, rfl⟩
      have hxw : -9223372036854775808 ≤ x0 ∧ x0 ≤ 9223372036854775807 := by
        rw [← hx0]
        exact bounds_i64 (wf_bits _ _ _ _)
      rw [hx0]
      clear hx0 hk1 hk2 hk3
      obtain ⟨wo, rfl⟩ : ∃ wo : World, wo = wr := ⟨_, rfl⟩
      go_loopw [11, 12] (fun xv jv wr => ∃ (x : Int) (j : Nat) (Al : Option Addr) (nl cl : Nat) (lots : List Int), j ≤ n ∧ xv = .int .i64 x ∧ jv = .int .i64 (j : Int) ∧ -9223372036854775808 ≤ x ∧ x ≤ 9223372036854775807 ∧ nl ≤ j ∧ Hid (lots.length = nl) ∧ Hid (Blk wr gx 85 #[.int .i64 bi, .int .i64 pr, .slice Al nl cl]) ∧ Hid (OwnI wr (gx + 1) Al nl cl lots) ∧ Hid (lotsBad (n : Int) (-1) lots = false) ∧ Hid (∀ y ∈ lots, y < (j : Int)) ∧ (j = n → 0 < nl) ∧ Hid (Below wo.heap.size wo wr)) (fun _ jv _ => n - (intOf jv).toNat)
      case atStart => exact ⟨x0, 0, none, 0, 0, [], by omega, rfl, rfl, hxw.1, hxw.2, by omega, Lib.hid rfl, HKX, Lib.hid (OwnI.nil _ _), Lib.hid rfl, Lib.hid (fun y hy => by simp at hy), by omega, HBX⟩
      case round =>
        clear HKX HBX hxw
        obtain ⟨x, j, Al, nl, cl, lots, hj, rfl, rfl, hx1, hx2, hnl, HLL, HK, HOL, HLB, HLT, hjn, HBW⟩ := hrel
        have k0 := HK.out.cell 0
        have k1 := HK.out.cell 1
        have k2 := HK.out.cell 2
        have k3 := HK.out.frozen 2
        simp at k0 k1 k2
        by_cases hlt : j < n
        · have hti := td2_ok x hx1 hx2
          have hxl : gx < wr.heap.size := HK.out.lt
          obtain ⟨A5, c5, w5, hr5, ho5, hb5⟩ := app_int (w := wr) 22 (j : Int) HOL.out (by omega) (by omega)
          have HR5 := Lib.hid hr5
          have HAFT : Hid (Blk (w5.setCell ⟨gx, 2, none⟩ (.slice A5 (nl + 1) c5)) gx 85 #[.int .i64 bi, .int .i64 pr, .slice A5 (nl + 1) c5] ∧ OwnI (w5.setCell ⟨gx, 2, none⟩ (.slice A5 (nl + 1) c5)) (gx + 1) A5 (nl + 1) c5 (lots ++ [(j : Int)]) ∧ Below wo.heap.size wo (w5.setCell ⟨gx, 2, none⟩ (.slice A5 (nl + 1) c5))) := Lib.hid ⟨(HK.out.below hb5 (by omega)).set_ 2 _, ownsRow_setCell_below ho5 (by simp) _, (HBW.out.trans (hb5.mono (by rw [HGX.out]; omega))).setCell (by rw [HGX.out]; exact Nat.le_refl _) _⟩
          have HLB2 : Hid (lotsBad (n : Int) (-1) (lots ++ [(j : Int)]) = false) := Lib.hid (lotsBad_snoc HLB.out (by omega) HLT.out (by omega))
          have HLT2 : Hid (∀ y ∈ lots ++ [(j : Int)], y < ((j + 1 : Nat) : Int)) := Lib.hid (fun y hy => by
            rcases List.mem_append.1 hy with h | h
            · have := HLT.out y h
              omega
            · simp at h
              omega)
          have HLT3 : Hid (∀ y ∈ lots, y < ((j + 1 : Nat) : Int)) := Lib.hid (fun y hy => by have := HLT.out y hy; omega)
          have HLL2 : Hid ((lots ++ [(j : Int)]).length = nl + 1) := Lib.hid (by rw [List.length_append, HLL.out]; rfl)
          have d1 := (HK.out.below hb5 (by omega)).frozen 2
          have d2 := (HK.out.below hb5 (by omega)).cell 2
          simp at d2
          clear hr5 ho5 hb5
          have hji : (j : Int) < (n : Int) := by omega
          obtain ⟨xh, hxh⟩ : ∃ y, x.tdiv 2 = y := ⟨_, rfl⟩
          rw [hxh] at hti
          obtain ⟨xm, hxm⟩ : ∃ y, x.tmod 2 = y := ⟨_, rfl⟩
          by_cases hm1 : xm = 1
          · subst hm1
            go_wp2_with (at_builtin; refine wpList_append_run HR5.out (by rfl) (by rfl) (by rfl) (by rfl) ?_)
            exact ⟨⟨xh, j + 1, A5, nl + 1, c5, _, by omega, rfl, by go_num, hti.1, hti.2, by omega, HLL2, Lib.hid HAFT.out.1, Lib.hid HAFT.out.2.1, HLB2, HLT2, by omega, Lib.hid HAFT.out.2.2⟩, by simp [intOf]; omega⟩
          have hm2 : (xm == 1) = false := by simpa using hm1
          clear hm1
          by_cases hl1 : (j : Int) = (n : Int) - 1
          · have hl2 : ((j : Int) == (n : Int) - 1) = true := by simpa using hl1
            clear hl1
            by_cases h0 : nl = 0
            · subst h0
              go_wp2_with (at_builtin; refine wpList_append_run HR5.out (by rfl) (by rfl) (by rfl) (by rfl) ?_)
              exact ⟨⟨xh, j + 1, A5, 0 + 1, c5, _, by omega, rfl, by go_num, hti.1, hti.2, by omega, HLL2, Lib.hid HAFT.out.1, Lib.hid HAFT.out.2.1, HLB2, HLT2, by omega, Lib.hid HAFT.out.2.2⟩, by simp [intOf]; omega⟩
            · have h1 : ((nl : Int) == 0) = false := by simp; omega
              clear HAFT HR5
              go_wp2
              exact ⟨⟨xh, j + 1, Al, nl, cl, lots, by omega, rfl, by go_num, hti.1, hti.2, by omega, HLL, HK, HOL, HLB, HLT3, by omega, HBW⟩, by simp [intOf]; omega⟩
          · have hl2 : ((j : Int) == (n : Int) - 1) = false := by simpa using hl1
            have hl3 : j + 1 ≠ n := by omega
            clear hl1 HAFT HR5
            go_wp2
            exact ⟨⟨xh, j + 1, Al, nl, cl, lots, by omega, rfl, by go_num, hti.1, hti.2, by omega, HLL, HK, HOL, HLB, HLT3, by omega, HBW⟩, by simp [intOf]; omega⟩
        · obtain rfl : j = n := by omega
          have hnl0 := hjn rfl
          obtain ⟨A5, c5, w5, hr5, ho5, hb5, hg5⟩ := app_elem (w := wr) 24 slT_rbid (own_keep HO.out HBW.out) #[.int .i64 bi, .int .i64 pr, .slice Al nl cl] rfl (by intro u hu; simp at hu; rcases hu with rfl | rfl | rfl <;> rfl) (by omega) (by decide) (Nat.le_trans HB.out.size HBW.out.size)
          have HR5 := Lib.hid hr5
          have HO5 : Hid (w5.ownsRow w.heap.size 85 3 (.slice A5 (i + 1) c5) (i + 1) ((L ++ [(⟨bi, pr, (Al, nl, cl), lots⟩ : Bd)]).flatMap Bd.cells)) := Lib.hid (by
            rw [List.flatMap_append]
            exact ho5)
          have HLO5 : Hid (∀ b ∈ L ++ [(⟨bi, pr, (Al, nl, cl), lots⟩ : Bd)], OwnI w5 w.heap.size b.s.1 b.s.2.1 b.s.2.2 b.lots) := Lib.hid (fun b hb => by
            have hne : 3 ≠ 85 := by decide
            rcases List.mem_append.1 hb with h | h
            · exact own_other ((HLO.out b h).all HBW.out) (own_keep HO.out HBW.out) hne hg5
            · rw [List.mem_singleton] at h
              subst h
              exact own_lower (own_other HOL.out (own_keep HO.out HBW.out) hne hg5) (by have := HB.out.size; have := HGX.out; omega))
          have HFE5 : Hid (firstE (j : Int) (L ++ [⟨bi, pr, (Al, nl, cl), lots⟩]) = 0) := Lib.hid (firstE_snoc HFE.out (by
            unfold bidE
            dsimp only
            rw [if_neg (by omega), if_neg (by omega), if_neg (by intro h; rw [h] at HLL; have := HLL.out; simp at this; omega), HLB.out]
            rfl))
          have HB5 : Hid (Below w.heap.size w w5) := Lib.hid ((bt HB.out HBW.out).trans hb5)
          have HLN5 : Hid ((L ++ [(⟨bi, pr, (Al, nl, cl), lots⟩ : Bd)]).length = i + 1) := Lib.hid (by rw [List.length_append, HLN.out]; rfl)
          clear hr5 ho5 hb5 hg5
          go_wp2_with (at_builtin; refine wpList_append_run HR5.out (by rfl) (by rfl) (by rfl) (by rfl) ?_)
          exact ⟨⟨i + 1, A5, c5, _, by omega, by go_num, rfl, HLN5, HO5, HLO5, HFE5, HB5⟩, by simp [intOf]; omega⟩
end Go.Proofs.Ytikfcpkobgejmaa

/- reference: what possible, Bound and right of worldmintref29 say, plainly. -/
namespace Go.Proofs.Ytikfcpkobgejmaa
open Go.RowKit

def confTo (L : List Bd) (inn : List Int) (i k : Nat) : Bool := (List.range k).any fun t => confB (bdAt L (inn[t]?.getD 0).toNat) (bdAt L i)
theorem confTo_succ (L : List Bd) (inn : List Int) (i k : Nat) : confTo L inn i (k + 1) = (confTo L inn i k || confB (bdAt L (inn[k]?.getD 0).toNat) (bdAt L i)) := by simp [confTo, List.range_succ]
theorem confTo_mono {L : List Bd} {inn : List Int} {i k m : Nat} (h : confTo L inn i k = true) (hk : k ≤ m) : confTo L inn i m = true := by
  unfold confTo at *
  rw [List.any_eq_true] at *
  obtain ⟨t, ht, hc⟩ := h
  exact ⟨t, List.mem_range.2 (by have := List.mem_range.1 ht; omega), hc⟩
/-- Is bid i possible, given the lists of those that win and that do not? -/
def rPossB (L : List Bd) (inn out : List Int) (i : Nat) : Bool := !decide ((i : Int) ∈ inn) && !decide ((i : Int) ∈ out) && !confTo L inn i inn.length
/-- What is decided, told by two lists and by a row. -/
structure DI (m : Nat) (D inn out : List Int) : Prop where
  len : D.length = m
  fI : ∀ x, x ∈ inn ↔ ∃ k : Nat, k < m ∧ x = (k : Int) ∧ D[k]?.getD 0 = 1
  fO : ∀ x, x ∈ out ↔ ∃ k : Nat, k < m ∧ x = (k : Int) ∧ D[k]?.getD 0 = 2
  vals : ∀ k, k < m → D[k]?.getD 0 = 0 ∨ D[k]?.getD 0 = 1 ∨ D[k]?.getD 0 = 2
  nodup : inn.Nodup
theorem DI.start (m : Nat) : DI m (List.replicate m 0) [] [] := by
  have h0 : ∀ k : Nat, (List.replicate m (0 : Int))[k]?.getD 0 = 0 := fun k => by
    rw [List.getElem?_replicate]
    split <;> rfl
  refine ⟨by simp, fun x => ⟨fun h => by simp at h, ?_⟩, fun x => ⟨fun h => by simp at h, ?_⟩, fun k _ => .inl (h0 k), List.nodup_nil⟩
  · rintro ⟨k, -, -, h⟩
    rw [h0] at h
    cases h
  · rintro ⟨k, -, -, h⟩
    rw [h0] at h
    cases h
section
variable {m : Nat} {D inn out : List Int}
theorem DI.range (h : DI m D inn out) : ∀ x ∈ inn, 0 ≤ x ∧ x < (m : Int) := fun x hx => by
  obtain ⟨k, hk, rfl, -⟩ := (h.fI x).1 hx
  omega
theorem DI.mem1 (h : DI m D inn out) {k : Nat} (hk : k < m) : (k : Int) ∈ inn ↔ D[k]?.getD 0 = 1 := by
  rw [h.fI]
  exact ⟨fun ⟨j, _, e, hj⟩ => by obtain rfl : k = j := by omega
                                 exact hj, fun hd => ⟨k, hk, rfl, hd⟩⟩
theorem DI.mem2 (h : DI m D inn out) {k : Nat} (hk : k < m) : (k : Int) ∈ out ↔ D[k]?.getD 0 = 2 := by
  rw [h.fO]
  exact ⟨fun ⟨j, _, e, hj⟩ => by obtain rfl : k = j := by omega
                                 exact hj, fun hd => ⟨k, hk, rfl, hd⟩⟩
theorem set_getD {D : List Int} {k j : Nat} {x : Int} (hk : k < D.length) : (D.set k x)[j]?.getD 0 = if j = k then x else D[j]?.getD 0 := by
  rw [List.getElem?_set]
  by_cases h : k = j
  · subst h
    simp [hk]
  · rw [if_neg h, if_neg (fun e => h e.symm)]
theorem DI.win (h : DI m D inn out) {k : Nat} (hk : k < m) (h0 : D[k]?.getD 0 = 0) : DI m (D.set k 1) (inn ++ [(k : Int)]) out := by
  have hs := fun j => set_getD (D := D) (k := k) (j := j) (x := 1) (by rw [h.len]; exact hk)
  refine ⟨by rw [List.length_set]; exact h.len, fun x => ?_, fun x => ?_, fun j hj => ?_, ?_⟩
  · rw [List.mem_append, h.fI, List.mem_singleton]
    constructor
    · rintro (⟨j, hj, rfl, hd⟩ | rfl)
      · exact ⟨j, hj, rfl, by rw [hs]; split <;> first | rfl | exact hd⟩
      · exact ⟨k, hk, rfl, by rw [hs, if_pos rfl]⟩
    · rintro ⟨j, hj, rfl, hd⟩
      rw [hs] at hd
      by_cases e : j = k
      · exact .inr (by rw [e])
      · rw [if_neg e] at hd
        exact .inl ⟨j, hj, rfl, hd⟩
  · rw [h.fO]
    constructor
    · rintro ⟨j, hj, rfl, hd⟩
      have e : j ≠ k := fun e => by rw [e, h0] at hd; cases hd
      exact ⟨j, hj, rfl, by rw [hs, if_neg e]; exact hd⟩
    · rintro ⟨j, hj, rfl, hd⟩
      rw [hs] at hd
      by_cases e : j = k
      · rw [if_pos e] at hd; cases hd
      · rw [if_neg e] at hd
        exact ⟨j, hj, rfl, hd⟩
  · rw [hs]
    split
    · exact .inr (.inl rfl)
    · exact h.vals j hj
  · rw [List.nodup_append]
    refine ⟨h.nodup, by simp, fun x hx y hy => ?_⟩
    rw [List.mem_singleton] at hy
    rintro rfl
    rw [hy, h.mem1 hk, h0] at hx
    cases hx
theorem DI.lose (h : DI m D inn out) {k : Nat} (hk : k < m) (h0 : D[k]?.getD 0 = 0) : DI m (D.set k 2) inn (out ++ [(k : Int)]) := by
  have hs := fun j => set_getD (D := D) (k := k) (j := j) (x := 2) (by rw [h.len]; exact hk)
  refine ⟨by rw [List.length_set]; exact h.len, fun x => ?_, fun x => ?_, fun j hj => ?_, h.nodup⟩
  · rw [h.fI]
    constructor
    · rintro ⟨j, hj, rfl, hd⟩
      have e : j ≠ k := fun e => by rw [e, h0] at hd; cases hd
      exact ⟨j, hj, rfl, by rw [hs, if_neg e]; exact hd⟩
    · rintro ⟨j, hj, rfl, hd⟩
      rw [hs] at hd
      by_cases e : j = k
      · rw [if_pos e] at hd; cases hd
      · rw [if_neg e] at hd
        exact ⟨j, hj, rfl, hd⟩
  · rw [List.mem_append, h.fO, List.mem_singleton]
    constructor
    · rintro (⟨j, hj, rfl, hd⟩ | rfl)
      · exact ⟨j, hj, rfl, by rw [hs]; split <;> first | rfl | exact hd⟩
      · exact ⟨k, hk, rfl, by rw [hs, if_pos rfl]⟩
    · rintro ⟨j, hj, rfl, hd⟩
      rw [hs] at hd
      by_cases e : j = k
      · exact .inr (by rw [e])
      · rw [if_neg e] at hd
        exact .inl ⟨j, hj, rfl, hd⟩
  · rw [hs]
    split
    · exact .inr (.inr rfl)
    · exact h.vals j hj
/-- The two ways to tell what is possible agree. -/
theorem rPoss_eq {L : List Bd} (h : DI L.length D inn out) {i : Nat} (hi : i < L.length) : rPossB L inn out i = possB L D (i : Int) := by
  rw [possB_in hi]
  unfold rPossB
  have e1 : (!decide ((i : Int) ∈ inn) && !decide ((i : Int) ∈ out)) = decide (D[i]?.getD 0 = 0) := by
    rcases h.vals i hi with h0 | h0 | h0
    · rw [decide_eq_false (by rw [h.mem1 hi, h0]; decide), decide_eq_false (by rw [h.mem2 hi, h0]; decide), decide_eq_true h0]; rfl
    · rw [decide_eq_true (by rw [h.mem1 hi, h0]), decide_eq_false (by omega : ¬ D[i]?.getD 0 = 0)]; rfl
    · rw [decide_eq_true (by rw [h.mem2 hi, h0] : (i : Int) ∈ out), decide_eq_false (by omega : ¬ D[i]?.getD 0 = 0)]; simp
  rw [e1]
  congr 2
  rw [← bdAt_eq hi, Bool.eq_iff_iff]
  unfold confTo takenB
  rw [List.any_eq_true, List.any_eq_true]
  constructor
  · rintro ⟨t, ht, hc⟩
    have ht' := List.mem_range.1 ht
    rw [List.getElem?_eq_getElem ht'] at hc
    obtain ⟨k, hk, e, hd⟩ := (h.fI _).1 (List.getElem_mem ht')
    simp only [Option.getD_some] at hc
    rw [e, Int.toNat_natCast] at hc
    exact ⟨k, List.mem_range.2 hk, by rw [hd, hc]; rfl⟩
  · rintro ⟨k, hk, hc⟩
    simp only [Bool.and_eq_true, decide_eq_true_eq] at hc
    obtain ⟨t, ht, e⟩ := List.getElem_of_mem ((h.mem1 (List.mem_range.1 hk)).2 hc.1)
    refine ⟨t, List.mem_range.2 ht, ?_⟩
    rw [List.getElem?_eq_getElem ht, Option.getD_some, e, Int.toNat_natCast]
    exact hc.2
end
end Go.Proofs.Ytikfcpkobgejmaa

/- A row of cells of one element's type that is only read (nil let in). -/
namespace Go.Proofs.Ytikfcpkobgejmaa
open Go.RowKit

def RowT (w : World) (t : TypeId) (A : Option Addr) (xs : List Value) : Prop := 0 < xs.length → ∃ b off cs fr, A = some ⟨b, off, none⟩ ∧ w.heap[b]? = some (.cells cs t fr) ∧ ∀ j, j < xs.length → cs[off + j]? = xs[j]?
section
variable {w w' : World} {t : TypeId} {A : Option Addr} {xs : List Value} {F : Nat → Prop}
theorem RowT.nil (w : World) (t : TypeId) (A : Option Addr) : RowT w t A [] := fun h => absurd h (by simp)
theorem RowT.mod (h : RowT w t A xs) (m : Mod F w w') (hF : ∀ b, F b → ¬ Ty w b t) : RowT w' t A xs := by
  intro hn
  obtain ⟨b, off, cs, fr, e, hh, hc⟩ := h hn
  exact ⟨b, off, cs, fr, e, (m.block b (Array.getElem?_eq_some_iff.1 hh).1 (fun hf => hF b hf ⟨_, _, hh⟩)).trans hh, hc⟩
theorem RowT.all (h : RowT w t A xs) (hb : Below w.heap.size w w') : RowT w' t A xs := h.mod (F := fun _ => False) (Mod.of_below _ hb) (fun _ hf => hf.elim)
theorem RowT.cells (h : RowT w t A xs) (h0 : 0 < xs.length) : ∃ b off, A = some ⟨b, off, none⟩ ∧ b < w.heap.size ∧ Ty w b t ∧ ∀ j, j < xs.length → w.cell? ⟨b, off + j, none⟩ = xs[j]? := by
  obtain ⟨b, off, cs, fr, e, hh, hc⟩ := h h0
  exact ⟨b, off, e, (Array.getElem?_eq_some_iff.1 hh).1, ⟨_, _, hh⟩, fun j hj => by rw [← hc j hj]; simp [World.cell?, hh]⟩
theorem RowT.of_own {base size n m c : Nat} (h : w.ownsRow base t size (.slice A m c) n xs) : RowT w t A xs := by
  intro h0
  have hl := h.1
  rcases h.2 with ⟨h2, hn⟩ | ⟨g, cap, cur, h2, _, hh, hnc, hm, hcs, htk⟩
  · subst hn
    rw [Nat.zero_mul] at hl
    omega
  · injection h2 with h2 _ _
    subst h2
    refine ⟨g, 0, cur, _, rfl, hh, fun j hj => ?_⟩
    rw [Nat.zero_add, ← htk, List.getElem?_take, if_pos (by omega)]
    simp
theorem RowT.drop (h : RowT w t A xs) (k : Nat) (h0 : k < xs.length) : ∃ b off, A = some ⟨b, off, none⟩ ∧ RowT w t (some ⟨b, off + k, none⟩) (xs.drop k) := by
  obtain ⟨b, off, cs, fr, e, hh, hc⟩ := h (by omega)
  refine ⟨b, off, e, fun hn => ⟨b, off + k, cs, fr, rfl, hh, fun j hj => ?_⟩⟩
  rw [List.length_drop] at hj
  rw [List.getElem?_drop, ← hc (k + j) (by omega), Nat.add_assoc]
theorem RowT.take (h : RowT w t A xs) (k : Nat) : RowT w t A (xs.take k) := by
  intro hn
  rw [List.length_take] at hn
  obtain ⟨b, off, cs, fr, e, hh, hc⟩ := h (by omega)
  refine ⟨b, off, cs, fr, e, hh, fun j hj => ?_⟩
  rw [List.length_take] at hj
  rw [hc j (by omega), List.getElem?_take, if_pos (by omega)]
end
theorem flatT_length {α : Type} (f : α → List Value) (size : Nat) (hf : ∀ x, (f x).length = size) (l : List α) : (l.flatMap f).length = l.length * size := by
  induction l with
  | nil => simp
  | cons x l ih => rw [List.flatMap_cons, List.length_append, hf, ih, List.length_cons, Nat.succ_mul, Nat.add_comm]
theorem flatT_at {α : Type} (f : α → List Value) (size : Nat) (hf : ∀ x, (f x).length = size) (l : List α) : ∀ (k i : Nat) (hk : k < l.length) (_ : i < size), (l.flatMap f)[k * size + i]? = (f l[k])[i]? := by
  induction l with
  | nil => intro k i hk; simp at hk
  | cons x l ih =>
    intro k i hk hi
    rw [List.flatMap_cons]
    rcases k with _ | k
    · rw [Nat.zero_mul, Nat.zero_add, List.getElem?_append_left (by rw [hf]; exact hi)]
      rfl
    · rw [List.getElem?_append_right (by rw [hf, Nat.succ_mul]; omega), hf, show (k + 1) * size + i - size = k * size + i by rw [Nat.succ_mul]; omega]
      exact ih k i (by simpa using hk) hi
theorem flatT_set {α : Type} (f : α → List Value) (size : Nat) (hf : ∀ x, (f x).length = size) (x : α) (i : Nat) (hi : i < size) (v : Value) (l : List α) : ∀ (k : Nat) (hk : k < l.length) (_ : f x = (f l[k]).set i v), (l.flatMap f).set (k * size + i) v = (l.set k x).flatMap f := by
  induction l with
  | nil => intro k hk; simp at hk
  | cons y l ih =>
    intro k hk hx
    rw [List.flatMap_cons]
    rcases k with _ | k
    · rw [Nat.zero_mul, Nat.zero_add, List.set_append_left _ _ (by rw [hf]; exact hi), List.set_cons_zero, List.flatMap_cons, hx]
      rfl
    · rw [List.set_append_right _ _ (by rw [hf, Nat.succ_mul]; omega), hf, show (k + 1) * size + i - size = k * size + i by rw [Nat.succ_mul]; omega, List.set_cons_succ, List.flatMap_cons, ih k (by simpa using hk) hx]
/-- The cells of one element of a row of structs. -/
theorem RowT.at_ {α : Type} {w : World} {t : TypeId} {A : Option Addr} (f : α → List Value) (size : Nat) (hf : ∀ x, (f x).length = size) {l : List α} (h : RowT w t A (l.flatMap f)) (hs : 0 < size) {k : Nat} (hk : k < l.length) : ∃ b off, A = some ⟨b, off, none⟩ ∧ b < w.heap.size ∧ Ty w b t ∧ ∀ i, i < size → w.cell? ⟨b, off + (k * size + i), none⟩ = (f l[k])[i]? := by
  have hl := flatT_length f size hf l
  have hk1 : (k + 1) * size ≤ l.length * size := Nat.mul_le_mul_right _ hk
  rw [Nat.succ_mul] at hk1
  obtain ⟨b, off, e, hb, ht, hc⟩ := h.cells (by omega)
  exact ⟨b, off, e, hb, ht, fun i hi => by rw [hc _ (by omega), flatT_at f size hf l k i hk hi]⟩
end Go.Proofs.Ytikfcpkobgejmaa

/- rows of ints known by their element's type, and what leaves them alone. -/
namespace Go.Proofs.Ytikfcpkobgejmaa
open Go.RowKit

/-- A slice of ints that reads as xs and lies in a block of ints. -/
structure TI (w : World) (s : Sl) (xs : List Int) : Prop where
  nin : NIn w w.heap.size s xs
  ty : 0 < s.2.1 → ∃ b off, s.1 = some ⟨b, off, none⟩ ∧ Ty w b 3
section
variable {w w' : World} {s : Sl} {xs : List Int} {F : Nat → Prop}
theorem TI.nil (w : World) : TI w (none, 0, 0) [] := ⟨NIn.nil _ _, fun h => absurd h (by simp)⟩
theorem TI.mod (h : TI w s xs) (m : Mod F w w') (hF : ∀ b, F b → ¬ Ty w b 3) : TI w' s xs := by
  have key : 0 < s.2.1 → ∃ b off, s.1 = some ⟨b, off, none⟩ ∧ Ty w b 3 ∧ b < w.heap.size ∧ w'.heap[b]? = w.heap[b]? := fun h0 => by
    obtain ⟨b, off, e, ht⟩ := h.ty h0
    have hb : b < w.heap.size := by
      obtain ⟨cs, fr, hh⟩ := ht
      exact (Array.getElem?_eq_some_iff.1 hh).1
    exact ⟨b, off, e, ht, hb, m.block b hb (fun hf => hF b hf ht)⟩
  refine ⟨⟨h.nin.len, h.nin.cap, h.nin.max, fun h0 => ?_⟩, fun h0 => ?_⟩
  · obtain ⟨b, off, e, -, hb, hk⟩ := key h0
    obtain ⟨b2, off2, e2, hb2, hc⟩ := h.nin.rd h0
    rw [e] at e2
    injection e2 with e2
    injection e2 with e2 e3 _
    subst e2 e3
    exact ⟨b, off, e, Nat.lt_of_lt_of_le hb m.size, fun j hj => (World.cell?_of_block (w := w) hk).trans (hc j hj)⟩
  · obtain ⟨b, off, e, ⟨cs, fr, hh⟩, hb, hk⟩ := key h0
    exact ⟨b, off, e, cs, fr, hk.trans hh⟩
theorem TI.all (h : TI w s xs) (hb : Below w.heap.size w w') : TI w' s xs := h.mod (F := fun _ => False) (Mod.of_below _ hb) (fun _ hf => hf.elim)
theorem TI.own {B n c : Nat} {A : Option Addr} (h : OwnI w B A n c xs) : TI w (A, n, c) xs := by
  refine ⟨h.nin, fun h0 => ?_⟩
  rcases h.2 with ⟨h2, hn⟩ | ⟨g, cap, cur, h2, _, hh, _⟩
  · dsimp only at h0
    omega
  · injection h2 with h2 _ _
    exact ⟨g, 0, h2, _, _, hh⟩
end
/-- The block of a row of the call's own has its element's type. -/
theorem own_ty {w : World} {B e size n g : Nat} {v : Value} {xs : List Value} (h : w.ownsRow B e size v n xs) (hg : v.ownBlock = some g) : Ty w g e := by
  rcases h.2 with ⟨rfl, _⟩ | ⟨g', cap, cur, rfl, _, hh, _⟩
  · simp [Value.ownBlock] at hg
  · obtain rfl : g' = g := by simpa [Value.ownBlock] using hg
    exact ⟨_, _, hh⟩
theorem own_ge {w : World} {B e size n g : Nat} {v : Value} {xs : List Value} (h : w.ownsRow B e size v n xs) (hg : v.ownBlock = some g) : B ≤ g ∧ g < w.heap.size := h.lt g hg
theorem Ty.not {w : World} {b : Nat} {t t' : TypeId} (h : Ty w b t) (hne : t ≠ t') : ¬ Ty w b t' := fun h' => hne (h.unique h')
/-- append of one element: where the row lies then. -/
theorem app_elem2 {P : Program} {w : World} {B t e size bytes n c : Nat} {A : Option Addr} {xs : List Value} (ty : TypeId) (hT : SlT P t e size bytes) (h : w.ownsRow B e size (.slice A n c) n xs) (cs : Array Value) (hcs : cs.size = size) (h1 : ∀ u ∈ cs.toList, u.oneCell' = true) (hn : n ≤ 1000000) (hby : bytes ≤ 64) (hB : B ≤ w.heap.size) :
    ∃ A' c' w', (Builtin.append_ #[t, t] ty #[.slice A n c, .slice (some ⟨w.heap.size, 0, none⟩) 1 1]).run P (w.alloc (.cells cs e)) = .ok (.slice A' (n + 1) c') w' ∧ w'.ownsRow B e size (.slice A' (n + 1) c') (n + 1) (xs ++ cs.toList) ∧ Below B w w' ∧ Mod (fun b => (Value.slice A n c).ownBlock = some b) w w' ∧ (∀ g, (Value.slice A' (n + 1) c').ownBlock = some g → (Value.slice A n c).ownBlock = some g ∨ w.heap.size ≤ g) := by
  have hg0 : w.grownBy (w.alloc (.cells cs e)) (Value.slice A n c).ownBlock := World.grownBy_alloc w _ _
  obtain ⟨g, cap, w', hrun, h2, h3, h4⟩ := run_append1 (ty := ty) (w := w.alloc (.cells cs e)) hT (h.alloc _) (Blk.new w e cs) hcs h1 (by omega) hby (by simp; omega)
  refine ⟨_, _, w', hrun, h2, own_below h (hg0.trans h3) hB, Mod.of_grown (hg0.trans h3) (fun g hg => .inl hg), fun g' hg' => ?_⟩
  obtain rfl : g = g' := by simpa [Value.ownBlock] using hg'
  rcases h4 with h4 | h4
  · exact .inl h4.symm
  · simp at h4
    exact .inr (by omega)
theorem count_set : ∀ {D : List Int} {k : Nat} {x : Int}, k < D.length → D[k]?.getD 0 = 0 → x ≠ 0 → (D.set k x).count 0 + 1 = D.count 0
  | [], k, x, hk, _, _ => absurd hk (by simp)
  | a :: t, 0, x, _, h0, hx => by
    simp at h0
    subst h0
    rw [List.set_cons_zero, List.count_cons, List.count_cons]
    simp [hx]
  | a :: t, k + 1, x, hk, h0, hx => by
    rw [List.set_cons_succ, List.count_cons, List.count_cons]
    have := count_set (D := t) (k := k) (x := x) (by simpa using hk) (by simpa using h0) hx
    omega
/-- A node with its second child told. -/
def Nd.upd (x : Nd) (j : Int) : Nd := ⟨x.bid, x.inn, j, x.s, x.prices⟩
/-- What grow makes: small numbers, and prices 0. -/
def NdFine (x : Nd) : Prop := x.s.2.1 ≤ 8 ∧ (-1 ≤ x.bid ∧ x.bid ≤ 1000000) ∧ (0 ≤ x.inn ∧ x.inn ≤ 1000000) ∧ (0 ≤ x.out ∧ x.out ≤ 1000000) ∧ ∀ p ∈ x.prices, p = 0
/-- The nodes made so far: a row of the call's own, and each node's prices. -/
structure NdsO (w : World) (B : Nat) (t : TypeId) (A : Option Addr) (k c : Nat) (N : List Nd) : Prop where
  len : N.length = k
  row : w.ownsRow B t 4 (.slice A k c) k (N.flatMap Nd.cells)
  ok : ∀ x ∈ N, TI w x.s x.prices
  fine : ∀ x ∈ N, NdFine x
section
variable {w w' : World} {B t k c : Nat} {A : Option Addr} {N : List Nd} {F : Nat → Prop}
theorem NdsO.all (h : NdsO w B t A k c N) (hb : Below w.heap.size w w') : NdsO w' B t A k c N := ⟨h.len, own_keep h.row hb, fun x hx => (h.ok x hx).all hb, h.fine⟩
theorem NdsO.mod (h : NdsO w B t A k c N) (m : Mod F w w') (hF : ∀ b, F b → ¬ Ty w b 3 ∧ ¬ Ty w b t) : NdsO w' B t A k c N := ⟨h.len, m.own h.row (fun g hg hf => (hF g hf).2 (own_ty h.row hg)), fun x hx => (h.ok x hx).mod m (fun b hf => (hF b hf).1), h.fine⟩
theorem NdsO.nds (h : NdsO w B t A k c N) : Nds w (A, k, c) N := ⟨Rows.of_own Nd.cells_length h.row (by decide), fun x hx => (h.ok x hx).nin⟩
/-- A store into the third cell of node j. -/
theorem NdsO.upd {g j : Nat} (h : NdsO w B t (some ⟨g, 0, none⟩) k c N) (hj : j < k) (hne : t ≠ 3) (v : Int) (hv : 0 ≤ v ∧ v ≤ 1000000) : NdsO (w.setCell ⟨g, j * 4 + 2, none⟩ (.int .i64 v)) B t (some ⟨g, 0, none⟩) k c (N.set j ((N[j]?.getD nd0).upd v)) := by
  have hjl : j < N.length := by rw [h.len]; exact hj
  have hs := (h.row.stored (j * 4 + 2) (.int .i64 v)).1
  refine ⟨by rw [List.length_set]; exact h.len, ?_, fun x hx => ?_, fun x hx => ?_⟩
  · rw [← flatT_set Nd.cells 4 Nd.cells_length ((N[j]?.getD nd0).upd v) 2 (by decide) (.int .i64 v) N j hjl (by rw [List.getElem?_eq_getElem hjl]; rfl)]
    exact hs
  · have ht : Ty w g t := own_ty h.row rfl
    have hm : Mod (fun b => b = g) w (w.setCell ⟨g, j * 4 + 2, none⟩ (.int .i64 v)) := Mod.set (F := fun b => b = g) (p := ⟨g, j * 4 + 2, none⟩) (Mod.refl _ w) (.inl rfl) _
    have hF : ∀ b, b = g → ¬ Ty w b 3 := fun b e => by rw [e]; exact ht.not hne
    rcases List.mem_or_eq_of_mem_set hx with h1 | h1
    · exact (h.ok x h1).mod hm hF
    · rw [h1, List.getElem?_eq_getElem hjl]
      exact (h.ok _ (List.getElem_mem hjl)).mod hm hF
  · rcases List.mem_or_eq_of_mem_set hx with h1 | h1
    · exact h.fine x h1
    · rw [h1, List.getElem?_eq_getElem hjl]
      obtain ⟨q1, q2, q3, -, q5⟩ := h.fine _ (List.getElem_mem hjl)
      exact ⟨q1, q2, q3, hv, q5⟩
end
end Go.Proofs.Ytikfcpkobgejmaa
