/- bids: set, Conflict. -/
import Derived.Test.YtldmokjpfnakkaaGreatHPfRow
import Derived.Deep.RegionHeld3

namespace Go.Proofs.YtldmokjpfnakkaaGreat
open Go.RowKit

theorem run_makeMapN {P : Program} {t kt e : TypeId} (ht : P.underlying t = some (.map kt e)) (k : IntKind) (n : Int) (w : World) : (Instr.makeMap t (some (.int k n))).run P w = .ok (.map (some w.heap.size)) (w.alloc (.map #[] 0)) := by
  simp [Instr.makeMap, run_underlying ht, asInt, Result.andThen]
  rfl
def SetPost (xs : List Int) (w : World) (e : Ending) (w' : World) : Prop := ∃ mb, e = .returned (.map (some mb)) ∧ SetAt w' mb xs ∧ w.heap.size ≤ mb ∧ Below w.heap.size w w'
/-- The index of the first number for which p holds, or -1. -/
def idxP (p : Int → Bool) (xs : List Int) : Int := match xs.findIdx? p with | some k => (k : Int) | none => -1
theorem idxP_nonneg (p : Int → Bool) (xs : List Int) : decide (0 ≤ idxP p xs) = xs.any p := by
  unfold idxP
  cases h : xs.findIdx? p with
  | some k =>
    obtain ⟨hk, hp, -⟩ := List.findIdx?_eq_some_iff_getElem.1 h
    have : xs.any p = true := List.any_eq_true.2 ⟨_, List.getElem_mem hk, hp⟩
    rw [this]
    simp
  | none =>
    have : xs.any p = false := by
      rw [List.any_eq_false]
      intro x hx
      simpa using List.findIdx?_eq_none_iff.1 h x hx
    rw [this]
    rfl
/-- Do two bids conflict? -/
def confB (a b : Bd) : Bool := decide (a.bidder = b.bidder) || b.lots.any fun x => decide (x ∈ a.lots)
theorem confB_comm (a b : Bd) : confB a b = confB b a := by
  unfold confB
  have h1 : decide (a.bidder = b.bidder) = decide (b.bidder = a.bidder) := by rw [decide_eq_decide]; exact eq_comm
  have h2 : (b.lots.any fun x => decide (x ∈ a.lots)) = a.lots.any fun x => decide (x ∈ b.lots) := by
    rw [Bool.eq_iff_iff, List.any_eq_true, List.any_eq_true]
    constructor <;> (rintro ⟨x, h1, h2⟩; exact ⟨x, by simpa using h2, by simpa using h1⟩)
  rw [h1, h2]
theorem NIn.drew {w : World} {s : Sl} {xs : List Int} (h : NIn w w.heap.size s xs) : NIn w.drew w.drew.heap.size s xs := h.all (w' := w.drew) ⟨rfl, rfl, rfl, Nat.le_refl _, fun _ _ => rfl⟩
end Go.Proofs.YtldmokjpfnakkaaGreat

/- proof: possible, decide. -/
namespace Go.Proofs.YtldmokjpfnakkaaGreat
open Go.RowKit

theorem setRow_heap {w : World} {g : Nat} {cur : Array Value} {e : TypeId} (h : w.heap[g]? = some (.cells cur e (0, 0))) (cs : Array Value) : (w.setRow g cs).heap[g]? = some (.cells cs e (0, 0)) := by
  simp [World.setRow, Array.getElem?_modify, h]
theorem setRow_grown (w : World) (g : Nat) (cs : Array Value) : w.grownBy (w.setRow g cs) (some g) :=
  ⟨rfl, rfl, rfl, by simp [World.setRow], fun k _ hne => by
    have : g ≠ k := fun e => hne (by rw [e])
    simp [World.setRow, Array.getElem?_modify, this]⟩
/-- 'copy' of a slice of ints over a row of the call's own of the same length. -/
theorem run_copyInts {P : Program} {w : World} {base t e bytes g n cap B : Nat} {ys : List Value} {xs : List Int} {s : Sl} {ty : TypeId} (hT : SlT P t e 1 bytes) (ho : w.ownsRow base e 1 (.slice (some ⟨g, 0, none⟩) n cap) n ys) (hx : NIn w B s xs) (hs : s.2.1 = n) (h0 : 0 < n) :
    ∃ w', (Builtin.copy_ #[t, t] ty #[.slice (some ⟨g, 0, none⟩) n cap, slV s]).run P w = .ok (.int .i64 (n : Int)) w' ∧ w'.ownsRow base e 1 (.slice (some ⟨g, 0, none⟩) n cap) n (xs.map (Value.int .i64)) ∧ w.grownBy w' (some g) := by
  obtain ⟨ti, z, ht, hti, hz, hs1, hb, hzs, hsz⟩ := hT
  obtain ⟨A, n', c⟩ := s
  obtain rfl : n' = n := hs
  have hl : (xs.map (Value.int .i64)).length = n' := by rw [List.length_map]; exact hx.len
  obtain ⟨hlx, h2⟩ := ho
  rcases h2 with ⟨h2, h0⟩ | ⟨g', cap', cur, h2, hbg, hh, hnc, hcm, hcs, htk⟩
  · cases h2
  · injection h2 with h2 _ h3
    injection h2 with h2
    injection h2 with h2
    subst h2 h3
    have hcl : cur.toList.length = cap := by simpa using hcs
    unfold slV
    dsimp only
    obtain ⟨b, off, rfl, -, hc⟩ := hx.rd h0
    have hnews : ∀ (j : Nat) (u : Value), (xs.map (Value.int .i64))[j]? = some u → w.cell? ((⟨b, off, none⟩ : Addr).add j) = some u := by
      intro j u hu
      have hj : j < n' := by
        have := (List.getElem?_eq_some_iff.1 hu).1
        rw [hl] at this
        exact this
      have ea : (⟨b, off, none⟩ : Addr).add j = ⟨b, off + j, none⟩ := by unfold Addr.add; split <;> simp_all
      rw [ea, hc j hj, ← hu]
      have hjx : j < xs.length := by rw [hx.len]; exact hj
      simp [vInt, hjx]
    have hld := run_loadCells_list (P := P) w ⟨b, off, none⟩ (xs.map (Value.int .i64)) hnews
    have hst := run_storeCells_at P g 0 e (xs.map (Value.int .i64)) 0 cur w hh (by rw [← Array.length_toList, hcl, hl]; omega) (fun u hu => by
      obtain ⟨x, -, rfl⟩ := List.mem_map.1 hu
      rfl)
    refine ⟨w.setRow g (cur.toList.take (0 + 0) ++ xs.map (Value.int .i64) ++ cur.toList.drop (0 + 0 + (xs.map (Value.int .i64)).length)).toArray, ?_, ⟨by rw [hl, Nat.mul_one], .inr ⟨g, cap, (cur.toList.take (0 + 0) ++ xs.map (Value.int .i64) ++ cur.toList.drop (0 + 0 + (xs.map (Value.int .i64)).length)).toArray, rfl, hbg, setRow_heap hh _, hnc, hcm, ?_, ?_⟩⟩, setRow_grown _ _ _⟩
    · rw [hl] at hld
      simp [Builtin.copy_, run_underlying ht, sizeOf, typeInfo, hti, hs1, Builtin.lenOf, Builtin.firstCells, goInt, hld, hst]
    · simp only [List.size_toArray, List.length_append, List.length_take, List.length_drop, hcl, hl]
      omega
    · simp only [Nat.add_zero, List.take_zero, List.nil_append]
      rw [List.take_append_of_le_length (by rw [hl]; omega), List.take_of_length_le (by rw [hl]; omega)]
theorem slT_ints : SlT Tryz.prog 22 3 1 8 := SlT.of Tryz.underlying22 (by kernel_rfl) (by decide)
theorem int_info : (Tryz.prog.info? 3).map (fun i => (i.zero, i.size, i.bytes)) = some (some (.int .i64 0), 1, 8) := by kernel_rfl
/-- What decide returns. -/
def DecPost (xs : List Int) (w : World) (e : Ending) (w' : World) : Prop := ∃ s' : Sl, e = .returned (slV s') ∧ s'.2.1 = xs.length ∧ NIn w' w'.heap.size s' xs ∧ Below w.heap.size w w'
end Go.Proofs.YtldmokjpfnakkaaGreat

/- append of a whole row, or of one element, onto a row of the call's own. -/
namespace Go.Proofs.YtldmokjpfnakkaaGreat
open Go.RowKit

theorem own_split {w : World} {base e size n : Nat} {v : Value} {xs : List Value} (h : w.ownsRow base e size v n xs) : ∃ A c, v = .slice A n c := by
  rcases h.2 with ⟨h, h0⟩ | ⟨g1, cap, cur, h, _⟩
  · exact ⟨none, 0, by rw [h, h0]⟩
  · exact ⟨_, _, h⟩
theorem own_below {w w' : World} {base e size n : Nat} {v : Value} {xs : List Value} (h : w.ownsRow base e size v n xs) (hg : w.grownBy w' v.ownBlock) (hB : base ≤ w.heap.size) : Below base w w' := by
  refine (Below.refl base w).grown hg hB (fun k e => ?_)
  rcases h.2 with ⟨rfl, _⟩ | ⟨g, cap, cur, rfl, hg2, _⟩
  · cases e
  · simp [Value.ownBlock] at e
    omega
section
variable {P : Program} {w : World} {base t e size bytes n : Nat} {v : Value} {xs : List Value}
/-- append of a slice whose cells are known. -/
theorem app_cells {ty : TypeId} (hT : SlT P t e size bytes) (hown : w.ownsRow base e size v n xs) (A : Option Addr) (m c : Nat) (news : List Value) (hl : news.length = m * size) (hA : A = none → m = 0)
    (hnews : ∀ ad, A = some ad → ∀ j u, news[j]? = some u → w.cell? (ad.add j) = some u) (h1 : ∀ u ∈ news, u.oneCell' = true) (hn : n + m < 1099511627776) (hby : bytes ≤ 64) (hbase : base ≤ w.heap.size) :
    ∃ A' c' w', (Builtin.append_ #[t, t] ty #[v, .slice A m c]).run P w = .ok (.slice A' (n + m) c') w' ∧ w'.ownsRow base e size (.slice A' (n + m) c') (n + m) (xs ++ news) ∧ Below base w w' := by
  have hT' := hT
  obtain ⟨i, z, ht, hi, hz, hs, hb, hzs, hsz⟩ := hT
  rcases A with _ | ad
  · have hm := hA rfl
    subst hm
    have hnil : news = [] := List.eq_nil_of_length_eq_zero (by simpa using hl)
    subst hnil
    obtain ⟨A', c', rfl⟩ := own_split hown
    refine ⟨A', c', w, ?_, by simpa using hown, Below.refl _ _⟩
    rcases hown.2 with ⟨h, h0⟩ | ⟨g, cap, cur, h, _, _, hnc, _⟩
    · cases h
      simp [Builtin.append_, run_underlying ht, sizeOf, typeInfo, hi, Builtin.lenOf, Builtin.firstCells]
    · injection h with h _ h3
      subst h h3
      simp [Builtin.append_, run_underlying ht, sizeOf, typeInfo, hi, Builtin.lenOf, Builtin.firstCells, hnc, storeCells]
  · have hmul : (n + m) * bytes ≤ 140737488355328 := Nat.le_trans (Nat.mul_le_mul (show n + m ≤ 1099511627776 by omega) hby) (by decide)
    obtain ⟨v', w', hrun, h2, h3, _, h5⟩ := run_append_own_at (P := P) w base t ty e i z size bytes ht hi hz hs hb hzs hsz v n xs hown ad m c news hl (hnews ad rfl) h1 (by unfold maxLen; omega) hmul hbase
    obtain ⟨A', c', rfl⟩ := own_split h2
    exact ⟨A', c', w', hrun, h2, own_below hown h3 hbase⟩
/-- append of one element that lies in a block of its own. -/
theorem app_one {ty : TypeId} (hT : SlT P t e size bytes) (hown : w.ownsRow base e size v n xs) {gb : Nat} {cs : Array Value} (hsrc : Blk w gb e cs) (hcs : cs.size = size) (h1 : ∀ u ∈ cs.toList, u.oneCell' = true)
    (hn : n < 1099511627776) (hby : bytes ≤ 64) (hbase : base ≤ w.heap.size) :
    ∃ A' c' w', (Builtin.append_ #[t, t] ty #[v, .slice (some ⟨gb, 0, none⟩) 1 1]).run P w = .ok (.slice A' (n + 1) c') w' ∧ w'.ownsRow base e size (.slice A' (n + 1) c') (n + 1) (xs ++ cs.toList) ∧ Below base w w' := by
  obtain ⟨g, cap, w', hrun, h2, h3, -⟩ := run_append1 (ty := ty) hT hown hsrc hcs h1 hn hby hbase
  exact ⟨_, _, w', hrun, h2, own_below hown h3 hbase⟩
/-- A step of a region that draws: append, its guard met. -/
theorem step_app {w w' : World} {ops : Array Oper} {o : Oper} {a : Act} {K : Act → World → Prop} {Q : Exit → Act → World → Prop} {E : Prop} {s x : Operand} {v vx v' : Value} (hrun : (Builtin.append_ #[t, t] o.type #[v, vx]).run P w = .ok v' w')
    (hw : Region.wanted o (yielded ops a.tmps) = true) (ho : o.op = .call { callee := .builtin .append, args := #[s, x], argTypes := #[t, t] }) (hs : a.eval s = v) (hx : a.eval x = vx)
    (hK : K (a.put o.dst v') w') : if Region.wanted o (yielded ops a.tmps) = true then Oper.wp P o a w K Q else E := by
  rw [if_pos hw]
  unfold Oper.wp
  simp [execOp, ho, resolve, invoke, builtin, hs, hx, hrun, Result.andThen]
  exact hK
end
/-- What reads as cells. -/
theorem Rows.news {α : Type} {f : α → List Value} {size : Nat} {w : World} {s : Sl} {L : List α} (hf : ∀ x, (f x).length = size) (h : Rows f size w s L) : ∀ ad, s.1 = some ad → ∀ j u, (L.flatMap f)[j]? = some u → w.cell? (ad.add j) = some u := by
  intro ad e j u hu
  have hj := (List.getElem?_eq_some_iff.1 hu).1
  rw [flat_len hf] at hj
  obtain ⟨b, off, e2, -, hc⟩ := h.rd (by omega)
  rw [e] at e2
  injection e2 with e2
  subst e2
  have ea : (⟨b, off, none⟩ : Addr).add j = ⟨b, off + j, none⟩ := by unfold Addr.add; split <;> simp_all
  rw [ea, hc j hj]
  dsimp only
  rw [hu]
  rfl
theorem Rows.none_ {α : Type} {f : α → List Value} {size : Nat} {w : World} {s : Sl} {L : List α} (h : Rows f size w s L) (hs : 0 < size) : s.1 = none → s.2.1 = 0 := by
  intro e
  rw [← h.len]
  rcases Nat.eq_zero_or_pos L.length with h0 | h0
  · exact h0
  · obtain ⟨_, _, e2, _⟩ := h.rd (Nat.mul_pos h0 hs)
    rw [e] at e2
    cases e2
theorem NIn.news {w : World} {B : Nat} {s : Sl} {xs : List Int} (h : NIn w B s xs) : ∀ ad, s.1 = some ad → ∀ j u, (xs.map (Value.int .i64))[j]? = some u → w.cell? (ad.add j) = some u := by
  intro ad e j u hu
  have hj := (List.getElem?_eq_some_iff.1 hu).1
  rw [List.length_map, h.len] at hj
  obtain ⟨b, off, e2, -, hc⟩ := h.cell hj
  rw [e] at e2
  injection e2 with e2
  subst e2
  have ea : (⟨b, off, none⟩ : Addr).add j = ⟨b, off + j, none⟩ := by unfold Addr.add; split <;> simp_all
  rw [ea, hc, ← hu]
  have hj2 : j < xs.length := by rw [h.len]; exact hj
  simp [hj2]
theorem NIn.none_ {w : World} {B : Nat} {s : Sl} {xs : List Int} (h : NIn w B s xs) : s.1 = none → s.2.1 = 0 := by
  intro e
  rcases Nat.eq_zero_or_pos s.2.1 with h0 | h0
  · exact h0
  · obtain ⟨_, _, e2, _⟩ := h.cell h0
    rw [e] at e2
    cases e2
/-- A row of ints of the call's own. -/
def OwnI (w : World) (B : Nat) (A : Option Addr) (n c : Nat) (xs : List Int) : Prop := w.ownsRow B 3 1 (.slice A n c) n (xs.map (Value.int .i64))
theorem OwnI.nin {w : World} {B n c : Nat} {A : Option Addr} {xs : List Int} (h : OwnI w B A n c xs) : NIn w w.heap.size (A, n, c) xs := NIn.own h
theorem OwnI.all {w w' : World} {B n c : Nat} {A : Option Addr} {xs : List Int} (h : OwnI w B A n c xs) (hb : Below w.heap.size w w') : OwnI w' B A n c xs := own_keep h hb
theorem OwnI.nil (w : World) (B : Nat) : OwnI w B none 0 0 [] := World.ownsRow_nil w B _ 1
/-- append(nil, xs...). -/
theorem app_ints {w : World} {s : Sl} {xs : List Int} (B : Nat) (ty : TypeId) (h : NIn w w.heap.size s xs) (hn : s.2.1 ≤ 1000000) (hB : B ≤ w.heap.size) :
    ∃ A' c' w', (Builtin.append_ #[22, 22] ty #[.slice none 0 0, slV s]).run Tryz.prog w = .ok (.slice A' s.2.1 c') w' ∧ OwnI w' B A' s.2.1 c' xs ∧ Below w.heap.size w w' := by
  obtain ⟨A', c', w', hrun, hown, hb⟩ := app_cells (ty := ty) (base := w.heap.size) slT_ints (World.ownsRow_nil w w.heap.size _ 1) s.1 s.2.1 s.2.2 (xs.map (Value.int .i64)) (by rw [List.length_map, h.len, Nat.mul_one]) h.none_ h.news (by
    intro u hu
    obtain ⟨x, -, rfl⟩ := List.mem_map.1 hu
    rfl) (by omega) (by decide) (Nat.le_refl _)
  rw [Nat.zero_add] at hrun hown
  rw [List.nil_append] at hown
  refine ⟨A', c', w', hrun, ⟨hown.1, ?_⟩, hb⟩
  rcases hown.2 with h2 | ⟨g, cap, cur, h2, h3, h4⟩
  · exact .inl h2
  · exact .inr ⟨g, cap, cur, h2, Nat.le_trans hB h3, h4⟩
/-- append of one int that a literal holds. -/
theorem app_int {w : World} {B n c : Nat} {A : Option Addr} {xs : List Int} (ty : TypeId) (x : Int) (h : OwnI w B A n c xs) (hn : n ≤ 1000000) (hB : B ≤ w.heap.size) :
    ∃ A' c' w', (Builtin.append_ #[22, 22] ty #[.slice A n c, .slice (some ⟨w.heap.size, 0, none⟩) 1 1]).run Tryz.prog (w.alloc (.cells #[.int .i64 x] 3)) = .ok (.slice A' (n + 1) c') w' ∧ OwnI w' B A' (n + 1) c' (xs ++ [x]) ∧ Below B w w' := by
  obtain ⟨A', c', w', hrun, hown, hb⟩ := app_one (ty := ty) (w := w.alloc (.cells #[.int .i64 x] 3)) slT_ints (World.ownsRow.alloc h _) (Blk.new w 3 #[.int .i64 x]) rfl (by intro u hu; simp at hu; subst hu; rfl) (by omega) (by decide) (by simp; omega)
  refine ⟨A', c', w', hrun, ?_, ((Below.refl B w).alloc hB _).trans hb⟩
  unfold OwnI
  rw [List.map_append]
  exact hown
/-- append of one element that a literal holds. -/
theorem app_elem {P : Program} {w : World} {B t e size bytes n c : Nat} {A : Option Addr} {xs : List Value} (ty : TypeId) (hT : SlT P t e size bytes) (h : w.ownsRow B e size (.slice A n c) n xs) (cs : Array Value) (hcs : cs.size = size) (h1 : ∀ u ∈ cs.toList, u.oneCell' = true) (hn : n ≤ 1000000) (hby : bytes ≤ 64) (hB : B ≤ w.heap.size) :
    ∃ A' c' w', (Builtin.append_ #[t, t] ty #[.slice A n c, .slice (some ⟨w.heap.size, 0, none⟩) 1 1]).run P (w.alloc (.cells cs e)) = .ok (.slice A' (n + 1) c') w' ∧ w'.ownsRow B e size (.slice A' (n + 1) c') (n + 1) (xs ++ cs.toList) ∧ Below B w w' ∧ w.grownBy w' (Value.slice A n c).ownBlock := by
  have hg0 : w.grownBy (w.alloc (.cells cs e)) (Value.slice A n c).ownBlock := World.grownBy_alloc w _ _
  obtain ⟨g, cap, w', hrun, h2, h3, -⟩ := run_append1 (ty := ty) (w := w.alloc (.cells cs e)) hT (h.alloc _) (Blk.new w e cs) hcs h1 (by omega) hby (by simp; omega)
  exact ⟨_, _, w', hrun, h2, own_below h (hg0.trans h3) hB, hg0.trans h3⟩
/-- A row of another element's type stays. -/
theorem own_other {w w' : World} {B B' e e' size size' n n' : Nat} {v v' : Value} {xs ys : List Value} (h : w.ownsRow B e size v n xs) (h' : w.ownsRow B' e' size' v' n' ys) (hne : e ≠ e') (hg : w.grownBy w' v'.ownBlock) : w'.ownsRow B e size v n xs := by
  refine h.kept hg ?_
  rcases h.2 with ⟨rfl, _⟩ | ⟨g, cap, cur, rfl, -, hh, -⟩
  · exact .inl rfl
  · right
    rcases h'.2 with ⟨rfl, _⟩ | ⟨g', cap', cur', rfl, -, hh', -⟩
    · simp [Value.ownBlock]
    · simp only [Value.ownBlock]
      intro he
      injection he with he
      subst he
      rw [hh] at hh'
      injection hh' with hh'
      injection hh' with _ he _
      exact hne he
end Go.Proofs.YtldmokjpfnakkaaGreat
