/- append of a whole row, or of one element, onto a row of the call's own. -/
import Derived.Test.YtlcalajehnaenaaGreatDoorHG0
import Derived.Deep.LoopGhost
import Derived.Deep.QuietTactic
import Derived.BigQuiet
import Derived.Deep.RegionHeld3
import Derived.Laws.StructEq
import Derived.Shelf.SlicesE.Kit
import Derived.BigRegion
import Derived.Deep.DeepCutAuto
namespace Go.Proofs.YtlcalajehnaenaaGreatDoor
open Go.RowKit
theorem own_split {w : World} {base e size n : Nat} {v : Value} {xs : List Value} (h : w.ownsRow base e size v n xs) : ∃ A c, v = .slice A n c := by
 rcases h.2 with ⟨h, h0⟩ | ⟨g1, cap, cur, h, _⟩
 ·exact ⟨none, 0, by rw [h, h0]⟩
 ·exact ⟨_, _, h⟩
theorem own_below {w w' : World} {base e size n : Nat} {v : Value} {xs : List Value} (h : w.ownsRow base e size v n xs) (hg : w.grownBy w' v.ownBlock) (hB : base ≤ w.heap.size) : Below base w w' := by
 refine (Below.refl base w).grown hg hB (fun k e => ?_)
 rcases h.2 with ⟨rfl, _⟩ | ⟨g, cap, cur, rfl, hg2, _⟩
 ·cases e
 ·simp [Value.ownBlock] at e
  omega
section
variable {P : Program} {w : World} {base t e size bytes n : Nat} {v : Value} {xs : List Value}
theorem app_cells {ty : TypeId} (hT : SlT P t e size bytes) (hown : w.ownsRow base e size v n xs) (A : Option Addr) (m c : Nat) (news : List Value) (hl : news.length = m * size) (hA : A = none → m = 0)
 (hnews : ∀ ad, A = some ad → ∀ j u, news[j]? = some u → w.cell? (ad.add j) = some u) (h1 : ∀ u ∈ news, u.oneCell' = true) (hn : n + m < 1099511627776) (hby : bytes ≤ 64) (hbase : base ≤ w.heap.size) :
 ∃ A' c' w', (Builtin.append_ #[t, t] ty #[v, .slice A m c]).run P w = .ok (.slice A' (n + m) c') w' ∧ w'.ownsRow base e size (.slice A' (n + m) c') (n + m) (xs ++ news) ∧ Below base w w' := by
 have hT' := hT
 obtain ⟨i, z, ht, hi, hz, hs, hb, hzs, hsz⟩ := hT
 rcases A with _ | ad
 ·have hm := hA rfl
  subst hm
  have hnil : news = [] := List.eq_nil_of_length_eq_zero (by simpa using hl)
  subst hnil
  obtain ⟨A', c', rfl⟩ := own_split hown
  refine ⟨A', c', w, ?_, by simpa using hown, Below.refl _ _⟩
  rcases hown.2 with ⟨h, h0⟩ | ⟨g, cap, cur, h, _, _, hnc, _⟩
  ·cases h
   simp [Builtin.append_, run_underlying ht, sizeOf, typeInfo, hi, Builtin.lenOf, Builtin.firstCells]
  ·injection h with h _ h3
   subst h h3
   simp [Builtin.append_, run_underlying ht, sizeOf, typeInfo, hi, Builtin.lenOf, Builtin.firstCells, hnc, storeCells]
 ·have hmul : (n + m) * bytes ≤ 140737488355328 := Nat.le_trans (Nat.mul_le_mul (show n + m ≤ 1099511627776 by omega) hby) (by decide)
  obtain ⟨v', w', hrun, h2, h3, _, h5⟩ := run_append_own_at (P := P) w base t ty e i z size bytes ht hi hz hs hb hzs hsz v n xs hown ad m c news hl (hnews ad rfl) h1 (by unfold maxLen; omega) hmul hbase
  obtain ⟨A', c', rfl⟩ := own_split h2
  exact ⟨A', c', w', hrun, h2, own_below hown h3 hbase⟩
theorem step_app {w w' : World} {ops : Array Oper} {o : Oper} {a : Act} {K : Act → World → Prop} {Q : Exit → Act → World → Prop} {E : Prop} {s x : Operand} {v vx v' : Value} (hrun : (Builtin.append_ #[t, t] o.type #[v, vx]).run P w = .ok v' w')
 (hw : Region.wanted o (yielded ops a.tmps) = true) (ho : o.op = .call { callee := .builtin .append, args := #[s, x], argTypes := #[t, t] }) (hs : a.eval s = v) (hx : a.eval x = vx)
 (hK : K (a.put o.dst v') w') : if Region.wanted o (yielded ops a.tmps) = true then Oper.wp P o a w K Q else E := by
 rw [if_pos hw]
 unfold Oper.wp
 simp [execOp, ho, resolve, invoke, builtin, hs, hx, hrun, Result.andThen]
 exact hK
end
theorem Rows.news {α : Type} {f : α → List Value} {size : Nat} {w : World} {s : Sl} {L : List α} (hf : ∀ x, (f x).length = size) (h : Rows f size w s L) : ∀ ad, s.1 = some ad → ∀ j u, (L.flatMap f)[j]? = some u → w.cell? (ad.add j) = some u := by
 intro ad e j u hu
 have hj := (List.getElem?_eq_some_iff.1 hu).1
 rw [flat_len hf] at hj
 obtain ⟨b, off, e2, -, hc⟩ := h.rd (by omega)
 rw [e] at e2
 injection e2 with e2
 subst e2
 have ea : (⟨b, off, none⟩ : Addr).add j = ⟨b, off + j, none⟩ := by unfold Addr.add; split <;> simp_all
 rw [ea, hc j hj]
 dsimp only
 rw [hu]
 rfl
theorem Rows.none_ {α : Type} {f : α → List Value} {size : Nat} {w : World} {s : Sl} {L : List α} (h : Rows f size w s L) (hs : 0 < size) : s.1 = none → s.2.1 = 0 := by
 intro e
 rw [← h.len]
 rcases Nat.eq_zero_or_pos L.length with h0 | h0
 ·exact h0
 ·obtain ⟨_, _, e2, _⟩ := h.rd (Nat.mul_pos h0 hs)
  rw [e] at e2
  cases e2
theorem NIn.news {w : World} {B : Nat} {s : Sl} {xs : List Int} (h : NIn w B s xs) : ∀ ad, s.1 = some ad → ∀ j u, (xs.map (Value.int .i64))[j]? = some u → w.cell? (ad.add j) = some u := by
 intro ad e j u hu
 have hj := (List.getElem?_eq_some_iff.1 hu).1
 rw [List.length_map, h.len] at hj
 obtain ⟨b, off, e2, -, hc⟩ := h.cell hj
 rw [e] at e2
 injection e2 with e2
 subst e2
 have ea : (⟨b, off, none⟩ : Addr).add j = ⟨b, off + j, none⟩ := by unfold Addr.add; split <;> simp_all
 rw [ea, hc, ← hu]
 have hj2 : j < xs.length := by rw [h.len]; exact hj
 simp [hj2]
theorem NIn.none_ {w : World} {B : Nat} {s : Sl} {xs : List Int} (h : NIn w B s xs) : s.1 = none → s.2.1 = 0 := by
 intro e
 rcases Nat.eq_zero_or_pos s.2.1 with h0 | h0
 ·exact h0
 ·obtain ⟨_, _, e2, _⟩ := h.cell h0
  rw [e] at e2
  cases e2
def OwnI (w : World) (B : Nat) (A : Option Addr) (n c : Nat) (xs : List Int) : Prop := w.ownsRow B 3 1 (.slice A n c) n (xs.map (Value.int .i64))
theorem OwnI.nin {w : World} {B n c : Nat} {A : Option Addr} {xs : List Int} (h : OwnI w B A n c xs) : NIn w w.heap.size (A, n, c) xs := NIn.own h
theorem OwnI.all {w w' : World} {B n c : Nat} {A : Option Addr} {xs : List Int} (h : OwnI w B A n c xs) (hb : Below w.heap.size w w') : OwnI w' B A n c xs := own_keep h hb
theorem OwnI.nil (w : World) (B : Nat) : OwnI w B none 0 0 [] := World.ownsRow_nil w B _ 1
theorem app_elem {P : Program} {w : World} {B t e size bytes n c : Nat} {A : Option Addr} {xs : List Value} (ty : TypeId) (hT : SlT P t e size bytes) (h : w.ownsRow B e size (.slice A n c) n xs) (cs : Array Value) (hcs : cs.size = size) (h1 : ∀ u ∈ cs.toList, u.oneCell' = true) (hn : n ≤ 1000000) (hby : bytes ≤ 64) (hB : B ≤ w.heap.size) :
 ∃ A' c' w', (Builtin.append_ #[t, t] ty #[.slice A n c, .slice (some ⟨w.heap.size, 0, none⟩) 1 1]).run P (w.alloc (.cells cs e)) = .ok (.slice A' (n + 1) c') w' ∧ w'.ownsRow B e size (.slice A' (n + 1) c') (n + 1) (xs ++ cs.toList) ∧ Below B w w' ∧ w.grownBy w' (Value.slice A n c).ownBlock := by
 have hg0 : w.grownBy (w.alloc (.cells cs e)) (Value.slice A n c).ownBlock := World.grownBy_alloc w _ _
 obtain ⟨g, cap, w', hrun, h2, h3, -⟩ := run_append1 (ty := ty) (w := w.alloc (.cells cs e)) hT (h.alloc _) (Blk.new w e cs) hcs h1 (by omega) hby (by simp; omega)
 exact ⟨_, _, w', hrun, h2, own_below h (hg0.trans h3) hB, hg0.trans h3⟩
theorem own_other {w w' : World} {B B' e e' size size' n n' : Nat} {v v' : Value} {xs ys : List Value} (h : w.ownsRow B e size v n xs) (h' : w.ownsRow B' e' size' v' n' ys) (hne : e ≠ e') (hg : w.grownBy w' v'.ownBlock) : w'.ownsRow B e size v n xs := by
 refine h.kept hg ?_
 rcases h.2 with ⟨rfl, _⟩ | ⟨g, cap, cur, rfl, -, hh, -⟩
 ·exact .inl rfl
 ·right
  rcases h'.2 with ⟨rfl, _⟩ | ⟨g', cap', cur', rfl, -, hh', -⟩
  ·simp [Value.ownBlock]
  ·simp only [Value.ownBlock]
   intro he
   injection he with he
   subst he
   rw [hh] at hh'
   injection hh' with hh'
   injection hh' with _ he _
   exact hne he
end Go.Proofs.YtlcalajehnaenaaGreatDoor
namespace Go.Proofs.YtlcalajehnaenaaGreatDoor
open Go.RowKit
def LotsAt (w : World) (A : Option Addr) (n c : Nat) (ls : List Lot) : Prop := ls.length = n ∧ n ≤ c ∧ c ≤ 9223372036854775807 ∧ RowT w 163 A (ls.flatMap lotV)
section
variable {w w' : World} {A : Option Addr} {n c : Nat} {ls : List Lot} {F : Nat → Prop}
theorem LotsAt.nil (w : World) : LotsAt w none 0 0 [] := ⟨rfl, Nat.le_refl _, by omega, RowT.nil _ _ _⟩
theorem LotsAt.mod (h : LotsAt w A n c ls) (m : Mod F w w') (hF : ∀ b, F b → ¬ Ty w b 163) : LotsAt w' A n c ls := ⟨h.1, h.2.1, h.2.2.1, h.2.2.2.mod m hF⟩
theorem LotsAt.all (h : LotsAt w A n c ls) (hb : Below w.heap.size w w') : LotsAt w' A n c ls := h.mod (F := fun _ => False) (Mod.of_below _ hb) (fun _ hf => hf.elim)
theorem LotsAt.len (h : LotsAt w A n c ls) : ls.length = n := h.1
theorem LotsAt.at_ (h : LotsAt w A n c ls) {k : Nat} (hk : k < n) : ∃ b off, A = some ⟨b, off, none⟩ ∧ b < w.heap.size ∧ Ty w b 163 ∧ ∃ l, ls[k]? = some l ∧ w.cell? ⟨b, off + k * 3, none⟩ = some (.int .i64 l.flow) ∧ w.cell? ⟨b, off + k * 3 + 1, none⟩ = some (.int .i64 l.at_) ∧ w.cell? ⟨b, off + k * 3 + 2, none⟩ = some (.int .i64 l.n) := by
 have hk' : k < ls.length := by rw [h.1]; exact hk
 obtain ⟨b, off, e, hb, ht, hc⟩ := RowT.at_ lotV 3 lotV_len h.2.2.2 (by decide) hk'
 exact ⟨b, off, e, hb, ht, ls[k], List.getElem?_eq_getElem hk', hc 0 (by decide), by have := hc 1 (by decide); rw [← Nat.add_assoc] at this; exact this, by have := hc 2 (by decide); rw [← Nat.add_assoc] at this; exact this⟩
end
theorem totL_take_succ {ls : List Lot} {i : Nat} {l : Lot} (h : ls[i]? = some l) : totL (ls.take (i + 1)) = totL (ls.take i) + l.n := by
 obtain ⟨hi, rfl⟩ := List.getElem?_eq_some_iff.1 h
 rw [← List.take_append_getElem hi, totL_append]
 simp [totL]
theorem LotsOk.take {ls : List Lot} (h : LotsOk ls) (i : Nat) : LotsOk (ls.take i) := fun l hl => h l (List.mem_of_mem_take hl)
theorem totL_le {ls : List Lot} (h : LotsOk ls) : 0 ≤ totL ls ∧ totL ls ≤ 1099511627776 * (ls.length : Int) := by
 induction ls with
 | nil => simp [totL]
 | cons x a ih =>
   have h1 := h x (by simp)
   obtain ⟨h2, h3⟩ := ih (fun l hl => h l (by simp [hl]))
   unfold totL
   unfold Lot.ok MaxU at h1
   rw [List.length_cons]
   omega
set_option maxRecDepth 100000 in
theorem total_any (A : Option Addr) (n c : Nat) (ls : List Lot) (w : World) (HL : Hid (LotsAt w A n c ls)) (HO : Hid (LotsOk ls)) (hn : n ≤ 1000000) :
 Calls Tryz.prog 36 #[.slice A n c] w fun e w' => e = .returned (.int .i64 (totL ls)) ∧ Below w.heap.size w w' := by
 go_enter Tryz.func36, Tryz.ntmps36
 go_wp2
 go_loopg [3, 8] n (fun gk sv iv wr => ∃ i : Nat, i + gk = n ∧ iv = .int .i64 (i : Int) ∧ sv = .int .i64 (totL (ls.take i)) ∧ Hid (Below w.heap.size w wr))
 case atStart => exact ⟨0, by omega, rfl, rfl, Lib.hid (Below.refl _ _)⟩
 case round =>
  obtain ⟨i, hi, rfl, rfl, HB⟩ := hrel
  have HHI := Lib.hid hi
  rcases Nat.lt_or_ge i n with hlt | hge
  ·have hltI : (i : Int) < (n : Int) := by omega
   have hi0 : (0 : Int) ≤ (i : Int) := by omega
   obtain ⟨b, off, rfl, hb, -, l, hl, k0, k1, k2⟩ := (HL.out.all HB.out).at_ hlt
   have hs := totL_take_succ hl
   obtain ⟨ht0, ht1⟩ := totL_le (HO.out.take (i + 1))
   have hlen : (ls.take (i + 1)).length ≤ 1000000 := by rw [List.length_take, HL.out.len]; omega
   have hw : IntKind.i64.wrap (totL (ls.take i) + l.n) = totL (ls.take i) + l.n := by
    rw [← hs]
    exact IntWalk.i64_in _ (by omega)
   have HS := Lib.hid hs
   have HBN := Lib.hid (bt HB.out ((Below.refl _ wr).alloc (Nat.le_refl _) (.cells #[.int .i64 l.flow, .int .i64 l.at_, .int .i64 l.n] 163)))
   clear hi hs ht0 ht1 hlen hl hb
   go_wp2
   go_roundg (n - (i + 1))
   case measure => have := HHI.out; omega
   case rel => exact ⟨i + 1, by have := HHI.out; omega, by go_num, by rw [HS.out], HBN⟩
  ·obtain rfl : i = n := by omega
   have ht : ls.take i = ls := List.take_of_length_le (by rw [HL.out.len]; exact Nat.le_refl _)
   rw [ht]
   go_wp2
   go_ret
   exact ⟨rfl, HB.out⟩
theorem Lot.ok.poss {l : Lot} (h : l.ok) : 0 ≤ l.flow ∧ 0 ≤ l.at_ ∧ l.at_ ≤ 1099511627776 ∧ 1 ≤ l.n ∧ l.n ≤ 1099511627776 - l.at_ := by
 unfold Lot.ok MaxU at h
 omega
set_option maxRecDepth 100000 in
theorem poss_any (l : Lot) (w : World) (h : l.ok) :
 Calls Tryz.prog 192 #[.agg #[.int .i64 l.flow, .int .i64 l.at_, .int .i64 l.n]] w fun e w' => e = .returned (.bool true) ∧ Below w.heap.size w w' := by
 obtain ⟨h1, h2, h3, h4, h5⟩ := h.poss
 obtain ⟨f, a, n⟩ := l
 dsimp only at h1 h2 h3 h4 h5 ⊢
 have hw : IntKind.i64.wrap (1099511627776 - a) = 1099511627776 - a := IntWalk.i64_in _ (by omega)
 have HB := Lib.hid ((Below.refl w.heap.size w).alloc (Nat.le_refl _) (.cells #[.int .i64 f, .int .i64 a, .int .i64 n] 163))
 go_enter Tryz.func192, Tryz.ntmps192
 go_wp2
 go_ret
 exact ⟨rfl, HB.out⟩
set_option maxRecDepth 100000 in
theorem valid_any (A : Option Addr) (n c : Nat) (ls : List Lot) (w : World) (HL : Hid (LotsAt w A n c ls)) (HO : Hid (LotsOk ls)) (hn : n ≤ 4096) :
 Calls Tryz.prog 185 #[.slice A n c] w fun e w' => e = .returned (.bool true) ∧ Below w.heap.size w w' := by
 have hnI : ¬ (4096 < (n : Int)) := by omega
 go_enter Tryz.func185, Tryz.ntmps185
 go_wp2
 go_loopg [10] n (fun gk iv wr => ∃ i : Nat, i + gk = n ∧ iv = .int .i64 (i : Int) ∧ Hid (Below w.heap.size w wr))
 case atStart => exact ⟨0, by omega, rfl, Lib.hid (Below.refl _ _)⟩
 case round =>
  obtain ⟨i, hi, rfl, HB⟩ := hrel
  have HHI := Lib.hid hi
  rcases Nat.lt_or_ge i n with hlt | hge
  ·have hltI : (i : Int) < (n : Int) := by omega
   have hi0 : (0 : Int) ≤ (i : Int) := by omega
   obtain ⟨b, off, rfl, hb, -, l, hl, k0, k1, k2⟩ := (HL.out.all HB.out).at_ hlt
   have HOK := Lib.hid (HO.out l (List.mem_of_getElem? hl))
   have HBN := Lib.hid (bt HB.out ((Below.refl _ wr).alloc (Nat.le_refl _) (.cells #[.int .i64 l.flow, .int .i64 l.at_, .int .i64 l.n] 163)))
   clear hi hl hb
   go_wp2_with fail
   refine (poss_any l _ HOK.out).mono ?_
   rintro e w2 ⟨rfl, hb2⟩
   have HB2 := Lib.hid (bt HBN.out hb2)
   clear hb2
   go_wp2
   go_roundg (n - (i + 1))
   case measure => have := HHI.out; omega
   case rel => exact ⟨i + 1, by have := HHI.out; omega, by go_num, HB2⟩
  ·obtain rfl : i = n := by omega
   go_wp2
   go_ret
   exact ⟨rfl, HB.out⟩
set_option maxRecDepth 100000 in
theorem ltotal_any (A : Option Addr) (n c : Nat) (ls : List Lot) (w : World) (HL : Hid (LotsAt w A n c ls)) (HO : Hid (LotsOk ls)) (hn : n ≤ 4096) :
 Calls Tryz.prog 186 #[.slice A n c] w fun e w' => e = .returned (.int .i64 (totL ls)) ∧ Below w.heap.size w w' := by
 go_enter Tryz.func186, Tryz.ntmps186
 go_wp2_with fail
 refine (valid_any A n c ls w HL HO hn).mono ?_
 rintro e w1 ⟨rfl, hb1⟩
 have HL1 := Lib.hid (HL.out.all hb1)
 have HB1 := Lib.hid hb1
 clear hb1
 go_wp2_with fail
 refine (total_any A n c ls w1 HL1 HO (by omega)).mono ?_
 rintro e w2 ⟨rfl, hb2⟩
 have HB2 := Lib.hid (bt HB1.out hb2)
 clear hb2
 go_wp2
 go_ret
 exact ⟨rfl, HB2.out⟩
end Go.Proofs.YtlcalajehnaenaaGreatDoor
namespace Go.Proofs.YtlcalajehnaenaaGreatDoor
open Go.RowKit
section
variable {P : Program} {ops : Array Oper} {Q : Exit → Act → World → Prop} {md : Region.Mode} {S : World → Prop}
theorem takeH (i : Nat) (d : Option Tmp) {v : Value} {fuel : Nat} {listed : Array Bool} {a : Act} {w : World} (hd : (ops[i]?).map Oper.dst = some d) (hw : (ops[i]?).map (fun o => Region.wanted o (yielded ops a.tmps)) = some true)
 (hs : Region.noSelect ops = true) (hf : Region.free md ops listed i = true) (hr : (Region.ready md ops listed).contains i = true)
 (hQ : ∀ c a w, Q (.panic c) (a.put d v) w → Q (.panic c) a w) (hy : ∀ o, ops[i]? = some o → ∀ w, S w → (execOp a.eval o).run P w = .ok (.value v) w) (hS : S w)
 (h : wpAnyH P md ops Q S fuel (listed.setIfInBounds i true) (a.put d v) w) : wpAnyH P md ops Q S (fuel + 1) listed a w := by
 cases ho : ops[i]? with
 | none => rw [ho] at hd; cases hd
 | some o =>
   rw [ho] at hd hw
   simp only [Option.map_some, Option.some.injEq] at hd hw
   subst hd
   exact wpAnyH_take ho hs hf hr hQ (Or.inl ⟨hw, hy o ho⟩) hS h
theorem skipH (i : Nat) (d : Option Tmp) {fuel : Nat} {listed : Array Bool} {a : Act} {w : World} (hd : (ops[i]?).map Oper.dst = some d) (hw : (ops[i]?).map (fun o => Region.wanted o (yielded ops a.tmps)) = some false)
 (hs : Region.noSelect ops = true) (hf : Region.free md ops listed i = true) (hr : (Region.ready md ops listed).contains i = true)
 (hQ : ∀ c a w, Q (.panic c) (a.put d undef) w → Q (.panic c) a w) (hS : S w)
 (h : wpAnyH P md ops Q S fuel (listed.setIfInBounds i true) (a.put d undef) w) : wpAnyH P md ops Q S (fuel + 1) listed a w := by
 cases ho : ops[i]? with
 | none => rw [ho] at hd; cases hd
 | some o =>
   rw [ho] at hd hw
   simp only [Option.map_some, Option.some.injEq] at hd hw
   subst hd
   exact wpAnyH_take ho hs hf hr hQ (Or.inr ⟨hw, rfl⟩) hS h
theorem takeI (i : Nat) (d : Option Tmp) {v : Value} {fuel : Nat} {listed : Array Bool} {a : Act} {w : World}
 (hy : ∀ o, ops[i]? = some o → ∀ w, S w → (execOp a.eval o).run P w = .ok (.value v) w)
 (h : wpAnyH P md ops Q S fuel (listed.setIfInBounds i true) (a.put d v) w) (hd : (ops[i]?).map Oper.dst = some d := by rfl) (hw : (ops[i]?).map (fun o => Region.wanted o (yielded ops a.tmps)) = some true := by rfl)
 (hs : Region.noSelect ops = true := by kernel_rfl) (hf : Region.free md ops listed i = true := by kernel_rfl) (hr : (Region.ready md ops listed).contains i = true := by kernel_rfl)
 (hQ : ∀ c a w, Q (.panic c) (a.put d v) w → Q (.panic c) a w := by exact fun _ _ _ h => h) (hS : S w := by assumption) : wpAnyH P md ops Q S (fuel + 1) listed a w := takeH i d hd hw hs hf hr hQ hy hS h
theorem skipI (i : Nat) (d : Option Tmp) {fuel : Nat} {listed : Array Bool} {a : Act} {w : World}
 (h : wpAnyH P md ops Q S fuel (listed.setIfInBounds i true) (a.put d undef) w) (hd : (ops[i]?).map Oper.dst = some d := by rfl) (hw : (ops[i]?).map (fun o => Region.wanted o (yielded ops a.tmps)) = some false := by rfl)
 (hs : Region.noSelect ops = true := by kernel_rfl) (hf : Region.free md ops listed i = true := by kernel_rfl) (hr : (Region.ready md ops listed).contains i = true := by kernel_rfl)
 (hQ : ∀ c a w, Q (.panic c) (a.put d undef) w → Q (.panic c) a w := by exact fun _ _ _ h => h) (hS : S w := by assumption) : wpAnyH P md ops Q S (fuel + 1) listed a w := skipH i d hd hw hs hf hr hQ hS h
theorem takeJ (i : Nat) (d : Option Tmp) {v : Value} {fuel : Nat} {listed : Array Bool} {a a' : Act} {w : World}
 (h : wpAnyH P md ops Q S fuel (listed.setIfInBounds i true) a' w)
 (hy : ∀ o, ops[i]? = some o → ∀ w, S w → (execOp a.eval o).run P w = .ok (.value v) w := by intro o ho w hSw; cases ho; go_simp; try with_reducible rfl)
 (hp : a.put d v = a' := by (try simp only [Act.put, pB, pC, pD]); (try exact rfl))
 (hd : (ops[i]?).map Oper.dst = some d := by rfl) (hw : (ops[i]?).map (fun o => Region.wanted o (yielded ops a.tmps)) = some true := by rfl)
 (hs : Region.noSelect ops = true := by kernel_rfl) (hf : Region.free md ops listed i = true := by kernel_rfl) (hr : (Region.ready md ops listed).contains i = true := by kernel_rfl)
 (hQ : ∀ c a w, Q (.panic c) (a.put d v) w → Q (.panic c) a w := by exact fun _ _ _ h => h) (hS : S w := by assumption) : wpAnyH P md ops Q S (fuel + 1) listed a w := takeH i d hd hw hs hf hr hQ hy hS (hp ▸ h)
theorem skipJ (i : Nat) (d : Option Tmp) {fuel : Nat} {listed : Array Bool} {a a' : Act} {w : World}
 (h : wpAnyH P md ops Q S fuel (listed.setIfInBounds i true) a' w)
 (hd : (ops[i]?).map Oper.dst = some d := by rfl) (hw : (ops[i]?).map (fun o => Region.wanted o (yielded ops a.tmps)) = some false := by rfl)
 (hp : a.put d undef = a' := by (try simp only [Act.put, pB, pC, pD]); (try exact rfl))
 (hs : Region.noSelect ops = true := by kernel_rfl) (hf : Region.free md ops listed i = true := by kernel_rfl) (hr : (Region.ready md ops listed).contains i = true := by kernel_rfl)
 (hQ : ∀ c a w, Q (.panic c) (a.put d undef) w → Q (.panic c) a w := by exact fun _ _ _ h => h) (hS : S w := by assumption) : wpAnyH P md ops Q S (fuel + 1) listed a w := skipH i d hd hw hs hf hr hQ hS (hp ▸ h)
end
end Go.Proofs.YtlcalajehnaenaaGreatDoor
namespace Go.Proofs.YtlcalajehnaenaaGreatDoor
section
variable {P : Program} {ops : Array Oper} {Q : Exit → Act → World → Prop} {md : Region.Mode} {S : World → Prop} {z : Nat}
def wpAnyG (P : Program) (md : Region.Mode) (ops : Array Oper) (Q : Exit → Act → World → Prop) (S : World → Prop) (z : Nat) : Nat → Array Bool → Act → World → Prop
 | 0, listed, a, w => Region.ready md ops listed = [] ∧ Q .normal a w
 | fuel + 1, listed, a, w => (Region.ready md ops listed = [] → Q .normal a w) ∧ ∀ i ∈ Region.ready md ops listed, wpOp P ops Q i (fun a' w' => (i ≠ z → S w') ∧ wpAnyG P md ops Q S z fuel (listed.setIfInBounds i true) a' w') a w
theorem wpAny_of_G : ∀ (fuel : Nat) (listed : Array Bool) (a : Act) (w : World), wpAnyG P md ops Q S z fuel listed a w → wpAny P md ops Q fuel listed a w
 | 0, _, _, _, h => h
 | fuel + 1, _, _, _, h => ⟨h.1, fun i hi => wpOp_mono (fun a' w' h' => wpAny_of_G fuel _ a' w' h'.2) (h.2 i hi)⟩
theorem wpAnyG_first {i : Nat} {oi : Oper} {v : Value} (hi : ops[i]? = some oi) (hsel : ∀ (j : Nat) (o : Oper) cs b, ops[j]? = some o → o.op ≠ .select cs b) (hz : ∃ oz, ops[z]? = some oz ∧ ∃ e ∈ oz.after, Region.binds md e = true ∧ e.on = i) (hiz : i ≠ z)
 (hQ : ∀ c a w, Q (.panic c) (a.put oi.dst v) w → Q (.panic c) a w) :
 ∀ (fuel : Nat) (listed : Array Bool) (a : Act) (w : World),
  (∀ j oj, ops[j]? = some oj → j ≠ i → listed.getD j true = false → (∀ e ∈ oj.after, Region.binds md e = true → e.on ≠ i) → oi.apart ops oj = true) →
  i ∈ Region.ready md ops listed → YieldsIf P ops S oi v a → S w →
  wpAnyG P md ops Q S z fuel (listed.setIfInBounds i true) (a.put oi.dst v) w → wpAnyG P md ops Q S z (fuel + 1) listed a w := by
 intro fuel
 have unlisted : ∀ {listed : Array Bool}, i ∈ Region.ready md ops listed → listed.getD i false = true → False := fun {listed} hr h1 => by
  have h0 := (mem_ready.1 hr).1
  rcases Nat.lt_or_ge i listed.size with h' | h'
  ·simp [h'] at h0 h1
   rw [h0] at h1
   cases h1
  ·simp [Array.getElem?_eq_none h'] at h1
 induction fuel with
 | zero =>
   intro listed a w _ hr hy hS H
   refine ⟨fun h => (by rw [h] at hr; cases hr), fun j hj => ?_⟩
   by_cases hji : j = i
   ·subst hji
    exact hy.wpOp hi hS ⟨fun _ => hS, H⟩
   ·have := ready_mono hj hji
    rw [H.1] at this
    cases this
 | succ fuel ih =>
   intro listed a w hfree hr hy hS H
   refine ⟨fun h => (by rw [h] at hr; cases hr), fun j hj => ?_⟩
   by_cases hji : j = i
   ·subst hji
    exact hy.wpOp hi hS ⟨fun _ => hS, H⟩
   ·by_cases hjz : j = z
    ·obtain ⟨oz, hoz, e, he, hb, heq⟩ := hz
     obtain ⟨_, oj, hoj, hall⟩ := mem_ready.1 hj
     rw [hjz, hoz] at hoj
     injection hoj with hoj
     subst hoj
     have h1 := hall e he hb
     rw [heq] at h1
     exact (unlisted hr h1).elim
    have h1 := H.2 j (ready_mono hj hji)
    obtain ⟨hjun, oj, hoj, hall⟩ := mem_ready.1 hj
    have hnot : ∀ e ∈ oj.after, Region.binds md e = true → e.on ≠ i := fun e he hb heq => by
     have h1 := hall e he hb
     rw [heq] at h1
     exact unlisted hr h1
    have h2 := wpOp_putIf hoj (hfree j oj hoj hji hjun hnot) (fun cs b => hsel i oi cs b hi) (fun cs b => hsel j oj cs b hoj) hQ hy h1
    have hfree' : ∀ k ok, ops[k]? = some ok → k ≠ i → (listed.setIfInBounds j true).getD k true = false →
     (∀ e ∈ ok.after, Region.binds md e = true → e.on ≠ i) → oi.apart ops ok = true := fun k ok hk hki hun hno => by
     refine hfree k ok hk hki ?_ hno
     by_cases hjk : j = k
     ·subst hjk
      exact hjun
     ·rw [getD_set_ne true hjk] at hun
      exact hun
    refine wpOp_mono (fun a' w' h3 => ⟨h3.2.1, ih (listed.setIfInBounds j true) a' w' hfree' (ready_mono hr (Ne.symm hji)) h3.1 (h3.2.1 hjz) ?_⟩) h2
    rw [Array.setIfInBounds_comm _ _ hji]
    exact h3.2.2
theorem wpAnyG_take {i : Nat} {oi : Oper} {v : Value} {fuel : Nat} {listed : Array Bool} {a : Act} {w : World} (hi : ops[i]? = some oi)
 (hs : Region.noSelect ops = true) (hz : (ops[z]?).map (fun oz => oz.after.any fun e => Region.binds md e && (e.on == i)) = some true) (hiz : i ≠ z) (hf : Region.free md ops listed i = true) (hr : (Region.ready md ops listed).contains i = true)
 (hQ : ∀ c a w, Q (.panic c) (a.put oi.dst v) w → Q (.panic c) a w) (hy : YieldsIf P ops S oi v a) (hS : S w)
 (h : wpAnyG P md ops Q S z fuel (listed.setIfInBounds i true) (a.put oi.dst v) w) : wpAnyG P md ops Q S z (fuel + 1) listed a w := by
 refine wpAnyG_first hi (Region.noSelect_spec hs) ?_ hiz hQ fuel listed a w (Region.free_spec hi hf) (by simpa using hr) hy hS h
 obtain ⟨oz, hoz, ha⟩ := Option.map_eq_some_iff.1 hz
 obtain ⟨e, he, hb⟩ := Array.any_eq_true'.1 ha
 simp only [Bool.and_eq_true, beq_iff_eq] at hb
 exact ⟨oz, hoz, e, he, hb.1, hb.2⟩
theorem takeG (i : Nat) (d : Option Tmp) {v : Value} {fuel : Nat} {listed : Array Bool} {a : Act} {w : World} (hd : (ops[i]?).map Oper.dst = some d) (hw : (ops[i]?).map (fun o => Region.wanted o (yielded ops a.tmps)) = some true)
 (hs : Region.noSelect ops = true) (hz : (ops[z]?).map (fun oz => oz.after.any fun e => Region.binds md e && (e.on == i)) = some true) (hiz : i ≠ z) (hf : Region.free md ops listed i = true) (hr : (Region.ready md ops listed).contains i = true)
 (hQ : ∀ c a w, Q (.panic c) (a.put d v) w → Q (.panic c) a w) (hy : ∀ o, ops[i]? = some o → ∀ w, S w → (execOp a.eval o).run P w = .ok (.value v) w) (hS : S w)
 (h : wpAnyG P md ops Q S z fuel (listed.setIfInBounds i true) (a.put d v) w) : wpAnyG P md ops Q S z (fuel + 1) listed a w := by
 cases ho : ops[i]? with
 | none => rw [ho] at hd; cases hd
 | some o =>
   rw [ho] at hd hw
   simp only [Option.map_some, Option.some.injEq] at hd hw
   subst hd
   exact wpAnyG_take ho hs hz hiz hf hr hQ (Or.inl ⟨hw, hy o ho⟩) hS h
theorem readyG {i : Nat} {o : Oper} {fuel : Nat} {listed : Array Bool} {a : Act} {w : World} (hr : Region.ready md ops listed = [i]) (ho : ops[i]? = some o)
 (h : ∀ K' : Act → World → Prop, Shut (∀ a w, S w → (S w → wpAnyG P md ops Q S z fuel (listed.setIfInBounds i true) a w) → K' a w) → if Region.wanted o (yielded ops a.tmps) = true then Oper.wp P o a w K' Q else K' (a.put o.dst undef) w) : wpAnyG P md ops Q S z (fuel + 1) listed a w :=
 ⟨fun h0 => (by rw [hr] at h0; cases h0), fun j hj => by
  rw [hr, List.mem_singleton] at hj
  subst hj
  exact wpOp_step ho (fun K' hK => h K' (fun a w hS hW => hK a w ⟨fun _ => hS, hW hS⟩))⟩
theorem lastG {o : Oper} {fuel : Nat} {listed : Array Bool} {a : Act} {w : World} (hr : Region.ready md ops listed = [z]) (ho : ops[z]? = some o)
 (h : ∀ K' : Act → World → Prop, Shut (∀ a w, wpAnyG P md ops Q S z fuel (listed.setIfInBounds z true) a w → K' a w) → if Region.wanted o (yielded ops a.tmps) = true then Oper.wp P o a w K' Q else K' (a.put o.dst undef) w) : wpAnyG P md ops Q S z (fuel + 1) listed a w :=
 ⟨fun h0 => (by rw [hr] at h0; cases h0), fun j hj => by
  rw [hr, List.mem_singleton] at hj
  subst hj
  exact wpOp_step ho (fun K' hK => h K' (fun a w hW => hK a w ⟨fun hne => absurd rfl hne, hW⟩))⟩
theorem doneG {listed : Array Bool} {a : Act} {w : World} (hr : Region.ready md ops listed = []) (h : Q .normal a w) : ∀ fuel, wpAnyG P md ops Q S z fuel listed a w
 | 0 => ⟨hr, h⟩
 | _ + 1 => ⟨fun _ => h, by rw [hr]; simp⟩
theorem beginG (z : Nat) {id : Nat} {a : Act} {w : World} (hm : P.follows .mixedOrders = true) (hS : S w.drew)
 (h : S w.drew → wpAnyG P .any ops Q S z ops.size (Array.replicate ops.size false) a w.drew) : (Code.region id ops true).wp P Q a w :=
 wp_region_any hm (wpAny_of_G _ _ _ _ (h hS))
end
end Go.Proofs.YtlcalajehnaenaaGreatDoor
namespace Go.Proofs.YtlcalajehnaenaaGreatDoor
open Go.RowKit
theorem eqLot (f a f' a' : Int) (w : World) : (binOp .eql 163 (.agg #[.int .i64 f, .int .i64 a, .int .i64 0]) (.agg #[.int .i64 f', .int .i64 a', .int .i64 0])).run Tryz.prog w = .ok (.bool (decide (f = f' ∧ a = a'))) w := by
 have u3 := Tryz.underlying3
 have a3 := Tryz.isAgg3
 have z3 := Tryz.sizeOf3
 have hS : Tryz.prog.underlying 163 = some (.struct (Tryz.prog.fieldsOf 163)) := by kernel_rfl
 have hp : Tryz.prog.stoodInHeld 163 = false := by kernel_rfl
 rw [run_eql_struct, show (10000 : Nat) = 9999 + 1 from rfl, run_equalIn_agg w 9999 163 _ _ hS hp]
 simp only [Program.fieldsOf, Tryz.underlying163]
 go_simp
 by_cases h1 : f = f' <;> by_cases h2 : a = a' <;> simp [h1, h2]
def contL (x y : Lot) : Bool := decide (x.flow = y.flow) && decide (x.at_ = y.at_ + y.n)
set_option maxRecDepth 100000 in
theorem cont_any (x y : Lot) (w : World) (hy : y.ok) :
 Calls Tryz.prog 217 #[.agg #[.int .i64 x.flow, .int .i64 x.at_, .int .i64 x.n], .agg #[.int .i64 y.flow, .int .i64 y.at_, .int .i64 y.n]] w fun e w' => e = .returned (.bool (contL x y)) ∧ Below w.heap.size w w' := by
 obtain ⟨f, a, n⟩ := x
 obtain ⟨f', a', n'⟩ := y
 unfold contL
 unfold Lot.ok MaxU at hy
 dsimp only at hy ⊢
 have hw : IntKind.i64.wrap (a' + n') = a' + n' := IntWalk.i64_in _ (by omega)
 have he := eqLot f a f' (a' + n')
 have HB := Lib.hid (((Below.refl w.heap.size w).alloc (Nat.le_refl _) (.cells #[.int .i64 f, .int .i64 a, .int .i64 n] 163)).alloc (by simp) (.cells #[.int .i64 f', .int .i64 a', .int .i64 n'] 163))
 go_enter Tryz.func217, Tryz.ntmps217
 go_wp2
 go_ret
 exact ⟨rfl, HB.out⟩
def LotsOwn (w : World) (B : Nat) (A : Option Addr) (n c : Nat) (ls : List Lot) : Prop := ls.length = n ∧ w.ownsRow B 163 3 (.slice A n c) n (ls.flatMap lotV)
theorem LotsOwn.at_ {w : World} {B : Nat} {A : Option Addr} {n c : Nat} {ls : List Lot} (h : LotsOwn w B A n c ls) : LotsAt w A n c ls := by
 obtain ⟨hl, ho⟩ := h
 refine ⟨hl, ?_, own_cap ho, RowT.of_own ho⟩
 rcases ho.2 with ⟨h2, h0⟩ | ⟨g, cap, cur, h2, -, -, hnc, -⟩
 ·injection h2 with _ h3 h4
  omega
 ·injection h2 with _ h3 h4
  omega
theorem LotsOwn.nil (w : World) (B : Nat) : LotsOwn w B none 0 0 [] := ⟨rfl, World.ownsRow_nil _ _ _ _⟩
theorem LotsOwn.mod {w w' : World} {B : Nat} {A : Option Addr} {n c : Nat} {ls : List Lot} {F : Nat → Prop} (h : LotsOwn w B A n c ls) (m : Mod F w w') (hF : ∀ b, (Value.slice A n c).ownBlock = some b → ¬ F b) : LotsOwn w' B A n c ls := ⟨h.1, m.own h.2 hF⟩
theorem LotsOwn.all {w w' : World} {B : Nat} {A : Option Addr} {n c : Nat} {ls : List Lot} (h : LotsOwn w B A n c ls) (hb : Below w.heap.size w w') : LotsOwn w' B A n c ls := h.mod (F := fun _ => False) (Mod.of_below _ hb) (fun _ _ hf => hf)
theorem slT_lots : SlT Tryz.prog 38 163 3 24 := SlT.of Tryz.underlying38 (by kernel_rfl) (by decide)
def PutPost (B : Nat) (A : Option Addr) (n c : Nat) (ls' : List Lot) (w : World) (e : Ending) (w' : World) : Prop :=
 ∃ A' n' c', e = .returned (.slice A' n' c') ∧ LotsOwn w' B A' n' c' ls' ∧ Mod (fun b => (Value.slice A n c).ownBlock = some b) w w' ∧ ∀ b, (Value.slice A' n' c').ownBlock = some b → (Value.slice A n c).ownBlock = some b ∨ w.heap.size ≤ b
theorem own_frzL {w : World} {base e size n m c g : Nat} {xs : List Value} (h : w.ownsRow base e size (.slice (some ⟨g, 0, none⟩) m c) n xs) (i : Nat) : w.frozen? ⟨g, i, none⟩ = false := by
 rcases h.2 with ⟨h, _⟩ | ⟨g1, cap, cur, h, _, hh, _⟩
 ·cases h
 ·injection h with h _ _
  injection h with h
  injection h with h _ _
  subst h
  simp [World.frozen?, hh]
theorem keep6 {w w' : World} {gx b o f a m f2 a2 m2 : _} (h : Below w.heap.size w w') (h1 : gx < w.heap.size) (h2 : b < w.heap.size) (hc : w.cell? ⟨gx, 0, none⟩ = some f ∧ w.cell? ⟨gx, 1, none⟩ = some a ∧ w.cell? ⟨gx, 2, none⟩ = some m ∧ w.cell? ⟨b, o, none⟩ = some f2 ∧ w.cell? ⟨b, o + 1, none⟩ = some a2 ∧ w.cell? ⟨b, o + 2, none⟩ = some m2) :
 w'.cell? ⟨gx, 0, none⟩ = some f ∧ w'.cell? ⟨gx, 1, none⟩ = some a ∧ w'.cell? ⟨gx, 2, none⟩ = some m ∧ w'.cell? ⟨b, o, none⟩ = some f2 ∧ w'.cell? ⟨b, o + 1, none⟩ = some a2 ∧ w'.cell? ⟨b, o + 2, none⟩ = some m2 := by
 obtain ⟨c0, c1, c2, c3, c4, c5⟩ := hc
 exact ⟨(h.cell (p := ⟨gx, 0, none⟩) h1).trans c0, (h.cell (p := ⟨gx, 1, none⟩) h1).trans c1, (h.cell (p := ⟨gx, 2, none⟩) h1).trans c2, (h.cell (p := ⟨b, o, none⟩) h2).trans c3, (h.cell (p := ⟨b, o + 1, none⟩) h2).trans c4, (h.cell (p := ⟨b, o + 2, none⟩) h2).trans c5⟩
set_option maxRecDepth 100000 in
theorem put_zero (B : Nat) (A : Option Addr) (n c : Nat) (ls : List Lot) (x : Lot) (w : World) (HO : Hid (LotsOwn w B A n c ls)) (h0 : x.n = 0) :
 Calls Tryz.prog 193 #[.slice A n c, .agg #[.int .i64 x.flow, .int .i64 x.at_, .int .i64 x.n]] w (PutPost B A n c (putL ls x) w) := by
 rw [putL_zero h0]
 obtain ⟨f, a, m⟩ := x
 dsimp only at h0 ⊢
 subst h0
 have hb := (Below.refl w.heap.size w).alloc (Nat.le_refl _) (.cells #[.int .i64 f, .int .i64 a, .int .i64 0] 163)
 have HP : Hid (PutPost B A n c ls w (.returned (.slice A n c)) (w.alloc (.cells #[.int .i64 f, .int .i64 a, .int .i64 0] 163))) := Lib.hid ⟨A, n, c, rfl, HO.out.all hb, Mod.of_below _ hb, fun _ h => .inl h⟩
 clear hb
 go_enter Tryz.func193, Tryz.ntmps193
 go_wp2
 go_ret
 exact HP.out
set_option maxRecDepth 100000 in
theorem put_nil (B : Nat) (A : Option Addr) (c : Nat) (x : Lot) (w : World) (HO : Hid (LotsOwn w B A 0 c [])) (hB : B ≤ w.heap.size) (h0 : x.n ≠ 0) :
 Calls Tryz.prog 193 #[.slice A 0 c, .agg #[.int .i64 x.flow, .int .i64 x.at_, .int .i64 x.n]] w (PutPost B A 0 c (putL [] x) w) := by
 rw [putL_nil h0]
 obtain ⟨f, a, m⟩ := x
 dsimp only at h0 ⊢
 have hm : (m == 0) = false := by simpa using h0
 have HX : Hid ((⟨f, a, m⟩ : Lot).n ≠ 0) := Lib.hid h0
 go_enter Tryz.func193, Tryz.ntmps193
 go_upto_region 4 with (fail)
 go_region
 go_upto_region 7 with (fail)
 have HB1 := Lib.hid (((Below.refl w.heap.size w).alloc (Nat.le_refl _) (.cells #[.int .i64 f, .int .i64 a, .int .i64 m] 163)).drew)
 have hz1 : (w.alloc (.cells #[.int .i64 f, .int .i64 a, .int .i64 m] 163)).drew.heap.size = w.heap.size + 1 := by simp
 have k0 : (w.alloc (.cells #[.int .i64 f, .int .i64 a, .int .i64 m] 163)).drew.cell? ⟨w.heap.size, 0, none⟩ = some (.int .i64 f) := by simp
 have k1 : (w.alloc (.cells #[.int .i64 f, .int .i64 a, .int .i64 m] 163)).drew.cell? ⟨w.heap.size, 1, none⟩ = some (.int .i64 a) := by simp
 have k2 : (w.alloc (.cells #[.int .i64 f, .int .i64 a, .int .i64 m] 163)).drew.cell? ⟨w.heap.size, 2, none⟩ = some (.int .i64 m) := by simp
 have HO1 := Lib.hid (HO.out.all HB1.out)
 obtain ⟨w1, hw1⟩ : ∃ w1, w1 = (w.alloc (.cells #[.int .i64 f, .int .i64 a, .int .i64 m] 163)).drew := ⟨_, rfl⟩
 rw [← hw1] at HB1 hz1 k0 k1 k2 HO1 ⊢
 have HW1 := Lib.hid hz1
 have hn : (0 : Nat) < 1000000 := by decide
 clear hw1 hz1
 have hnew := Blk.new w1 163 #[.int .i64 f, .int .i64 a, .int .i64 m]
 have hba := (Below.refl w1.heap.size w1).alloc (Nat.le_refl _) (.cells #[.int .i64 f, .int .i64 a, .int .i64 m] 163)
 have hO2 := HO1.out.all hba
 obtain ⟨g, cap, w3, hrun, ho3, hg3, hgb⟩ := run_append1 (P := Tryz.prog) (ty := 38) slT_lots hO2.2 hnew rfl (by intro u hu; simp at hu; rcases hu with rfl | rfl | rfl <;> rfl) (by omega) (by decide) (by have := HB1.out.size; simp; omega)
 have HP : Hid (PutPost B A 0 c ([] ++ [⟨f, a, m⟩]) w (.returned (.slice (some ⟨g, 0, none⟩) (0 + 1) cap)) w3) := Lib.hid ⟨_, _, _, rfl, ⟨by rw [List.length_append, HO.out.1]; rfl, by rw [List.flatMap_append]; exact ho3⟩, (Mod.of_below _ (bt HB1.out hba)).then_grown hg3 (fun g e => .inl e), fun b hb => by
  have hb' : g = b := by simpa [Value.ownBlock] using hb
  subst hb'
  rcases hgb with e | e
  ·exact .inl e.symm
  ·have := HB1.out.size
   have h2 : (w1.alloc (.cells #[.int .i64 f, .int .i64 a, .int .i64 m] 163)).heap.size = w1.heap.size + 1 := by simp
   exact .inr (by omega)⟩
 clear hnew hba hO2 ho3 hg3 hgb HO1
 go_wp2_with (at_builtin; refine wpList_append_run hrun rfl rfl rfl rfl ?_; clear hrun)
 go_ret
 exact HP.out
set_option maxRecDepth 100000 in
set_option maxHeartbeats 4000000 in
theorem put_some (B : Nat) (A : Option Addr) (n q c : Nat) (ls : List Lot) (l x : Lot) (w : World) (HO : Hid (LotsOwn w B A n c (ls ++ [l]))) (HQ : Hid (n = q + 1)) (hB : B ≤ w.heap.size) (h0 : x.n ≠ 0) (hl : l.ok) (hx : x.piece) (hn : n < 1000000) :
 Calls Tryz.prog 193 #[.slice A n c, .agg #[.int .i64 x.flow, .int .i64 x.at_, .int .i64 x.n]] w (PutPost B A n c (putL (ls ++ [l]) x) w) := by
 have HLO := Lib.hid hl
 have HPX := Lib.hid hx
 have hlen := HO.out.1
 have hq : q < n := by have := HQ.out; omega
 have hls : ls.length = q := by have := HQ.out; rw [List.length_append, List.length_singleton] at hlen; omega
 obtain ⟨b, rfl, hb1, hb2⟩ := own_some HO.out.2 (by omega)
 obtain ⟨b', off, e, -, htb, l', hl', c0, c1, c2⟩ := HO.out.at_.at_ hq
 injection e with e
 injection e with e1 e2 _
 subst e1 e2
 rw [List.getElem?_append_right (by omega), hls, Nat.sub_self, List.getElem?_cons_zero, Option.some.injEq] at hl'
 subst hl'
 rw [Nat.zero_add] at c0 c1 c2
 obtain ⟨f, a, m⟩ := x
 obtain ⟨f2, a2, m2⟩ := l
 dsimp only at h0 c0 c1 c2
 have hm : (m == 0) = false := by simpa using h0
 have HX := Lib.hid h0
 have hqI : (q : Int) < (n : Int) := by omega
 have hnI : (0 : Int) < (n : Int) := by omega
 have hq0 : (0 : Int) ≤ (q : Int) := by omega
 have hw : IntKind.i64.wrap ((n : Int) - 1) = (q : Int) := by have := HQ.out; rw [IntWalk.i64_in _ (by omega)]; omega
 have hbnd : 0 ≤ m ∧ m ≤ 1099511627776 ∧ 1 ≤ m2 ∧ m2 ≤ 1099511627776 := by
  unfold Lot.piece MaxU at hx
  unfold Lot.ok MaxU at hl
  dsimp only at hx hl
  omega
 have HLS := Lib.hid hls
 have HTB := Lib.hid htb
 clear hl hx hlen hls htb
 go_enter Tryz.func193, Tryz.ntmps193
 go_upto_region 4 with (fail)
 have HB1 := Lib.hid ((Below.refl w.heap.size w).alloc (Nat.le_refl _) (.cells #[.int .i64 f, .int .i64 a, .int .i64 m] 163))
 have hz1 : (w.alloc (.cells #[.int .i64 f, .int .i64 a, .int .i64 m] 163)).heap.size = w.heap.size + 1 := by simp
 have k0 : (w.alloc (.cells #[.int .i64 f, .int .i64 a, .int .i64 m] 163)).cell? ⟨w.heap.size, 0, none⟩ = some (.int .i64 f) := by simp
 have k1 : (w.alloc (.cells #[.int .i64 f, .int .i64 a, .int .i64 m] 163)).cell? ⟨w.heap.size, 1, none⟩ = some (.int .i64 a) := by simp
 have k2 : (w.alloc (.cells #[.int .i64 f, .int .i64 a, .int .i64 m] 163)).cell? ⟨w.heap.size, 2, none⟩ = some (.int .i64 m) := by simp
 have HO1 := Lib.hid (HO.out.all HB1.out)
 have k3 := (HB1.out.cell (p := ⟨b, q * 3, none⟩) hb2).trans c0
 have k4 := (HB1.out.cell (p := ⟨b, q * 3 + 1, none⟩) hb2).trans c1
 have k5 := (HB1.out.cell (p := ⟨b, q * 3 + 2, none⟩) hb2).trans c2
 obtain ⟨w1, hw1⟩ : ∃ w1, w1 = w.alloc (.cells #[.int .i64 f, .int .i64 a, .int .i64 m] 163) := ⟨_, rfl⟩
 rw [← hw1] at HB1 hz1 k0 k1 k2 k3 k4 k5 HO1 ⊢
 obtain ⟨gx, hgx⟩ : ∃ gx, w.heap.size = gx := ⟨_, rfl⟩
 rw [hgx] at k0 k1 k2 ⊢
 have HGX := Lib.hid (show gx < w1.drew.heap.size by show gx < w1.heap.size; omega)
 have HGB := Lib.hid (show b < w1.drew.heap.size by show b < w1.heap.size; omega)
 have HGE := Lib.hid (And.intro hgx (show b ≠ gx by omega))
 have hbx : b < gx := by omega
 have HS4 := Lib.hid (show w1.drew.cell? ⟨gx, 0, none⟩ = some (.int .i64 f) ∧ w1.drew.cell? ⟨gx, 1, none⟩ = some (.int .i64 a) ∧ w1.drew.cell? ⟨gx, 2, none⟩ = some (.int .i64 m) ∧ w1.drew.cell? ⟨b, q * 3, none⟩ = some (.int .i64 f2) ∧ w1.drew.cell? ⟨b, q * 3 + 1, none⟩ = some (.int .i64 a2) ∧ w1.drew.cell? ⟨b, q * 3 + 2, none⟩ = some (.int .i64 m2) from ⟨k0, k1, k2, k3, k4, k5⟩)
 clear hw1 hz1 hgx k0 k1 k2 k3 k4 k5 c0 c1 c2 hb1 hb2
 refine wp_region_held_drew (S := (fun y => y.cell? ⟨gx, 0, none⟩ = some (.int .i64 f) ∧ y.cell? ⟨gx, 1, none⟩ = some (.int .i64 a) ∧ y.cell? ⟨gx, 2, none⟩ = some (.int .i64 m) ∧ y.cell? ⟨b, q * 3, none⟩ = some (.int .i64 f2) ∧ y.cell? ⟨b, q * 3 + 1, none⟩ = some (.int .i64 a2) ∧ y.cell? ⟨b, q * 3 + 2, none⟩ = some (.int .i64 m2))) (by kernel_rfl) HS4.out (fun hHeld => ?_)
 refine takeJ 0 (some 12) ?_
 refine takeI 1 (some 13) (v := (.bool true)) ?_ ?_
 skip
 ·(intro o ho w hSw; obtain ⟨z0, z1, z2, z3, z4, z5⟩ := hSw; cases ho; go_simp; omega)
 try simp only [Act.put, pB, pC, pD]
 refine takeJ 2 (some 14) ?_
 first | refine skipJ 3 (some 15) ?_ | refine takeJ 3 (some 15) ?_
 first | refine skipJ 4 (some 16) ?_ | refine takeJ 4 (some 16) ?_
 first | refine skipJ 5 (some 17) ?_ | refine takeJ 5 (some 17) ?_
 first | refine skipJ 6 (some 18) ?_ | refine takeJ 6 (some 18) ?_
 first | refine skipJ 7 (some 19) ?_ | refine takeJ 7 (some 19) ?_
 first | refine skipJ 8 (some 20) ?_ | refine takeJ 8 (some 20) ?_
 refine wpAnyH_ready (rs := [9]) (by kernel_rfl) (by simp) ?_
 refine AllReadyH.cons rfl (fun K hK => ?_) AllReadyH.nil
 go_simp
 go_at_call 217
 (refine (cont_any ⟨f, a, m⟩ ⟨f2, a2, m2⟩ _ HLO.out).mono ?_)
 rintro e w3 ⟨rfl, hb3⟩
 have HB3 := Lib.hid hb3
 have HS3 := Lib.hid (keep6 HB3.out HGX.out HGB.out HS4.out)
 clear hb3
 go_wp2
 refine hK.out _ _ ?_ (fun hH4 => ?_)
 ·exact HS3.out
 clear hK K
 try simp only [Act.put, pB, pC, pD]
 refine takeJ 10 (some 22) ?_
 refine wpAnyH_done (by kernel_rfl) ?_ _
 obtain ⟨k0, k1, k2, k3, k4, k5⟩ := HS3.out
 have HB13 := Lib.hid (bt HB1.out (bt (Below.refl w1.heap.size w1).drew HB3.out))
 have HO3 := Lib.hid ((HO1.out.all (Below.refl w1.heap.size w1).drew).all HB3.out)
 obtain ⟨cc, hcc⟩ : ∃ cc, contL ⟨f, a, m⟩ ⟨f2, a2, m2⟩ = cc := ⟨_, rfl⟩
 rw [hcc]
 have HCC := Lib.hid hcc
 clear hcc
 cases cc
 ·have hno : ¬ (f = f2 ∧ a = a2 + m2) := by
   have := HCC.out
   unfold contL at this
   simpa using this
  have hput : putL (ls ++ [⟨f2, a2, m2⟩]) ⟨f, a, m⟩ = (ls ++ [⟨f2, a2, m2⟩]) ++ [⟨f, a, m⟩] := by rw [putL_snoc HX.out hno, List.append_assoc]; rfl
  have HPUT := Lib.hid hput
  clear hno hput
  go_upto_region 7 with (fail)
  have hnew := Blk.new w3 163 #[.int .i64 f, .int .i64 a, .int .i64 m]
  have hba := (Below.refl w3.heap.size w3).alloc (Nat.le_refl _) (.cells #[.int .i64 f, .int .i64 a, .int .i64 m] 163)
  have hO2 := HO3.out.all hba
  obtain ⟨g, cap, w5, hrun, ho3, hg3, hgb⟩ := run_append1 (P := Tryz.prog) (ty := 38) slT_lots hO2.2 hnew rfl (by intro u hu; simp at hu; rcases hu with rfl | rfl | rfl <;> rfl) (by omega) (by decide) (by have := HB13.out.size; simp; omega)
  have HP : Hid (PutPost B (some ⟨b, 0, none⟩) n c ((ls ++ [⟨f2, a2, m2⟩]) ++ [⟨f, a, m⟩]) w (.returned (.slice (some ⟨g, 0, none⟩) (n + 1) cap)) w5) := Lib.hid ⟨_, _, _, rfl, ⟨by rw [List.length_append, HO.out.1]; rfl, by rw [List.flatMap_append]; exact ho3⟩, (Mod.of_below _ (bt HB13.out hba)).then_grown hg3 (fun g e => .inl e), fun b hb => by
   have hb' : g = b := by simpa [Value.ownBlock] using hb
   subst hb'
   rcases hgb with e | e
   ·exact .inl e.symm
   ·have := HB13.out.size
    have h2 : (w3.alloc (.cells #[.int .i64 f, .int .i64 a, .int .i64 m] 163)).heap.size = w3.heap.size + 1 := by simp
    exact .inr (by omega)⟩
  clear hnew hba hO2 ho3 hg3 hgb HO3
  go_wp2_with (at_builtin; refine wpList_append_run hrun rfl rfl rfl rfl ?_; clear hrun)
  go_ret
  rw [HPUT.out]
  exact HP.out
 ·have hyes : f = f2 ∧ a = a2 + m2 := by
   have := HCC.out
   unfold contL at this
   simpa using this
  obtain ⟨e1, e2⟩ := hyes
  have hput : putL (ls ++ [⟨f2, a2, m2⟩]) ⟨f, a, m⟩ = ls ++ [⟨f2, a2, m2 + m⟩] := putL_join HX.out e1 e2
  have HPUT := Lib.hid hput
  have hwr : IntKind.i64.wrap (m2 + m) = m2 + m := IntWalk.i64_in _ (by omega)
  have hfz := own_frzL HO3.out.2 (q * 3 + 2)
  have HP : ∀ k, Hid (PutPost B (some ⟨b, 0, none⟩) n c (ls ++ [⟨f2, a2, m2 + m⟩]) w (.returned (.slice (some ⟨b, 0, none⟩) n c)) ((w3.setCell ⟨b, q * 3 + 2, none⟩ (.int .i64 (m2 + m))).drewN k)) := fun k => Lib.hid (by
   have hs := (HO3.out.2.stored (q * 3 + 2) (.int .i64 (m2 + m))).1
   rw [flatT_set lotV 3 lotV_len ⟨f2, a2, m2 + m⟩ 2 (by decide) _ _ q (by rw [List.length_append, HLS.out]; simp) (by rw [List.getElem_append_right (by rw [HLS.out]; exact Nat.le_refl _)]; simp [lotV, HLS.out]), List.set_append_right _ _ (by rw [HLS.out]; exact Nat.le_refl _), HLS.out, Nat.sub_self, List.set_cons_zero] at hs
   have hbk : Below (w3.setCell ⟨b, q * 3 + 2, none⟩ (.int .i64 (m2 + m))).heap.size (w3.setCell ⟨b, q * 3 + 2, none⟩ (.int .i64 (m2 + m))) ((w3.setCell ⟨b, q * 3 + 2, none⟩ (.int .i64 (m2 + m))).drewN k) := below_drewN (Below.refl _ _) k
   have hl : LotsOwn (w3.setCell ⟨b, q * 3 + 2, none⟩ (.int .i64 (m2 + m))) B (some ⟨b, 0, none⟩) n c (ls ++ [⟨f2, a2, m2 + m⟩]) := ⟨by rw [List.length_append, HLS.out, HQ.out]; rfl, hs⟩
   have hm : Mod (fun g => (Value.slice (some ⟨b, 0, none⟩) n c).ownBlock = some g) w (w3.setCell ⟨b, q * 3 + 2, none⟩ (.int .i64 (m2 + m))) := (Mod.of_below (fun g => (Value.slice (some ⟨b, 0, none⟩) n c).ownBlock = some g) HB13.out).set (p := ⟨b, q * 3 + 2, none⟩) (.inl rfl) _
   exact ⟨_, _, _, rfl, hl.all hbk, hm.then_below hbk, fun g hg => .inl hg⟩)
  clear e1 e2 hput
  go_upto_region 5 with (fail)
  go_region
  go_wp2
  go_ret
  rw [HPUT.out]
  exact (HP _).out
end Go.Proofs.YtlcalajehnaenaaGreatDoor
