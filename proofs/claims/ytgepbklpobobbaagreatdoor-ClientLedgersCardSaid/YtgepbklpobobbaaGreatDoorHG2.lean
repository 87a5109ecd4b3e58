/- proof: rows of structs that are read; sets of ints. -/
import Derived.Test.YtgepbklpobobbaaGreatDoorHG1
import Derived.Deep.RegionHeld3
import Derived.Deep.LoopGhost
import Derived.Deep.QuietTactic
import Derived.BigQuiet
import Derived.Test.YtgepbklpobobbaaGreatDoorHG0

namespace Go.Proofs.YtgepbklpobobbaaGreatDoor
open Go.RowKit

/-- A slice of structs of some cells each, that is read. -/
structure Rows {α : Type} (f : α → List Value) (size : Nat) (w : World) (s : Sl) (L : List α) : Prop where
  len : L.length = s.2.1
  cap : s.2.1 ≤ s.2.2
  max : s.2.2 ≤ 9223372036854775807
  rd : Rd w w.heap.size s.1 (L.length * size) (fun j => ((L.flatMap f)[j]?).getD undef)
section
variable {α : Type} {f : α → List Value} {size : Nat} {w w' : World} {s : Sl} {L : List α}
theorem Rows.all (h : Rows f size w s L) (hb : Below w.heap.size w w') : Rows f size w' s L := ⟨h.len, h.cap, h.max, h.rd.all hb⟩
theorem Rows.nil : Rows f size w (none, 0, 0) [] := ⟨rfl, Nat.le_refl _, by simp, by simpa using Rd.nil⟩
theorem flat_len (hf : ∀ x, (f x).length = size) (L : List α) : (L.flatMap f).length = L.length * size := by
  induction L with
  | nil => simp
  | cons x L ih => rw [List.flatMap_cons, List.length_append, ih, hf, List.length_cons, Nat.add_mul]; omega
theorem flat_at (hf : ∀ x, (f x).length = size) : ∀ (L : List α) (k i : Nat) (hk : k < L.length), i < size → (L.flatMap f)[k * size + i]? = (f L[k])[i]?
  | [], k, i, hk, _ => absurd hk (by simp)
  | x :: L, 0, i, hk, hi => by
    rw [List.flatMap_cons, Nat.zero_mul, Nat.zero_add, List.getElem?_append_left (by rw [hf]; exact hi)]
    rfl
  | x :: L, k + 1, i, hk, hi => by
    rw [List.flatMap_cons, Nat.add_mul, Nat.one_mul, List.getElem?_append_right (by rw [hf]; omega), hf]
    have e : k * size + size + i - size = k * size + i := by omega
    rw [e, flat_at hf L k i (by simpa using hk) hi]
    rfl
theorem Rows.cells (hf : ∀ x, (f x).length = size) (h : Rows f size w s L) {k : Nat} (hk : k < L.length) (hs : 0 < size) : ∃ b off, s.1 = some ⟨b, off, none⟩ ∧ b < w.heap.size ∧ ∀ i v, (f L[k])[i]? = some v → w.cell? ⟨b, off + (k * size + i), none⟩ = some v := by
  obtain ⟨b, off, e, hb, hc⟩ := h.rd (Nat.mul_pos (by omega) hs)
  refine ⟨b, off, e, hb, fun i v hv => ?_⟩
  have hi : i < size := by
    have := (List.getElem?_eq_some_iff.1 hv).1
    rw [hf] at this
    exact this
  have hlt : k * size + i < L.length * size := by
    have h1 : (k + 1) * size ≤ L.length * size := Nat.mul_le_mul_right _ hk
    rw [Nat.add_mul, Nat.one_mul] at h1
    omega
  rw [hc _ hlt]
  dsimp only
  rw [flat_at hf L k i hk hi, hv]
  rfl
theorem Rows.of_own {base e n c : Nat} {A : Option Addr} (hf : ∀ x, (f x).length = size) (h : w.ownsRow base e size (.slice A n c) n (L.flatMap f)) (hs : 0 < size) : Rows f size w (A, n, c) L := by
  have hl : L.length = n := by
    have := h.1
    rw [flat_len hf] at this
    exact Nat.eq_of_mul_eq_mul_right hs this
  rcases h.2 with ⟨h2, h0⟩ | ⟨g, cap, cur, h2, hbg, hh, hnc, hcm, hcs, htk⟩
  · injection h2 with h2 h3 h4
    subst h2 h3 h4
    refine ⟨hl, Nat.le_refl _, by simp, ?_⟩
    rw [hl, Nat.zero_mul]
    exact Rd.nil
  · injection h2 with h2 _ h3
    subst h2 h3
    refine ⟨hl, hnc, hcm, fun _ => ⟨g, 0, rfl, (Array.getElem?_eq_some_iff.1 hh).1, fun j hj => ?_⟩⟩
    rw [hl] at hj
    have hmul : n * size ≤ c * size := Nat.mul_le_mul_right _ hnc
    have hj2 : j < cur.size := by rw [hcs]; omega
    dsimp only
    rw [Nat.zero_add, ← htk, List.getElem?_take_of_lt hj]
    simp [World.cell?, hh, hj2]
end
/-- A bid, and its slice of lots. -/
structure Bd where
  bidder : Int
  price : Int
  s : Sl
  lots : List Int
def Bd.cells (b : Bd) : List Value := [.int .i64 b.bidder, .int .i64 b.price, slV b.s]
theorem Bd.cells_length (b : Bd) : b.cells.length = 3 := rfl
def Bd.val (b : Bd) : Value := .agg #[.int .i64 b.bidder, .int .i64 b.price, slV b.s]
def Bd.ok (w : World) (b : Bd) : Prop := NIn w w.heap.size b.s b.lots
theorem NIn.all {w w' : World} {s : Sl} {xs : List Int} (h : NIn w w.heap.size s xs) (hb : Below w.heap.size w w') : NIn w' w'.heap.size s xs := (h.keep (fun b hlt => hb.block b hlt)).more hb.size
theorem Bd.ok.all {w w' : World} {b : Bd} (h : b.ok w) (hb : Below w.heap.size w w') : b.ok w' := NIn.all h hb
/-- A node of a certificate, and its slice of prices. -/
structure Nd where
  bid : Int
  inn : Int
  out : Int
  s : Sl
  prices : List Int
def Nd.cells (x : Nd) : List Value := [.int .i64 x.bid, .int .i64 x.inn, .int .i64 x.out, slV x.s]
theorem Nd.cells_length (x : Nd) : x.cells.length = 4 := rfl
def Nd.ok (w : World) (x : Nd) : Prop := NIn w w.heap.size x.s x.prices
theorem Nd.ok.all {w w' : World} {x : Nd} (h : x.ok w) (hb : Below w.heap.size w w') : x.ok w' := NIn.all h hb
/-- A cell of a slice of ints. -/
theorem NIn.cell {w : World} {B : Nat} {s : Sl} {xs : List Int} (h : NIn w B s xs) {k : Nat} (hk : k < s.2.1) : ∃ b off, s.1 = some ⟨b, off, none⟩ ∧ b < B ∧ w.cell? ⟨b, off + k, none⟩ = some (.int .i64 (xs[k]?.getD 0)) := h.rd.at_ hk
end Go.Proofs.YtgepbklpobobbaaGreatDoor

/- bids: set, Conflict. -/
namespace Go.Proofs.YtgepbklpobobbaaGreatDoor
open Go.RowKit

theorem run_makeMapN {P : Program} {t kt e : TypeId} (ht : P.underlying t = some (.map kt e)) (k : IntKind) (n : Int) (w : World) : (Instr.makeMap t (some (.int k n))).run P w = .ok (.map (some w.heap.size)) (w.alloc (.map #[] 0)) := by
  simp [Instr.makeMap, run_underlying ht, asInt, Result.andThen]
  rfl
theorem NIn.drew {w : World} {s : Sl} {xs : List Int} (h : NIn w w.heap.size s xs) : NIn w.drew w.drew.heap.size s xs := h.all (w' := w.drew) ⟨rfl, rfl, rfl, Nat.le_refl _, fun _ _ => rfl⟩
end Go.Proofs.YtgepbklpobobbaaGreatDoor

/- proof: possible, decide. -/
namespace Go.Proofs.YtgepbklpobobbaaGreatDoor
open Go.RowKit

end Go.Proofs.YtgepbklpobobbaaGreatDoor

/- append of a whole row, or of one element, onto a row of the call's own. -/
namespace Go.Proofs.YtgepbklpobobbaaGreatDoor
open Go.RowKit

theorem own_split {w : World} {base e size n : Nat} {v : Value} {xs : List Value} (h : w.ownsRow base e size v n xs) : ∃ A c, v = .slice A n c := by
  rcases h.2 with ⟨h, h0⟩ | ⟨g1, cap, cur, h, _⟩
  · exact ⟨none, 0, by rw [h, h0]⟩
  · exact ⟨_, _, h⟩
theorem own_below {w w' : World} {base e size n : Nat} {v : Value} {xs : List Value} (h : w.ownsRow base e size v n xs) (hg : w.grownBy w' v.ownBlock) (hB : base ≤ w.heap.size) : Below base w w' := by
  refine (Below.refl base w).grown hg hB (fun k e => ?_)
  rcases h.2 with ⟨rfl, _⟩ | ⟨g, cap, cur, rfl, hg2, _⟩
  · cases e
  · simp [Value.ownBlock] at e
    omega
section
variable {P : Program} {w : World} {base t e size bytes n : Nat} {v : Value} {xs : List Value}
/-- append of a slice whose cells are known. -/
theorem app_cells {ty : TypeId} (hT : SlT P t e size bytes) (hown : w.ownsRow base e size v n xs) (A : Option Addr) (m c : Nat) (news : List Value) (hl : news.length = m * size) (hA : A = none → m = 0)
    (hnews : ∀ ad, A = some ad → ∀ j u, news[j]? = some u → w.cell? (ad.add j) = some u) (h1 : ∀ u ∈ news, u.oneCell' = true) (hn : n + m < 1099511627776) (hby : bytes ≤ 64) (hbase : base ≤ w.heap.size) :
    ∃ A' c' w', (Builtin.append_ #[t, t] ty #[v, .slice A m c]).run P w = .ok (.slice A' (n + m) c') w' ∧ w'.ownsRow base e size (.slice A' (n + m) c') (n + m) (xs ++ news) ∧ Below base w w' := by
  have hT' := hT
  obtain ⟨i, z, ht, hi, hz, hs, hb, hzs, hsz⟩ := hT
  rcases A with _ | ad
  · have hm := hA rfl
    subst hm
    have hnil : news = [] := List.eq_nil_of_length_eq_zero (by simpa using hl)
    subst hnil
    obtain ⟨A', c', rfl⟩ := own_split hown
    refine ⟨A', c', w, ?_, by simpa using hown, Below.refl _ _⟩
    rcases hown.2 with ⟨h, h0⟩ | ⟨g, cap, cur, h, _, _, hnc, _⟩
    · cases h
      simp [Builtin.append_, run_underlying ht, sizeOf, typeInfo, hi, Builtin.lenOf, Builtin.firstCells]
    · injection h with h _ h3
      subst h h3
      simp [Builtin.append_, run_underlying ht, sizeOf, typeInfo, hi, Builtin.lenOf, Builtin.firstCells, hnc, storeCells]
  · have hmul : (n + m) * bytes ≤ 140737488355328 := Nat.le_trans (Nat.mul_le_mul (show n + m ≤ 1099511627776 by omega) hby) (by decide)
    obtain ⟨v', w', hrun, h2, h3, _, h5⟩ := run_append_own_at (P := P) w base t ty e i z size bytes ht hi hz hs hb hzs hsz v n xs hown ad m c news hl (hnews ad rfl) h1 (by unfold maxLen; omega) hmul hbase
    obtain ⟨A', c', rfl⟩ := own_split h2
    exact ⟨A', c', w', hrun, h2, own_below hown h3 hbase⟩
/-- A step of a region that draws: append, its guard met. -/
theorem step_app {w w' : World} {ops : Array Oper} {o : Oper} {a : Act} {K : Act → World → Prop} {Q : Exit → Act → World → Prop} {E : Prop} {s x : Operand} {v vx v' : Value} (hrun : (Builtin.append_ #[t, t] o.type #[v, vx]).run P w = .ok v' w')
    (hw : Region.wanted o (yielded ops a.tmps) = true) (ho : o.op = .call { callee := .builtin .append, args := #[s, x], argTypes := #[t, t] }) (hs : a.eval s = v) (hx : a.eval x = vx)
    (hK : K (a.put o.dst v') w') : if Region.wanted o (yielded ops a.tmps) = true then Oper.wp P o a w K Q else E := by
  rw [if_pos hw]
  unfold Oper.wp
  simp [execOp, ho, resolve, invoke, builtin, hs, hx, hrun, Result.andThen]
  exact hK
end
/-- What reads as cells. -/
theorem Rows.news {α : Type} {f : α → List Value} {size : Nat} {w : World} {s : Sl} {L : List α} (hf : ∀ x, (f x).length = size) (h : Rows f size w s L) : ∀ ad, s.1 = some ad → ∀ j u, (L.flatMap f)[j]? = some u → w.cell? (ad.add j) = some u := by
  intro ad e j u hu
  have hj := (List.getElem?_eq_some_iff.1 hu).1
  rw [flat_len hf] at hj
  obtain ⟨b, off, e2, -, hc⟩ := h.rd (by omega)
  rw [e] at e2
  injection e2 with e2
  subst e2
  have ea : (⟨b, off, none⟩ : Addr).add j = ⟨b, off + j, none⟩ := by unfold Addr.add; split <;> simp_all
  rw [ea, hc j hj]
  dsimp only
  rw [hu]
  rfl
theorem Rows.none_ {α : Type} {f : α → List Value} {size : Nat} {w : World} {s : Sl} {L : List α} (h : Rows f size w s L) (hs : 0 < size) : s.1 = none → s.2.1 = 0 := by
  intro e
  rw [← h.len]
  rcases Nat.eq_zero_or_pos L.length with h0 | h0
  · exact h0
  · obtain ⟨_, _, e2, _⟩ := h.rd (Nat.mul_pos h0 hs)
    rw [e] at e2
    cases e2
theorem NIn.news {w : World} {B : Nat} {s : Sl} {xs : List Int} (h : NIn w B s xs) : ∀ ad, s.1 = some ad → ∀ j u, (xs.map (Value.int .i64))[j]? = some u → w.cell? (ad.add j) = some u := by
  intro ad e j u hu
  have hj := (List.getElem?_eq_some_iff.1 hu).1
  rw [List.length_map, h.len] at hj
  obtain ⟨b, off, e2, -, hc⟩ := h.cell hj
  rw [e] at e2
  injection e2 with e2
  subst e2
  have ea : (⟨b, off, none⟩ : Addr).add j = ⟨b, off + j, none⟩ := by unfold Addr.add; split <;> simp_all
  rw [ea, hc, ← hu]
  have hj2 : j < xs.length := by rw [h.len]; exact hj
  simp [hj2]
theorem NIn.none_ {w : World} {B : Nat} {s : Sl} {xs : List Int} (h : NIn w B s xs) : s.1 = none → s.2.1 = 0 := by
  intro e
  rcases Nat.eq_zero_or_pos s.2.1 with h0 | h0
  · exact h0
  · obtain ⟨_, _, e2, _⟩ := h.cell h0
    rw [e] at e2
    cases e2
end Go.Proofs.YtgepbklpobobbaaGreatDoor

/- Lots in memory: spans.Total, possible, Valid, Total. -/
namespace Go.Proofs.YtgepbklpobobbaaGreatDoor
open Go.RowKit

/-- A slice of lots (nil let in), by its block's type. -/
def LotsAt (w : World) (A : Option Addr) (n c : Nat) (ls : List Lot) : Prop := ls.length = n ∧ n ≤ c ∧ c ≤ 9223372036854775807 ∧ RowT w 184 A (ls.flatMap lotV)
section
variable {w w' : World} {A : Option Addr} {n c : Nat} {ls : List Lot} {F : Nat → Prop}
theorem LotsAt.nil (w : World) : LotsAt w none 0 0 [] := ⟨rfl, Nat.le_refl _, by omega, RowT.nil _ _ _⟩
theorem LotsAt.mod (h : LotsAt w A n c ls) (m : Mod F w w') (hF : ∀ b, F b → ¬ Ty w b 184) : LotsAt w' A n c ls := ⟨h.1, h.2.1, h.2.2.1, h.2.2.2.mod m hF⟩
theorem LotsAt.all (h : LotsAt w A n c ls) (hb : Below w.heap.size w w') : LotsAt w' A n c ls := h.mod (F := fun _ => False) (Mod.of_below _ hb) (fun _ hf => hf.elim)
theorem LotsAt.len (h : LotsAt w A n c ls) : ls.length = n := h.1
theorem LotsAt.at_ (h : LotsAt w A n c ls) {k : Nat} (hk : k < n) : ∃ b off, A = some ⟨b, off, none⟩ ∧ b < w.heap.size ∧ Ty w b 184 ∧ ∃ l, ls[k]? = some l ∧ w.cell? ⟨b, off + k * 3, none⟩ = some (.int .i64 l.flow) ∧ w.cell? ⟨b, off + k * 3 + 1, none⟩ = some (.int .i64 l.at_) ∧ w.cell? ⟨b, off + k * 3 + 2, none⟩ = some (.int .i64 l.n) := by
  have hk' : k < ls.length := by rw [h.1]; exact hk
  obtain ⟨b, off, e, hb, ht, hc⟩ := RowT.at_ lotV 3 lotV_len h.2.2.2 (by decide) hk'
  exact ⟨b, off, e, hb, ht, ls[k], List.getElem?_eq_getElem hk', hc 0 (by decide), by have := hc 1 (by decide); rw [← Nat.add_assoc] at this; exact this, by have := hc 2 (by decide); rw [← Nat.add_assoc] at this; exact this⟩
end
theorem totL_take_succ {ls : List Lot} {i : Nat} {l : Lot} (h : ls[i]? = some l) : totL (ls.take (i + 1)) = totL (ls.take i) + l.n := by
  obtain ⟨hi, rfl⟩ := List.getElem?_eq_some_iff.1 h
  rw [← List.take_append_getElem hi, totL_append]
  simp [totL]
theorem LotsOk.take {ls : List Lot} (h : LotsOk ls) (i : Nat) : LotsOk (ls.take i) := fun l hl => h l (List.mem_of_mem_take hl)
theorem totL_le {ls : List Lot} (h : LotsOk ls) : 0 ≤ totL ls ∧ totL ls ≤ 1099511627776 * (ls.length : Int) := by
  induction ls with
  | nil => simp [totL]
  | cons x a ih =>
    have h1 := h x (by simp)
    obtain ⟨h2, h3⟩ := ih (fun l hl => h l (by simp [hl]))
    unfold totL
    unfold Lot.ok MaxU at h1
    rw [List.length_cons]
    omega
set_option maxRecDepth 100000 in
theorem total_any (A : Option Addr) (n c : Nat) (ls : List Lot) (w : World) (HL : Hid (LotsAt w A n c ls)) (HO : Hid (LotsOk ls)) (hn : n ≤ 1000000) :
    Calls Tryz.prog 49 #[.slice A n c] w fun e w' => e = .returned (.int .i64 (totL ls)) ∧ Below w.heap.size w w' := by
  go_enter Tryz.func49, Tryz.ntmps49
  go_wp2
  go_loopg [3, 8] n (fun gk sv iv wr => ∃ i : Nat, i + gk = n ∧ iv = .int .i64 (i : Int) ∧ sv = .int .i64 (totL (ls.take i)) ∧ Hid (Below w.heap.size w wr))
  case atStart => exact ⟨0, by omega, rfl, rfl, Lib.hid (Below.refl _ _)⟩
  case round =>
    obtain ⟨i, hi, rfl, rfl, HB⟩ := hrel
    have HHI := Lib.hid hi
    rcases Nat.lt_or_ge i n with hlt | hge
    · have hltI : (i : Int) < (n : Int) := by omega
      have hi0 : (0 : Int) ≤ (i : Int) := by omega
      obtain ⟨b, off, rfl, hb, -, l, hl, k0, k1, k2⟩ := (HL.out.all HB.out).at_ hlt
      have hs := totL_take_succ hl
      obtain ⟨ht0, ht1⟩ := totL_le (HO.out.take (i + 1))
      have hlen : (ls.take (i + 1)).length ≤ 1000000 := by rw [List.length_take, HL.out.len]; omega
      have hw : IntKind.i64.wrap (totL (ls.take i) + l.n) = totL (ls.take i) + l.n := by
        rw [← hs]
        exact IntWalk.i64_in _ (by omega)
      have HS := Lib.hid hs
      have HBN := Lib.hid (bt HB.out ((Below.refl _ wr).alloc (Nat.le_refl _) (.cells #[.int .i64 l.flow, .int .i64 l.at_, .int .i64 l.n] 184)))
      clear hi hs ht0 ht1 hlen hl hb
      go_wp2
      go_roundg (n - (i + 1))
      case measure => have := HHI.out; omega
      case rel => exact ⟨i + 1, by have := HHI.out; omega, by go_num, by rw [HS.out], HBN⟩
    · obtain rfl : i = n := by omega
      have ht : ls.take i = ls := List.take_of_length_le (by rw [HL.out.len]; exact Nat.le_refl _)
      rw [ht]
      go_wp2
      go_ret
      exact ⟨rfl, HB.out⟩
theorem Lot.ok.poss {l : Lot} (h : l.ok) : 0 ≤ l.flow ∧ 0 ≤ l.at_ ∧ l.at_ ≤ 1099511627776 ∧ 1 ≤ l.n ∧ l.n ≤ 1099511627776 - l.at_ := by
  unfold Lot.ok MaxU at h
  omega
set_option maxRecDepth 100000 in
theorem poss_any (l : Lot) (w : World) (h : l.ok) :
    Calls Tryz.prog 200 #[.agg #[.int .i64 l.flow, .int .i64 l.at_, .int .i64 l.n]] w fun e w' => e = .returned (.bool true) ∧ Below w.heap.size w w' := by
  obtain ⟨h1, h2, h3, h4, h5⟩ := h.poss
  obtain ⟨f, a, n⟩ := l
  dsimp only at h1 h2 h3 h4 h5 ⊢
  have hw : IntKind.i64.wrap (1099511627776 - a) = 1099511627776 - a := IntWalk.i64_in _ (by omega)
  have HB := Lib.hid ((Below.refl w.heap.size w).alloc (Nat.le_refl _) (.cells #[.int .i64 f, .int .i64 a, .int .i64 n] 184))
  go_enter Tryz.func200, Tryz.ntmps200
  go_wp2
  go_ret
  exact ⟨rfl, HB.out⟩
set_option maxRecDepth 100000 in
theorem valid_any (A : Option Addr) (n c : Nat) (ls : List Lot) (w : World) (HL : Hid (LotsAt w A n c ls)) (HO : Hid (LotsOk ls)) (hn : n ≤ 4096) :
    Calls Tryz.prog 193 #[.slice A n c] w fun e w' => e = .returned (.bool true) ∧ Below w.heap.size w w' := by
  have hnI : ¬ (4096 < (n : Int)) := by omega
  go_enter Tryz.func193, Tryz.ntmps193
  go_wp2
  go_loopg [10] n (fun gk iv wr => ∃ i : Nat, i + gk = n ∧ iv = .int .i64 (i : Int) ∧ Hid (Below w.heap.size w wr))
  case atStart => exact ⟨0, by omega, rfl, Lib.hid (Below.refl _ _)⟩
  case round =>
    obtain ⟨i, hi, rfl, HB⟩ := hrel
    have HHI := Lib.hid hi
    rcases Nat.lt_or_ge i n with hlt | hge
    · have hltI : (i : Int) < (n : Int) := by omega
      have hi0 : (0 : Int) ≤ (i : Int) := by omega
      obtain ⟨b, off, rfl, hb, -, l, hl, k0, k1, k2⟩ := (HL.out.all HB.out).at_ hlt
      have HOK := Lib.hid (HO.out l (List.mem_of_getElem? hl))
      have HBN := Lib.hid (bt HB.out ((Below.refl _ wr).alloc (Nat.le_refl _) (.cells #[.int .i64 l.flow, .int .i64 l.at_, .int .i64 l.n] 184)))
      clear hi hl hb
      go_wp2_with fail
      refine (poss_any l _ HOK.out).mono ?_
      rintro e w2 ⟨rfl, hb2⟩
      have HB2 := Lib.hid (bt HBN.out hb2)
      clear hb2
      go_wp2
      go_roundg (n - (i + 1))
      case measure => have := HHI.out; omega
      case rel => exact ⟨i + 1, by have := HHI.out; omega, by go_num, HB2⟩
    · obtain rfl : i = n := by omega
      go_wp2
      go_ret
      exact ⟨rfl, HB.out⟩
set_option maxRecDepth 100000 in
theorem ltotal_any (A : Option Addr) (n c : Nat) (ls : List Lot) (w : World) (HL : Hid (LotsAt w A n c ls)) (HO : Hid (LotsOk ls)) (hn : n ≤ 4096) :
    Calls Tryz.prog 194 #[.slice A n c] w fun e w' => e = .returned (.int .i64 (totL ls)) ∧ Below w.heap.size w w' := by
  go_enter Tryz.func194, Tryz.ntmps194
  go_wp2_with fail
  refine (valid_any A n c ls w HL HO hn).mono ?_
  rintro e w1 ⟨rfl, hb1⟩
  have HL1 := Lib.hid (HL.out.all hb1)
  have HB1 := Lib.hid hb1
  clear hb1
  go_wp2_with fail
  refine (total_any A n c ls w1 HL1 HO (by omega)).mono ?_
  rintro e w2 ⟨rfl, hb2⟩
  have HB2 := Lib.hid (bt HB1.out hb2)
  clear hb2
  go_wp2
  go_ret
  exact ⟨rfl, HB2.out⟩
end Go.Proofs.YtgepbklpobobbaaGreatDoor

/- regions walked by hand: an operation taken, an operation passed over. -/
namespace Go.Proofs.YtgepbklpobobbaaGreatDoor
open Go.RowKit

section
variable {P : Program} {ops : Array Oper} {Q : Exit → Act → World → Prop} {md : Region.Mode} {S : World → Prop}
/-- Take an operation first, told by what it yields. -/
theorem takeH (i : Nat) (d : Option Tmp) {v : Value} {fuel : Nat} {listed : Array Bool} {a : Act} {w : World} (hd : (ops[i]?).map Oper.dst = some d) (hw : (ops[i]?).map (fun o => Region.wanted o (yielded ops a.tmps)) = some true)
    (hs : Region.noSelect ops = true) (hf : Region.free md ops listed i = true) (hr : (Region.ready md ops listed).contains i = true)
    (hQ : ∀ c a w, Q (.panic c) (a.put d v) w → Q (.panic c) a w) (hy : ∀ o, ops[i]? = some o → ∀ w, S w → (execOp a.eval o).run P w = .ok (.value v) w) (hS : S w)
    (h : wpAnyH P md ops Q S fuel (listed.setIfInBounds i true) (a.put d v) w) : wpAnyH P md ops Q S (fuel + 1) listed a w := by
  cases ho : ops[i]? with
  | none => rw [ho] at hd; cases hd
  | some o =>
    rw [ho] at hd hw
    simp only [Option.map_some, Option.some.injEq] at hd hw
    subst hd
    exact wpAnyH_take ho hs hf hr hQ (Or.inl ⟨hw, hy o ho⟩) hS h
/-- Pass over an operation whose guard is not met. -/
theorem skipH (i : Nat) (d : Option Tmp) {fuel : Nat} {listed : Array Bool} {a : Act} {w : World} (hd : (ops[i]?).map Oper.dst = some d) (hw : (ops[i]?).map (fun o => Region.wanted o (yielded ops a.tmps)) = some false)
    (hs : Region.noSelect ops = true) (hf : Region.free md ops listed i = true) (hr : (Region.ready md ops listed).contains i = true)
    (hQ : ∀ c a w, Q (.panic c) (a.put d undef) w → Q (.panic c) a w) (hS : S w)
    (h : wpAnyH P md ops Q S fuel (listed.setIfInBounds i true) (a.put d undef) w) : wpAnyH P md ops Q S (fuel + 1) listed a w := by
  cases ho : ops[i]? with
  | none => rw [ho] at hd; cases hd
  | some o =>
    rw [ho] at hd hw
    simp only [Option.map_some, Option.some.injEq] at hd hw
    subst hd
    exact wpAnyH_take ho hs hf hr hQ (Or.inr ⟨hw, rfl⟩) hS h
/-- takeH and skipH with their closed facts found by themselves. -/
theorem takeI (i : Nat) (d : Option Tmp) {v : Value} {fuel : Nat} {listed : Array Bool} {a : Act} {w : World}
    (hy : ∀ o, ops[i]? = some o → ∀ w, S w → (execOp a.eval o).run P w = .ok (.value v) w)
    (h : wpAnyH P md ops Q S fuel (listed.setIfInBounds i true) (a.put d v) w) (hd : (ops[i]?).map Oper.dst = some d := by rfl) (hw : (ops[i]?).map (fun o => Region.wanted o (yielded ops a.tmps)) = some true := by rfl)
    (hs : Region.noSelect ops = true := by kernel_rfl) (hf : Region.free md ops listed i = true := by kernel_rfl) (hr : (Region.ready md ops listed).contains i = true := by kernel_rfl)
    (hQ : ∀ c a w, Q (.panic c) (a.put d v) w → Q (.panic c) a w := by exact fun _ _ _ h => h) (hS : S w := by assumption) : wpAnyH P md ops Q S (fuel + 1) listed a w := takeH i d hd hw hs hf hr hQ hy hS h
theorem skipI (i : Nat) (d : Option Tmp) {fuel : Nat} {listed : Array Bool} {a : Act} {w : World}
    (h : wpAnyH P md ops Q S fuel (listed.setIfInBounds i true) (a.put d undef) w) (hd : (ops[i]?).map Oper.dst = some d := by rfl) (hw : (ops[i]?).map (fun o => Region.wanted o (yielded ops a.tmps)) = some false := by rfl)
    (hs : Region.noSelect ops = true := by kernel_rfl) (hf : Region.free md ops listed i = true := by kernel_rfl) (hr : (Region.ready md ops listed).contains i = true := by kernel_rfl)
    (hQ : ∀ c a w, Q (.panic c) (a.put d undef) w → Q (.panic c) a w := by exact fun _ _ _ h => h) (hS : S w := by assumption) : wpAnyH P md ops Q S (fuel + 1) listed a w := skipH i d hd hw hs hf hr hQ hS h
end
end Go.Proofs.YtgepbklpobobbaaGreatDoor

/- A region that draws its order, whose last operation writes what the others load: the condition need not hold behind that one. -/
namespace Go.Proofs.YtgepbklpobobbaaGreatDoor

section
variable {P : Program} {ops : Array Oper} {Q : Exit → Act → World → Prop} {md : Region.Mode} {S : World → Prop} {z : Nat}
/-- Whatever order is picked; S holds behind each operation but number z. -/
def wpAnyG (P : Program) (md : Region.Mode) (ops : Array Oper) (Q : Exit → Act → World → Prop) (S : World → Prop) (z : Nat) : Nat → Array Bool → Act → World → Prop
  | 0, listed, a, w => Region.ready md ops listed = [] ∧ Q .normal a w
  | fuel + 1, listed, a, w => (Region.ready md ops listed = [] → Q .normal a w) ∧ ∀ i ∈ Region.ready md ops listed, wpOp P ops Q i (fun a' w' => (i ≠ z → S w') ∧ wpAnyG P md ops Q S z fuel (listed.setIfInBounds i true) a' w') a w
theorem wpAny_of_G : ∀ (fuel : Nat) (listed : Array Bool) (a : Act) (w : World), wpAnyG P md ops Q S z fuel listed a w → wpAny P md ops Q fuel listed a w
  | 0, _, _, _, h => h
  | fuel + 1, _, _, _, h => ⟨h.1, fun i hi => wpOp_mono (fun a' w' h' => wpAny_of_G fuel _ a' w' h'.2) (h.2 i hi)⟩
theorem wpAnyG_first {i : Nat} {oi : Oper} {v : Value} (hi : ops[i]? = some oi) (hsel : ∀ (j : Nat) (o : Oper) cs b, ops[j]? = some o → o.op ≠ .select cs b) (hz : ∃ oz, ops[z]? = some oz ∧ ∃ e ∈ oz.after, Region.binds md e = true ∧ e.on = i) (hiz : i ≠ z)
    (hQ : ∀ c a w, Q (.panic c) (a.put oi.dst v) w → Q (.panic c) a w) :
    ∀ (fuel : Nat) (listed : Array Bool) (a : Act) (w : World),
      (∀ j oj, ops[j]? = some oj → j ≠ i → listed.getD j true = false → (∀ e ∈ oj.after, Region.binds md e = true → e.on ≠ i) → oi.apart ops oj = true) →
      i ∈ Region.ready md ops listed → YieldsIf P ops S oi v a → S w →
      wpAnyG P md ops Q S z fuel (listed.setIfInBounds i true) (a.put oi.dst v) w → wpAnyG P md ops Q S z (fuel + 1) listed a w := by
  intro fuel
  have unlisted : ∀ {listed : Array Bool}, i ∈ Region.ready md ops listed → listed.getD i false = true → False := fun {listed} hr h1 => by
    have h0 := (mem_ready.1 hr).1
    rcases Nat.lt_or_ge i listed.size with h' | h'
    · simp [h'] at h0 h1
      rw [h0] at h1
      cases h1
    · simp [Array.getElem?_eq_none h'] at h1
  induction fuel with
  | zero =>
    intro listed a w _ hr hy hS H
    refine ⟨fun h => (by rw [h] at hr; cases hr), fun j hj => ?_⟩
    by_cases hji : j = i
    · subst hji
      exact hy.wpOp hi hS ⟨fun _ => hS, H⟩
    · have := ready_mono hj hji
      rw [H.1] at this
      cases this
  | succ fuel ih =>
    intro listed a w hfree hr hy hS H
    refine ⟨fun h => (by rw [h] at hr; cases hr), fun j hj => ?_⟩
    by_cases hji : j = i
    · subst hji
      exact hy.wpOp hi hS ⟨fun _ => hS, H⟩
    · by_cases hjz : j = z
      · obtain ⟨oz, hoz, e, he, hb, heq⟩ := hz
        obtain ⟨_, oj, hoj, hall⟩ := mem_ready.1 hj
        rw [hjz, hoz] at hoj
        injection hoj with hoj
        subst hoj
        have h1 := hall e he hb
        rw [heq] at h1
        exact (unlisted hr h1).elim
      have h1 := H.2 j (ready_mono hj hji)
      obtain ⟨hjun, oj, hoj, hall⟩ := mem_ready.1 hj
      have hnot : ∀ e ∈ oj.after, Region.binds md e = true → e.on ≠ i := fun e he hb heq => by
        have h1 := hall e he hb
        rw [heq] at h1
        exact unlisted hr h1
      have h2 := wpOp_putIf hoj (hfree j oj hoj hji hjun hnot) (fun cs b => hsel i oi cs b hi) (fun cs b => hsel j oj cs b hoj) hQ hy h1
      have hfree' : ∀ k ok, ops[k]? = some ok → k ≠ i → (listed.setIfInBounds j true).getD k true = false →
          (∀ e ∈ ok.after, Region.binds md e = true → e.on ≠ i) → oi.apart ops ok = true := fun k ok hk hki hun hno => by
        refine hfree k ok hk hki ?_ hno
        by_cases hjk : j = k
        · subst hjk
          exact hjun
        · rw [getD_set_ne true hjk] at hun
          exact hun
      refine wpOp_mono (fun a' w' h3 => ⟨h3.2.1, ih (listed.setIfInBounds j true) a' w' hfree' (ready_mono hr (Ne.symm hji)) h3.1 (h3.2.1 hjz) ?_⟩) h2
      rw [Array.setIfInBounds_comm _ _ hji]
      exact h3.2.2
theorem wpAnyG_take {i : Nat} {oi : Oper} {v : Value} {fuel : Nat} {listed : Array Bool} {a : Act} {w : World} (hi : ops[i]? = some oi)
    (hs : Region.noSelect ops = true) (hz : (ops[z]?).map (fun oz => oz.after.any fun e => Region.binds md e && (e.on == i)) = some true) (hiz : i ≠ z) (hf : Region.free md ops listed i = true) (hr : (Region.ready md ops listed).contains i = true)
    (hQ : ∀ c a w, Q (.panic c) (a.put oi.dst v) w → Q (.panic c) a w) (hy : YieldsIf P ops S oi v a) (hS : S w)
    (h : wpAnyG P md ops Q S z fuel (listed.setIfInBounds i true) (a.put oi.dst v) w) : wpAnyG P md ops Q S z (fuel + 1) listed a w := by
  refine wpAnyG_first hi (Region.noSelect_spec hs) ?_ hiz hQ fuel listed a w (Region.free_spec hi hf) (by simpa using hr) hy hS h
  obtain ⟨oz, hoz, ha⟩ := Option.map_eq_some_iff.1 hz
  obtain ⟨e, he, hb⟩ := Array.any_eq_true'.1 ha
  simp only [Bool.and_eq_true, beq_iff_eq] at hb
  exact ⟨oz, hoz, e, he, hb.1, hb.2⟩
theorem takeG (i : Nat) (d : Option Tmp) {v : Value} {fuel : Nat} {listed : Array Bool} {a : Act} {w : World} (hd : (ops[i]?).map Oper.dst = some d) (hw : (ops[i]?).map (fun o => Region.wanted o (yielded ops a.tmps)) = some true)
    (hs : Region.noSelect ops = true) (hz : (ops[z]?).map (fun oz => oz.after.any fun e => Region.binds md e && (e.on == i)) = some true) (hiz : i ≠ z) (hf : Region.free md ops listed i = true) (hr : (Region.ready md ops listed).contains i = true)
    (hQ : ∀ c a w, Q (.panic c) (a.put d v) w → Q (.panic c) a w) (hy : ∀ o, ops[i]? = some o → ∀ w, S w → (execOp a.eval o).run P w = .ok (.value v) w) (hS : S w)
    (h : wpAnyG P md ops Q S z fuel (listed.setIfInBounds i true) (a.put d v) w) : wpAnyG P md ops Q S z (fuel + 1) listed a w := by
  cases ho : ops[i]? with
  | none => rw [ho] at hd; cases hd
  | some o =>
    rw [ho] at hd hw
    simp only [Option.map_some, Option.some.injEq] at hd hw
    subst hd
    exact wpAnyG_take ho hs hz hiz hf hr hQ (Or.inl ⟨hw, hy o ho⟩) hS h
/-- One operation alone may come up, and it is not the last. -/
theorem readyG {i : Nat} {o : Oper} {fuel : Nat} {listed : Array Bool} {a : Act} {w : World} (hr : Region.ready md ops listed = [i]) (ho : ops[i]? = some o)
    (h : ∀ K' : Act → World → Prop, Shut (∀ a w, S w → (S w → wpAnyG P md ops Q S z fuel (listed.setIfInBounds i true) a w) → K' a w) → if Region.wanted o (yielded ops a.tmps) = true then Oper.wp P o a w K' Q else K' (a.put o.dst undef) w) : wpAnyG P md ops Q S z (fuel + 1) listed a w :=
  ⟨fun h0 => (by rw [hr] at h0; cases h0), fun j hj => by
    rw [hr, List.mem_singleton] at hj
    subst hj
    exact wpOp_step ho (fun K' hK => h K' (fun a w hS hW => hK a w ⟨fun _ => hS, hW hS⟩))⟩
/-- The last operation comes up. -/
theorem lastG {o : Oper} {fuel : Nat} {listed : Array Bool} {a : Act} {w : World} (hr : Region.ready md ops listed = [z]) (ho : ops[z]? = some o)
    (h : ∀ K' : Act → World → Prop, Shut (∀ a w, wpAnyG P md ops Q S z fuel (listed.setIfInBounds z true) a w → K' a w) → if Region.wanted o (yielded ops a.tmps) = true then Oper.wp P o a w K' Q else K' (a.put o.dst undef) w) : wpAnyG P md ops Q S z (fuel + 1) listed a w :=
  ⟨fun h0 => (by rw [hr] at h0; cases h0), fun j hj => by
    rw [hr, List.mem_singleton] at hj
    subst hj
    exact wpOp_step ho (fun K' hK => h K' (fun a w hW => hK a w ⟨fun hne => absurd rfl hne, hW⟩))⟩
theorem doneG {listed : Array Bool} {a : Act} {w : World} (hr : Region.ready md ops listed = []) (h : Q .normal a w) : ∀ fuel, wpAnyG P md ops Q S z fuel listed a w
  | 0 => ⟨hr, h⟩
  | _ + 1 => ⟨fun _ => h, by rw [hr]; simp⟩
/-- The beginning. -/
theorem beginG (z : Nat) {id : Nat} {a : Act} {w : World} (hm : P.follows .mixedOrders = true) (hS : S w.drew)
    (h : S w.drew → wpAnyG P .any ops Q S z ops.size (Array.replicate ops.size false) a w.drew) : (Code.region id ops true).wp P Q a w :=
  wp_region_any hm (wpAny_of_G _ _ _ _ (h hS))
end
end Go.Proofs.YtgepbklpobobbaaGreatDoor
