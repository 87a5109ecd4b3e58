/- book: the state of the reference's Place in the store. -/
import Derived.Test.YtkandhpnenmleaaHBrPutE
import Derived.Test.YtkandhpnenmleaaHBrSame
import Derived.Test.YtkandhpnenmleaaHRegD
import Derived.Deep.LoopGhost
import Derived.Deep.DeepCutAuto

namespace Go.Proofs.Ytkandhpnenmleaa
open Go.RowKit

structure RR (B g : Nat) (A : Option Addr) (n c : Nat) (w0 : World) (gx : Nat) (o : Ord) (ts : List Trd) (At : Option Addr) (m ct : Nat) (l : List ROrd) (W : World) : Prop where
  rb : RB W B g A n c l
  blk : Blk W gx 85 #[.int .i64 o.id, .int .i64 o.acc, .bool o.buy, .int .i64 o.price, .int .i64 o.n, .int .i64 o.left, .bool false]
  row : W.ownsRow w0.heap.size 105 4 (.slice At m ct) m (ts.flatMap Trd.cells)
  len : ts.length = m
  mod : Mod (RF g A n c) w0 W
  ge : w0.heap.size ≤ gx
  lt : ∀ q, RF g A n c q → q < w0.heap.size
section
variable {B g n c : Nat} {A : Option Addr} {w0 : World} {gx : Nat} {o : Ord} {ts : List Trd} {At : Option Addr} {m ct : Nat} {l : List ROrd} {W W' : World}
theorem RR.notx (h : RR B g A n c w0 gx o ts At m ct l W) : ¬ RF g A n c gx := fun hq => by
  have h1 := h.lt _ hq
  have h2 := h.ge
  omega
theorem RR.notRow (h : RR B g A n c w0 gx o ts At m ct l W) {q : Nat} (hq : (Value.slice At m ct).ownBlock = some q) : ¬ RF g A n c q := h.rb.isnt (own_ty h.row hq) (by decide)
theorem RR.below (h : RR B g A n c w0 gx o ts At m ct l W) (hb : Below W.heap.size W W') : RR B g A n c w0 gx o ts At m ct l W' :=
  ⟨h.rb.all hb, h.blk.all hb, own_keep h.row hb, h.len, h.mod.then_below hb, h.ge, h.lt⟩
theorem RR.app (h : RR B g A n c w0 gx o ts At m ct l W) {A' : Option Addr} {c' : Nat} {t : Trd} (hm : Mod (fun q => (Value.slice At m ct).ownBlock = some q) W W') (ho : W'.ownsRow w0.heap.size 105 4 (.slice A' (m + 1) c') (m + 1) (ts.flatMap Trd.cells ++ t.cells)) : RR B g A n c w0 gx o (ts ++ [t]) A' (m + 1) c' l W' := by
  refine ⟨h.rb.mod hm (fun q hq e => h.notRow e hq), hm.blk h.blk (fun e => absurd ((own_ty h.row e).unique h.blk.ty) (by decide)), ?_, by rw [List.length_append, h.len]; rfl, h.mod.trans hm (fun q hq => .inr (own_ge h.row hq).1), h.ge, h.lt⟩
  rw [List.flatMap_append, List.flatMap_singleton]
  exact ho
theorem RR.ownx (h : RR B g A n c w0 gx o ts At m ct l W) (k : Int) : RR B g A n c w0 gx (o.less k) ts At m ct l (W.setCell ⟨gx, 5, none⟩ (.int .i64 (o.left - k))) := by
  have ms : Mod (fun q => q = gx) W (W.setCell ⟨gx, 5, none⟩ (.int .i64 (o.left - k))) := Mod.set (F := fun q => q = gx) (Mod.refl _ _) (p := ⟨gx, 5, none⟩) (.inl rfl) _
  refine ⟨h.rb.mod ms (fun q hq e => h.notx (by rw [← e]; exact hq)), h.blk.set_ 5 _, ms.own h.row (fun q hq e => ?_), h.len, h.mod.trans ms (fun q hq => .inr (by rw [hq]; exact h.ge)), h.ge, h.lt⟩
  have := own_ty h.row hq
  rw [e] at this
  exact absurd (this.unique h.blk.ty) (by decide)
theorem RR.other (h : RR B g A n c w0 gx o ts At m ct l W) {g' k : Nat} (hg : A = some ⟨g', 0, none⟩) (hk : k < n) (x : Ord) (i : Int) (hx : (rAt l k).o = x) : RR B g A n c w0 gx o ts At m ct (l.set k ⟨x.less i, (rAt l k).e⟩) (W.setCell ⟨g', k * 7 + 5, none⟩ (.int .i64 (x.left - i))) := by
  obtain ⟨h1, h2⟩ := h.rb.left hg hk (x.less i) (by
    rw [hx]
    show x.less i = x.less (x.left - (x.left - i))
    rw [show x.left - (x.left - i) = i by omega])
  exact ⟨h1, h2.blk h.blk h.notx, h2.own h.row (fun q hq => h.notRow hq), h.len, h.mod.trans h2 (fun q hq => .inl hq), h.ge, h.lt⟩
theorem RR.ended (h : RR B g A n c w0 gx o ts At m ct l W) {g' k : Nat} (hg : A = some ⟨g', 0, none⟩) (hk : k < n) (x : Ord) (hx : (rAt l k).o = x) : RR B g A n c w0 gx o ts At m ct (l.set k ⟨x, true⟩) (W.setCell ⟨g', k * 7 + 6, none⟩ (.bool true)) := by
  obtain ⟨h1, h2⟩ := h.rb.ended hg hk
  rw [hx] at h1
  exact ⟨h1, h2.blk h.blk h.notx, h2.own h.row (fun q hq => h.notRow hq), h.len, h.mod.trans h2 (fun q hq => .inl hq), h.ge, h.lt⟩
theorem RR.y (h : RR B g A n c w0 gx o ts At m ct l W) : W.cell? ⟨gx, 0, none⟩ = some (.int .i64 o.id) ∧ W.cell? ⟨gx, 1, none⟩ = some (.int .i64 o.acc) ∧ W.cell? ⟨gx, 2, none⟩ = some (.bool o.buy) ∧ W.cell? ⟨gx, 3, none⟩ = some (.int .i64 o.price) ∧ W.cell? ⟨gx, 4, none⟩ = some (.int .i64 o.n) ∧ W.cell? ⟨gx, 5, none⟩ = some (.int .i64 o.left) ∧ W.cell? ⟨gx, 6, none⟩ = some (.bool false) ∧ W.frozen? ⟨gx, 5, none⟩ = false := by
  refine ⟨?_, ?_, ?_, ?_, ?_, ?_, ?_, h.blk.frozen 5⟩ <;> rw [h.blk.cell] <;> rfl
/-- The state once the order stands among the orders. -/
structure RFin (B g : Nat) (A : Option Addr) (n c : Nat) (w0 : World) (gx : Nat) (o : Ord) (ts : List Trd) (At : Option Addr) (m ct : Nat) (l : List ROrd) (A' : Option Addr) (c' : Nat) (W : World) : Prop where
  rb : RB W B g A' (n + 1) c' (l ++ [⟨o, false⟩])
  blk : Blk W gx 85 #[.int .i64 o.id, .int .i64 o.acc, .bool o.buy, .int .i64 o.price, .int .i64 o.n, .int .i64 o.left, .bool false]
  row : W.ownsRow w0.heap.size 105 4 (.slice At m ct) m (ts.flatMap Trd.cells)
  len : ts.length = m
  mod : Mod (RF g A n c) w0 W
  new : ∀ q, RF g A' (n + 1) c' q → RF g A n c q ∨ w0.heap.size ≤ q
theorem RR.added (h : RR B g A n c w0 gx o ts At m ct l W) (hf : n < 100000) {A' : Option Addr} {c' : Nat} {w5 : World} (hm : Mod (fun q => (Value.slice A n c).ownBlock = some q) W w5) (ho : w5.ownsRow B 85 7 (.slice A' (n + 1) c') (n + 1) (l.flatMap ROrd.cells ++ (ROrd.mk o false).cells)) (hs : ∀ q, (Value.slice A' (n + 1) c').ownBlock = some q → (Value.slice A n c).ownBlock = some q ∨ W.heap.size ≤ q) :
    (w5.cell? ⟨g, 0, none⟩ = some (.slice A n c) ∧ w5.cell? ⟨gx, 0, none⟩ = some (.int .i64 o.id) ∧ w5.cell? ⟨gx, 1, none⟩ = some (.int .i64 o.acc) ∧ w5.cell? ⟨gx, 2, none⟩ = some (.bool o.buy) ∧ w5.cell? ⟨gx, 3, none⟩ = some (.int .i64 o.price) ∧ w5.cell? ⟨gx, 4, none⟩ = some (.int .i64 o.n) ∧ w5.cell? ⟨gx, 5, none⟩ = some (.int .i64 o.left) ∧ w5.cell? ⟨gx, 6, none⟩ = some (.bool false) ∧ w5.frozen? ⟨g, 0, none⟩ = false) ∧ RFin B g A n c w0 gx o ts At m ct l A' c' (w5.setCell ⟨g, 0, none⟩ (.slice A' (n + 1) c')) := by
  have b5 := hm.blk h.rb.blk (fun e => absurd ((own_ty h.rb.own e).unique h.rb.blk.ty) (by decide))
  have bx := hm.blk h.blk (fun e => h.notx (.inr e))
  obtain ⟨h1, h2, h3⟩ := h.rb.added (o := ⟨o, false⟩) hf hm ho hs
  refine ⟨⟨?_, ?_, ?_, ?_, ?_, ?_, ?_, ?_, b5.frozen 0⟩, ⟨h1, h2.blk h.blk h.notx, h2.own h.row (fun q hq => h.notRow hq), h.len, h.mod.trans h2 (fun q hq => .inl hq), fun q hq => ?_⟩⟩
  · rw [b5.cell]; rfl
  · rw [bx.cell]; rfl
  · rw [bx.cell]; rfl
  · rw [bx.cell]; rfl
  · rw [bx.cell]; rfl
  · rw [bx.cell]; rfl
  · rw [bx.cell]; rfl
  · rw [bx.cell]; rfl
  · rcases h3 q hq with h4 | h4
    · exact .inl h4
    · exact .inr (Nat.le_trans h.mod.size h4)
theorem RFin.y {A' : Option Addr} {c' : Nat} (h : RFin B g A n c w0 gx o ts At m ct l A' c' W) : W.cell? ⟨gx, 0, none⟩ = some (.int .i64 o.id) := by
  rw [h.blk.cell]; rfl
theorem RFin.post {b d : BkS} {acc price k : Int} {buy : Bool} {A' : Option Addr} {c' : Nat} (h : RFin B g A n c w0 gx o ts At m ct l A' c' W) (hPM : PM b (!buy) ⟨(n : Int), acc, buy, price, k, k⟩ d o ts) (hST : Stops d (!buy) o) (hE : placeErr b acc price k = 0) (hRel : Rel l d) (hn : b.os.length = n) : RPlacePost B g A n c b acc buy price k w0 (.returned (.tuple #[.int .i64 o.id, .slice At m ct, .int .i64 0])) W := by
  subst hn
  have hp : placeE b acc buy price k = ((b.os.length : Int), ts, 0, d.last o) := by
    unfold placeE
    rw [if_pos hE, hPM.done hST]
  have hlen := h.len
  unfold RPlacePost
  rw [hp]
  subst hlen
  have hid : o.id = (d.os.length : Int) := by rw [hPM.like.1, hPM.len]
  have hok : (d.last o).Ok := by
    have := hPM.okW hE
    by_cases hl : 0 < o.left
    · exact this.2 hl
    · unfold BkS.last
      rw [if_neg hl]
      exact this.1
  exact ⟨At, ct, by rw [hPM.like.1], h.row, A', _, c', _, ⟨h.rb, hRel.last hPM.ok hid, hok⟩, h.mod, h.new⟩
end
/-- The state of the loop of the reference's Place. -/
def RLoop (B g : Nat) (A : Option Addr) (n c : Nat) (w0 : World) (gx : Nat) (b : BkS) (s : Bool) (o0 : Ord) (gk : Nat) (lv kv : Value) (wr : World) : Prop :=
  ∃ (d : BkS) (o : Ord) (ts : List Trd) (At : Option Addr) (m ct : Nat) (l : List ROrd), lv = .slice At m ct ∧ kv = .int .i64 (headI (d.side s)) ∧ Hid (PM b s o0 d o ts) ∧ Hid (RR B g A n c w0 gx o ts At m ct l wr) ∧ Hid (Rel l d) ∧ Hid ((d.side s).length + (if 0 < o.left then 1 else 0) = gk)
theorem RLoop.mk {B g : Nat} {A : Option Addr} {n c : Nat} {w0 : World} {gx : Nat} {b : BkS} {s : Bool} {o0 : Ord} {d : BkS} {o : Ord} {ts : List Trd} {At : Option Addr} {m ct : Nat} {l : List ROrd} {wr : World} {k : Int} (h1 : PM b s o0 d o ts) (h2 : RR B g A n c w0 gx o ts At m ct l wr) (h3 : Rel l d) (hk : k = headI (d.side s)) : RLoop B g A n c w0 gx b s o0 ((d.side s).length + (if 0 < o.left then 1 else 0)) (.slice At m ct) (.int .i64 k) wr :=
  ⟨d, o, ts, At, m, ct, l, rfl, by rw [hk], Lib.hid h1, Lib.hid h2, Lib.hid h3, Lib.hid rfl⟩
end Go.Proofs.Ytkandhpnenmleaa
