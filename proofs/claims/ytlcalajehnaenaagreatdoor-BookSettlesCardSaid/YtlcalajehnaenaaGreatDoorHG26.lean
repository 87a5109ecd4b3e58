/- book: the state of Place's loop in the store. -/
import Derived.Test.YtlcalajehnaenaaGreatDoorHG25
import Derived.Test.YtlcalajehnaenaaGreatDoorHG24
import Derived.Test.YtlcalajehnaenaaGreatDoorHG16
import Derived.Deep.LoopGhost
namespace Go.Proofs.YtlcalajehnaenaaGreatDoor
open Go.RowKit
theorem BkR.order {W : World} {B gb : Nat} {V : BkV} {b : BkS} (h : BkR W B gb V b) {k : Nat} (hk : k < b.os.length) : ∃ g, V.oA = some ⟨g, 0, none⟩ ∧ g < W.heap.size ∧ (V.os b.os.length).ownBlock = some g ∧ W.frozen? ⟨g, k * 6 + 5, none⟩ = false ∧ W.cell? ⟨g, k * 6, none⟩ = some (.int .i64 (ordAt b.os k).id) ∧ W.cell? ⟨g, k * 6 + 1, none⟩ = some (.int .i64 (ordAt b.os k).acc) ∧ W.cell? ⟨g, k * 6 + 2, none⟩ = some (.bool (ordAt b.os k).buy) ∧ W.cell? ⟨g, k * 6 + 3, none⟩ = some (.int .i64 (ordAt b.os k).price) ∧ W.cell? ⟨g, k * 6 + 4, none⟩ = some (.int .i64 (ordAt b.os k).n) ∧ W.cell? ⟨g, k * 6 + 5, none⟩ = some (.int .i64 (ordAt b.os k).left) := by
 have hl := h.orders.1
 rcases h.orders.2 with ⟨-, h2⟩ | ⟨g, cap, cur, h2, h3, h4, h5, h6, h7, h8⟩
 ·omega
 ·unfold BkV.os at h2
  injection h2 with h2 _ h9
  have hc : ∀ i, i < 6 → W.cell? ⟨g, k * 6 + i, none⟩ = (Ord.cells (ordAt b.os k))[i]? := by
   intro i hi
   rw [ordAt_eq hk, ← flatT_at Ord.cells 6 Ord.cells_length b.os k i hk hi, ← h8, List.getElem?_take_of_lt (by omega)]
   simp [World.cell?, h4]
  refine ⟨g, h2, (Array.getElem?_eq_some_iff.1 h4).1, by unfold BkV.os; rw [h2]; rfl, by simp [World.frozen?, h4], ?_, hc 1 (by omega), hc 2 (by omega), hc 3 (by omega), hc 4 (by omega), hc 5 (by omega)⟩
  exact hc 0 (by omega)
structure PR (gb B : Nat) (V : BkV) (nn : Nat) (w0 : World) (g13 : Nat) (c : BkS) (o : Ord) (ts : List Trd) (A : Option Addr) (m cc : Nat) (V' : BkV) (W : World) : Prop where
 bk : BkR W B gb V' c
 blk : Blk W g13 55 #[.int .i64 o.id, .int .i64 o.acc, .bool o.buy, .int .i64 o.price, .int .i64 o.n, .int .i64 o.left]
 row : W.ownsRow w0.heap.size 59 4 (.slice A m cc) m (ts.flatMap Trd.cells)
 len : ts.length = m
 mod : Mod (BkF gb V nn) w0 W
 sub : ∀ q, BkF gb V' c.os.length q → BkF gb V nn q
 vA : V'.oA = V.oA ∧ V'.oc = V.oc
 ge : w0.heap.size ≤ g13
 lt : ∀ q, BkF gb V nn q → q < w0.heap.size
section
variable {gb B : Nat} {V : BkV} {nn : Nat} {w0 : World} {g13 : Nat} {c : BkS} {o : Ord} {ts : List Trd} {A : Option Addr} {m cc : Nat} {V' : BkV} {W W' : World}
theorem PR.not13 (h : PR gb B V nn w0 g13 c o ts A m cc V' W) : ¬ BkF gb V' c.os.length g13 := fun hq => by
 have h1 := h.lt _ (h.sub _ hq)
 have h2 := h.ge
 omega
theorem PR.notRow (h : PR gb B V nn w0 g13 c o ts A m cc V' W) {q : Nat} (hq : (Value.slice A m cc).ownBlock = some q) : ¬ BkF gb V' c.os.length q := h.bk.isnt (own_ty h.row hq) (by decide)
theorem PR.below (h : PR gb B V nn w0 g13 c o ts A m cc V' W) (hb : Below W.heap.size W W') : PR gb B V nn w0 g13 c o ts A m cc V' W' :=
 ⟨h.bk.all hb, h.blk.all hb, own_keep h.row hb, h.len, h.mod.then_below hb, h.sub, h.vA, h.ge, h.lt⟩
theorem PR.app (h : PR gb B V nn w0 g13 c o ts A m cc V' W) {A' : Option Addr} {c' : Nat} {t : Trd} (hm : Mod (fun q => (Value.slice A m cc).ownBlock = some q) W W') (ho : W'.ownsRow w0.heap.size 59 4 (.slice A' (m + 1) c') (m + 1) (ts.flatMap Trd.cells ++ t.cells)) : PR gb B V nn w0 g13 c o (ts ++ [t]) A' (m + 1) c' V' W' := by
 refine ⟨h.bk.mod hm (fun q hq e => h.notRow e hq), hm.blk h.blk (fun e => absurd ((own_ty h.row e).unique h.blk.ty) (by decide)), ?_, by rw [List.length_append, h.len]; rfl, h.mod.trans hm (fun q hq => .inr (own_ge h.row hq).1), h.sub, h.vA, h.ge, h.lt⟩
 rw [List.flatMap_append, List.flatMap_singleton]
 exact ho
theorem PR.own13 (h : PR gb B V nn w0 g13 c o ts A m cc V' W) (k : Int) : PR gb B V nn w0 g13 c (o.less k) ts A m cc V' (W.setCell ⟨g13, 5, none⟩ (.int .i64 (o.left - k))) := by
 have ms : Mod (fun q => q = g13) W (W.setCell ⟨g13, 5, none⟩ (.int .i64 (o.left - k))) := Mod.set (F := fun q => q = g13) (Mod.refl _ _) (p := ⟨g13, 5, none⟩) (.inl rfl) _
 refine ⟨h.bk.mod ms (fun q hq e => h.not13 (by rw [← e]; exact hq)), h.blk.set_ 5 _, ms.own h.row (fun q hq e => ?_), h.len, h.mod.trans ms (fun q hq => .inr (by rw [hq]; exact h.ge)), h.sub, h.vA, h.ge, h.lt⟩
 have := own_ty h.row hq
 rw [e] at this
 exact absurd (this.unique h.blk.ty) (by decide)
theorem PR.other (h : PR gb B V nn w0 g13 c o ts A m cc V' W) {g k : Nat} (hg : V.oA = some ⟨g, 0, none⟩) (hk : k < c.os.length) (i : Int) : PR gb B V nn w0 g13 (c.setOs (c.os.set k ((ordAt c.os k).less i))) o ts A m cc V' (W.setCell ⟨g, k * 6 + 5, none⟩ (.int .i64 ((ordAt c.os k).left - i))) := by
 obtain ⟨h1, h2⟩ := h.bk.left (h.vA.1.trans hg) hk i
 have hlen : (c.setOs (c.os.set k ((ordAt c.os k).less i))).os.length = c.os.length := by simp [BkS.setOs]
 exact ⟨h1, h2.blk h.blk h.not13, h2.own h.row (fun q hq => h.notRow hq), h.len, h.mod.trans h2 (fun q hq => .inl (h.sub q hq)), by rw [hlen]; exact h.sub, h.vA, h.ge, h.lt⟩
theorem PR.pop_true (h : PR gb B V nn w0 g13 c o ts A m cc V' W) {g off n k id : Nat} {t : List Nat} (hV : V'.b = (some ⟨g, off, none⟩, n, k)) (hs : c.side true = id :: t) : ∃ V2, PR gb B V nn w0 g13 (c.put true t) o ts A m cc V2 (W.setCell ⟨gb, 1, none⟩ (.slice (if k = 1 then some ⟨g, off, none⟩ else some ⟨g, off + 1, none⟩) (n - 1) (k - 1))) := by
 obtain ⟨V2, h1, h2, h3, h4, h5⟩ := h.bk.pop_true hV hs
 exact ⟨V2, h1, h2.blk h.blk h.not13, h2.own h.row (fun q hq => h.notRow hq), h.len, h.mod.trans h2 (fun q hq => .inl (h.sub q hq)), fun q hq => h.sub q (h3 q hq), ⟨h4.trans h.vA.1, h5.trans h.vA.2⟩, h.ge, h.lt⟩
theorem PR.pop_false (h : PR gb B V nn w0 g13 c o ts A m cc V' W) {g off n k id : Nat} {t : List Nat} (hV : V'.s = (some ⟨g, off, none⟩, n, k)) (hs : c.side false = id :: t) : ∃ V2, PR gb B V nn w0 g13 (c.put false t) o ts A m cc V2 (W.setCell ⟨gb, 3, none⟩ (.slice (if k = 1 then some ⟨g, off, none⟩ else some ⟨g, off + 1, none⟩) (n - 1) (k - 1))) := by
 obtain ⟨V2, h1, h2, h3, h4, h5⟩ := h.bk.pop_false hV hs
 exact ⟨V2, h1, h2.blk h.blk h.not13, h2.own h.row (fun q hq => h.notRow hq), h.len, h.mod.trans h2 (fun q hq => .inl (h.sub q hq)), fun q hq => h.sub q (h3 q hq), ⟨h4.trans h.vA.1, h5.trans h.vA.2⟩, h.ge, h.lt⟩
theorem PR.y (h : PR gb B V nn w0 g13 c o ts A m cc V' W) : W.cell? ⟨g13, 0, none⟩ = some (.int .i64 o.id) ∧ W.cell? ⟨g13, 1, none⟩ = some (.int .i64 o.acc) ∧ W.cell? ⟨g13, 2, none⟩ = some (.bool o.buy) ∧ W.cell? ⟨g13, 3, none⟩ = some (.int .i64 o.price) ∧ W.cell? ⟨g13, 4, none⟩ = some (.int .i64 o.n) ∧ W.cell? ⟨g13, 5, none⟩ = some (.int .i64 o.left) ∧ W.frozen? ⟨g13, 5, none⟩ = false := by
 refine ⟨?_, ?_, ?_, ?_, ?_, ?_, h.blk.frozen 5⟩ <;> rw [h.blk.cell] <;> rfl
theorem PR.z_true (h : PR gb B V nn w0 g13 c o ts A m cc V' W) : W.cell? ⟨gb, 0, none⟩ = some (.slice V'.oA c.os.length V'.oc) ∧ W.cell? ⟨gb, 1, none⟩ = some (.slice V'.b.1 V'.b.2.1 V'.b.2.2) ∧ W.frozen? ⟨gb, 1, none⟩ = false := by
 refine ⟨?_, ?_, h.bk.blk.frozen 1⟩ <;> rw [h.bk.blk.cell] <;> rfl
theorem PR.z_false (h : PR gb B V nn w0 g13 c o ts A m cc V' W) : W.cell? ⟨gb, 0, none⟩ = some (.slice V'.oA c.os.length V'.oc) ∧ W.cell? ⟨gb, 3, none⟩ = some (.slice V'.s.1 V'.s.2.1 V'.s.2.2) ∧ W.frozen? ⟨gb, 3, none⟩ = false := by
 refine ⟨?_, ?_, h.bk.blk.frozen 3⟩ <;> rw [h.bk.blk.cell] <;> rfl
theorem BkPost.comp {V2 : BkV} {b b2 b3 : BkS} {w w7 w8 : World} (hm : Mod (BkF gb V b.os.length) w w7) (hs : ∀ q, BkF gb V2 b2.os.length q → BkF gb V b.os.length q ∨ w.heap.size ≤ q) (h : BkPost gb B V2 b2 w7 b3 w8) : BkPost gb B V b w b3 w8 := by
 obtain ⟨V3, h1, h2, h3⟩ := h
 refine ⟨V3, h1, hm.trans h2 hs, fun q hq => ?_⟩
 rcases h3 q hq with h4 | h4
 ·exact hs q h4
 ·exact .inr (Nat.le_trans hm.size h4)
theorem place_fin {b : BkS} {acc price n : Int} {buy : Bool} {w w' : World} (hPM : PM b (!buy) ⟨(b.os.length : Int), acc, buy, price, n, n⟩ c o ts) (hST : Stops c (!buy) o) (hE : placeErr b acc price n = 0) (hlen : ts.length = m) (hrow : w'.ownsRow w.heap.size 59 4 (.slice A m cc) m (ts.flatMap Trd.cells)) (hB : BkPost gb B V b w (c.last o) w') : PlacePost gb B V b acc buy price n w (.returned (.tuple #[.int .i64 o.id, .slice A m cc, .int .i64 0])) w' := by
 have h : placeE b acc buy price n = ((b.os.length : Int), ts, 0, c.last o) := by
  unfold placeE
  rw [if_pos hE, hPM.done hST]
 unfold PlacePost
 rw [h]
 subst hlen
 exact ⟨A, cc, by rw [hPM.like.1], hrow, hB⟩
structure PF (gb B : Nat) (V : BkV) (nn : Nat) (w0 : World) (g13 : Nat) (c : BkS) (o : Ord) (ts : List Trd) (A : Option Addr) (m cc : Nat) (V2 : BkV) (W : World) : Prop where
 bk : BkR W B gb V2 (c.withO o)
 blk : Blk W g13 55 #[.int .i64 o.id, .int .i64 o.acc, .bool o.buy, .int .i64 o.price, .int .i64 o.n, .int .i64 o.left]
 row : W.ownsRow w0.heap.size 59 4 (.slice A m cc) m (ts.flatMap Trd.cells)
 len : ts.length = m
 mod : Mod (BkF gb V nn) w0 W
 sub : ∀ q, BkF gb V2 (c.withO o).os.length q → BkF gb V nn q ∨ w0.heap.size ≤ q
 not13 : ¬ BkF gb V2 (c.withO o).os.length g13
theorem PR.added (h : PR gb B V nn w0 g13 c o ts A m cc V' W) (hf : c.os.length < 100000) {A' : Option Addr} {c' : Nat} {w5 : World} (hm : Mod (fun q => (V'.os c.os.length).ownBlock = some q) W w5) (ho : w5.ownsRow B 55 6 (.slice A' (c.os.length + 1) c') (c.os.length + 1) (c.os.flatMap Ord.cells ++ o.cells)) (hs : ∀ q, (Value.slice A' (c.os.length + 1) c').ownBlock = some q → (V'.os c.os.length).ownBlock = some q ∨ W.heap.size ≤ q) :
 (w5.cell? ⟨gb, 0, none⟩ = some (.slice V'.oA c.os.length V'.oc) ∧ w5.cell? ⟨g13, 0, none⟩ = some (.int .i64 o.id) ∧ w5.cell? ⟨g13, 1, none⟩ = some (.int .i64 o.acc) ∧ w5.cell? ⟨g13, 2, none⟩ = some (.bool o.buy) ∧ w5.cell? ⟨g13, 3, none⟩ = some (.int .i64 o.price) ∧ w5.cell? ⟨g13, 4, none⟩ = some (.int .i64 o.n) ∧ w5.cell? ⟨g13, 5, none⟩ = some (.int .i64 o.left) ∧ w5.frozen? ⟨gb, 0, none⟩ = false) ∧ ∃ V2, PF gb B V nn w0 g13 c o ts A m cc V2 (w5.setCell ⟨gb, 0, none⟩ (.slice A' (c.os.length + 1) c')) := by
 have hor : ∀ q, (V'.os c.os.length).ownBlock = some q → Ty W q 55 := fun q hq => own_ty h.bk.orders hq
 have b5 := hm.blk h.bk.blk (fun e => absurd ((hor gb e).unique h.bk.blk.ty) (by decide))
 have b13 := hm.blk h.blk (fun e => h.not13 (.inr (.inl e)))
 obtain ⟨V2, h1, h2, h3⟩ := h.bk.added hf hm ho hs
 refine ⟨⟨?_, ?_, ?_, ?_, ?_, ?_, ?_, b5.frozen 0⟩, V2, ⟨h1, h2.blk h.blk h.not13, h2.own h.row (fun q hq => h.notRow hq), h.len, h.mod.trans h2 (fun q hq => .inl (h.sub q hq)), fun q hq => ?_, fun hq => ?_⟩⟩
 ·rw [b5.cell]; rfl
 ·rw [b13.cell]; rfl
 ·rw [b13.cell]; rfl
 ·rw [b13.cell]; rfl
 ·rw [b13.cell]; rfl
 ·rw [b13.cell]; rfl
 ·rw [b13.cell]; rfl
 ·rcases h3 q hq with h4 | h4
  ·exact .inl (h.sub q h4)
  ·exact .inr (Nat.le_trans h.mod.size h4)
 ·rcases h3 g13 hq with h4 | h4
  ·exact h.not13 h4
  ·have := h.blk.lt
   omega
theorem PF.y {V2 : BkV} (h : PF gb B V nn w0 g13 c o ts A m cc V2 W) : W.cell? ⟨g13, 0, none⟩ = some (.int .i64 o.id) ∧ W.cell? ⟨g13, 1, none⟩ = some (.int .i64 o.acc) ∧ W.cell? ⟨g13, 2, none⟩ = some (.bool o.buy) ∧ W.cell? ⟨g13, 3, none⟩ = some (.int .i64 o.price) ∧ W.cell? ⟨g13, 4, none⟩ = some (.int .i64 o.n) ∧ W.cell? ⟨g13, 5, none⟩ = some (.int .i64 o.left) := by
 refine ⟨?_, ?_, ?_, ?_, ?_, ?_⟩ <;> rw [h.blk.cell] <;> rfl
section
variable {V2 : BkV} {b : BkS} {acc price n : Int} {buy : Bool} {w W7 W8 : World}
theorem PF.fin0 (h : PF gb B V nn w g13 c o ts A m cc V2 W7) (hPM : PM b (!buy) ⟨(nn : Int), acc, buy, price, n, n⟩ c o ts) (hST : Stops c (!buy) o) (hE : placeErr b acc price n = 0) (hnn : b.os.length = nn) (hl : o.left ≤ 0) : PlacePost gb B V b acc buy price n w (.returned (.tuple #[.int .i64 o.id, .slice A m cc, .int .i64 0])) W7 := by
 subst hnn
 refine place_fin hPM hST hE h.len h.row ?_
 rw [show c.last o = c.withO o by unfold BkS.last; rw [if_neg (by omega)]]
 exact ⟨V2, h.bk.full (hPM.okW hE).1, h.mod, h.sub⟩
theorem PF.full (h : PF gb B V nn w g13 c o ts A m cc V2 W7) (hPM : PM b (!buy) ⟨(nn : Int), acc, buy, price, n, n⟩ c o ts) (hE : placeErr b acc price n = 0) (hnn : b.os.length = nn) (hl : 0 < o.left) : BkAt W7 B gb V2 (c.withO o) ∧ ((c.withO o).opened o).Ok ∧ o.id = ((nn : Nat) : Int) := by
 subst hnn
 have h1 := hPM.okW hE
 have h2 := h1.2 hl
 unfold BkS.last at h2
 rw [if_pos hl] at h2
 exact ⟨h.bk.full h1.1, h2, hPM.like.1⟩
theorem PF.fin1 (h : PF gb B V nn w g13 c o ts A m cc V2 W7) (hPM : PM b (!buy) ⟨(nn : Int), acc, buy, price, n, n⟩ c o ts) (hST : Stops c (!buy) o) (hE : placeErr b acc price n = 0) (hnn : b.os.length = nn) (hl : 0 < o.left) (hB : BkPost gb B V2 (c.withO o) W7 ((c.withO o).opened o) W8) : PlacePost gb B V b acc buy price n w (.returned (.tuple #[.int .i64 o.id, .slice A m cc, .int .i64 0])) W8 := by
 subst hnn
 have hm := hB
 obtain ⟨V3, -, hm3, -⟩ := hm
 refine place_fin hPM hST hE h.len (hm3.own h.row (fun q hq => h.bk.isnt (own_ty h.row hq) (by decide))) ?_
 rw [show c.last o = (c.withO o).opened o by unfold BkS.last; rw [if_pos hl]]
 exact BkPost.comp h.mod h.sub hB
theorem PF.y8 (h : PF gb B V nn w g13 c o ts A m cc V2 W7) (hB : BkPost gb B V2 (c.withO o) W7 ((c.withO o).opened o) W8) : W8.cell? ⟨g13, 0, none⟩ = some (.int .i64 o.id) := by
 obtain ⟨V3, -, hm3, -⟩ := hB
 rw [(hm3.blk h.blk h.not13).cell]
 rfl
end
end
theorem slT_trd : SlT Tryz.prog 51 59 4 32 := SlT.of Tryz.underlying51 (by kernel_rfl) (by decide)
theorem one4 (a b c d : Int) : ∀ u ∈ (#[Value.int .i64 a, .int .i64 b, .int .i64 c, .int .i64 d] : Array Value).toList, u.oneCell' = true := by
 intro u hu
 simp at hu
 rcases hu with rfl | rfl | rfl | rfl <;> rfl
end Go.Proofs.YtlcalajehnaenaaGreatDoor
namespace Go.Proofs.YtlcalajehnaenaaGreatDoor
open Go.RowKit
def PLoop (gb B : Nat) (V : BkV) (nn : Nat) (w : World) (g13 : Nat) (b : BkS) (s : Bool) (o0 : Ord) (gk : Nat) (lv : Value) (wr : World) : Prop :=
 ∃ (c : BkS) (o : Ord) (ts : List Trd) (A : Option Addr) (m cc : Nat) (V' : BkV), lv = .slice A m cc ∧ Hid (PM b s o0 c o ts) ∧ Hid (PR gb B V nn w g13 c o ts A m cc V' wr) ∧ Hid ((c.side s).length + (if 0 < o.left then 1 else 0) = gk)
theorem PLoop.mk {gb B : Nat} {V : BkV} {nn : Nat} {w : World} {g13 : Nat} {b : BkS} {s : Bool} {o0 : Ord} {c : BkS} {o : Ord} {ts : List Trd} {A : Option Addr} {m cc : Nat} {V' : BkV} {wr : World} (h1 : PM b s o0 c o ts) (h2 : PR gb B V nn w g13 c o ts A m cc V' wr) : PLoop gb B V nn w g13 b s o0 ((c.side s).length + (if 0 < o.left then 1 else 0)) (.slice A m cc) wr :=
 ⟨c, o, ts, A, m, cc, V', rfl, Lib.hid h1, Lib.hid h2, Lib.hid rfl⟩
end Go.Proofs.YtlcalajehnaenaaGreatDoor
