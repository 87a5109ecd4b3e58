/- package lexer: the tokens of a told text, found by closed facts; the texts of the laws. -/
import Derived.Test.YtlcalajehnaenaaGreatDoorHG34
import Derived.Test.YtlcalajehnaenaaGreatDoorHLdCpC
import Derived.Test.YtlcalajehnaenaaGreatDoorHG21
import Derived.Test.YtlcalajehnaenaaGreatDoorHG29
import Derived.Test.YtlcalajehnaenaaGreatDoorHG23
import Derived.Test.YtlcalajehnaenaaGreatDoorHG25
import Derived.Test.YtlcalajehnaenaaGreatDoorHG0
import Derived.Test.YtlcalajehnaenaaGreatDoorHLaw
import Derived.Deep.DeepCutAuto
import Derived.BigQuiet
import Derived.BigRegion
import Derived.RegionTactic
namespace Go.Proofs.YtlcalajehnaenaaGreatDoor
open Go.RowKit
def kAtB (s : ByteArray) (j : Nat) : Option Int := if h : j < s.size then kd s[j].toNat else if j = s.size then some 0 else none
theorem kAt_of {s : ByteArray} {j : Nat} {k : Int} (h : kAtB s j = some k) : KAt s j k := by
 unfold kAtB at h
 split at h
 ·rename_i hj
  exact .inr ⟨hj, h⟩
 ·split at h
  ·rename_i hj
   injection h with h
   exact .inl ⟨hj, h.symm⟩
  ·cases h
def allB (s : ByteArray) (k : Int) (p q : Nat) : Bool := (List.range q).all fun j => decide (j < p) || decide (kAtB s j = some k)
theorem allB_at {s : ByteArray} {k : Int} {p q : Nat} (h : allB s k p q = true) : ∀ j, p ≤ j → j < q → KAt s j k := fun j h1 h2 => by
 have h3 := List.all_eq_true.1 h j (List.mem_range.2 h2)
 simp only [Bool.or_eq_true, decide_eq_true_eq] at h3
 rcases h3 with h3 | h3
 ·omega
 ·exact kAt_of h3
theorem lxs_of {s : ByteArray} (a p : Nat) (k : Int) (hap : a ≤ p) (hss : s.size ≤ 100000) (hb : allB s 1 a p = true) (he : kAtB s p = some k) (h1 : k ≠ 1) (h2 : k ≠ 2) : LxS s (a : Int) (p : Int) := fun w hK => by
 refine (skip_at s a p w hap (kAt_of he).le hss (Lib.hid (allB_at hb)) k (Lib.hid (kAt_of he)) h1 h2 (Lib.hid hK)).mono ?_
 rintro e w' ⟨h, rfl⟩
 exact ⟨h, Below.refl _ _⟩
theorem lxp_word {s : ByteArray} {ts : List Tk} (p q p' : Nat) (txt : ByteArray) (k k' : Int) (hpq : p < q) (hl : q ≤ p + 16) (hss : s.size ≤ 100000) (hw : allB s 3 p q = true) (he : kAtB s q = some k) (hk3 : k ≠ 3) (hk4 : k ≠ 4) (hk5 : k ≠ 5) (ht : s.extract p q = txt) (hz : txt.size = q - p)
 (hqp : q ≤ p') (hb : allB s 1 q p' = true) (he' : kAtB s p' = some k') (h1 : k' ≠ 1) (h2 : k' ≠ 2) (hr : LxP s (p' : Int) ts) : LxP s (p : Int) (⟨0, txt, 0, (p : Int)⟩ :: ts) := by
 have hq := (kAt_of he).le
 have e : (p : Int) + (txt.size : Int) = (q : Int) := by omega
 refine ⟨by omega, fun w hK => nextW_any s p q txt k w hpq (by omega) hl (Lib.hid (allB_at hw)) (Lib.hid (kAt_of he)) hk3 hk4 hk5 (Lib.hid ht) (Lib.hid hK), by rw [e]; exact IntWalk.i64_in _ (by omega), (p' : Int), ?_, hr⟩
 show LxS s ((p : Int) + (txt.size : Int)) (p' : Int)
 rw [e]
 exact lxs_of q p' k' hqp hss hb he' h1 h2
theorem lxp_semi {s : ByteArray} {ts : List Tk} (p p' : Nat) (k' : Int) (hss : s.size ≤ 100000) (he : kAtB s p = some 7) (ht : s.extract p (p + 1) = semiS)
 (hqp : p + 1 ≤ p') (hb : allB s 1 (p + 1) p' = true) (he' : kAtB s p' = some k') (h1 : k' ≠ 1) (h2 : k' ≠ 2) (hr : LxP s (p' : Int) ts) : LxP s (p : Int) (⟨2, semiS, 0, (p : Int)⟩ :: ts) := by
 have hq := (kAt_of he).lt (by decide)
 have e : (p : Int) + (semiS.size : Int) = ((p + 1 : Nat) : Int) := rfl
 refine ⟨by omega, fun w hK => nextS_any s p semiS w (by omega) (Lib.hid (kAt_of he)) (Lib.hid ht) (Lib.hid hK), by show IntKind.i64.wrap ((p : Int) + (semiS.size : Int)) = (p : Int) + (semiS.size : Int); rw [e]; exact IntWalk.i64_in _ (by omega), (p' : Int), ?_, hr⟩
 show LxS s ((p : Int) + (semiS.size : Int)) (p' : Int)
 rw [e]
 exact lxs_of (p + 1) p' k' hqp hss hb he' h1 h2
def goldS : ByteArray := ⟨#[103, 111, 108, 100]⟩
def ironS : ByteArray := ⟨#[105, 114, 111, 110]⟩
def textI : ByteArray := ⟨#[105, 116, 101, 109, 32, 103, 111, 108, 100, 32, 99, 111, 105, 110, 59, 32, 105, 116, 101, 109, 32, 105, 114, 111, 110, 59]⟩
def toksI : List Tk := [⟨0, itemS, 0, 0⟩, ⟨0, goldS, 0, 5⟩, ⟨0, coinS, 0, 10⟩, ⟨2, semiS, 0, 14⟩, ⟨0, itemS, 0, 16⟩, ⟨0, ironS, 0, 21⟩, ⟨2, semiS, 0, 25⟩]
theorem textI_skip : LxS textI 0 0 := lxs_of 0 0 3 (by decide) (by decide) (by kernel_rfl) (by kernel_rfl) (by decide) (by decide)
theorem textI_toks : LxP textI 0 toksI :=
 lxp_word 0 4 5 itemS 1 3 (by decide) (by decide) (by decide) (by kernel_rfl) (by kernel_rfl) (by decide) (by decide) (by decide) (by kernel_rfl) (by kernel_rfl) (by decide) (by kernel_rfl) (by kernel_rfl) (by decide) (by decide)
 (lxp_word 5 9 10 goldS 1 3 (by decide) (by decide) (by decide) (by kernel_rfl) (by kernel_rfl) (by decide) (by decide) (by decide) (by kernel_rfl) (by kernel_rfl) (by decide) (by kernel_rfl) (by kernel_rfl) (by decide) (by decide)
 (lxp_word 10 14 14 coinS 7 7 (by decide) (by decide) (by decide) (by kernel_rfl) (by kernel_rfl) (by decide) (by decide) (by decide) (by kernel_rfl) (by kernel_rfl) (by decide) (by kernel_rfl) (by kernel_rfl) (by decide) (by decide)
 (lxp_semi 14 16 3 (by decide) (by kernel_rfl) (by kernel_rfl) (by decide) (by kernel_rfl) (by kernel_rfl) (by decide) (by decide)
 (lxp_word 16 20 21 itemS 1 3 (by decide) (by decide) (by decide) (by kernel_rfl) (by kernel_rfl) (by decide) (by decide) (by decide) (by kernel_rfl) (by kernel_rfl) (by decide) (by kernel_rfl) (by kernel_rfl) (by decide) (by decide)
 (lxp_word 21 25 25 ironS 7 7 (by decide) (by decide) (by decide) (by kernel_rfl) (by kernel_rfl) (by decide) (by decide) (by decide) (by kernel_rfl) (by kernel_rfl) (by decide) (by kernel_rfl) (by kernel_rfl) (by decide) (by decide)
 (lxp_semi 25 26 0 (by decide) (by kernel_rfl) (by kernel_rfl) (by decide) (by kernel_rfl) (by kernel_rfl) (by decide) (by decide) (show ((26 : Nat) : Int) = (textI.size : Int) from rfl)))))))
def dclI : List Dcl := [⟨goldS, true, 5⟩, ⟨ironS, false, 21⟩]
theorem dclI_toks : DTk dclI toksI := ⟨⟨0, itemS, 0, 0⟩, ⟨0, goldS, 0, 5⟩, ⟨0, coinS, 0, 10⟩, ⟨2, semiS, 0, 14⟩, _, rfl, rfl, rfl, rfl, rfl, rfl, rfl, rfl, rfl, rfl, ⟨0, itemS, 0, 16⟩, ⟨0, ironS, 0, 21⟩, ⟨0, coinS, 0, 0⟩, ⟨2, semiS, 0, 25⟩, [], rfl, rfl, rfl, rfl, rfl, rfl, rfl, rfl, rfl, rfl, rfl⟩
def itemsI : List Itm := [⟨goldS, false, true⟩, ⟨ironS, false, false⟩]
theorem compileI_any (w : World) (HK : Hid (KL w)) : Calls Tryz.prog 4 #[.string textI] w (CompPost itemsI w) :=
 compile_any textI dclI toksI 0 w HK (Lib.hid textI_skip) (Lib.hid textI_toks) (by decide) (by decide) (Lib.hid dclI_toks) (by decide) (Lib.hid (by
  simp only [dclI, List.map_cons, List.map_nil, itmOf, List.nodup_cons, List.mem_singleton, List.not_mem_nil, not_false_eq_true, List.nodup_nil, and_true]
  decide)) (Lib.hid (by
  intro i hi
  simp only [dclI, List.map_cons, List.map_nil, List.mem_cons, List.not_mem_nil, or_false] at hi
  rcases hi with rfl | rfl <;> decide))
theorem itemsI_ok : CatOk itemsI where
 word := by
  intro i hi
  simp only [itemsI, List.mem_cons, List.not_mem_nil, or_false] at hi
  rcases hi with rfl | rfl
  all_goals exact ⟨by decide, by decide, by decide⟩
 nd := by decide
 len := by decide
end Go.Proofs.YtlcalajehnaenaaGreatDoor
namespace Go.Proofs.YtlcalajehnaenaaGreatDoor
open Go.RowKit
def arr5 (g : Int → Int) : Array Value := #[.int .i64 (g 0), .int .i64 (g 1), .int .i64 (g 2), .int .i64 (g 3), .int .i64 (g 4)]
theorem arr5_at (g : Int → Int) {a : Int} (ha : 1 ≤ a ∧ a ≤ 4) : (arr5 g)[a.toNat]? = some (.int .i64 (g a)) := by
 rcases (show a = 1 ∨ a = 2 ∨ a = 3 ∨ a = 4 by omega) with rfl | rfl | rfl | rfl <;> rfl
theorem arr5_set (g : Int → Int) {a x : Int} (ha : 1 ≤ a ∧ a ≤ 4) : (arr5 g).setIfInBounds a.toNat (.int .i64 x) = arr5 (fun y => if y = a then x else g y) := by
 rcases (show a = 1 ∨ a = 2 ∨ a = 3 ∨ a = 4 by omega) with rfl | rfl | rfl | rfl <;> rfl
abbrev BsE := List (Nat × TypeId × Array Value)
structure BsM (ar : Prop) (W : World) (gb gA gg gi : Nat) (mx : Int → Bool) (Ao : Option Addr) (l : List OpP) (At : Option Addr) (ts : List Trd) (E : BsE) (b : BkS) (g r : Int → Int) (S : LSt) (w : World) : Prop where
 below : Below W.heap.size W w
 bk : ∃ V, BkAt w W.heap.size gb V b ∧ ∀ x ∈ E, ¬ BkF gb V b.os.length x.1
 led : ∃ L, LedAt mx w L S ∧ L.gl = gA ∧ L.it.2.1 = 2 ∧ (∀ q, LedF L q → W.heap.size ≤ q) ∧ ∀ x ∈ E, ¬ LedF L x.1
 gold : ar → Blk w gg 46 (arr5 g)
 iron : ar → Blk w gi 46 (arr5 r)
 gge : ar → W.heap.size ≤ gg ∧ W.heap.size ≤ gi ∧ gg ≠ gi
 op : RowT w 50 Ao (l.flatMap OpP.cells)
 tr : RowT w 59 At (ts.flatMap Trd.cells)
 ex : ∀ x ∈ E, Blk w x.1 x.2.1 x.2.2
 exg : ar → ∀ x ∈ E, x.1 ≠ gg ∧ x.1 ≠ gi
section
variable {ar : Prop} {W w w' : World} {gb gA gg gi : Nat} {mx : Int → Bool} {Ao At : Option Addr} {l : List OpP} {ts : List Trd} {E : BsE} {b b' : BkS} {g r g' r' : Int → Int} {S : LSt}
theorem BsM.all (h : BsM ar W gb gA gg gi mx Ao l At ts E b g r S w) (hb : Below w.heap.size w w') : BsM ar W gb gA gg gi mx Ao l At ts E b g r S w' := by
 obtain ⟨V, h1, h1'⟩ := h.bk
 obtain ⟨L, h2, h3⟩ := h.led
 exact ⟨bt h.below hb, ⟨V, h1.all hb, h1'⟩, ⟨L, h2.all hb, h3⟩, fun ha => (h.gold ha).all hb, fun ha => (h.iron ha).all hb, h.gge, h.op.mod (F := fun _ => False) (Mod.of_below _ hb) (fun _ hf => hf.elim), h.tr.mod (F := fun _ => False) (Mod.of_below _ hb) (fun _ hf => hf.elim), fun x hx => (h.ex x hx).all hb, h.exg⟩
theorem BsM.add {q : Nat} {t : TypeId} {cs : Array Value} (h : BsM ar W gb gA gg gi mx Ao l At ts E b g r S w) (hb : Below w.heap.size w w') (hq : Blk w' q t cs) (hn : w.heap.size ≤ q) : BsM ar W gb gA gg gi mx Ao l At ts ((q, t, cs) :: E) b g r S w' := by
 have h' := h.all hb
 obtain ⟨V, h1, h1'⟩ := h.bk
 obtain ⟨L, h2, h3, h4, h5, h6⟩ := h.led
 refine ⟨h'.below, ⟨V, h1.all hb, ?_⟩, ⟨L, h2.all hb, h3, h4, h5, ?_⟩, h'.gold, h'.iron, h'.gge, h'.op, h'.tr, ?_, ?_⟩
 ·intro x hx
  rcases List.mem_cons.1 hx with rfl | hx
  ·intro hf
   have := (h1.lt hf).2
   dsimp only at this
   omega
  ·exact h1' x hx
 ·intro x hx
  rcases List.mem_cons.1 hx with rfl | hx
  ·intro hf
   have := h2.lt hf
   dsimp only at this
   omega
  ·exact h6 x hx
 ·intro x hx
  rcases List.mem_cons.1 hx with rfl | hx
  ·exact hq
  ·exact h'.ex x hx
 ·intro ha x hx
  rcases List.mem_cons.1 hx with rfl | hx
  ·have h7 := (h.gold ha).lt
   have h8 := (h.iron ha).lt
   dsimp only
   omega
  ·exact h.exg ha x hx
theorem BsM.trades {At' : Option Addr} {ts' : List Trd} (h : BsM ar W gb gA gg gi mx Ao l At ts E b g r S w) (hr : RowT w 59 At' (ts'.flatMap Trd.cells)) : BsM ar W gb gA gg gi mx Ao l At' ts' E b g r S w := ⟨h.below, h.bk, h.led, h.gold, h.iron, h.gge, h.op, hr, h.ex, h.exg⟩
theorem BsM.fewer {E' : BsE} (h : BsM ar W gb gA gg gi mx Ao l At ts E b g r S w) (hE : ∀ x ∈ E', x ∈ E) : BsM ar W gb gA gg gi mx Ao l At ts E' b g r S w := by
 obtain ⟨V, h1, h1'⟩ := h.bk
 obtain ⟨L, h2, h3, h4, h5, h6⟩ := h.led
 exact ⟨h.below, ⟨V, h1, fun x hx => h1' x (hE x hx)⟩, ⟨L, h2, h3, h4, h5, fun x hx => h6 x (hE x hx)⟩, h.gold, h.iron, h.gge, h.op, h.tr, fun x hx => h.ex x (hE x hx), fun ha x hx => h.exg ha x (hE x hx)⟩
theorem BkAt.notLed {V : BkV} {L : Led} (h : BkAt w W.heap.size gb V b) (hL : LedAt mx w L S) : ∀ q, BkF gb V b.os.length q → ¬ LedF L q := fun q hq hl => by
 rcases h.raw.ty hq with e | e | e
 ·exact hL.not_ty hl e (by decide) (by decide) (by decide)
 ·exact hL.not_ty hl e (by decide) (by decide) (by decide)
 ·exact hL.not_ty hl e (by decide) (by decide) (by decide)
theorem BsM.next {V V' : BkV} (h : BsM ar W gb gA gg gi mx Ao l At ts E b g r S w) (h1 : BkAt w W.heap.size gb V b) (h1' : ∀ x ∈ E, ¬ BkF gb V b.os.length x.1) (hn : BkNext gb W.heap.size V b w V' b' w') : BsM ar W gb gA gg gi mx Ao l At ts E b' g r S w' := by
 obtain ⟨L, h2, h3, h4, h5, h6⟩ := h.led
 refine ⟨hn.mod.below h.below h.below.size (fun q hq => (h1.lt hq).1), ⟨V', hn.bk, fun x hx hf => (hn.new x.1 hf).elim (h1' x hx) (fun e => by have := (h.ex x hx).lt; omega)⟩, ⟨L, h2.mod hn.mod (fun q hq => ⟨fun hl => h1.notLed h2 q hq hl, fun ht => h1.raw.isnt ht (by decide) hq, fun ht => h1.raw.isnt ht (by decide) hq⟩), h3, h4, h5, h6⟩, fun ha => hn.mod.blk (h.gold ha) (fun hq => h1.raw.isnt (h.gold ha).ty (by decide) hq), fun ha => hn.mod.blk (h.iron ha) (fun hq => h1.raw.isnt (h.iron ha).ty (by decide) hq), h.gge, h.op.mod hn.mod (fun q hq ht => h1.raw.isnt ht (by decide) hq), h.tr.mod hn.mod (fun q hq ht => h1.raw.isnt ht (by decide) hq), fun x hx => hn.mod.blk (h.ex x hx) (h1' x hx), h.exg⟩
theorem bs_place (buy : Bool) (acc price n : Int) (HJ : Hid (BsM ar W gb gA gg gi mx Ao l At ts E b g r S w)) (hlt : b.os.length < 100000) {id err : Int} {us : List Trd} {k : Nat} (hE : placeE b acc buy price n = (id, us, err, b')) (hk : us.length = k) :
 Calls Tryz.prog 9 #[.pointer (some ⟨gb, 0, none⟩), .int .i64 acc, .bool buy, .int .i64 price, .int .i64 n] w fun e w' => ∃ A c, e = .returned (.tuple #[.int .i64 id, .slice A k c, .int .i64 err]) ∧ w'.ownsRow w.heap.size 59 4 (.slice A k c) k (us.flatMap Trd.cells) ∧ b'.Ok ∧ BsM ar W gb gA gg gi mx Ao l A us E b' g r S w' := by
 obtain ⟨V, h1, h1'⟩ := HJ.out.bk
 refine (place_step gb W.heap.size V b buy acc price n w (Lib.hid h1) hlt hE hk).mono ?_
 rintro e w' ⟨A, c, V', rfl, ho, hn⟩
 exact ⟨A, c, rfl, ho, hn.bk.ok, (HJ.out.next h1 h1' hn).trades (RowT.of_own ho)⟩
theorem bs_get (id : Int) (HJ : Hid (BsM ar W gb gA gg gi mx Ao l At ts E b g r S w)) :
 Calls Tryz.prog 10 #[.pointer (some ⟨gb, 0, none⟩), .int .i64 id] w fun e w' => e = .returned (.tuple #[.agg #[.int .i64 (getO b.os id).id, .int .i64 (getO b.os id).acc, .bool (getO b.os id).buy, .int .i64 (getO b.os id).price, .int .i64 (getO b.os id).n, .int .i64 (getO b.os id).left], .bool (hasO b.os id)]) ∧ BsM ar W gb gA gg gi mx Ao l At ts E b g r S w' ∧ Below w.heap.size w w' := by
 obtain ⟨V, h1, -⟩ := HJ.out.bk
 refine (get_any gb W.heap.size V b id w (Lib.hid h1)).mono ?_
 rintro e w' ⟨rfl, hb⟩
 exact ⟨rfl, HJ.out.all hb, hb⟩
theorem bs_balance (a i : Int) (ha : 1 ≤ a ∧ a ≤ 4) (hi : 0 ≤ i ∧ i ≤ 1) (HJ : Hid (BsM ar W gb gA gg gi mx Ao l At ts E b g r S w)) (HO : Hid (LOk mx 0 S)) :
 Calls Tryz.prog 11 #[.pointer (some ⟨gA, 0, none⟩), .int .i64 a, .int .i64 i] w fun e w' => e = .returned (.int .i64 (totL (S.st (kOf a i)))) ∧ BsM ar W gb gA gg gi mx Ao l At ts E b g r S w' := by
 obtain ⟨L, h2, h3, h4⟩ := HJ.out.led
 have := balance_any L S a i w (Lib.hid h2) (by omega) (by omega) (Lib.hid (HO.out.ok _)) (Lib.hid (Nat.le_trans (HO.out.len _) (by decide)))
 rw [h3] at this
 refine this.mono ?_
 rintro e w' ⟨rfl, hb⟩
 exact ⟨rfl, HJ.out.all hb⟩
theorem bs_total (i : Int) (HJ : Hid (BsM ar W gb gA gg gi mx Ao l At ts E b g r S w)) :
 Calls Tryz.prog 12 #[.pointer (some ⟨gA, 0, none⟩), .int .i64 i] w fun e w' => e = .returned (.int .i64 (S.tot i)) ∧ w' = w := by
 obtain ⟨L, h2, h3, h4⟩ := HJ.out.led
 have := ltot_any L S i w (Lib.hid h2)
 rw [h3] at this
 exact this
theorem two_ok {L : Led} {z : Bool} {actor tick K : Int} {A : Option Addr} {m1 m2 : Mv} (hmv : MvAt w A 2 2 [m1, m2]) (h1 : MvOk L.it.2.1 m1) (h2 : MvOk L.it.2.1 m2) (f1 : if z = true then m1.frm = 0 else 1 ≤ m1.frm) (f2 : if z = true then m2.frm = 0 else 1 ≤ m2.frm) (ha : 0 ≤ actor ∧ actor ≤ 4) (ht : 0 ≤ tick ∧ tick ≤ 100) (hnow : S.now ≤ tick) (hns : S.ns ≤ 50000) (hnf : S.nf ≤ 100000) (hK : K + (m1.n + m2.n) ≤ 1073741824) (hit : L.it.2.1 = 2) : StepOk mx w L S K z actor tick A 2 2 [m1, m2] where
 mv := hmv
 ok := fun m hm => by
  simp only [List.mem_cons, List.not_mem_nil, or_false] at hm
  rcases hm with rfl | rfl
  ·exact h1
  ·exact h2
 from_ := fun m hm => by
  simp only [List.mem_cons, List.not_mem_nil, or_false] at hm
  rcases hm with rfl | rfl
  ·exact f1
  ·exact f2
 n0 := by decide
 n1 := by decide
 ac := ⟨ha.1, by have := ha.2; omega⟩
 t0 := ht.1
 t1 := by have := ht.2; omega
 t2 := hnow
 ns := by omega
 k := by
  have e : sumN [m1, m2] = m1.n + m2.n := by simp [sumN]
  rw [e]
  exact hK
 it := by rw [hit]; decide
 nf := by omega
theorem bs_post (z : Bool) (actor tick : Int) (A : Option Addr) (m1 m2 : Mv) (S1 : LSt) (HJ : Hid (BsM ar W gb gA gg gi mx Ao l At ts E b g r S w)) (HO : Hid (LOk mx 0 S)) (hmv : Hid (MvAt w A 2 2 [m1, m2])) (h1 : Hid (MvOk 2 m1)) (h2 : Hid (MvOk 2 m2)) (f1 : Hid (if z = true then m1.frm = 0 else 1 ≤ m1.frm)) (f2 : Hid (if z = true then m2.frm = 0 else 1 ≤ m2.frm)) (ha : 0 ≤ actor ∧ actor ≤ 4) (ht : 0 ≤ tick ∧ tick ≤ 100) (hnow : Hid (S.now ≤ tick)) (hns : Hid (S.ns ≤ 50000 ∧ S.nf ≤ 100000)) (hn : Hid (m1.n + m2.n ≤ 1073741824)) (hs : Hid (mvsP mx S [m1, m2] = .ok S1)) :
 Calls Tryz.prog 7 #[.pointer (some ⟨gA, 0, none⟩), stA 0 (kindZ z) actor tick (-1) 0 (.slice A 2 2)] w fun e w' => ∃ k : Int, e = .returned (.tuple #[.int .i64 k, .int .i64 0]) ∧ BsM ar W gb gA gg gi mx Ao l At ts E b g r { S1 with ns := S.ns + 1, now := tick } w' := by
 obtain ⟨L, k1, k2, k3, k4, k5⟩ := HJ.out.led
 obtain ⟨V, b1, b1'⟩ := HJ.out.bk
 have HP := post_any mx 0 L S z 0 actor tick A 2 2 [m1, m2] w (Lib.hid k1) HO (Lib.hid (two_ok hmv.out (by rw [k3]; exact h1.out) (by rw [k3]; exact h2.out) f1.out f2.out ha ht hnow.out hns.out.1 hns.out.2 (by have := hn.out; omega) k3))
 rw [k2] at HP
 refine HP.mono ?_
 intro e w' hp
 unfold PostPost at hp
 rw [hs.out] at hp
 obtain ⟨L', rfl, q1, q2, q3, q4⟩ := hp
 have hsz := HJ.out.below.size
 have hty : ∀ {q t : Nat}, LedF L q → Ty w q t → t ≠ 94 → t ≠ 43 → t ≠ 236 → False := fun hl ht a1 a2 a3 => k1.not_ty hl ht a1 a2 a3
 refine ⟨_, rfl, q3.below HJ.out.below hsz k4, ⟨V, b1.mod q3 (fun q hq hl => b1.notLed k1 q hq hl), b1'⟩, ⟨L', q1, by rw [q2.1]; exact k2, by rw [q2.2.2.2.2.2]; exact k3, fun q hq => (q4 q hq).elim (k4 q) (fun h => Nat.le_trans hsz h), fun x hx hf => (q4 x.1 hf).elim (k5 x hx) (fun e => by have := (HJ.out.ex x hx).lt; omega)⟩, fun ha => q3.blk (HJ.out.gold ha) (fun hl => hty hl (HJ.out.gold ha).ty (by decide) (by decide) (by decide)), fun ha => q3.blk (HJ.out.iron ha) (fun hl => hty hl (HJ.out.iron ha).ty (by decide) (by decide) (by decide)), HJ.out.gge, HJ.out.op.mod q3 (fun q hl ht => hty hl ht (by decide) (by decide) (by decide)), HJ.out.tr.mod q3 (fun q hl ht => hty hl ht (by decide) (by decide) (by decide)), fun x hx => q3.blk (HJ.out.ex x hx) (k5 x hx), HJ.out.exg⟩
theorem BsM.set {q : Nat} (ha : ar) (h : BsM ar W gb gA gg gi mx Ao l At ts E b g r S w) {p : Addr} {v : Value} (hp : p.block = q) (hq : q = gg ∨ q = gi) (hg : Blk (w.setCell p v) gg 46 (arr5 g')) (hi : Blk (w.setCell p v) gi 46 (arr5 r')) : BsM ar W gb gA gg gi mx Ao l At ts E b g' r' S (w.setCell p v) := by
 obtain ⟨V, b1, b1'⟩ := h.bk
 obtain ⟨L, k1, k2, k3, k4, k5⟩ := h.led
 have hty : Ty w q 46 := by
  rcases hq with rfl | rfl
  ·exact (h.gold ha).ty
  ·exact (h.iron ha).ty
 have hge : W.heap.size ≤ q := by
  rcases hq with rfl | rfl
  ·exact (h.gge ha).1
  ·exact (h.gge ha).2.1
 have m : Mod (fun x => x = q) w (w.setCell p v) := (Mod.refl (fun x => x = q) w).set (.inl hp) v
 have hno : ∀ {x t : Nat}, x = q → Ty w x t → t ≠ 46 → False := fun e ht hn => hn (ht.unique (e ▸ hty))
 refine ⟨m.below h.below h.below.size (fun x e => e ▸ hge), ⟨V, b1.mod m (fun x hx e => b1.raw.isnt (e ▸ hty) (by decide) hx), b1'⟩, ⟨L, k1.mod m (fun x e => ⟨fun hl => k1.not_ty hl (e ▸ hty) (by decide) (by decide) (by decide), fun ht => hno e ht (by decide), fun ht => hno e ht (by decide)⟩), k2, k3, k4, k5⟩, fun _ => hg, fun _ => hi, h.gge, h.op.mod m (fun x e ht => hno e ht (by decide)), h.tr.mod m (fun x e ht => hno e ht (by decide)), fun x hx => m.blk (h.ex x hx) (fun e => by
  rcases hq with e2 | e2
  ·exact (h.exg ha x hx).1 (e.trans e2)
  ·exact (h.exg ha x hx).2 (e.trans e2)), h.exg⟩
theorem BsM.setG (ha : ar) (h : BsM ar W gb gA gg gi mx Ao l At ts E b g r S w) {a x : Int} (h1 : 1 ≤ a ∧ a ≤ 4) : BsM ar W gb gA gg gi mx Ao l At ts E b (fun y => if y = a then x else g y) r S (w.setCell ⟨gg, a.toNat, none⟩ (.int .i64 x)) := by
 have h2 := (h.gold ha).set_ a.toNat (.int .i64 x)
 rw [arr5_set g h1] at h2
 exact h.set ha rfl (.inl rfl) h2 ((Mod.refl (fun q => q = gg) w).set (p := ⟨gg, a.toNat, none⟩) (.inl rfl) _ |>.blk (h.iron ha) (fun e => (h.gge ha).2.2 e.symm))
theorem BsM.setI (ha : ar) (h : BsM ar W gb gA gg gi mx Ao l At ts E b g r S w) {a x : Int} (h1 : 1 ≤ a ∧ a ≤ 4) : BsM ar W gb gA gg gi mx Ao l At ts E b g (fun y => if y = a then x else r y) S (w.setCell ⟨gi, a.toNat, none⟩ (.int .i64 x)) := by
 have h2 := (h.iron ha).set_ a.toNat (.int .i64 x)
 rw [arr5_set r h1] at h2
 exact h.set ha rfl (.inr rfl) ((Mod.refl (fun q => q = gi) w).set (p := ⟨gi, a.toNat, none⟩) (.inl rfl) _ |>.blk (h.gold ha) (fun e => (h.gge ha).2.2 e)) h2
theorem BsM.start {gg' gi' : Nat} (h : BsM ar W gb gA gg gi mx Ao l At ts E b g r S w) (hb : Below w.heap.size w w') (h1 : Blk w' gg' 46 (arr5 g')) (h2 : Blk w' gi' 46 (arr5 r')) (h3 : w.heap.size ≤ gg') (h4 : w.heap.size ≤ gi') (hne : gg' ≠ gi') : BsM True W gb gA gg' gi' mx Ao l At ts E b g' r' S w' := by
 have h' := h.all hb
 have hsz := h.below.size
 exact ⟨h'.below, h'.bk, h'.led, fun _ => h1, fun _ => h2, fun _ => ⟨by omega, by omega, hne⟩, h'.op, h'.tr, h'.ex, fun _ x hx => by
  have := (h.ex x hx).lt
  omega⟩
theorem BsM.ops {Ao' : Option Addr} {l' : List OpP} (h : BsM ar W gb gA gg gi mx Ao l At ts E b g r S w) (hr : RowT w 50 Ao' (l'.flatMap OpP.cells)) : BsM ar W gb gA gg gi mx Ao' l' At ts E b g r S w := ⟨h.below, h.bk, h.led, h.gold, h.iron, h.gge, hr, h.tr, h.ex, h.exg⟩
theorem BsM.at_ {q : Nat} {t : TypeId} {cs : Array Value} (h : BsM ar W gb gA gg gi mx Ao l At ts E b g r S w) (hq : (q, t, cs) ∈ E) : Blk w q t cs := h.ex _ hq
theorem BsM.opAt (h : BsM ar W gb gA gg gi mx Ao l At ts E b g r S w) {k : Nat} (hk : k < l.length) : ∃ q off, Ao = some ⟨q, off, none⟩ ∧ ∀ i, i < 6 → w.cell? ⟨q, off + (k * 6 + i), none⟩ = (OpP.cells l[k])[i]? := by
 obtain ⟨q, off, e, -, -, hc⟩ := h.op.at_ OpP.cells 6 OpP.cells_length (by decide) hk
 exact ⟨q, off, e, hc⟩
theorem BsM.trAt (h : BsM ar W gb gA gg gi mx Ao l At ts E b g r S w) {k : Nat} (hk : k < ts.length) : ∃ q off, At = some ⟨q, off, none⟩ ∧ ∀ i, i < 4 → w.cell? ⟨q, off + (k * 4 + i), none⟩ = (Trd.cells ts[k])[i]? := by
 obtain ⟨q, off, e, -, -, hc⟩ := h.tr.at_ Trd.cells 4 Trd.cells_length (by decide) hk
 exact ⟨q, off, e, hc⟩
theorem BsM.op6 (h : BsM ar W gb gA gg gi mx Ao l At ts E b g r S w) {k : Nat} (hk : k < l.length) : ∃ q off, Ao = some ⟨q, off, none⟩ ∧ w.cell? ⟨q, off + k * 6, none⟩ = some (.int .i64 l[k].kind) ∧ w.cell? ⟨q, off + k * 6 + 1, none⟩ = some (.int .i64 l[k].acc) ∧ w.cell? ⟨q, off + k * 6 + 2, none⟩ = some (.bool l[k].buy) ∧ w.cell? ⟨q, off + k * 6 + 3, none⟩ = some (.int .i64 l[k].price) ∧ w.cell? ⟨q, off + k * 6 + 4, none⟩ = some (.int .i64 l[k].n) ∧ w.cell? ⟨q, off + k * 6 + 5, none⟩ = some (.int .i64 l[k].id) := by
 obtain ⟨q, off, e, hc⟩ := h.opAt hk
 exact ⟨q, off, e, hc 0 (by decide), hc 1 (by decide), hc 2 (by decide), hc 3 (by decide), hc 4 (by decide), hc 5 (by decide)⟩
theorem BsM.tr4 (h : BsM ar W gb gA gg gi mx Ao l At ts E b g r S w) {k : Nat} (hk : k < ts.length) : ∃ q off, At = some ⟨q, off, none⟩ ∧ w.cell? ⟨q, off + k * 4, none⟩ = some (.int .i64 ts[k].buy) ∧ w.cell? ⟨q, off + k * 4 + 1, none⟩ = some (.int .i64 ts[k].sell) ∧ w.cell? ⟨q, off + k * 4 + 2, none⟩ = some (.int .i64 ts[k].price) ∧ w.cell? ⟨q, off + k * 4 + 3, none⟩ = some (.int .i64 ts[k].n) := by
 obtain ⟨q, off, e, hc⟩ := h.trAt hk
 exact ⟨q, off, e, hc 0 (by decide), hc 1 (by decide), hc 2 (by decide), hc 3 (by decide)⟩
theorem BsM.tr4' {q off : Nat} (h : BsM ar W gb gA gg gi mx Ao l (some ⟨q, off, none⟩) ts E b g r S w) {k : Nat} (hk : k < ts.length) : w.cell? ⟨q, off + k * 4, none⟩ = some (.int .i64 ts[k].buy) ∧ w.cell? ⟨q, off + k * 4 + 1, none⟩ = some (.int .i64 ts[k].sell) ∧ w.cell? ⟨q, off + k * 4 + 2, none⟩ = some (.int .i64 ts[k].price) ∧ w.cell? ⟨q, off + k * 4 + 3, none⟩ = some (.int .i64 ts[k].n) := by
 obtain ⟨q', o', e, hc⟩ := h.tr4 hk
 injection e with e
 injection e with e1 e2
 subst e1 e2
 exact hc
theorem BsM.atG (hr : ar) (h : BsM ar W gb gA gg gi mx Ao l At ts E b g r S w) {a : Int} (ha : 1 ≤ a ∧ a ≤ 4) : w.cell? ⟨gg, a.toNat, none⟩ = some (.int .i64 (g a)) := ((h.gold hr).cell a.toNat).trans (arr5_at g ha)
theorem BsM.atI (hr : ar) (h : BsM ar W gb gA gg gi mx Ao l At ts E b g r S w) {a : Int} (ha : 1 ≤ a ∧ a ≤ 4) : w.cell? ⟨gi, a.toNat, none⟩ = some (.int .i64 (r a)) := ((h.iron hr).cell a.toNat).trans (arr5_at r ha)
end
theorem subAt_eq (g : Int → Int) (a n : Int) : subAt g a n = fun y => if y = a then g a - n else g y := by
 funext y
 unfold subAt
 split
 ·rename_i e; rw [e]
 ·rfl
theorem addAt_eq (g : Int → Int) (a n : Int) : addAt g a n = fun y => if y = a then g a + n else g y := by
 funext y
 unfold addAt
 split
 ·rename_i e; rw [e]
 ·rfl
theorem IRow.low {w : World} {B B' : Nat} {s : Sl} {l : List Nat} (h : IRow w B s l) (hB : B' ≤ B) : IRow w B' s l := ⟨h.1, h.2.1, h.2.2.1, fun h0 => by
 obtain ⟨g, off, cur, e, h1, h2⟩ := h.2.2.2 h0
 exact ⟨g, off, cur, e, Nat.le_trans hB h1, h2⟩⟩
theorem BkAt.low {w : World} {B B' gb : Nat} {V : BkV} {b : BkS} (h : BkAt w B gb V b) (hB : B' ≤ B) : BkAt w B' gb V b := ⟨h.blk, Nat.le_trans hB h.ge, own_base h.orders hB, h.bs.low hB, h.ss.low hB, h.apart, h.ok, h.few⟩
theorem BsM.new {W w : World} {gb gg gi : Nat} {mx : Int → Bool} {V : BkV} {L : Led} {S : LSt} {g r : Int → Int} (hb : Below W.heap.size W w) (h1 : BkAt w W.heap.size gb V book0) (h2 : LedAt mx w L S) (h3 : L.it.2.1 = 2) (h4 : ∀ q, LedF L q → W.heap.size ≤ q) : BsM False W gb L.gl gg gi mx none [] none [] [] book0 g r S w :=
 ⟨hb, ⟨V, h1, fun x hx => (by cases hx)⟩, ⟨L, h2, rfl, h3, h4, fun x hx => (by cases hx)⟩, fun h => h.elim, fun h => h.elim, fun h => h.elim, RowT.nil _ _ _, RowT.nil _ _ _, fun x hx => (by cases hx), fun h => h.elim⟩
theorem bsM_ok {f d i n : Int} (hf : 0 ≤ f ∧ f ≤ 4) (hd : 1 ≤ d ∧ d ≤ 4) (hi : 0 ≤ i ∧ i ≤ 1) (hn : 1 ≤ n ∧ n ≤ 1099511627776) (hne : f ≠ d) : MvOk 2 (bsM f d i n) :=
 ⟨hi.1, by show i < 2; omega, hn.1, hn.2, hf.1, by show f ≤ 1073741824; omega, hd.1, by show d ≤ 1073741824; omega, hne⟩
theorem mxI : ∀ i, mxOf itemsI i = false := fun i => by
 unfold mxOf
 rcases i.toNat with _ | _ | n
 ·rfl
 ·rfl
 ·rfl
theorem mvTwo {w : World} {q : Nat} {m1 m2 : Mv} (h : Blk w q 40 (mvV m1 ++ mvV m2).toArray) : MvAt w (some ⟨q, 0, none⟩) 2 2 [m1, m2] := ⟨rfl, Nat.le_refl _, by decide, fun _ => by
 obtain ⟨cs, fr, hh⟩ := h.ty
 refine ⟨q, 0, cs, fr, rfl, hh, fun k hk => ?_⟩
 have := h.cell k
 simp only [World.cell?, hh] at this
 rw [Nat.zero_add]
 simpa using this⟩
end Go.Proofs.YtlcalajehnaenaaGreatDoor
namespace Go.Proofs.YtlcalajehnaenaaGreatDoor
open Go.RowKit
theorem BkNext.below {gb B : Nat} {V V' : BkV} {b b' : BkS} {w0 w w' : World} (h : BkNext gb B V b w V' b' w') (hK : BkAt w B gb V b) (hb : Below B w0 w) (hB : B ≤ w.heap.size) : Below B w0 w' := h.mod.below hb hB (fun _ hq => (hK.lt hq).1)
def LB1 : BkS := ⟨[⟨0, 1, false, 10, 5, 5⟩], [], [0]⟩
def LB2 : BkS := ⟨[⟨0, 1, false, 10, 5, 5⟩, ⟨1, 1, false, 9, 5, 5⟩], [], [1, 0]⟩
def LB3 : BkS := ⟨[⟨0, 1, false, 10, 5, 3⟩, ⟨1, 1, false, 9, 5, 0⟩, ⟨2, 2, true, 10, 7, 0⟩], [], [0]⟩
def LB4 : BkS := ⟨[⟨0, 1, false, 10, 5, 3⟩, ⟨1, 1, false, 9, 5, 0⟩, ⟨2, 2, true, 10, 7, 0⟩, ⟨3, 1, true, 10, 1, 1⟩], [3], []⟩
theorem lb1 : placeE ⟨[], [], []⟩ 1 false 10 5 = (0, [], 0, LB1) := by rfl
theorem lb2 : placeE LB1 1 false 9 5 = (1, [], 0, LB2) := by rfl
theorem lb3 : placeE LB2 2 true 10 7 = (2, [⟨2, 1, 9, 5⟩, ⟨2, 0, 10, 2⟩], 0, LB3) := by rfl
theorem lb4 : placeE LB3 1 true 10 1 = (3, [], 0, LB4) := by rfl
theorem lb5 : LB4.openOs.length = 1 := by rfl
theorem lb6 : getO LB3.os 0 = ⟨0, 1, false, 10, 5, 3⟩ := by rfl
theorem lb7 : hasO LB3.os 0 = true := by rfl
set_option maxRecDepth 100000 in
set_option maxHeartbeats 4000000 in
theorem lives_any (w : World) : Calls Tryz.prog 13 #[] w fun e w' => e = .returned (.bool true) ∧ Below w.heap.size w w' := by
 obtain ⟨g, hg⟩ : ∃ g, w.heap.size = g := ⟨_, rfl⟩
 have hnew := new_any w
 rw [hg] at hnew
 go_enter Tryz.func13, Tryz.ntmps13
 go_wp2_with fail
 refine (hnew).mono ?_
 rintro e w0 ⟨V0, rfl, hB0', hb0⟩
 have hB0 := Lib.hid hB0'
 have HB0 := Lib.hid hb0
 clear hB0' hnew hb0
 go_wp2_with fail
 refine (place_step g g V0 ⟨[], [], []⟩ false 1 10 5 w0 hB0 (by decide) lb1 (k := 0) rfl).mono ?_
 rintro e w1 ⟨A1, c1, V1, rfl, -, n1⟩
 have hB1 := Lib.hid n1.bk
 have hN1 := Lib.hid n1
 clear n1
 go_wp2_with fail
 refine (place_step g g V1 LB1 false 1 9 5 w1 hB1 (by decide) lb2 (k := 0) rfl).mono ?_
 rintro e w2 ⟨A2, c2, V2, rfl, -, n2⟩
 have hB2 := Lib.hid n2.bk
 have hN2 := Lib.hid n2
 clear n2
 go_wp2_with fail
 refine (place_step g g V2 LB2 true 2 10 7 w2 hB2 (by decide) lb3 (k := 2) rfl).mono ?_
 rintro e w3 ⟨A3, c3, V3, rfl, hrow, n3⟩
 have hB3 := Lib.hid n3.bk
 have hN3 := Lib.hid n3
 have HR3 := Lib.hid hrow
 clear n3 hrow
 go_wp2_with fail
 refine (get_any g g V3 LB3 0 w3 hB3).mono ?_
 rintro e w4 ⟨rfl, hb4⟩
 rw [lb6, lb7]
 dsimp only
 have hB4 := Lib.hid (hB3.out.all hb4)
 have HB4 := Lib.hid hb4
 have HR4 := Lib.hid (own_keep HR3.out hb4)
 clear hb4
 go_wp2_with fail
 obtain ⟨w5, hw5⟩ : ∃ w5, w5 = w4.alloc (.cells #[.int .i64 0, .int .i64 1, .bool false, .int .i64 10, .int .i64 5, .int .i64 3] 55) := ⟨_, rfl⟩
 rw [← hw5]
 have hb5 : Below w4.heap.size w4 w5 := by rw [hw5]; exact (Below.refl _ _).alloc (Nat.le_refl _) _
 have hB5 := Lib.hid (hB4.out.all hb5)
 have HB5 := Lib.hid (bt HB4.out hb5)
 have HR5 := Lib.hid (own_keep HR4.out hb5)
 obtain ⟨g11, hg11⟩ : ∃ g11, w4.heap.size = g11 := ⟨_, rfl⟩
 rw [hg11]
 clear hw5 hb5 hg11
 refine (place_step g g V3 LB3 true 1 10 1 w5 hB5 (by decide) lb4 (k := 0) rfl).mono ?_
 rintro e w6 ⟨A5, c5, V5, rfl, -, n5⟩
 have hB6 := Lib.hid n5.bk
 have hN6 := Lib.hid n5
 have HR6 := Lib.hid (n5.mod.own HR5.out (fun q hq hf => hB5.out.raw.isnt (own_ty HR5.out hq) (by decide) hf))
 obtain ⟨ga, hA, -, hga, a0, a1, a2, a3⟩ := trdRow HR6.out rfl (k := 0) (by decide)
 obtain ⟨ga', hA', -, -, d0, d1, d2, d3⟩ := trdRow HR6.out rfl (k := 1) (by decide)
 subst hA
 injection hA' with hA'
 injection hA' with hA' hz1 hz2
 clear hz1 hz2
 subst hA'
 have q0 : trdAt [⟨2, 1, 9, 5⟩, ⟨2, 0, 10, 2⟩] 0 = ⟨2, 1, 9, 5⟩ := rfl
 have q1 : trdAt [⟨2, 1, 9, 5⟩, ⟨2, 0, 10, 2⟩] 1 = ⟨2, 0, 10, 2⟩ := rfl
 rw [q0] at a0 a1 a2 a3
 rw [q1] at d0 d1 d2 d3
 clear q0 q1 n5
 go_wp2_with (go_at_call 37
              (with_reducible refine (orders_any g g V5 LB4 _ hB6).mono ?_)
              rintro e w7 ⟨A6, c6, h6, -, hb7⟩
              rw [lb5] at h6
              subst h6
              have HB7 := Lib.hid hb7
              clear hb7)
 go_ret
 refine ⟨rfl, ?_⟩
 subst hg
 have z0 := HB0.out
 have z1 := hN1.out.below hB0.out z0 z0.size
 have z2 := hN2.out.below hB1.out z1 z1.size
 have z3 := hN3.out.below hB2.out z2 z2.size
 have z5 := bt z3 HB5.out
 have z6 := hN6.out.below hB5.out z5 z5.size
 exact bt z6 HB7.out
end Go.Proofs.YtlcalajehnaenaaGreatDoor
namespace Go.Proofs.YtlcalajehnaenaaGreatDoor
open Go.RowKit
def loopsOf : Code → List Code
 | .loop c => c :: loopsOf c
 | .seq a b => loopsOf a ++ loopsOf b
 | .block _ c => loopsOf c
 | .scope c => loopsOf c
 | .cond _ a b => loopsOf a ++ loopsOf b
 | _ => []
noncomputable def nthLoop (f : Func) (n : Nat) : Code := (((f.body.map loopsOf).getD [])[n]?).getD .skip
end Go.Proofs.YtlcalajehnaenaaGreatDoor
namespace Go.Proofs.YtlcalajehnaenaaGreatDoor
open Go.ChangeShapes Go.WideShapes Go.ChangeAt Go.RowKit Go.ChangeMaps
def codeR : Code → Code
 | .seq _ b => b
 | _ => .skip
def codeL : Code → Code
 | .seq a _ => a
 | _ => .skip
def codeB : Code → Code
 | .block _ c => c
 | _ => .skip
def noPan (Q : Exit → Act → World → Prop) : Exit → Act → World → Prop
 | .panic _, _, _ => False
 | e, a, w => Q e a w
theorem wp_noPan {P : Program} {c : Code} {Q : Exit → Act → World → Prop} {a : Act} {w : World} (h : c.wp P (noPan Q) a w) : c.wp P Q a w :=
 wp_mono h fun e a w hq => by cases e <;> first | exact hq | exact hq.elim
noncomputable def bsPost : Code := codeR (codeR (codeR (codeR (codeR (codeB (codeL (codeR (nthLoop Tryz.f3 2))))))))
section
variable {W w : World} {gb gA gg gi : Nat} {mx : Int → Bool} {Ao At : Option Addr} {l : List OpP} {ts : List Trd} {E : BsE} {b : BkS} {g r : Int → Int} {S : LSt} {a : Nat} {n : Int}
theorem BsM.subG (h : BsM True W gb gA gg gi mx Ao l At ts E b g r S w) (h1 : 1 ≤ (a : Int) ∧ (a : Int) ≤ 4) : BsM True W gb gA gg gi mx Ao l At ts E b (subAt g (a : Int) n) r S (w.setCell ⟨gg, a, none⟩ (.int .i64 (g (a : Int) - n))).drew := by
 rw [subAt_eq]
 exact (h.setG trivial (a := (a : Int)) h1).all (below_drewN (Below.refl _ _) 1)
theorem BsM.addG (h : BsM True W gb gA gg gi mx Ao l At ts E b g r S w) (h1 : 1 ≤ (a : Int) ∧ (a : Int) ≤ 4) : BsM True W gb gA gg gi mx Ao l At ts E b (addAt g (a : Int) n) r S (w.setCell ⟨gg, a, none⟩ (.int .i64 (g (a : Int) + n))).drew := by
 rw [addAt_eq]
 exact (h.setG trivial (a := (a : Int)) h1).all (below_drewN (Below.refl _ _) 1)
theorem BsM.subI (h : BsM True W gb gA gg gi mx Ao l At ts E b g r S w) (h1 : 1 ≤ (a : Int) ∧ (a : Int) ≤ 4) : BsM True W gb gA gg gi mx Ao l At ts E b g (subAt r (a : Int) n) S (w.setCell ⟨gi, a, none⟩ (.int .i64 (r (a : Int) - n))).drew := by
 rw [subAt_eq]
 exact (h.setI trivial (a := (a : Int)) h1).all (below_drewN (Below.refl _ _) 1)
theorem BsM.addI (h : BsM True W gb gA gg gi mx Ao l At ts E b g r S w) (h1 : 1 ≤ (a : Int) ∧ (a : Int) ≤ 4) : BsM True W gb gA gg gi mx Ao l At ts E b g (addAt r (a : Int) n) S (w.setCell ⟨gi, a, none⟩ (.int .i64 (r (a : Int) + n))).drew := by
 rw [addAt_eq]
 exact (h.setI trivial (a := (a : Int)) h1).all (below_drewN (Below.refl _ _) 1)
theorem subAt_ne (g : Int → Int) {a b : Int} (n : Int) (h : a ≠ b) : subAt g a n b = g b := if_neg (fun e => h e.symm)
theorem addAt_ne (g : Int → Int) {a b : Int} (n : Int) (h : a ≠ b) : addAt g a n b = g b := if_neg (fun e => h e.symm)
end
noncomputable def bsMoves : Code := codeL (codeR (codeR (codeR (codeR (codeB (codeL (codeR (nthLoop Tryz.f3 2))))))))
noncomputable def bsIron : Code := codeR (codeR (codeR (codeR bsPost)))
end Go.Proofs.YtlcalajehnaenaaGreatDoor
