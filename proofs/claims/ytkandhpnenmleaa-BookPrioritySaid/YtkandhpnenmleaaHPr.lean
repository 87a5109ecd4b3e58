/- book: a book in the store, whatever its orders say. -/
import Derived.Test.YtkandhpnenmleaaHBkCan
import Derived.Test.YtkandhpnenmleaaHBkOrd
import Derived.Test.YtkandhpnenmleaaHBkM
import Derived.Test.YtkandhpnenmleaaHBkIns
import Derived.Test.YtkandhpnenmleaaHRegD
import Derived.Deep.LoopGhost

namespace Go.Proofs.Ytkandhpnenmleaa
open Go.RowKit

structure BkR (W : World) (B gb : Nat) (V : BkV) (b : BkS) : Prop where
  blk : Blk W gb 69 #[V.os b.os.length, slV V.b, bet1, slV V.s, bet2]
  ge : B ≤ gb
  orders : W.ownsRow B 42 6 (V.os b.os.length) b.os.length (b.os.flatMap Ord.cells)
  bs : IRow W B V.b b.bs
  ss : IRow W B V.s b.ss
  apart : ∀ g, blkOf V.b = some g → blkOf V.s ≠ some g
  few : b.os.length ≤ 100000
section
variable {W W' : World} {B gb : Nat} {V : BkV} {b : BkS} {F : Nat → Prop}
theorem BkAt.raw (h : BkAt W B gb V b) : BkR W B gb V b := ⟨h.blk, h.ge, h.orders, h.bs, h.ss, h.apart, h.few⟩
theorem BkR.full (h : BkR W B gb V b) (hok : b.Ok) : BkAt W B gb V b := ⟨h.blk, h.ge, h.orders, h.bs, h.ss, h.apart, hok, h.few⟩
theorem BkR.mod (h : BkR W B gb V b) (m : Mod F W W') (hF : ∀ g, BkF gb V b.os.length g → ¬ F g) : BkR W' B gb V b :=
  ⟨m.blk h.blk (hF gb (.inl rfl)), h.ge, m.own h.orders (fun g hg => hF g (.inr (.inl hg))), h.bs.mod m (fun g hg => hF g (.inr (.inr (.inl hg)))), h.ss.mod m (fun g hg => hF g (.inr (.inr (.inr hg)))), h.apart, h.few⟩
theorem BkR.all (h : BkR W B gb V b) (hb : Below W.heap.size W W') : BkR W' B gb V b := h.mod (F := fun _ => False) (Mod.of_below _ hb) (fun _ _ hf => hf)
theorem BkR.lt (h : BkR W B gb V b) {g : Nat} (hg : BkF gb V b.os.length g) : B ≤ g ∧ g < W.heap.size := by
  rcases hg with rfl | hg | hg | hg
  · exact ⟨h.ge, h.blk.lt⟩
  · exact own_ge h.orders hg
  · exact (h.bs.at_ hg).2
  · exact (h.ss.at_ hg).2
/-- The blocks of a book have these types. -/
theorem BkR.ty (h : BkR W B gb V b) {g : Nat} (hg : BkF gb V b.os.length g) : Ty W g 69 ∨ Ty W g 42 ∨ Ty W g 3 := by
  rcases hg with rfl | hg | hg | hg
  · exact .inl h.blk.ty
  · exact .inr (.inl (own_ty h.orders hg))
  · exact .inr (.inr (h.bs.at_ hg).1)
  · exact .inr (.inr (h.ss.at_ hg).1)
theorem BkR.isnt (h : BkR W B gb V b) {g : Nat} {t : TypeId} (ht : Ty W g t) (hn : t ≠ 69 ∧ t ≠ 42 ∧ t ≠ 3) : ¬ BkF gb V b.os.length g := fun hg => by
  rcases h.ty hg with h1 | h1 | h1
  · exact hn.1 (ht.unique h1)
  · exact hn.2.1 (ht.unique h1)
  · exact hn.2.2 (ht.unique h1)
/-- The units left of an order are stored. -/
theorem BkR.left (h : BkR W B gb V b) {g k : Nat} (hg : V.oA = some ⟨g, 0, none⟩) (hk : k < b.os.length) (m : Int) : BkR (W.setCell ⟨g, k * 6 + 5, none⟩ (.int .i64 ((ordAt b.os k).left - m))) B gb V (b.setOs (b.os.set k ((ordAt b.os k).less m))) ∧ Mod (BkF gb V b.os.length) W (W.setCell ⟨g, k * 6 + 5, none⟩ (.int .i64 ((ordAt b.os k).left - m))) := by
  have hob : (V.os b.os.length).ownBlock = some g := by unfold BkV.os; rw [hg]; rfl
  have ms : Mod (fun q => q = g) W (W.setCell ⟨g, k * 6 + 5, none⟩ (.int .i64 ((ordAt b.os k).left - m))) := Mod.set (F := fun q => q = g) (Mod.refl _ _) (p := ⟨g, k * 6 + 5, none⟩) (.inl rfl) _
  have ht := own_ty h.orders hob
  have hlen : (b.setOs (b.os.set k ((ordAt b.os k).less m))).os.length = b.os.length := by simp [BkS.setOs]
  refine ⟨⟨?_, h.ge, ?_, h.bs.mod ms (fun q hq e => ?_), h.ss.mod ms (fun q hq e => ?_), h.apart, ?_⟩, ms.mono (fun q hq => .inl (by rw [hq]; exact .inr (.inl hob)))⟩
  · rw [hlen]
    exact ms.blk h.blk (fun e => by
      rw [← e] at ht
      exact absurd (ht.unique h.blk.ty) (by decide))
  · rw [hlen]
    have ho := h.orders
    unfold BkV.os at ho ⊢
    rw [hg] at ho ⊢
    have := (ho.stored (k * 6 + 5) (.int .i64 ((ordAt b.os k).left - m))).1
    rw [flatT_set Ord.cells 6 Ord.cells_length ((ordAt b.os k).less m) 5 (by omega) _ b.os k hk (by rw [← ordAt_eq hk]; rfl)] at this
    exact this
  · rw [e] at hq
    exact absurd (ht.unique (h.bs.at_ hq).1) (by decide)
  · rw [e] at hq
    exact absurd (ht.unique (h.ss.at_ hq).1) (by decide)
  · rw [hlen]
    exact h.few
/-- The first of the open orders is dropped. -/
theorem IRow.tail {W : World} {B n c k : Nat} {t : List Nat} {g off : Nat} (h : IRow W B (some ⟨g, off, none⟩, n, c) (k :: t)) : IRow W B ((if c = 1 then some ⟨g, off, none⟩ else some ⟨g, off + 1, none⟩), n - 1, c - 1) t := by
  obtain ⟨h1, h2, h3, h4⟩ := h
  dsimp only [List.length_cons] at h1 h2 h3 h4
  refine ⟨by dsimp only; omega, by dsimp only; omega, by dsimp only; omega, fun hc => ?_⟩
  dsimp only at hc
  obtain ⟨g', off', cur, a1, a2, a3, a4, a5⟩ := h4 (by omega)
  injection a1 with a1
  injection a1 with a1 a6
  subst a1 a6
  refine ⟨g, off + 1, cur, by dsimp only; rw [if_neg (by omega)], a2, a3, by dsimp only; omega, fun j hj => ?_⟩
  dsimp only at hj
  rw [show off + 1 + j = off + (j + 1) by omega, a5 (j + 1) (by omega)]
  rfl
theorem blk_tail {n c g off b : Nat} (h : blkOf ((if c = 1 then some ⟨g, off, none⟩ else some ⟨g, off + 1, none⟩), n - 1, c - 1) = some b) : blkOf (some ⟨g, off, none⟩, n, c) = some b := by
  unfold blkOf slV at *
  dsimp only at *
  split at h
  · rw [if_pos (by omega)]
    rw [if_neg (by omega)] at h
    exact h
  · cases h
theorem BkR.pop_true (h : BkR W B gb V b) {g off n c id : Nat} {t : List Nat} (hV : V.b = (some ⟨g, off, none⟩, n, c)) (hs : b.side true = id :: t) : ∃ V', BkR (W.setCell ⟨gb, 1, none⟩ (.slice (if c = 1 then some ⟨g, off, none⟩ else some ⟨g, off + 1, none⟩) (n - 1) (c - 1))) B gb V' (b.put true t) ∧ Mod (BkF gb V b.os.length) W (W.setCell ⟨gb, 1, none⟩ (.slice (if c = 1 then some ⟨g, off, none⟩ else some ⟨g, off + 1, none⟩) (n - 1) (c - 1))) ∧ (∀ q, BkF gb V' (b.put true t).os.length q → BkF gb V b.os.length q) ∧ V'.oA = V.oA ∧ V'.oc = V.oc := by
  have ms : Mod (fun q => q = gb) W (W.setCell ⟨gb, 1, none⟩ (.slice (if c = 1 then some ⟨g, off, none⟩ else some ⟨g, off + 1, none⟩) (n - 1) (c - 1))) := Mod.set (F := fun q => q = gb) (Mod.refl _ _) (p := ⟨gb, 1, none⟩) (.inl rfl) _
  have hI : IRow W B (some ⟨g, off, none⟩, n, c) (id :: t) := by have := h.bs; rw [hV] at this; rw [← hs]; exact this
  have hng : ∀ q, Ty W q 3 → ¬ q = gb := fun q h1 he => by
    rw [he] at h1
    exact absurd (h1.unique h.blk.ty) (by decide)
  refine ⟨⟨V.oA, V.oc, ((if c = 1 then some ⟨g, off, none⟩ else some ⟨g, off + 1, none⟩), n - 1, c - 1), V.s⟩, ⟨h.blk.set_ 1 _, h.ge, ms.own h.orders (fun q hq e => ?_), hI.tail.mod ms (fun q hq e => hng q (hI.at_ (blk_tail hq)).1 e), h.ss.mod ms (fun q hq e => hng q (h.ss.at_ hq).1 e), fun q h1 h2 => h.apart q (by rw [hV]; exact blk_tail h1) h2, h.few⟩, ms.mono (fun q hq => .inl (.inl hq)), fun q hq => ?_, rfl, rfl⟩
  · have := own_ty h.orders hq
    rw [e] at this
    exact absurd (this.unique h.blk.ty) (by decide)
  · rcases hq with hq | hq | hq | hq
    · exact .inl hq
    · exact .inr (.inl hq)
    · exact .inr (.inr (.inl (by rw [hV]; exact blk_tail hq)))
    · exact .inr (.inr (.inr hq))
theorem BkR.pop_false (h : BkR W B gb V b) {g off n c id : Nat} {t : List Nat} (hV : V.s = (some ⟨g, off, none⟩, n, c)) (hs : b.side false = id :: t) : ∃ V', BkR (W.setCell ⟨gb, 3, none⟩ (.slice (if c = 1 then some ⟨g, off, none⟩ else some ⟨g, off + 1, none⟩) (n - 1) (c - 1))) B gb V' (b.put false t) ∧ Mod (BkF gb V b.os.length) W (W.setCell ⟨gb, 3, none⟩ (.slice (if c = 1 then some ⟨g, off, none⟩ else some ⟨g, off + 1, none⟩) (n - 1) (c - 1))) ∧ (∀ q, BkF gb V' (b.put false t).os.length q → BkF gb V b.os.length q) ∧ V'.oA = V.oA ∧ V'.oc = V.oc := by
  have ms : Mod (fun q => q = gb) W (W.setCell ⟨gb, 3, none⟩ (.slice (if c = 1 then some ⟨g, off, none⟩ else some ⟨g, off + 1, none⟩) (n - 1) (c - 1))) := Mod.set (F := fun q => q = gb) (Mod.refl _ _) (p := ⟨gb, 3, none⟩) (.inl rfl) _
  have hI : IRow W B (some ⟨g, off, none⟩, n, c) (id :: t) := by have := h.ss; rw [hV] at this; rw [← hs]; exact this
  have hng : ∀ q, Ty W q 3 → ¬ q = gb := fun q h1 he => by
    rw [he] at h1
    exact absurd (h1.unique h.blk.ty) (by decide)
  refine ⟨⟨V.oA, V.oc, V.b, ((if c = 1 then some ⟨g, off, none⟩ else some ⟨g, off + 1, none⟩), n - 1, c - 1)⟩, ⟨h.blk.set_ 3 _, h.ge, ms.own h.orders (fun q hq e => ?_), h.bs.mod ms (fun q hq e => hng q (h.bs.at_ hq).1 e), hI.tail.mod ms (fun q hq e => hng q (hI.at_ (blk_tail hq)).1 e), fun q h1 h2 => h.apart q h1 (by rw [hV]; exact blk_tail h2), h.few⟩, ms.mono (fun q hq => .inl (.inl hq)), fun q hq => ?_, rfl, rfl⟩
  · have := own_ty h.orders hq
    rw [e] at this
    exact absurd (this.unique h.blk.ty) (by decide)
  · rcases hq with hq | hq | hq | hq
    · exact .inl hq
    · exact .inr (.inl hq)
    · exact .inr (.inr (.inl hq))
    · exact .inr (.inr (.inr (by rw [hV]; exact blk_tail hq)))
/-- An order is added: the append has run, and its row is stored in the book. -/
theorem BkR.added {W5 : World} {A : Option Addr} {c : Nat} {o : Ord} (h : BkR W B gb V b) (hf : b.os.length < 100000) (m : Mod (fun q => (V.os b.os.length).ownBlock = some q) W W5) (ho : W5.ownsRow B 42 6 (.slice A (b.os.length + 1) c) (b.os.length + 1) (b.os.flatMap Ord.cells ++ o.cells)) (hs : ∀ q, (Value.slice A (b.os.length + 1) c).ownBlock = some q → (V.os b.os.length).ownBlock = some q ∨ W.heap.size ≤ q) : ∃ V', BkR (W5.setCell ⟨gb, 0, none⟩ (.slice A (b.os.length + 1) c)) B gb V' (b.withO o) ∧ Mod (BkF gb V b.os.length) W (W5.setCell ⟨gb, 0, none⟩ (.slice A (b.os.length + 1) c)) ∧ (∀ q, BkF gb V' (b.withO o).os.length q → BkF gb V b.os.length q ∨ W.heap.size ≤ q) := by
  have hlen : (b.withO o).os.length = b.os.length + 1 := by simp [BkS.withO, BkS.setOs]
  have ms : Mod (fun q => q = gb) W5 (W5.setCell ⟨gb, 0, none⟩ (.slice A (b.os.length + 1) c)) := Mod.set (F := fun q => q = gb) (Mod.refl _ _) (p := ⟨gb, 0, none⟩) (.inl rfl) _
  have mT : Mod (fun q => (V.os b.os.length).ownBlock = some q ∨ q = gb) W (W5.setCell ⟨gb, 0, none⟩ (.slice A (b.os.length + 1) c)) := (m.mono (fun b h => .inl (.inl h))).trans ms (fun b h => .inl (.inr h))
  have hno : ∀ q, (V.os b.os.length).ownBlock = some q → Ty W q 42 := fun q hq => own_ty h.orders hq
  have b5 : Blk W5 gb 69 #[V.os b.os.length, slV V.b, bet1, slV V.s, bet2] := m.blk h.blk (fun hg => absurd ((hno gb hg).unique h.blk.ty) (by decide))
  have hng : ∀ q, Ty W q 3 → ¬ ((V.os b.os.length).ownBlock = some q ∨ q = gb) := fun q h1 he => by
    rcases he with he | he
    · exact absurd (h1.unique (hno q he)) (by decide)
    · rw [he] at h1
      exact absurd (h1.unique h.blk.ty) (by decide)
  refine ⟨⟨A, c, V.b, V.s⟩, ⟨?_, h.ge, ?_, h.bs.mod mT (fun q hq => hng q (h.bs.at_ hq).1), h.ss.mod mT (fun q hq => hng q (h.ss.at_ hq).1), h.apart, by rw [hlen]; omega⟩, mT.mono (fun q hq => .inl (hq.elim (fun e => .inr (.inl e)) .inl)), fun q hq => ?_⟩
  · rw [hlen]
    exact b5.set_ 0 _
  · rw [hlen]
    show World.ownsRow _ _ _ 6 _ _ ((b.os ++ [o]).flatMap Ord.cells)
    rw [List.flatMap_append, List.flatMap_singleton]
    exact ms.own ho (fun q hq e => by
      have h1 := own_ty ho hq
      rw [e] at h1
      exact absurd (h1.unique b5.ty) (by decide))
  · rw [hlen] at hq
    rcases hq with hq | hq | hq | hq
    · exact .inl (.inl hq)
    · exact (hs q hq).imp (fun e => .inr (.inl e)) id
    · exact .inl (.inr (.inr (.inl hq)))
    · exact .inl (.inr (.inr (.inr hq)))
end
end Go.Proofs.Ytkandhpnenmleaa

/- book: Place, its errors. -/
namespace Go.Proofs.Ytkandhpnenmleaa
open Go.RowKit

def PlacePost (gb B : Nat) (V : BkV) (b : BkS) (acc : Int) (buy : Bool) (price n : Int) (w : World) (e : Ending) (w' : World) : Prop :=
  ∃ A c, e = .returned (.tuple #[.int .i64 (placeE b acc buy price n).1, .slice A (placeE b acc buy price n).2.1.length c, .int .i64 (placeE b acc buy price n).2.2.1]) ∧ w'.ownsRow w.heap.size 46 4 (.slice A (placeE b acc buy price n).2.1.length c) (placeE b acc buy price n).2.1.length ((placeE b acc buy price n).2.1.flatMap Trd.cells) ∧ BkPost gb B V b w (placeE b acc buy price n).2.2.2 w'
theorem PlacePost.err {gb B : Nat} {V : BkV} {b : BkS} {acc price n e : Int} {buy : Bool} {w w' : World} (HK : BkAt w B gb V b) (he : placeErr b acc price n = e) (h0 : e ≠ 0) (hb : Below w.heap.size w w') : PlacePost gb B V b acc buy price n w (.returned (.tuple #[.int .i64 0, .slice none 0 0, .int .i64 e])) w' := by
  have h : placeE b acc buy price n = (0, [], e, b) := by unfold placeE; rw [he, if_neg h0]
  unfold PlacePost
  rw [h]
  exact ⟨none, 0, rfl, World.ownsRow_nil _ _ _ 4, BkPost.same HK hb⟩
set_option maxRecDepth 100000 in
theorem place_err1 (gb B : Nat) (V : BkV) (b : BkS) (buy : Bool) (acc price n : Int) (w : World) (HK : Hid (BkAt w B gb V b)) (h : acc < 1 ∨ 1073741824 < acc) : Calls Try.prog 11 #[.pointer (some ⟨gb, 0, none⟩), .int .i64 acc, .bool buy, .int .i64 price, .int .i64 n] w (PlacePost gb B V b acc buy price n w) := by
  have HE : Hid (∀ w', Below w.heap.size w w' → PlacePost gb B V b acc buy price n w (.returned (.tuple #[.int .i64 0, .slice none 0 0, .int .i64 1])) w') := Lib.hid (fun w' hb => PlacePost.err HK.out (by unfold placeErr; rw [if_pos h]) (by decide) hb)
  have hcp := fun w => inr_any price w
  have hcn := fun w => inr_any n w
  rcases h with h | h
  · go_enter Try.func11, Try.ntmps11
    go_wp2_with (go_at_call 29; ((first | (with_reducible refine (hcp _).mono ?_) | (with_reducible refine (hcn _).mono ?_)); rintro e w1 ⟨rfl, rfl⟩))
    all_goals refine bodyPost_ret (v := .tuple #[.int .i64 0, .slice none 0 0, .int .i64 1]) (by simp [results, Try.results11, go_sem]) rfl (HE.out _ (Below.refl _ _))
  · have h2 : ¬ acc < 1 := by omega
    go_enter Try.func11, Try.ntmps11
    go_wp2_with (go_at_call 29; ((first | (with_reducible refine (hcp _).mono ?_) | (with_reducible refine (hcn _).mono ?_)); rintro e w1 ⟨rfl, rfl⟩))
    all_goals refine bodyPost_ret (v := .tuple #[.int .i64 0, .slice none 0 0, .int .i64 1]) (by simp [results, Try.results11, go_sem]) rfl (HE.out _ (Below.refl _ _))

set_option maxRecDepth 100000 in
theorem place_err2 (gb B : Nat) (V : BkV) (b : BkS) (buy : Bool) (acc price n : Int) (w : World) (HK : Hid (BkAt w B gb V b)) (h1 : 1 ≤ acc) (h2 : acc ≤ 1073741824) (h : inR price = false ∨ inR n = false ∨ (1099511627776 : Int).tdiv n < price) : Calls Try.prog 11 #[.pointer (some ⟨gb, 0, none⟩), .int .i64 acc, .bool buy, .int .i64 price, .int .i64 n] w (PlacePost gb B V b acc buy price n w) := by
  have HE : Hid (∀ w', Below w.heap.size w w' → PlacePost gb B V b acc buy price n w (.returned (.tuple #[.int .i64 0, .slice none 0 0, .int .i64 5])) w') := Lib.hid (fun w' hb => PlacePost.err HK.out (by unfold placeErr; rw [if_neg (by omega), if_pos h]) (by decide) hb)
  have hcp := fun w => inr_any price w
  have hcn := fun w => inr_any n w
  cases hp : inR price
  · simp only [hp] at hcp
    go_enter Try.func11, Try.ntmps11
    go_wp2_with (go_at_call 29; ((first | (with_reducible refine (hcp _).mono ?_) | (with_reducible refine (hcn _).mono ?_)); rintro e w1 ⟨rfl, rfl⟩))
    all_goals refine bodyPost_ret (v := .tuple #[.int .i64 0, .slice none 0 0, .int .i64 5]) (by simp [results, Try.results11, go_sem]) rfl (HE.out _ (Below.refl _ _))
  simp only [hp] at hcp
  cases hn : inR n
  · simp only [hn] at hcn
    go_enter Try.func11, Try.ntmps11
    go_wp2_with (go_at_call 29; ((first | (with_reducible refine (hcp _).mono ?_) | (with_reducible refine (hcn _).mono ?_)); rintro e w1 ⟨rfl, rfl⟩))
    all_goals refine bodyPost_ret (v := .tuple #[.int .i64 0, .slice none 0 0, .int .i64 5]) (by simp [results, Try.results11, go_sem]) rfl (HE.out _ (Below.refl _ _))
  have hd : (1099511627776 : Int).tdiv n < price := by
    rcases h with h | h | h
    · rw [hp] at h; cases h
    · rw [hn] at h; cases h
    · exact h
  have hn' := hn
  unfold inR at hn'
  rw [Bool.and_eq_true, decide_eq_true_eq, decide_eq_true_eq] at hn'
  have hn0 : ¬ n = 0 := by omega
  have hq0 : 0 ≤ (1099511627776 : Int).tdiv n := Int.tdiv_nonneg (by omega) (by omega)
  have hq1 : (1099511627776 : Int).tdiv n ≤ 1099511627776 := by rw [Int.tdiv_eq_ediv_of_nonneg (by omega)]; exact Int.ediv_le_self _ (by omega)
  simp only [hn] at hcn
  clear h
  go_enter Try.func11, Try.ntmps11
  go_wp2_with (go_at_call 29; ((first | (with_reducible refine (hcp _).mono ?_) | (with_reducible refine (hcn _).mono ?_)); rintro e w1 ⟨rfl, rfl⟩))
  all_goals refine bodyPost_ret (v := .tuple #[.int .i64 0, .slice none 0 0, .int .i64 5]) (by simp [results, Try.results11, go_sem]) rfl (HE.out _ (Below.refl _ _))

set_option maxRecDepth 100000 in
theorem place_err3 (gb B : Nat) (V : BkV) (b : BkS) (buy : Bool) (acc price n : Int) (w : World) (HK : Hid (BkAt w B gb V b)) (h1 : 1 ≤ acc) (h2 : acc ≤ 1073741824) (hp : inR price = true) (hn : inR n = true) (hd : price ≤ (1099511627776 : Int).tdiv n) (h : 4096 ≤ b.bs.length + b.ss.length) : Calls Try.prog 11 #[.pointer (some ⟨gb, 0, none⟩), .int .i64 acc, .bool buy, .int .i64 price, .int .i64 n] w (PlacePost gb B V b acc buy price n w) := by
  have HE : Hid (∀ w', Below w.heap.size w w' → PlacePost gb B V b acc buy price n w (.returned (.tuple #[.int .i64 0, .slice none 0 0, .int .i64 4])) w') := Lib.hid (fun w' hb => PlacePost.err HK.out (by unfold placeErr; rw [if_neg (by omega), if_neg (by rw [hp, hn]; simp; omega), if_pos h]) (by decide) hb)
  have hn' := hn
  unfold inR at hn'
  rw [Bool.and_eq_true, decide_eq_true_eq, decide_eq_true_eq] at hn'
  have hn0 : ¬ n = 0 := by omega
  have hq0 : 0 ≤ (1099511627776 : Int).tdiv n := Int.tdiv_nonneg (by omega) (by omega)
  have hq1 : (1099511627776 : Int).tdiv n ≤ 1099511627776 := by rw [Int.tdiv_eq_ediv_of_nonneg (by omega)]; exact Int.ediv_le_self _ (by omega)
  have hd2 : ¬ (1099511627776 : Int).tdiv n < price := by omega
  have hcp := fun w => inr_any price w
  have hcn := fun w => inr_any n w
  simp only [hp] at hcp
  simp only [hn] at hcn
  obtain ⟨A1, n1, c1, hV1⟩ : ∃ A n c, V.b = (A, n, c) := ⟨_, _, _, rfl⟩
  obtain ⟨A2, n2, c2, hV2⟩ : ∃ A n c, V.s = (A, n, c) := ⟨_, _, _, rfl⟩
  have hl1 : b.bs.length = n1 := by have := HK.out.bs.len; rw [hV1] at this; exact this
  have hl2 : b.ss.length = n2 := by have := HK.out.ss.len; rw [hV2] at this; exact this
  have hfew := HK.out.ok.few
  have h4 : 4096 ≤ (n1 : Int) + (n2 : Int) := by omega
  have h5 : (n1 : Int) + (n2 : Int) ≤ 4096 := by omega
  have hw : ¬ IntKind.i64.wrap ((n1 : Int) + (n2 : Int)) < 4096 := by rw [show IntKind.i64.wrap ((n1 : Int) + (n2 : Int)) = (n1 : Int) + (n2 : Int) from IntWalk.i64_in _ (by omega)]; omega
  have HS5 : Hid (∀ w', Below w.heap.size w w' → (fun w' => w'.cell? ⟨gb, 1, none⟩ = some (.slice A1 n1 c1) ∧ w'.cell? ⟨gb, 3, none⟩ = some (.slice A2 n2 c2)) w') := Lib.hid (fun w' hb => by
    have q := HK.out.blk.all hb
    have u1 := q.cell 1
    have u3 := q.cell 3
    simp only [List.getElem?_toArray, List.getElem?_cons_zero, List.getElem?_cons_succ] at u1 u3
    unfold slV at u1 u3
    rw [hV1] at u1
    rw [hV2] at u3
    exact ⟨u1, u3⟩)
  clear h hl1 hl2 hfew hV1 hV2 hn'
  go_enter Try.func11, Try.ntmps11
  go_wp2_with (go_at_call 29; ((first | (with_reducible refine (hcp _).mono ?_) | (with_reducible refine (hcn _).mono ?_)); rintro e w1 ⟨rfl, rfl⟩))
  refine wp_region_held_drew (S := (fun w' => w'.cell? ⟨gb, 1, none⟩ = some (.slice A1 n1 c1) ∧ w'.cell? ⟨gb, 3, none⟩ = some (.slice A2 n2 c2))) (by kernel_rfl) (HS5.out _ (below_drewN (Below.refl _ _) 1)) (fun hHeld => ?_)
  refine takeH 0 (some 41) (v := ?_) (by rfl) (by rfl) (by kernel_rfl) (by kernel_rfl) (by kernel_rfl) (fun _ _ _ h => h) ?_ (by assumption) ?_
  rotate_left
  · (intro o ho w hSw; obtain ⟨z0, z1⟩ := hSw; cases ho; go_simp; try with_reducible rfl)
  try simp only [Act.put, List.setIfInBounds_toArray, List.set_cons_zero, List.set_cons_succ]
  refine takeH 1 (some 42) (v := ?_) (by rfl) (by rfl) (by kernel_rfl) (by kernel_rfl) (by kernel_rfl) (fun _ _ _ h => h) ?_ (by assumption) ?_
  rotate_left
  · (intro o ho w hSw; obtain ⟨z0, z1⟩ := hSw; cases ho; go_simp; try with_reducible rfl)
  try simp only [Act.put, List.setIfInBounds_toArray, List.set_cons_zero, List.set_cons_succ]
  refine takeH 2 (some 43) (v := ?_) (by rfl) (by rfl) (by kernel_rfl) (by kernel_rfl) (by kernel_rfl) (fun _ _ _ h => h) ?_ (by assumption) ?_
  rotate_left
  · (intro o ho w hSw; obtain ⟨z0, z1⟩ := hSw; cases ho; go_simp; try with_reducible rfl)
  try simp only [Act.put, List.setIfInBounds_toArray, List.set_cons_zero, List.set_cons_succ]
  refine takeH 3 (some 44) (v := ?_) (by rfl) (by rfl) (by kernel_rfl) (by kernel_rfl) (by kernel_rfl) (fun _ _ _ h => h) ?_ (by assumption) ?_
  rotate_left
  · (intro o ho w hSw; obtain ⟨z0, z1⟩ := hSw; cases ho; go_simp; try with_reducible rfl)
  try simp only [Act.put, List.setIfInBounds_toArray, List.set_cons_zero, List.set_cons_succ]
  refine takeH 4 (some 45) (v := ?_) (by rfl) (by rfl) (by kernel_rfl) (by kernel_rfl) (by kernel_rfl) (fun _ _ _ h => h) ?_ (by assumption) ?_
  rotate_left
  · (intro o ho w hSw; obtain ⟨z0, z1⟩ := hSw; cases ho; go_simp; try with_reducible rfl)
  try simp only [Act.put, List.setIfInBounds_toArray, List.set_cons_zero, List.set_cons_succ]
  refine takeH 5 (some 46) (v := ?_) (by rfl) (by rfl) (by kernel_rfl) (by kernel_rfl) (by kernel_rfl) (fun _ _ _ h => h) ?_ (by assumption) ?_
  rotate_left
  · (intro o ho w hSw; obtain ⟨z0, z1⟩ := hSw; cases ho; go_simp; try with_reducible rfl)
  try simp only [Act.put, List.setIfInBounds_toArray, List.set_cons_zero, List.set_cons_succ]
  refine takeH 6 (some 47) (v := ?_) (by rfl) (by rfl) (by kernel_rfl) (by kernel_rfl) (by kernel_rfl) (fun _ _ _ h => h) ?_ (by assumption) ?_
  rotate_left
  · (intro o ho w hSw; obtain ⟨z0, z1⟩ := hSw; cases ho; go_simp; try with_reducible rfl)
  try simp only [Act.put, List.setIfInBounds_toArray, List.set_cons_zero, List.set_cons_succ]
  refine takeH 7 (some 48) (v := ?_) (by rfl) (by rfl) (by kernel_rfl) (by kernel_rfl) (by kernel_rfl) (fun _ _ _ h => h) ?_ (by assumption) ?_
  rotate_left
  · (intro o ho w hSw; obtain ⟨z0, z1⟩ := hSw; cases ho; go_simp; try with_reducible rfl)
  try simp only [Act.put, List.setIfInBounds_toArray, List.set_cons_zero, List.set_cons_succ]
  refine takeH 8 (some 49) (v := ?_) (by rfl) (by rfl) (by kernel_rfl) (by kernel_rfl) (by kernel_rfl) (fun _ _ _ h => h) ?_ (by assumption) ?_
  rotate_left
  · (intro o ho w hSw; obtain ⟨z0, z1⟩ := hSw; cases ho; go_simp; try with_reducible rfl)
  try simp only [Act.put, List.setIfInBounds_toArray, List.set_cons_zero, List.set_cons_succ]
  refine takeH 9 (some 50) (v := ?_) (by rfl) (by rfl) (by kernel_rfl) (by kernel_rfl) (by kernel_rfl) (fun _ _ _ h => h) ?_ (by assumption) ?_
  rotate_left
  · (intro o ho w hSw; obtain ⟨z0, z1⟩ := hSw; cases ho; go_simp; try with_reducible rfl)
  try simp only [Act.put, List.setIfInBounds_toArray, List.set_cons_zero, List.set_cons_succ]
  refine takeH 10 (some 51) (v := ?_) (by rfl) (by rfl) (by kernel_rfl) (by kernel_rfl) (by kernel_rfl) (fun _ _ _ h => h) ?_ (by assumption) ?_
  rotate_left
  · (intro o ho w hSw; obtain ⟨z0, z1⟩ := hSw; cases ho; go_simp; try with_reducible rfl)
  try simp only [Act.put, List.setIfInBounds_toArray, List.set_cons_zero, List.set_cons_succ]
  refine takeH 11 (some 52) (v := ?_) (by rfl) (by rfl) (by kernel_rfl) (by kernel_rfl) (by kernel_rfl) (fun _ _ _ h => h) ?_ (by assumption) ?_
  rotate_left
  · (intro o ho w hSw; obtain ⟨z0, z1⟩ := hSw; cases ho; go_simp; try with_reducible rfl)
  try simp only [Act.put, List.setIfInBounds_toArray, List.set_cons_zero, List.set_cons_succ]
  refine takeH 12 (some 53) (v := ?_) (by rfl) (by rfl) (by kernel_rfl) (by kernel_rfl) (by kernel_rfl) (fun _ _ _ h => h) ?_ (by assumption) ?_
  rotate_left
  · (intro o ho w hSw; obtain ⟨z0, z1⟩ := hSw; cases ho; go_simp; try with_reducible rfl)
  try simp only [Act.put, List.setIfInBounds_toArray, List.set_cons_zero, List.set_cons_succ]
  refine takeH 13 (some 54) (v := ?_) (by rfl) (by rfl) (by kernel_rfl) (by kernel_rfl) (by kernel_rfl) (fun _ _ _ h => h) ?_ (by assumption) ?_
  rotate_left
  · (intro o ho w hSw; obtain ⟨z0, z1⟩ := hSw; cases ho; go_simp; try with_reducible rfl)
  try simp only [Act.put, List.setIfInBounds_toArray, List.set_cons_zero, List.set_cons_succ]
  refine takeH 14 (some 55) (v := ?_) (by rfl) (by rfl) (by kernel_rfl) (by kernel_rfl) (by kernel_rfl) (fun _ _ _ h => h) ?_ (by assumption) ?_
  rotate_left
  · (intro o ho w hSw; obtain ⟨z0, z1⟩ := hSw; cases ho; go_simp; try with_reducible rfl)
  try simp only [Act.put, List.setIfInBounds_toArray, List.set_cons_zero, List.set_cons_succ]
  refine takeH 15 (some 56) (v := ?_) (by rfl) (by rfl) (by kernel_rfl) (by kernel_rfl) (by kernel_rfl) (fun _ _ _ h => h) ?_ (by assumption) ?_
  rotate_left
  · (intro o ho w hSw; obtain ⟨z0, z1⟩ := hSw; cases ho; go_simp; try with_reducible rfl)
  try simp only [Act.put, List.setIfInBounds_toArray, List.set_cons_zero, List.set_cons_succ]
  refine takeH 16 (some 40) (v := ?_) (by rfl) (by rfl) (by kernel_rfl) (by kernel_rfl) (by kernel_rfl) (fun _ _ _ h => h) ?_ (by assumption) ?_
  rotate_left
  · (intro o ho w hSw; obtain ⟨z0, z1⟩ := hSw; cases ho; go_simp; try with_reducible rfl)
  try simp only [Act.put, List.setIfInBounds_toArray, List.set_cons_zero, List.set_cons_succ]
  refine wpAnyH_done (by kernel_rfl) ?_ _
  go_wp2
  exact bodyPost_ret (v := .tuple #[.int .i64 0, .slice none 0 0, .int .i64 4]) (by simp [results, Try.results11, go_sem]) rfl (HE.out _ (below_drewN (Below.refl _ _) 1))
end Go.Proofs.Ytkandhpnenmleaa

/- book: the state of Place's loop in the store. -/
namespace Go.Proofs.Ytkandhpnenmleaa
open Go.RowKit

theorem BkR.order {W : World} {B gb : Nat} {V : BkV} {b : BkS} (h : BkR W B gb V b) {k : Nat} (hk : k < b.os.length) : ∃ g, V.oA = some ⟨g, 0, none⟩ ∧ g < W.heap.size ∧ (V.os b.os.length).ownBlock = some g ∧ W.frozen? ⟨g, k * 6 + 5, none⟩ = false ∧ W.cell? ⟨g, k * 6, none⟩ = some (.int .i64 (ordAt b.os k).id) ∧ W.cell? ⟨g, k * 6 + 1, none⟩ = some (.int .i64 (ordAt b.os k).acc) ∧ W.cell? ⟨g, k * 6 + 2, none⟩ = some (.bool (ordAt b.os k).buy) ∧ W.cell? ⟨g, k * 6 + 3, none⟩ = some (.int .i64 (ordAt b.os k).price) ∧ W.cell? ⟨g, k * 6 + 4, none⟩ = some (.int .i64 (ordAt b.os k).n) ∧ W.cell? ⟨g, k * 6 + 5, none⟩ = some (.int .i64 (ordAt b.os k).left) := by
  have hl := h.orders.1
  rcases h.orders.2 with ⟨-, h2⟩ | ⟨g, cap, cur, h2, h3, h4, h5, h6, h7, h8⟩
  · omega
  · unfold BkV.os at h2
    injection h2 with h2 _ h9
    have hc : ∀ i, i < 6 → W.cell? ⟨g, k * 6 + i, none⟩ = (Ord.cells (ordAt b.os k))[i]? := by
      intro i hi
      rw [ordAt_eq hk, ← flatT_at Ord.cells 6 Ord.cells_length b.os k i hk hi, ← h8, List.getElem?_take_of_lt (by omega)]
      simp [World.cell?, h4]
    refine ⟨g, h2, (Array.getElem?_eq_some_iff.1 h4).1, by unfold BkV.os; rw [h2]; rfl, by simp [World.frozen?, h4], ?_, hc 1 (by omega), hc 2 (by omega), hc 3 (by omega), hc 4 (by omega), hc 5 (by omega)⟩
    exact hc 0 (by omega)
structure PR (gb B : Nat) (V : BkV) (nn : Nat) (w0 : World) (g13 : Nat) (c : BkS) (o : Ord) (ts : List Trd) (A : Option Addr) (m cc : Nat) (V' : BkV) (W : World) : Prop where
  bk : BkR W B gb V' c
  blk : Blk W g13 42 #[.int .i64 o.id, .int .i64 o.acc, .bool o.buy, .int .i64 o.price, .int .i64 o.n, .int .i64 o.left]
  row : W.ownsRow w0.heap.size 46 4 (.slice A m cc) m (ts.flatMap Trd.cells)
  len : ts.length = m
  mod : Mod (BkF gb V nn) w0 W
  sub : ∀ q, BkF gb V' c.os.length q → BkF gb V nn q
  vA : V'.oA = V.oA ∧ V'.oc = V.oc
  ge : w0.heap.size ≤ g13
  lt : ∀ q, BkF gb V nn q → q < w0.heap.size
section
variable {gb B : Nat} {V : BkV} {nn : Nat} {w0 : World} {g13 : Nat} {c : BkS} {o : Ord} {ts : List Trd} {A : Option Addr} {m cc : Nat} {V' : BkV} {W W' : World}
theorem PR.not13 (h : PR gb B V nn w0 g13 c o ts A m cc V' W) : ¬ BkF gb V' c.os.length g13 := fun hq => by
  have h1 := h.lt _ (h.sub _ hq)
  have h2 := h.ge
  omega
theorem PR.notRow (h : PR gb B V nn w0 g13 c o ts A m cc V' W) {q : Nat} (hq : (Value.slice A m cc).ownBlock = some q) : ¬ BkF gb V' c.os.length q := h.bk.isnt (own_ty h.row hq) (by decide)
theorem PR.below (h : PR gb B V nn w0 g13 c o ts A m cc V' W) (hb : Below W.heap.size W W') : PR gb B V nn w0 g13 c o ts A m cc V' W' :=
  ⟨h.bk.all hb, h.blk.all hb, own_keep h.row hb, h.len, h.mod.then_below hb, h.sub, h.vA, h.ge, h.lt⟩
theorem PR.app (h : PR gb B V nn w0 g13 c o ts A m cc V' W) {A' : Option Addr} {c' : Nat} {t : Trd} (hm : Mod (fun q => (Value.slice A m cc).ownBlock = some q) W W') (ho : W'.ownsRow w0.heap.size 46 4 (.slice A' (m + 1) c') (m + 1) (ts.flatMap Trd.cells ++ t.cells)) : PR gb B V nn w0 g13 c o (ts ++ [t]) A' (m + 1) c' V' W' := by
  refine ⟨h.bk.mod hm (fun q hq e => h.notRow e hq), hm.blk h.blk (fun e => absurd ((own_ty h.row e).unique h.blk.ty) (by decide)), ?_, by rw [List.length_append, h.len]; rfl, h.mod.trans hm (fun q hq => .inr (own_ge h.row hq).1), h.sub, h.vA, h.ge, h.lt⟩
  rw [List.flatMap_append, List.flatMap_singleton]
  exact ho
theorem PR.own13 (h : PR gb B V nn w0 g13 c o ts A m cc V' W) (k : Int) : PR gb B V nn w0 g13 c (o.less k) ts A m cc V' (W.setCell ⟨g13, 5, none⟩ (.int .i64 (o.left - k))) := by
  have ms : Mod (fun q => q = g13) W (W.setCell ⟨g13, 5, none⟩ (.int .i64 (o.left - k))) := Mod.set (F := fun q => q = g13) (Mod.refl _ _) (p := ⟨g13, 5, none⟩) (.inl rfl) _
  refine ⟨h.bk.mod ms (fun q hq e => h.not13 (by rw [← e]; exact hq)), h.blk.set_ 5 _, ms.own h.row (fun q hq e => ?_), h.len, h.mod.trans ms (fun q hq => .inr (by rw [hq]; exact h.ge)), h.sub, h.vA, h.ge, h.lt⟩
  have := own_ty h.row hq
  rw [e] at this
  exact absurd (this.unique h.blk.ty) (by decide)
theorem PR.other (h : PR gb B V nn w0 g13 c o ts A m cc V' W) {g k : Nat} (hg : V.oA = some ⟨g, 0, none⟩) (hk : k < c.os.length) (i : Int) : PR gb B V nn w0 g13 (c.setOs (c.os.set k ((ordAt c.os k).less i))) o ts A m cc V' (W.setCell ⟨g, k * 6 + 5, none⟩ (.int .i64 ((ordAt c.os k).left - i))) := by
  obtain ⟨h1, h2⟩ := h.bk.left (h.vA.1.trans hg) hk i
  have hlen : (c.setOs (c.os.set k ((ordAt c.os k).less i))).os.length = c.os.length := by simp [BkS.setOs]
  exact ⟨h1, h2.blk h.blk h.not13, h2.own h.row (fun q hq => h.notRow hq), h.len, h.mod.trans h2 (fun q hq => .inl (h.sub q hq)), by rw [hlen]; exact h.sub, h.vA, h.ge, h.lt⟩
theorem PR.pop_true (h : PR gb B V nn w0 g13 c o ts A m cc V' W) {g off n k id : Nat} {t : List Nat} (hV : V'.b = (some ⟨g, off, none⟩, n, k)) (hs : c.side true = id :: t) : ∃ V2, PR gb B V nn w0 g13 (c.put true t) o ts A m cc V2 (W.setCell ⟨gb, 1, none⟩ (.slice (if k = 1 then some ⟨g, off, none⟩ else some ⟨g, off + 1, none⟩) (n - 1) (k - 1))) := by
  obtain ⟨V2, h1, h2, h3, h4, h5⟩ := h.bk.pop_true hV hs
  exact ⟨V2, h1, h2.blk h.blk h.not13, h2.own h.row (fun q hq => h.notRow hq), h.len, h.mod.trans h2 (fun q hq => .inl (h.sub q hq)), fun q hq => h.sub q (h3 q hq), ⟨h4.trans h.vA.1, h5.trans h.vA.2⟩, h.ge, h.lt⟩
theorem PR.pop_false (h : PR gb B V nn w0 g13 c o ts A m cc V' W) {g off n k id : Nat} {t : List Nat} (hV : V'.s = (some ⟨g, off, none⟩, n, k)) (hs : c.side false = id :: t) : ∃ V2, PR gb B V nn w0 g13 (c.put false t) o ts A m cc V2 (W.setCell ⟨gb, 3, none⟩ (.slice (if k = 1 then some ⟨g, off, none⟩ else some ⟨g, off + 1, none⟩) (n - 1) (k - 1))) := by
  obtain ⟨V2, h1, h2, h3, h4, h5⟩ := h.bk.pop_false hV hs
  exact ⟨V2, h1, h2.blk h.blk h.not13, h2.own h.row (fun q hq => h.notRow hq), h.len, h.mod.trans h2 (fun q hq => .inl (h.sub q hq)), fun q hq => h.sub q (h3 q hq), ⟨h4.trans h.vA.1, h5.trans h.vA.2⟩, h.ge, h.lt⟩
/-- What a round of the loop makes smaller. -/
def szM (W : World) (gb so g13 : Nat) : Nat := (match W.cell? ⟨gb, so, none⟩ with | some (.slice _ n _) => n | _ => 0) + (match W.cell? ⟨g13, 5, none⟩ with | some (.int _ v) => (if 0 < v then 1 else 0) | _ => 0)
theorem PR.sz_true (h : PR gb B V nn w0 g13 c o ts A m cc V' W) : szM W gb 1 g13 = (c.side true).length + (if 0 < o.left then 1 else 0) := by
  have h1 := h.bk.blk.cell 1
  have h2 := h.blk.cell 5
  simp only [List.getElem?_toArray, List.getElem?_cons_zero, List.getElem?_cons_succ] at h1 h2
  unfold szM
  rw [h1, h2, show c.side true = c.bs from rfl, h.bk.bs.len]
  rfl
theorem PR.sz_false (h : PR gb B V nn w0 g13 c o ts A m cc V' W) : szM W gb 3 g13 = (c.side false).length + (if 0 < o.left then 1 else 0) := by
  have h1 := h.bk.blk.cell 3
  have h2 := h.blk.cell 5
  simp only [List.getElem?_toArray, List.getElem?_cons_zero, List.getElem?_cons_succ] at h1 h2
  unfold szM
  rw [h1, h2, show c.side false = c.ss from rfl, h.bk.ss.len]
  rfl
theorem PR.y (h : PR gb B V nn w0 g13 c o ts A m cc V' W) : W.cell? ⟨g13, 0, none⟩ = some (.int .i64 o.id) ∧ W.cell? ⟨g13, 1, none⟩ = some (.int .i64 o.acc) ∧ W.cell? ⟨g13, 2, none⟩ = some (.bool o.buy) ∧ W.cell? ⟨g13, 3, none⟩ = some (.int .i64 o.price) ∧ W.cell? ⟨g13, 4, none⟩ = some (.int .i64 o.n) ∧ W.cell? ⟨g13, 5, none⟩ = some (.int .i64 o.left) ∧ W.frozen? ⟨g13, 5, none⟩ = false := by
  refine ⟨?_, ?_, ?_, ?_, ?_, ?_, h.blk.frozen 5⟩ <;> rw [h.blk.cell] <;> rfl
theorem PR.z_true (h : PR gb B V nn w0 g13 c o ts A m cc V' W) : W.cell? ⟨gb, 0, none⟩ = some (.slice V'.oA c.os.length V'.oc) ∧ W.cell? ⟨gb, 1, none⟩ = some (.slice V'.b.1 V'.b.2.1 V'.b.2.2) ∧ W.frozen? ⟨gb, 1, none⟩ = false := by
  refine ⟨?_, ?_, h.bk.blk.frozen 1⟩ <;> rw [h.bk.blk.cell] <;> rfl
theorem PR.z_false (h : PR gb B V nn w0 g13 c o ts A m cc V' W) : W.cell? ⟨gb, 0, none⟩ = some (.slice V'.oA c.os.length V'.oc) ∧ W.cell? ⟨gb, 3, none⟩ = some (.slice V'.s.1 V'.s.2.1 V'.s.2.2) ∧ W.frozen? ⟨gb, 3, none⟩ = false := by
  refine ⟨?_, ?_, h.bk.blk.frozen 3⟩ <;> rw [h.bk.blk.cell] <;> rfl
theorem BkPost.comp {V2 : BkV} {b b2 b3 : BkS} {w w7 w8 : World} (hm : Mod (BkF gb V b.os.length) w w7) (hs : ∀ q, BkF gb V2 b2.os.length q → BkF gb V b.os.length q ∨ w.heap.size ≤ q) (h : BkPost gb B V2 b2 w7 b3 w8) : BkPost gb B V b w b3 w8 := by
  obtain ⟨V3, h1, h2, h3⟩ := h
  refine ⟨V3, h1, hm.trans h2 hs, fun q hq => ?_⟩
  rcases h3 q hq with h4 | h4
  · exact hs q h4
  · exact .inr (Nat.le_trans hm.size h4)
theorem place_fin {b : BkS} {acc price n : Int} {buy : Bool} {w w' : World} (hPM : PM b (!buy) ⟨(b.os.length : Int), acc, buy, price, n, n⟩ c o ts) (hST : Stops c (!buy) o) (hE : placeErr b acc price n = 0) (hlen : ts.length = m) (hrow : w'.ownsRow w.heap.size 46 4 (.slice A m cc) m (ts.flatMap Trd.cells)) (hB : BkPost gb B V b w (c.last o) w') : PlacePost gb B V b acc buy price n w (.returned (.tuple #[.int .i64 o.id, .slice A m cc, .int .i64 0])) w' := by
  have h : placeE b acc buy price n = ((b.os.length : Int), ts, 0, c.last o) := by
    unfold placeE
    rw [if_pos hE, hPM.done hST]
  unfold PlacePost
  rw [h]
  subst hlen
  exact ⟨A, cc, by rw [hPM.like.1], hrow, hB⟩
/-- The state once the order stands among the orders. -/
structure PF (gb B : Nat) (V : BkV) (nn : Nat) (w0 : World) (g13 : Nat) (c : BkS) (o : Ord) (ts : List Trd) (A : Option Addr) (m cc : Nat) (V2 : BkV) (W : World) : Prop where
  bk : BkR W B gb V2 (c.withO o)
  blk : Blk W g13 42 #[.int .i64 o.id, .int .i64 o.acc, .bool o.buy, .int .i64 o.price, .int .i64 o.n, .int .i64 o.left]
  row : W.ownsRow w0.heap.size 46 4 (.slice A m cc) m (ts.flatMap Trd.cells)
  len : ts.length = m
  mod : Mod (BkF gb V nn) w0 W
  sub : ∀ q, BkF gb V2 (c.withO o).os.length q → BkF gb V nn q ∨ w0.heap.size ≤ q
  not13 : ¬ BkF gb V2 (c.withO o).os.length g13
theorem PR.added (h : PR gb B V nn w0 g13 c o ts A m cc V' W) (hf : c.os.length < 100000) {A' : Option Addr} {c' : Nat} {w5 : World} (hm : Mod (fun q => (V'.os c.os.length).ownBlock = some q) W w5) (ho : w5.ownsRow B 42 6 (.slice A' (c.os.length + 1) c') (c.os.length + 1) (c.os.flatMap Ord.cells ++ o.cells)) (hs : ∀ q, (Value.slice A' (c.os.length + 1) c').ownBlock = some q → (V'.os c.os.length).ownBlock = some q ∨ W.heap.size ≤ q) :
    (w5.cell? ⟨gb, 0, none⟩ = some (.slice V'.oA c.os.length V'.oc) ∧ w5.cell? ⟨g13, 0, none⟩ = some (.int .i64 o.id) ∧ w5.cell? ⟨g13, 1, none⟩ = some (.int .i64 o.acc) ∧ w5.cell? ⟨g13, 2, none⟩ = some (.bool o.buy) ∧ w5.cell? ⟨g13, 3, none⟩ = some (.int .i64 o.price) ∧ w5.cell? ⟨g13, 4, none⟩ = some (.int .i64 o.n) ∧ w5.cell? ⟨g13, 5, none⟩ = some (.int .i64 o.left) ∧ w5.frozen? ⟨gb, 0, none⟩ = false) ∧ ∃ V2, PF gb B V nn w0 g13 c o ts A m cc V2 (w5.setCell ⟨gb, 0, none⟩ (.slice A' (c.os.length + 1) c')) := by
  have hor : ∀ q, (V'.os c.os.length).ownBlock = some q → Ty W q 42 := fun q hq => own_ty h.bk.orders hq
  have b5 := hm.blk h.bk.blk (fun e => absurd ((hor gb e).unique h.bk.blk.ty) (by decide))
  have b13 := hm.blk h.blk (fun e => h.not13 (.inr (.inl e)))
  obtain ⟨V2, h1, h2, h3⟩ := h.bk.added hf hm ho hs
  refine ⟨⟨?_, ?_, ?_, ?_, ?_, ?_, ?_, b5.frozen 0⟩, V2, ⟨h1, h2.blk h.blk h.not13, h2.own h.row (fun q hq => h.notRow hq), h.len, h.mod.trans h2 (fun q hq => .inl (h.sub q hq)), fun q hq => ?_, fun hq => ?_⟩⟩
  · rw [b5.cell]; rfl
  · rw [b13.cell]; rfl
  · rw [b13.cell]; rfl
  · rw [b13.cell]; rfl
  · rw [b13.cell]; rfl
  · rw [b13.cell]; rfl
  · rw [b13.cell]; rfl
  · rcases h3 q hq with h4 | h4
    · exact .inl (h.sub q h4)
    · exact .inr (Nat.le_trans h.mod.size h4)
  · rcases h3 g13 hq with h4 | h4
    · exact h.not13 h4
    · have := h.blk.lt
      omega
theorem PF.y {V2 : BkV} (h : PF gb B V nn w0 g13 c o ts A m cc V2 W) : W.cell? ⟨g13, 0, none⟩ = some (.int .i64 o.id) ∧ W.cell? ⟨g13, 1, none⟩ = some (.int .i64 o.acc) ∧ W.cell? ⟨g13, 2, none⟩ = some (.bool o.buy) ∧ W.cell? ⟨g13, 3, none⟩ = some (.int .i64 o.price) ∧ W.cell? ⟨g13, 4, none⟩ = some (.int .i64 o.n) ∧ W.cell? ⟨g13, 5, none⟩ = some (.int .i64 o.left) := by
  refine ⟨?_, ?_, ?_, ?_, ?_, ?_⟩ <;> rw [h.blk.cell] <;> rfl
section
variable {V2 : BkV} {b : BkS} {acc price n : Int} {buy : Bool} {w W7 W8 : World}
theorem PF.fin0 (h : PF gb B V nn w g13 c o ts A m cc V2 W7) (hPM : PM b (!buy) ⟨(nn : Int), acc, buy, price, n, n⟩ c o ts) (hST : Stops c (!buy) o) (hE : placeErr b acc price n = 0) (hnn : b.os.length = nn) (hl : o.left ≤ 0) : PlacePost gb B V b acc buy price n w (.returned (.tuple #[.int .i64 o.id, .slice A m cc, .int .i64 0])) W7 := by
  subst hnn
  refine place_fin hPM hST hE h.len h.row ?_
  rw [show c.last o = c.withO o by unfold BkS.last; rw [if_neg (by omega)]]
  exact ⟨V2, h.bk.full (hPM.okW hE).1, h.mod, h.sub⟩
theorem PF.full (h : PF gb B V nn w g13 c o ts A m cc V2 W7) (hPM : PM b (!buy) ⟨(nn : Int), acc, buy, price, n, n⟩ c o ts) (hE : placeErr b acc price n = 0) (hnn : b.os.length = nn) (hl : 0 < o.left) : BkAt W7 B gb V2 (c.withO o) ∧ ((c.withO o).opened o).Ok ∧ o.id = ((nn : Nat) : Int) := by
  subst hnn
  have h1 := hPM.okW hE
  have h2 := h1.2 hl
  unfold BkS.last at h2
  rw [if_pos hl] at h2
  exact ⟨h.bk.full h1.1, h2, hPM.like.1⟩
theorem PF.fin1 (h : PF gb B V nn w g13 c o ts A m cc V2 W7) (hPM : PM b (!buy) ⟨(nn : Int), acc, buy, price, n, n⟩ c o ts) (hST : Stops c (!buy) o) (hE : placeErr b acc price n = 0) (hnn : b.os.length = nn) (hl : 0 < o.left) (hB : BkPost gb B V2 (c.withO o) W7 ((c.withO o).opened o) W8) : PlacePost gb B V b acc buy price n w (.returned (.tuple #[.int .i64 o.id, .slice A m cc, .int .i64 0])) W8 := by
  subst hnn
  have hm := hB
  obtain ⟨V3, -, hm3, -⟩ := hm
  refine place_fin hPM hST hE h.len (hm3.own h.row (fun q hq => h.bk.isnt (own_ty h.row hq) (by decide))) ?_
  rw [show c.last o = (c.withO o).opened o by unfold BkS.last; rw [if_pos hl]]
  exact BkPost.comp h.mod h.sub hB
theorem PF.y8 (h : PF gb B V nn w g13 c o ts A m cc V2 W7) (hB : BkPost gb B V2 (c.withO o) W7 ((c.withO o).opened o) W8) : W8.cell? ⟨g13, 0, none⟩ = some (.int .i64 o.id) := by
  obtain ⟨V3, -, hm3, -⟩ := hB
  rw [(hm3.blk h.blk h.not13).cell]
  rfl
end
end
theorem slT_trd : SlT Try.prog 25 46 4 32 := SlT.of Try.underlying25 (by kernel_rfl) (by decide)
theorem one4 (a b c d : Int) : ∀ u ∈ (#[Value.int .i64 a, .int .i64 b, .int .i64 c, .int .i64 d] : Array Value).toList, u.oneCell' = true := by
  intro u hu
  simp at hu
  rcases hu with rfl | rfl | rfl | rfl <;> rfl
end Go.Proofs.Ytkandhpnenmleaa

/- book: Place. -/
namespace Go.Proofs.Ytkandhpnenmleaa
open Go.RowKit

/-- The state of Place's loop: lv are the trades. -/
def PLoop (gb B : Nat) (V : BkV) (nn : Nat) (w : World) (g13 : Nat) (b : BkS) (s : Bool) (o0 : Ord) (gk : Nat) (lv : Value) (wr : World) : Prop :=
  ∃ (c : BkS) (o : Ord) (ts : List Trd) (A : Option Addr) (m cc : Nat) (V' : BkV), lv = .slice A m cc ∧ Hid (PM b s o0 c o ts) ∧ Hid (PR gb B V nn w g13 c o ts A m cc V' wr) ∧ Hid ((c.side s).length + (if 0 < o.left then 1 else 0) = gk)
theorem PLoop.mk {gb B : Nat} {V : BkV} {nn : Nat} {w : World} {g13 : Nat} {b : BkS} {s : Bool} {o0 : Ord} {c : BkS} {o : Ord} {ts : List Trd} {A : Option Addr} {m cc : Nat} {V' : BkV} {wr : World} (h1 : PM b s o0 c o ts) (h2 : PR gb B V nn w g13 c o ts A m cc V' wr) : PLoop gb B V nn w g13 b s o0 ((c.side s).length + (if 0 < o.left then 1 else 0)) (.slice A m cc) wr :=
  ⟨c, o, ts, A, m, cc, V', rfl, Lib.hid h1, Lib.hid h2, Lib.hid rfl⟩
end Go.Proofs.Ytkandhpnenmleaa
