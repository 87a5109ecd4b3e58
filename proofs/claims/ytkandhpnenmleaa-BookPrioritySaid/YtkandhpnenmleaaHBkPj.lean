/- book: BookPriority's state in the store. -/
import Derived.Test.YtkandhpnenmleaaHBkPi

namespace Go.Proofs.Ytkandhpnenmleaa
open Go.RowKit

theorem place_ok9 {b : BkS} (hok : b.Ok) (hlen : b.os.length ≤ 24) (buy : Bool) {p k : Int} (hp : 1 ≤ p ∧ p ≤ 1000000) (hk : 1 ≤ k ∧ k ≤ 100) : ∃ ts b', placeE b 9 buy p k = ((b.os.length : Int), ts, 0, b') ∧ ts = (matchP b.os ⟨b.os.length, 9, buy, p, k, k⟩ (b.side !buy)).1 ∧ getO b'.os (b.os.length : Int) = (matchP b.os ⟨b.os.length, 9, buy, p, k, k⟩ (b.side !buy)).2.1 ∧ hasO b'.os (b.os.length : Int) = true ∧ ts.length ≤ 4096 := by
  have hfew := open_few hok
  have he : placeErr b 9 p k = 0 := by
    unfold placeErr
    rw [if_neg (by omega), if_neg, if_neg (by omega)]
    have h1 : inR p = true := by unfold inR; simp; omega
    have h2 : inR k = true := by unfold inR; simp; omega
    rw [h1, h2, Int.tdiv_eq_ediv_of_nonneg (by omega)]
    simp
    have : (1000000 : Int) ≤ 1099511627776 / k := by
      refine (Int.le_ediv_iff_mul_le (by omega)).2 ?_
      omega
    omega
  have hos : (placeS b 9 buy p k).2.os = (matchP b.os ⟨b.os.length, 9, buy, p, k, k⟩ (b.side !buy)).2.2.1 ++ [(matchP b.os ⟨b.os.length, 9, buy, p, k, k⟩ (b.side !buy)).2.1] := by
    unfold placeS
    dsimp only
    split
    · exact opened_os _ _
    · rfl
  have hl := matchP_oslen (b.side !buy) b.os ⟨b.os.length, 9, buy, p, k, k⟩
  refine ⟨(placeS b 9 buy p k).1, (placeS b 9 buy p k).2, ?_, rfl, ?_, ?_, ?_⟩
  · unfold placeE
    rw [if_pos he]
  · rw [hos]
    unfold getO
    rw [if_pos (by rw [List.length_append, hl]; simp; omega), Int.toNat_natCast, ordAt_app, if_pos hl.symm]
  · rw [hos]
    exact hasO_in (by omega) (by rw [List.length_append, hl]; simp; omega)
  · have := placeE_len hok 9 buy p k
    unfold placeE at this
    rw [if_pos he] at this
    exact this
structure PrSt (B B8 B9 gb : Nat) (w0 : World) (V : BkV) (b b' : BkS) (A8 : Option Addr) (on c8 : Nat) (A9 : Option Addr) (tk c9 : Nat) (ts : List Trd) (os : List Ord) (W : World) : Prop where
  bk : BkAt W B gb V b'
  row : W.ownsRow B8 42 6 (.slice A8 on c8) on ((priL b os).flatMap Ord.cells)
  apart : ∀ q, (Value.slice A8 on c8).ownBlock = some q → ¬ BkF gb V b'.os.length q
  tr : W.ownsRow B9 46 4 (.slice A9 tk c9) tk (ts.flatMap Trd.cells)
  low : Below B w0 W
  ge : B ≤ B8
section
variable {B B8 B9 gb : Nat} {w0 : World} {V : BkV} {b b' : BkS} {A8 : Option Addr} {on c8 : Nat} {A9 : Option Addr} {tk c9 : Nat} {ts : List Trd} {os : List Ord} {W W' : World}
theorem PrSt.all (h : PrSt B B8 B9 gb w0 V b b' A8 on c8 A9 tk c9 ts os W) (hB : B ≤ W.heap.size) (hb : Below W.heap.size W W') : PrSt B B8 B9 gb w0 V b b' A8 on c8 A9 tk c9 ts os W' :=
  ⟨h.bk.all hb, own_keep h.row hb, h.apart, own_keep h.tr hb, h.low.trans (hb.mono hB), h.ge⟩
theorem PrSt.set (h : PrSt B B8 B9 gb w0 V b b' A8 on c8 A9 tk c9 ts os W) (hB : B ≤ W.heap.size) {g j : Nat} (hg : A8 = some ⟨g, 0, none⟩) (hon : b.openIds.length = on) (hj : j < on) (hid : b.openIds[j] < os.length) (m : Int) : PrSt B B8 B9 gb w0 V b b' A8 on c8 A9 tk c9 ts (os.set b.openIds[j] ((ordAt os b.openIds[j]).less m)) (W.setCell ⟨g, j * 6 + 5, none⟩ (.int .i64 ((ordAt os b.openIds[j]).left - m))) := by
  have hob : (Value.slice A8 on c8).ownBlock = some g := by rw [hg]; rfl
  have ms : Mod (fun q => q = g) W (W.setCell ⟨g, j * 6 + 5, none⟩ (.int .i64 ((ordAt os b.openIds[j]).left - m))) := Mod.set (F := fun q => q = g) (Mod.refl _ _) (p := ⟨g, j * 6 + 5, none⟩) (.inl rfl) _
  have hgg := own_ge h.row hob
  refine ⟨h.bk.mod ms (fun q hq e => h.apart g hob (by rw [← e]; exact hq)), ?_, h.apart, ms.own h.tr (fun q hq e => ?_), ms.below h.low hB (fun q hq => by rw [hq]; have := h.ge; omega), h.ge⟩
  · have ho := h.row
    rw [hg] at ho ⊢
    have := (ho.stored (j * 6 + 5) (.int .i64 ((ordAt os b.openIds[j]).left - m))).1
    rw [flatT_set Ord.cells 6 Ord.cells_length ((ordAt os b.openIds[j]).less m) 5 (by omega) _ (priL b os) j (by rw [priL_len, hon]; exact hj) (by
      have e : (priL b os)[j]'(by rw [priL_len, hon]; exact hj) = ordAt os b.openIds[j] := by simp [priL]
      rw [e]
      rfl), priL_set (by omega) hid] at this
    exact this
  · have h1 := own_ty h.tr hq
    rw [e] at h1
    exact absurd (h1.unique (own_ty h.row hob)) (by decide)
end
end Go.Proofs.Ytkandhpnenmleaa
