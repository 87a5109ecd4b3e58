/- ledger: move, of moves without parts. -/
import Derived.Test.YtgepbklpobobbaaGreatDoorHLdMvA
import Derived.Test.YtgepbklpobobbaaGreatDoorHLdMvB
import Derived.Test.YtgepbklpobobbaaGreatDoorHLdMvC
import Derived.Test.YtgepbklpobobbaaGreatDoorHLdMvD
import Derived.Test.YtgepbklpobobbaaGreatDoorHLdValid
import Derived.Test.YtgepbklpobobbaaGreatDoorHG6
import Derived.StillTailTactics

namespace Go.Proofs.YtgepbklpobobbaaGreatDoor
open Go.RowKit

theorem move_any {mx : Int → Bool} {K : Int} {L : Led} {S0 S : LSt} {C : Chg} (m : Mv) (w0 w : World) (HC : Hid (ChAt w0.heap.size w L S0 S C)) (HL : Hid (LedAt mx w0 L S0)) (HB : Hid (Below w0.heap.size w0 w)) (HO : Hid (LOk mx K S)) (HM : Hid (MvOk L.it.2.1 m)) (hK : K ≤ 1073741824) (hgl : L.it.2.1 ≤ 64) (hkd : C.kind = 0 ∨ C.kind = 2) (hnf : S.nf < 1000000) :
    Calls Tryz.prog 92 #[.pointer (some ⟨C.gc, 0, none⟩), mvA m] w (MovePost mx w0 w L S0 S C m) := by
  have h0 := HM.out.f0
  rcases Int.lt_or_le m.frm 1 with hz | hz
  · have hz : m.frm = 0 := by omega
    cases hl : C.ts.lookup m.item with
    | some v => exact moveA m w0 w HC HL HB HO HM hK hgl hkd hnf hz (Lib.hid ⟨v, hl⟩)
    | none => exact moveB m w0 w HC HL HB HO HM hK hgl hkd hnf hz (Lib.hid hl)
  · cases hl : C.ts.lookup m.item with
    | some v => exact moveC m w0 w HC HL HB HO HM hK hgl hkd hnf hz (Lib.hid ⟨v, hl⟩)
    | none => exact moveD m w0 w HC HL HB HO HM hK hgl hkd hnf hz (Lib.hid hl)
end Go.Proofs.YtgepbklpobobbaaGreatDoor

/- slices.Clone of items, copies.Catalog, worldmintref22.Catalog. -/
namespace Go.Proofs.YtgepbklpobobbaaGreatDoor
open Go.RowKit

theorem slT_item : SlT Tryz.prog 23 162 7 48 := SlT.of Tryz.underlying23 (by kernel_rfl) (by decide)
theorem ItAt.news {w : World} {A : Option Addr} {n c : Nat} {is : List Itm} (h : ItAt w A n c is) : ∀ ad, A = some ad → ∀ j u, (is.flatMap itV)[j]? = some u → w.cell? (ad.add j) = some u := by
  intro ad e j u hu
  have hj : j < (is.flatMap itV).length := (List.getElem?_eq_some_iff.1 hu).1
  obtain ⟨b, off, e2, -, -, hc⟩ := h.2.2.2.cells (by omega)
  rw [e] at e2
  injection e2 with e2
  subst e2
  have e3 : (⟨b, off, none⟩ : Addr).add j = ⟨b, off + j, none⟩ := by simp [Addr.add]
  rw [e3, hc j hj, hu]
theorem items_one (is : List Itm) : ∀ u ∈ is.flatMap itV, u.oneCell' = true := by
  intro u hu
  rw [List.mem_flatMap] at hu
  obtain ⟨l, -, hu⟩ := hu
  simp only [itV, List.mem_cons, List.not_mem_nil, or_false] at hu
  rcases hu with rfl | rfl | rfl | rfl | rfl | rfl | rfl <;> rfl
theorem ItAt.of_own {w : World} {B n c : Nat} {A : Option Addr} {is : List Itm} (h : w.ownsRow B 162 7 (.slice A n c) n (is.flatMap itV)) (hl : is.length = n) : ItAt w A n c is := by
  refine ⟨hl, ?_, ?_, RowT.of_own h⟩
  all_goals
    rcases h.2 with ⟨h2, hn⟩ | ⟨g, cap, cur, h2, _, hh, hnc, hm, hcs, htk⟩
    · injection h2 with _ e1 e2
      omega
    · injection h2 with _ e1 e2
      first | omega | (have := hm; omega) | (unfold maxLen at *; omega)
set_option maxRecDepth 100000 in
theorem cloneI_any (ad : Addr) (n c : Nat) (is : List Itm) (w : World) (HL : Hid (ItAt w (some ad) n c is)) (hn : n ≤ 1000000) :
    Calls Tryz.prog 81 #[.slice (some ad) n c] w fun e w' => ∃ A' c', e = .returned (.slice A' n c') ∧ ItAt w' A' n c' is ∧ Below w.heap.size w w' := by
  have hB := (Below.refl w.heap.size w).alloc (Nat.le_refl _) (.cells #[] 162)
  obtain ⟨A', c', w', hap, hown, hb⟩ := app_cells (w := w.alloc (.cells #[] 162)) (base := w.heap.size) (ty := 23) slT_item (World.ownsRow_made w #[] 0 (Nat.le_refl _) (by decide) rfl) (some ad) n c (is.flatMap itV) (by rw [flatT_length itV 7 itV_len, HL.out.1]) (by intro h; cases h) (HL.out.all hB).news (items_one is) (by omega) (by decide) (by simp)
  simp only [Nat.zero_add, List.nil_append] at hap hown
  have HA := Lib.hid hap
  have HO := Lib.hid hown
  have HB : Hid (Below w.heap.size w w') := Lib.hid (hB.trans hb)
  clear hap hown hb hB
  have hq := Lib.run_eql_slice_nil (P := Tryz.prog) w 23 162 (some ad) n c 0 0 Tryz.underlying23
  go_enter Tryz.func81, Tryz.ntmps81
  go_wp2_with (at_builtin; refine wpList_append_run HA.out rfl rfl rfl rfl ?_)
  go_ret
  exact ⟨A', c', rfl, ItAt.of_own HO.out HL.out.1, HB.out⟩
end Go.Proofs.YtgepbklpobobbaaGreatDoor
