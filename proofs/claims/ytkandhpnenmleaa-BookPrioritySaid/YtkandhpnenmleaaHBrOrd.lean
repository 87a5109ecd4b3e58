/- book: the reference's Orders. -/
import Derived.Test.YtkandhpnenmleaaHBrB
import Derived.Test.YtkandhpnenmleaaHBkOrd

namespace Go.Proofs.Ytkandhpnenmleaa
open Go.RowKit

section
variable {l : List ROrd} {b : BkS}
theorem rl_range (l : List ROrd) : l = (List.range l.length).map (rAt l) := by
  refine List.ext_getElem (by simp) (fun i h1 h2 => ?_)
  rw [List.getElem_map, List.getElem_range, rAt_eq h1]
theorem Rel.opens (h : Rel l b) : l.filter ROrd.open = b.openIds.map (rAt l) := by
  rw [show l.filter ROrd.open = ((List.range l.length).map (rAt l)).filter ROrd.open from by rw [← rl_range], List.filter_map]
  unfold BkS.openIds
  rw [h.len]
  congr 1
  exact List.filter_congr (fun x hx => h.isIn x (by rw [h.len]; exact List.mem_range.1 hx))
theorem Rel.openOs (h : Rel l b) : (l.filter ROrd.open).map ROrd.o = b.openOs := by
  rw [h.opens, List.map_map]
  unfold BkS.openOs
  exact List.map_congr_left (fun k _ => h.at_ k)
end
theorem one7 (a b : Int) (c : Bool) (d e f : Int) (g : Bool) : ∀ u ∈ (#[Value.int .i64 a, .int .i64 b, .bool c, .int .i64 d, .int .i64 e, .int .i64 f, .bool g] : Array Value).toList, u.oneCell' = true := by
  intro u hu
  simp at hu
  rcases hu with rfl | rfl | rfl | rfl | rfl | rfl | rfl <;> rfl
def rOpens (l : List ROrd) (k : Nat) : List ROrd := (l.take k).filter ROrd.open
theorem rOpens_succ {l : List ROrd} {k : Nat} (hk : k < l.length) : rOpens l (k + 1) = rOpens l k ++ (if (rAt l k).open = true then [rAt l k] else []) := by
  unfold rOpens
  rw [← List.take_append_getElem hk, List.filter_append, rAt_eq hk]
  congr 1
  cases h : (l[k]).open <;> simp [h]
theorem rOpens_len (l : List ROrd) (k : Nat) : (rOpens l k).length ≤ k := by
  unfold rOpens
  have h1 := List.length_filter_le ROrd.open (l.take k)
  have h2 := List.length_take_le k l
  omega
def ROrdPost (l : List ROrd) (w : World) (e : Ending) (w' : World) : Prop := ∃ A c, e = .returned (.slice A (l.filter ROrd.open).length c) ∧ w'.ownsRow w.heap.size 85 7 (.slice A (l.filter ROrd.open).length c) (l.filter ROrd.open).length ((l.filter ROrd.open).flatMap ROrd.cells) ∧ Below w.heap.size w w'
set_option maxRecDepth 100000 in
set_option maxHeartbeats 4000000 in
theorem rorders_any (B g n c : Nat) (A : Option Addr) (l : List ROrd) (w : World) (HK : Hid (RB w B g A n c l)) :
    Calls Try.prog 47 #[.pointer (some ⟨g, 0, none⟩)] w (ROrdPost l w) := by
  have hn := HK.out.few
  have hc0 := HK.out.cell0
  go_enter Try.func47, Try.ntmps47
  go_wp2
  go_loopw [3, 4] (fun lv iv wr => ∃ (k m : Nat) (A' : Option Addr) (c' : Nat), k ≤ n ∧ m ≤ k ∧ iv = .int .i64 (k : Int) ∧ lv = .slice A' m c' ∧ Hid (m = (rOpens l k).length) ∧ Hid (wr.ownsRow w.heap.size 85 7 (.slice A' m c') m ((rOpens l k).flatMap ROrd.cells)) ∧ Hid (Below w.heap.size w wr)) (fun _ iv _ => n - (intOf iv).toNat)
  case atStart => exact ⟨0, 0, none, 0, Nat.zero_le _, Nat.zero_le _, rfl, rfl, Lib.hid rfl, Lib.hid (World.ownsRow_nil _ _ _ 7), Lib.hid (Below.refl _ _)⟩
  case round =>
    obtain ⟨k, m, A', c', hk, hmk, rfl, rfl, HM, HO, HB⟩ := hrel
    clear hc0
    have HR := Lib.hid (HK.out.all HB.out)
    have hc0 := HR.out.cell0
    rcases Nat.lt_or_ge k n with hlt | hge
    · have hii : (k : Int) < (n : Int) := by omega
      obtain ⟨gr, hA, hgr, -, -, a0, a1, a2, a3, a4, a5, a6⟩ := HR.out.order hlt
      subst hA
      have hs := rOpens_succ (l := l) (k := k) (by rw [HK.out.len]; exact hlt)
      obtain ⟨x, hx⟩ : ∃ x, rAt l k = x := ⟨_, rfl⟩
      rw [hx] at a0 a1 a2 a3 a4 a5 a6 hs
      have hop : ∀ w, Calls Try.prog 59 #[.agg #[.int .i64 x.o.id, .int .i64 x.o.acc, .bool x.o.buy, .int .i64 x.o.price, .int .i64 x.o.n, .int .i64 x.o.left, .bool x.e]] w fun e w' => e = .returned (.bool x.open) ∧ Below w.heap.size w w' := fun w => ropen_any x w
      have HX := Lib.hid hx
      clear hx
      cases ho : x.open
      · rw [ho] at hs
        simp only [ho] at hop
        have HS : Hid (rOpens l (k + 1) = rOpens l k) := Lib.hid (by rw [hs]; simp)
        have HOP := Lib.hid hop
        clear hs hop ho
        go_wp2_with (go_at_call 59
                     (with_reducible refine (HOP.out _).mono ?_)
                     rintro e w1 ⟨rfl, hb1⟩)
        exact ⟨⟨k + 1, m, A', c', by omega, by omega, by go_num, rfl, Lib.hid (by rw [HS.out]; exact HM.out), Lib.hid (by rw [HS.out]; exact own_keep HO.out hb1), Lib.hid (bt HB.out hb1)⟩, by simp [intOf]; omega⟩
      · rw [ho] at hs
        simp only [ho] at hop
        have HS : Hid (rOpens l (k + 1) = rOpens l k ++ [x]) := Lib.hid (by rw [hs]; simp)
        have HOP := Lib.hid hop
        clear hs hop ho
        go_wp2_with (first
          | (go_at_call 59
             (with_reducible refine (HOP.out _).mono ?_)
             rintro e w1 ⟨rfl, hb1⟩
             have HO1 := Lib.hid (own_keep HO.out hb1)
             have HB1 := Lib.hid (bt HB.out hb1)
             have HR1 := Lib.hid (HR.out.all hb1)
             have hc1 := HR1.out.cell0
             obtain ⟨gr1, hA1, -, -, -, a0', a1', a2', a3', a4', a5', a6'⟩ := HR1.out.order hlt
             injection hA1 with hA1
             injection hA1 with hA1 hA2 hA3
             clear hA2 hA3
             subst hA1
             rw [HX.out] at a0' a1' a2' a3' a4' a5' a6'
             clear hb1)
          | (at_builtin
             obtain ⟨A5, c5, w5, hr5, ho5, hb5, -, -⟩ := app_elem2 51 slT_rord HO1.out #[.int .i64 x.o.id, .int .i64 x.o.acc, .bool x.o.buy, .int .i64 x.o.price, .int .i64 x.o.n, .int .i64 x.o.left, .bool x.e] rfl (one7 _ _ _ _ _ _ _) (by omega) (by decide) HB1.out.size
             refine wpList_append_run hr5 (by rfl) (by rfl) (by rfl) (by rfl) ?_
             replace hr5 := Lib.hid hr5
             replace ho5 := Lib.hid ho5
             replace hb5 := Lib.hid hb5))
        refine ⟨⟨k + 1, m + 1, A5, c5, by omega, by omega, by go_num, rfl, Lib.hid ?_, Lib.hid ?_, Lib.hid ?_⟩, by simp [intOf]; omega⟩
        · rw [HS.out, List.length_append, ← HM.out]
          rfl
        · rw [HS.out, List.flatMap_append, List.flatMap_singleton]
          exact ho5.out
        · exact HB1.out.trans hb5.out
    · obtain rfl : k = n := by omega
      have HL : Hid (rOpens l k = l.filter ROrd.open) := Lib.hid (by unfold rOpens; rw [List.take_of_length_le (by rw [HK.out.len]; exact Nat.le_refl _)])
      have HFIN : Hid (ROrdPost l w (.returned (.slice A' m c')) wr) := Lib.hid (by
        have h1 := HM.out
        have h2 := HO.out
        rw [HL.out] at h1 h2
        subst h1
        exact ⟨A', c', rfl, h2, HB.out⟩)
      go_wp2
      go_ret
      exact HFIN.out
end Go.Proofs.Ytkandhpnenmleaa
