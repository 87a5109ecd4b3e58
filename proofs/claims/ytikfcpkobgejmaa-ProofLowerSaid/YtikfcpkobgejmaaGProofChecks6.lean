/- Part 6 of the texts that ProofChecks needs: PfSpoilt27 PfRHas PfRConf PfRFeasA. -/
import Derived.Deep.DeepCutAuto
import Derived.Test.YtikfcpkobgejmaaGProofChecks5

/- reference: Spoilt (of 27). -/
namespace Go.Proofs.Ytikfcpkobgejmaa
open Go.RowKit

/-- A literal row. -/
theorem own_lit (w : World) (B e size n : Nat) (cs : Array Value) (hs : cs.size = n * size) (hn : n ≤ 1000) (hB : B ≤ w.heap.size) : (w.alloc (.cells cs e)).ownsRow B e size (.slice (some ⟨w.heap.size, 0, none⟩) n n) n cs.toList :=
  ⟨by simpa using hs, .inr ⟨w.heap.size, n, cs, rfl, hB, Blk.new _ _ _, Nat.le_refl _, by unfold maxLen; omega, hs, by rw [List.take_of_length_le (by simp; omega)]⟩⟩
theorem cells3_set {L : List Bd} {k : Nat} (hk : k < L.length) (b : Bd) : (((L.flatMap Bd.cells).set (k * 3) (.int .i64 b.bidder)).set (k * 3 + 1) (.int .i64 b.price)).set (k * 3 + 2) (slV b.s) = (L.set k b).flatMap Bd.cells := by
  have h0 := flatT_set Bd.cells 3 Bd.cells_length ⟨b.bidder, L[k].price, L[k].s, L[k].lots⟩ 0 (by decide) (.int .i64 b.bidder) L k hk rfl
  rw [Nat.add_zero] at h0
  rw [h0]
  have hk1 : k < (L.set k ⟨b.bidder, L[k].price, L[k].s, L[k].lots⟩).length := by rw [List.length_set]; exact hk
  rw [flatT_set Bd.cells 3 Bd.cells_length ⟨b.bidder, b.price, L[k].s, L[k].lots⟩ 1 (by decide) (.int .i64 b.price) _ k hk1 (by simp [Bd.cells]), List.set_set]
  have hk2 : k < (L.set k ⟨b.bidder, b.price, L[k].s, L[k].lots⟩).length := by rw [List.length_set]; exact hk
  rw [flatT_set Bd.cells 3 Bd.cells_length b 2 (by decide) (slV b.s) _ k hk2 (by simp [Bd.cells]), List.set_set]
/-- A store of a whole struct into a row of the call's own. -/
theorem own_set3 {w : World} {B t n c g k : Nat} {L : List Bd} (h : w.ownsRow B t 3 (.slice (some ⟨g, 0, none⟩) n c) n (L.flatMap Bd.cells)) (hk : k < L.length) (b : Bd) :
    (((w.setCell ⟨g, k * 3, none⟩ (.int .i64 b.bidder)).setCell ⟨g, k * 3 + 1, none⟩ (.int .i64 b.price)).setCell ⟨g, k * 3 + 2, none⟩ (slV b.s)).ownsRow B t 3 (.slice (some ⟨g, 0, none⟩) n c) n ((L.set k b).flatMap Bd.cells) := by
  rw [← cells3_set hk b]
  exact ((((h.stored (k * 3) (.int .i64 b.bidder)).1).stored (k * 3 + 1) (.int .i64 b.price)).1.stored (k * 3 + 2) (slV b.s)).1
def Spoilt27Post (L : List Bd) (w : World) (e : Ending) (w' : World) : Prop := ∃ A' c' L', e = .returned (.slice A' L.length c') ∧ L'.length = L.length ∧ Bds w' (A', L.length, c') L' ∧ Below w.heap.size w w'
theorem Bds.of_own {w : World} {B t n c : Nat} {A : Option Addr} {L : List Bd} (h : w.ownsRow B t 3 (.slice A n c) n (L.flatMap Bd.cells)) (ho : ∀ b ∈ L, b.ok w) : Bds w (A, n, c) L := ⟨Rows.of_own Bd.cells_length h (by decide), ho⟩
set_option maxRecDepth 100000 in
set_option maxHeartbeats 8000000 in
theorem spoilt27_any (A : Option Addr) (m c : Nat) (L : List Bd) (at_ how n : Int) (w : World) (HL : Hid (Bds w (A, m, c) L)) (hm : m ≤ 1000) (HLS : Hid (∀ b ∈ L, b.s.2.1 ≤ 1000000)) (ha1 : -9223372036854775808 ≤ at_) (ha2 : at_ ≤ 9223372036854775807) (hh1 : -9223372036854775808 ≤ how) (hh2 : how ≤ 9223372036854775807) :
    Calls Try.prog 23 #[.slice A m c, .int .i64 at_, .int .i64 how, .int .i64 n] w (Spoilt27Post L w) := by
  have HLL := Lib.hid HL.out.rows.len
  dsimp only at HLL
  obtain ⟨A2, c2, w2, hr2, ho2, hb2⟩ := app_cells (w := w) (base := w.heap.size) (ty := 24) slT_rbid (World.ownsRow_nil w w.heap.size _ 3) A m c (L.flatMap Bd.cells) (by rw [flat_len Bd.cells_length, HLL.out]) (HL.out.rows.none_ (by decide)) (HL.out.rows.news Bd.cells_length) (by
    intro u hu
    obtain ⟨b, -, hb⟩ := List.mem_flatMap.1 hu
    simp [Bd.cells, slV] at hb
    rcases hb with rfl | rfl | rfl <;> rfl) (by omega) (by decide) (Nat.le_refl _)
  rw [Nat.zero_add] at hr2 ho2
  rw [List.nil_append] at ho2
  have HR2 := Lib.hid hr2
  have HO2 := Lib.hid ho2
  have HB2 := Lib.hid hb2
  clear hr2 ho2 hb2
  by_cases h0 : m = 0
  · subst h0
    have HF : Hid (Spoilt27Post L w (.returned (.slice A2 0 c2)) w2) := Lib.hid ⟨A2, c2, L, by rw [HLL.out], rfl, by rw [HLL.out]; exact Bds.of_own HO2.out (fun b hb => (HL.out.ok b hb).all HB2.out), HB2.out⟩
    go_enter Try.func23, Try.ntmps23
    go_wp2_with (at_builtin; refine wpList_append_run HR2.out (by rfl) (by rfl) (by rfl) (by rfl) ?_)
    go_ret
    exact HF.out
  have hm0 : ((m : Int) == 0) = false := by simp; omega
  go_enter Try.func23, Try.ntmps23
  go_wp2_with (at_builtin; refine wpList_append_run HR2.out (by rfl) (by rfl) (by rfl) (by rfl) ?_)
  refine (around_nat at_ m (m : Int) w2 rfl ha1 ha2 (by omega) (by omega)).mono ?_
  rintro e w3 ⟨k, rfl, hk, -, rfl⟩
  have hki : (k : Int) < (m : Int) := by omega
  have hkl : k < L.length := by rw [HLL.out]; exact hk
  obtain ⟨g, hg, hgB, hgl⟩ := own_some HO2.out (by omega)
  subst hg
  have HBD := Lib.hid (Bds.of_own HO2.out (fun b hb => (HL.out.ok b hb).all HB2.out))
  obtain ⟨b9, o9, hA9, hb9, p0, p1, p2, pok⟩ := HBD.out.cell hkl
  dsimp only at hA9
  injection hA9 with hA9
  injection hA9 with hA9 hA10 _
  subst hA9 hA10
  rw [Nat.zero_add] at p0 p1 p2
  have hsn := HLS.out _ (List.getElem_mem hkl)
  have how0 : (L[k]).ok w := HL.out.ok _ (List.getElem_mem hkl)
  obtain ⟨y, hy⟩ : ∃ y, L[k] = y := ⟨_, rfl⟩
  rw [hy] at p0 p1 p2 pok hsn how0
  clear hy
  obtain ⟨bi, pr, ⟨sA, sn, sc⟩, lots⟩ := y
  unfold slV at p2
  dsimp only [Bd.ok] at p0 p1 p2 pok hsn how0
  have HOK := Lib.hid pok
  have HOW := Lib.hid how0
  clear how0
  have HKL := Lib.hid hkl
  clear pok hkl
  have f0 := HO2.out.frozenAt (k * 3)
  have f1 := HO2.out.frozenAt (k * 3 + 1)
  have f2 := HO2.out.frozenAt (k * 3 + 2)
  obtain ⟨gx, hgx⟩ : ∃ gx, w2.heap.size = gx := ⟨_, rfl⟩
  have HGX := Lib.hid hgx
  have HEND : Hid (∀ (wx : World) (b' : Bd), Below w2.heap.size w2 wx → (∀ wf, Mod (fun b => b = g) wx wf → b'.ok wf) → Spoilt27Post L w (.returned (.slice (some ⟨g, 0, none⟩) m c2)) (((wx.setCell ⟨g, k * 3, none⟩ (.int .i64 b'.bidder)).setCell ⟨g, k * 3 + 1, none⟩ (.int .i64 b'.price)).setCell ⟨g, k * 3 + 2, none⟩ (slV b'.s))) := Lib.hid (fun wx b' hbx hok => by
    have hmod : Mod (fun b => b = g) wx (((wx.setCell ⟨g, k * 3, none⟩ (.int .i64 b'.bidder)).setCell ⟨g, k * 3 + 1, none⟩ (.int .i64 b'.price)).setCell ⟨g, k * 3 + 2, none⟩ (slV b'.s)) := Mod.set (F := fun b => b = g) (p := ⟨g, k * 3 + 2, none⟩) (Mod.set (F := fun b => b = g) (p := ⟨g, k * 3 + 1, none⟩) (Mod.set (F := fun b => b = g) (p := ⟨g, k * 3, none⟩) (Mod.refl _ wx) (.inl rfl) _) (.inl rfl) _) (.inl rfl) _
    have hbw : Below w.heap.size w wx := bt HB2.out hbx
    have hbf := Mod.below hbw hmod hbw.size (fun b hb => by rw [hb]; exact hgB)
    refine ⟨some ⟨g, 0, none⟩, c2, L.set k b', by rw [HLL.out], List.length_set, ?_, hbf⟩
    rw [HLL.out]
    refine Bds.of_own (own_set3 (own_keep HO2.out hbx) HKL.out b') (fun b hb => ?_)
    rcases List.mem_or_eq_of_mem_set hb with h | h
    · exact (HL.out.ok b h).all hbf
    · rw [h]
      exact hok _ hmod)
  have HOLD : Hid (∀ wx, Below w2.heap.size w2 wx → ∀ wf, Mod (fun b => b = g) wx wf → NIn wf wf.heap.size (sA, sn, sc) lots) := Lib.hid (fun wx hbx wf hm => NIn.all HOW.out (Mod.below (bt HB2.out hbx) hm (bt HB2.out hbx).size (fun b hb => by rw [hb]; exact hgB)))
  have HTG : Hid (∀ wx, Below w2.heap.size w2 wx → ∀ b, b = g → ¬ Ty wx b 3) := Lib.hid (fun wx hbx b hb => by
    rw [hb]
    exact (own_ty (own_keep HO2.out hbx) rfl).not (by decide))
  go_wp2_with fail
  refine (around_nat how 5 5 _ (by rfl) hh1 hh2 (by omega) (by omega)).mono ?_
  rintro e w4 ⟨r, rfl, hr, -, rfl⟩
  have hblt : g < gx := by omega
  clear hh1 hh2 ha1 ha2
  have HPP := Lib.hid (And.intro p0 (And.intro p1 p2))
  by_cases r0 : r = 0
  · subst r0
    have HXK : Hid (Blk (w2.alloc (.cells #[.int .i64 n, .int .i64 pr, .slice sA sn sc] 85)) gx 85 #[.int .i64 n, .int .i64 pr, .slice sA sn sc]) := Lib.hid (by rw [← hgx]; exact Blk.new _ _ _)
    have HXL : Hid (Below w2.heap.size w2 (w2.alloc (.cells #[.int .i64 n, .int .i64 pr, .slice sA sn sc] 85))) := Lib.hid ((Below.refl _ _).alloc (Nat.le_refl _) _)
    go_upto_region 17 with (fail)
    obtain ⟨wx, hwx⟩ : ∃ wx, w2.alloc (.cells #[.int .i64 n, .int .i64 pr, .slice sA sn sc] 85) = wx := ⟨_, rfl⟩
    have HXB : Hid (Blk wx gx 85 #[.int .i64 n, .int .i64 pr, .slice sA sn sc]) := Lib.hid (by rw [← hwx]; exact HXK.out)
    have HXW : Hid (Below w2.heap.size w2 wx) := Lib.hid (by rw [← hwx]; exact HXL.out)
    have HOX := Lib.hid (own_keep HO2.out HXW.out)
    have HF := Lib.hid (HEND.out wx ⟨n, pr, (sA, sn, sc), lots⟩ HXW.out (HOLD.out _ HXW.out))
    unfold slV at HF
    dsimp only at HF
    rw [hwx]
    clear hwx HXK HXL p0 p1 p2 f0 f1 f2
    have x0 := HXB.out.cell 0
    have x1 := HXB.out.cell 1
    have x2 := HXB.out.cell 2
    simp at x0 x1 x2
    have p0 := (HXW.out.cell (p := ⟨g, k * 3, none⟩) hgl).trans HPP.out.1
    have p1 := (HXW.out.cell (p := ⟨g, k * 3 + 1, none⟩) hgl).trans HPP.out.2.1
    have p2 := (HXW.out.cell (p := ⟨g, k * 3 + 2, none⟩) hgl).trans HPP.out.2.2
    have f0 := HOX.out.frozenAt (k * 3)
    have f1 := HOX.out.frozenAt (k * 3 + 1)
    have f2 := HOX.out.frozenAt (k * 3 + 2)
    clear HPP HXB HXW HOX HEND HTG HOLD
    go_wp2
    go_ret
    exact HF.out
  by_cases r1 : r = 1
  · subst r1
    have HXK : Hid (Blk (w2.alloc (.cells #[.int .i64 bi, .int .i64 n, .slice sA sn sc] 85)) gx 85 #[.int .i64 bi, .int .i64 n, .slice sA sn sc]) := Lib.hid (by rw [← hgx]; exact Blk.new _ _ _)
    have HXL : Hid (Below w2.heap.size w2 (w2.alloc (.cells #[.int .i64 bi, .int .i64 n, .slice sA sn sc] 85))) := Lib.hid ((Below.refl _ _).alloc (Nat.le_refl _) _)
    go_upto_region 17 with (fail)
    obtain ⟨wx, hwx⟩ : ∃ wx, w2.alloc (.cells #[.int .i64 bi, .int .i64 n, .slice sA sn sc] 85) = wx := ⟨_, rfl⟩
    have HXB : Hid (Blk wx gx 85 #[.int .i64 bi, .int .i64 n, .slice sA sn sc]) := Lib.hid (by rw [← hwx]; exact HXK.out)
    have HXW : Hid (Below w2.heap.size w2 wx) := Lib.hid (by rw [← hwx]; exact HXL.out)
    have HOX := Lib.hid (own_keep HO2.out HXW.out)
    have HF := Lib.hid (HEND.out wx ⟨bi, n, (sA, sn, sc), lots⟩ HXW.out (HOLD.out _ HXW.out))
    unfold slV at HF
    dsimp only at HF
    rw [hwx]
    clear hwx HXK HXL p0 p1 p2 f0 f1 f2
    have x0 := HXB.out.cell 0
    have x1 := HXB.out.cell 1
    have x2 := HXB.out.cell 2
    simp at x0 x1 x2
    have p0 := (HXW.out.cell (p := ⟨g, k * 3, none⟩) hgl).trans HPP.out.1
    have p1 := (HXW.out.cell (p := ⟨g, k * 3 + 1, none⟩) hgl).trans HPP.out.2.1
    have p2 := (HXW.out.cell (p := ⟨g, k * 3 + 2, none⟩) hgl).trans HPP.out.2.2
    have f0 := HOX.out.frozenAt (k * 3)
    have f1 := HOX.out.frozenAt (k * 3 + 1)
    have f2 := HOX.out.frozenAt (k * 3 + 2)
    clear HPP HXB HXW HOX HEND HTG HOLD
    go_wp2
    go_ret
    exact HF.out
  by_cases r3 : r = 3
  · subst r3
    have HXK : Hid (Blk (w2.alloc (.cells #[.int .i64 bi, .int .i64 pr, .slice none 0 0] 85)) gx 85 #[.int .i64 bi, .int .i64 pr, .slice none 0 0]) := Lib.hid (by rw [← hgx]; exact Blk.new _ _ _)
    have HXL : Hid (Below w2.heap.size w2 (w2.alloc (.cells #[.int .i64 bi, .int .i64 pr, .slice none 0 0] 85))) := Lib.hid ((Below.refl _ _).alloc (Nat.le_refl _) _)
    go_upto_region 17 with (fail)
    obtain ⟨wx, hwx⟩ : ∃ wx, w2.alloc (.cells #[.int .i64 bi, .int .i64 pr, .slice none 0 0] 85) = wx := ⟨_, rfl⟩
    have HXB : Hid (Blk wx gx 85 #[.int .i64 bi, .int .i64 pr, .slice none 0 0]) := Lib.hid (by rw [← hwx]; exact HXK.out)
    have HXW : Hid (Below w2.heap.size w2 wx) := Lib.hid (by rw [← hwx]; exact HXL.out)
    have HOX := Lib.hid (own_keep HO2.out HXW.out)
    have HF := Lib.hid (HEND.out wx ⟨bi, pr, (none, 0, 0), []⟩ HXW.out (fun wf _ => NIn.nil _ _))
    unfold slV at HF
    dsimp only at HF
    rw [hwx]
    clear hwx HXK HXL p0 p1 p2 f0 f1 f2
    have x0 := HXB.out.cell 0
    have x1 := HXB.out.cell 1
    have x2 := HXB.out.cell 2
    simp at x0 x1 x2
    have p0 := (HXW.out.cell (p := ⟨g, k * 3, none⟩) hgl).trans HPP.out.1
    have p1 := (HXW.out.cell (p := ⟨g, k * 3 + 1, none⟩) hgl).trans HPP.out.2.1
    have p2 := (HXW.out.cell (p := ⟨g, k * 3 + 2, none⟩) hgl).trans HPP.out.2.2
    have f0 := HOX.out.frozenAt (k * 3)
    have f1 := HOX.out.frozenAt (k * 3 + 1)
    have f2 := HOX.out.frozenAt (k * 3 + 2)
    clear HPP HXB HXW HOX HEND HTG HOLD
    go_wp2
    go_ret
    exact HF.out
  by_cases r2 : r = 2
  · subst r2
    have hk0 := Blk.new w2 85 #[.int .i64 bi, .int .i64 pr, .slice sA sn sc]
    rw [hgx] at hk0
    obtain ⟨wa, hwa⟩ : ∃ wa, w2.alloc (.cells #[.int .i64 bi, .int .i64 pr, .slice sA sn sc] 85) = wa := ⟨_, rfl⟩
    have hba : Below w2.heap.size w2 wa := by rw [← hwa]; exact (Below.refl _ _).alloc (Nat.le_refl _) _
    have hza : wa.heap.size = gx + 1 := by rw [← hwa, World.size_alloc, hgx]
    rw [hwa] at hk0 ⊢
    clear hwa
    have hlit := own_lit wa (gx + 1) 3 1 0 #[] rfl (by omega) (by omega)
    have hlb : Below w2.heap.size w2 (wa.alloc (.cells #[] 3)) := hba.alloc (by omega) _
    obtain ⟨A5, c5, w5, hr5, ho5, hb5⟩ := app_cells (w := wa.alloc (.cells #[] 3)) (ty := 22) slT_ints hlit sA sn sc (lots.map (Value.int .i64)) (by rw [List.length_map, HOK.out.len]; simp) (NIn.none_ HOK.out) (NIn.news (NIn.all HOK.out hlb)) (by
      intro u hu
      obtain ⟨x, -, rfl⟩ := List.mem_map.1 hu
      rfl) (by omega) (by decide) (by simp; omega)
    rw [Nat.zero_add] at hr5 ho5
    have ho5' : OwnI w5 (gx + 1) A5 sn c5 lots := by simpa [OwnI] using ho5
    have hba5 : Below (gx + 1) wa w5 := ((Below.refl (gx + 1) wa).alloc (by omega) _).trans hb5
    have hk5 := hk0.below hba5 (by omega)
    obtain ⟨A6, c6, w6, hr6, ho6, hb6⟩ := app_int (w := w5) 22 n ho5' (by omega) (by have := hba5.size; omega)
    have hk6 := hk5.below hb6 (by omega)
    have HK0 := Lib.hid hk0
    have HR5 : Hid ((Builtin.append_ #[22, 22] 22 #[.slice (some ⟨gx + 1, 0, none⟩) 0 0, .slice sA sn sc]).run Try.prog (wa.alloc (.cells #[] 3)) = .ok (.slice A5 sn c5) w5) := Lib.hid (by rw [← hza]; exact hr5)
    have HR6 := Lib.hid hr6
    have hbx : Below w2.heap.size w2 w6 := hba.trans ((hba5.trans hb6).mono (by omega))
    have HXK : Hid (Blk (w6.setCell ⟨gx, 2, none⟩ (.slice A6 (sn + 1) c6)) gx 85 #[.int .i64 bi, .int .i64 pr, .slice A6 (sn + 1) c6]) := Lib.hid (hk6.set_ 2 _)
    have HXL : Hid (Below w2.heap.size w2 (w6.setCell ⟨gx, 2, none⟩ (.slice A6 (sn + 1) c6))) := Lib.hid (hbx.setCell (by rw [hgx]; exact Nat.le_refl _) _)
    have HTI : Hid (TI (w6.setCell ⟨gx, 2, none⟩ (.slice A6 (sn + 1) c6)) (A6, sn + 1, c6) (lots ++ [n])) := Lib.hid (TI.own (B := gx + 1) (ownsRow_setCell_below ho6 (by simp) _))
    have q0 := hk0.cell 0
    have q2 := (hk0.alloc (.cells #[] 3)).cell 2
    have q3 := hk6.cell 2
    have q4 := hk6.frozen 2
    simp at q0 q2 q3
    have hgw : gx < wa.heap.size := by omega
    clear hk0 hlit hlb hr5 ho5 ho5' hba5 hk5 hr6 ho6 hb6 hk6 hb5 hbx hba q0
    go_upto_region 17 with (first | (at_builtin; refine wpList_append_run HR5.out (by rfl) (by rfl) (by rfl) (by rfl) ?_) | (at_builtin; refine wpList_append_run HR6.out (by rfl) (by rfl) (by rfl) (by rfl) ?_))
    clear q2 q3 q4 HR5 HR6
    obtain ⟨wx, hwx⟩ : ∃ wx, w6.setCell ⟨gx, 2, none⟩ (.slice A6 (sn + 1) c6) = wx := ⟨_, rfl⟩
    have HXB : Hid (Blk wx gx 85 #[.int .i64 bi, .int .i64 pr, .slice A6 (sn + 1) c6]) := Lib.hid (by rw [← hwx]; exact HXK.out)
    have HXW : Hid (Below w2.heap.size w2 wx) := Lib.hid (by rw [← hwx]; exact HXL.out)
    have HOX := Lib.hid (own_keep HO2.out HXW.out)
    have HTX := HTI
    rw [hwx] at HTX
    have HF := Lib.hid (HEND.out wx ⟨bi, pr, (A6, sn + 1, c6), lots ++ [n]⟩ HXW.out (fun wf hm => (HTX.out.mod hm (fun b hb => HTG.out _ HXW.out b hb)).nin))
    unfold slV at HF
    dsimp only at HF
    rw [hwx]
    clear hwx HXK HXL p0 p1 p2 f0 f1 f2
    have x0 := HXB.out.cell 0
    have x1 := HXB.out.cell 1
    have x2 := HXB.out.cell 2
    simp at x0 x1 x2
    have p0 := (HXW.out.cell (p := ⟨g, k * 3, none⟩) hgl).trans HPP.out.1
    have p1 := (HXW.out.cell (p := ⟨g, k * 3 + 1, none⟩) hgl).trans HPP.out.2.1
    have p2 := (HXW.out.cell (p := ⟨g, k * 3 + 2, none⟩) hgl).trans HPP.out.2.2
    have f0 := HOX.out.frozenAt (k * 3)
    have f1 := HOX.out.frozenAt (k * 3 + 1)
    have f2 := HOX.out.frozenAt (k * 3 + 2)
    clear HPP HXB HXW HOX HEND HTG HOLD
    go_wp2
    go_ret
    exact HF.out
  · obtain rfl : r = 4 := by omega
    have hk0 := Blk.new w2 85 #[.int .i64 bi, .int .i64 pr, .slice sA sn sc]
    rw [hgx] at hk0
    obtain ⟨wa, hwa⟩ : ∃ wa, w2.alloc (.cells #[.int .i64 bi, .int .i64 pr, .slice sA sn sc] 85) = wa := ⟨_, rfl⟩
    have hba : Below w2.heap.size w2 wa := by rw [← hwa]; exact (Below.refl _ _).alloc (Nat.le_refl _) _
    have hza : wa.heap.size = gx + 1 := by rw [← hwa, World.size_alloc, hgx]
    rw [hwa] at hk0 ⊢
    clear hwa
    have hlit := own_lit wa (gx + 1) 3 1 1 #[.int .i64 n] rfl (by omega) (by omega)
    have hlb : Below w2.heap.size w2 (wa.alloc (.cells #[.int .i64 n] 3)) := hba.alloc (by omega) _
    obtain ⟨A5, c5, w5, hr5, ho5, hb5⟩ := app_cells (w := wa.alloc (.cells #[.int .i64 n] 3)) (ty := 22) slT_ints hlit sA sn sc (lots.map (Value.int .i64)) (by rw [List.length_map, HOK.out.len]; simp) (NIn.none_ HOK.out) (NIn.news (NIn.all HOK.out hlb)) (by
      intro u hu
      obtain ⟨x, -, rfl⟩ := List.mem_map.1 hu
      rfl) (by omega) (by decide) (by simp; omega)
    have ho5' : OwnI w5 (gx + 1) A5 (1 + sn) c5 (n :: lots) := by simpa [OwnI] using ho5
    have hba5 : Below (gx + 1) wa w5 := ((Below.refl (gx + 1) wa).alloc (by omega) _).trans hb5
    have hk5 := hk0.below hba5 (by omega)
    have HK0 := Lib.hid hk0
    have HR5 : Hid ((Builtin.append_ #[22, 22] 22 #[.slice (some ⟨gx + 1, 0, none⟩) 1 1, .slice sA sn sc]).run Try.prog (wa.alloc (.cells #[.int .i64 n] 3)) = .ok (.slice A5 (1 + sn) c5) w5) := Lib.hid (by rw [← hza]; exact hr5)
    have hbx : Below w2.heap.size w2 w5 := hba.trans (hba5.mono (by omega))
    have HXK : Hid (Blk (w5.setCell ⟨gx, 2, none⟩ (.slice A5 (1 + sn) c5)) gx 85 #[.int .i64 bi, .int .i64 pr, .slice A5 (1 + sn) c5]) := Lib.hid (hk5.set_ 2 _)
    have HXL : Hid (Below w2.heap.size w2 (w5.setCell ⟨gx, 2, none⟩ (.slice A5 (1 + sn) c5))) := Lib.hid (hbx.setCell (by rw [hgx]; exact Nat.le_refl _) _)
    have HTI : Hid (TI (w5.setCell ⟨gx, 2, none⟩ (.slice A5 (1 + sn) c5)) (A5, 1 + sn, c5) (n :: lots)) := Lib.hid (TI.own (B := gx + 1) (ownsRow_setCell_below ho5' (by simp) _))
    have q2 := (hk0.alloc (.cells #[.int .i64 n] 3)).cell 2
    have q3 := hk5.cell 2
    have q4 := hk5.frozen 2
    simp at q2 q3
    have hgw : gx < wa.heap.size := by omega
    clear hk0 hlit hlb hr5 ho5 ho5' hba5 hk5 hb5 hbx hba
    go_upto_region 17 with (at_builtin; refine wpList_append_run HR5.out (by rfl) (by rfl) (by rfl) (by rfl) ?_)
    clear q2 q3 q4 HR5
    obtain ⟨wx, hwx⟩ : ∃ wx, w5.setCell ⟨gx, 2, none⟩ (.slice A5 (1 + sn) c5) = wx := ⟨_, rfl⟩
    have HXB : Hid (Blk wx gx 85 #[.int .i64 bi, .int .i64 pr, .slice A5 (1 + sn) c5]) := Lib.hid (by rw [← hwx]; exact HXK.out)
    have HXW : Hid (Below w2.heap.size w2 wx) := Lib.hid (by rw [← hwx]; exact HXL.out)
    have HOX := Lib.hid (own_keep HO2.out HXW.out)
    have HTX := HTI
    rw [hwx] at HTX
    have HF := Lib.hid (HEND.out wx ⟨bi, pr, (A5, 1 + sn, c5), n :: lots⟩ HXW.out (fun wf hm => (HTX.out.mod hm (fun b hb => HTG.out _ HXW.out b hb)).nin))
    unfold slV at HF
    dsimp only at HF
    rw [hwx]
    clear hwx HXK HXL p0 p1 p2 f0 f1 f2
    have x0 := HXB.out.cell 0
    have x1 := HXB.out.cell 1
    have x2 := HXB.out.cell 2
    simp at x0 x1 x2
    have p0 := (HXW.out.cell (p := ⟨g, k * 3, none⟩) hgl).trans HPP.out.1
    have p1 := (HXW.out.cell (p := ⟨g, k * 3 + 1, none⟩) hgl).trans HPP.out.2.1
    have p2 := (HXW.out.cell (p := ⟨g, k * 3 + 2, none⟩) hgl).trans HPP.out.2.2
    have f0 := HOX.out.frozenAt (k * 3)
    have f1 := HOX.out.frozenAt (k * 3 + 1)
    have f2 := HOX.out.frozenAt (k * 3 + 2)
    clear HPP HXB HXW HOX HEND HTG HOLD
    go_wp2
    go_ret
    exact HF.out
end Go.Proofs.Ytikfcpkobgejmaa

/- reference: Has, Value. -/
namespace Go.Proofs.Ytikfcpkobgejmaa
open Go.RowKit

set_option maxRecDepth 100000 in
set_option maxHeartbeats 1000000 in
theorem rhas_nin (A : Option Addr) (n cap : Nat) (ws : List Int) (x : Int) (w : World) (HW : Hid (NIn w w.heap.size (A, n, cap) ws)) (hmax : n ≤ 35184372088832) :
    Calls Try.prog 34 #[.slice A n cap, .int .i64 x] w fun e w' => e = .returned (.bool (decide (x ∈ ws))) ∧ w = w' := by
  have HL := Lib.hid HW.out.len
  dsimp only at HL
  go_enter Try.func34, Try.ntmps34
  go_wp2
  go_loopw [5] (fun i wr => w = wr ∧ ∃ k : Nat, k ≤ n ∧ i = .int .i64 (k : Int) ∧ Hid (∀ j, j < k → ws[j]?.getD 0 ≠ x)) (fun i _ => n - (intOf i).toNat)
  case atStart => exact ⟨rfl, 0, by omega, rfl, Lib.hid (fun j h => absurd h (by omega))⟩
  case round =>
    obtain ⟨rfl, k, hk, rfl, hno⟩ := hrel
    by_cases hlt : k < n
    · obtain ⟨b, off, hA, -, hc⟩ := NIn.cell HW.out hlt
      dsimp only at hA
      subst hA
      have HG := Lib.hid (List.getElem?_eq_getElem (l := ws) (i := k) (by rw [HL.out]; exact hlt))
      obtain ⟨y, hy⟩ : ∃ y, ws[k]?.getD 0 = y := ⟨_, rfl⟩
      rw [hy] at hc
      have HY := Lib.hid hy
      clear hy
      by_cases he : y = x
      · have HM := Lib.hid (show x ∈ ws by
          rw [← he, ← HY.out, HG.out]
          exact List.getElem_mem _)
        have q : (y == x) = true := by simpa using he
        clear HG HY he
        go_wp2
        go_ret
        rw [decide_eq_true HM.out]
        exact ⟨rfl, rfl⟩
      · have HN := Lib.hid (show ∀ j, j < k + 1 → ws[j]?.getD 0 ≠ x from fun j hj => by
          rcases (show j < k ∨ j = k by omega) with h | rfl
          · exact hno.out j h
          · rw [HY.out]; exact he)
        have q : (y == x) = false := by simpa using he
        clear HG HY he
        go_wp2
        exact ⟨⟨trivial, k + 1, by omega, by go_num, HN⟩, by simp [intOf]; omega⟩
    · obtain rfl : k = n := by omega
      have HM := Lib.hid (show ¬ x ∈ ws from fun hm => by
        obtain ⟨j, hj, e⟩ := List.mem_iff_getElem.1 hm
        exact hno.out j (by rw [← HL.out]; exact hj) (by rw [List.getElem?_eq_getElem hj]; exact e))
      go_wp2
      go_ret
      rw [decide_eq_false HM.out]
      exact ⟨rfl, rfl⟩
end Go.Proofs.Ytikfcpkobgejmaa

/- reference: Conflict. -/
namespace Go.Proofs.Ytikfcpkobgejmaa
open Go.RowKit

def anyTo (al bl : List Int) (k : Nat) : Bool := (al.take k).any fun x => decide (x ∈ bl)
theorem anyTo_succ {al bl : List Int} {k : Nat} (hk : k < al.length) : anyTo al bl (k + 1) = (anyTo al bl k || decide (al[k]?.getD 0 ∈ bl)) := by
  have e : al.take (k + 1) = al.take k ++ [al[k]] := (List.take_append_getElem hk).symm
  unfold anyTo
  rw [e, List.any_append]
  simp [hk]
/-- Do two bids conflict? -/
theorem confB_any (a b : Bd) : confB a b = (decide (a.bidder = b.bidder) || a.lots.any fun x => decide (x ∈ b.lots)) := by
  rw [confB_comm]
  unfold confB
  congr 1
  rw [decide_eq_decide]
  exact eq_comm
set_option maxRecDepth 100000 in
set_option maxHeartbeats 2000000 in
theorem rconf_any (ab ap : Int) (aA : Option Addr) (an ac : Nat) (al : List Int) (bb bp : Int) (bA : Option Addr) (bn bc : Nat) (bl : List Int) (w : World) (HA : Hid (NIn w w.heap.size (aA, an, ac) al)) (HB : Hid (NIn w w.heap.size (bA, bn, bc) bl)) (ha : an ≤ 1000000) (hb : bn ≤ 1000000) :
    Calls Try.prog 64 #[.agg #[.int .i64 ab, .int .i64 ap, .slice aA an ac], .agg #[.int .i64 bb, .int .i64 bp, .slice bA bn bc]] w fun e w' => e = .returned (.bool (confB ⟨ab, ap, (aA, an, ac), al⟩ ⟨bb, bp, (bA, bn, bc), bl⟩)) ∧ Below w.heap.size w w' := by
  rw [confB_any]
  dsimp only
  have HAL := Lib.hid HA.out.len
  dsimp only at HAL
  have hb1 := (Below.refl w.heap.size w).alloc (Nat.le_refl _) (.cells #[.int .i64 ab, .int .i64 ap, .slice aA an ac] 85)
  have hb2 := hb1.alloc (by simp) (.cells #[.int .i64 bb, .int .i64 bp, .slice bA bn bc] 85)
  have h2 := Blk.new (w.alloc (.cells #[.int .i64 ab, .int .i64 ap, .slice aA an ac] 85)) 85 #[.int .i64 bb, .int .i64 bp, .slice bA bn bc]
  rw [World.size_alloc] at h2
  have h1 := Blk.alloc (Blk.new w 85 #[.int .i64 ab, .int .i64 ap, .slice aA an ac]) (.cells #[.int .i64 bb, .int .i64 bp, .slice bA bn bc] 85)
  have HB2 := Lib.hid hb2
  have H1 := Lib.hid h1
  have H2 := Lib.hid h2
  clear hb1 hb2 h1 h2
  by_cases he : ab = bb
  · subst he
    go_enter Try.func64, Try.ntmps64
    go_wp2
    go_ret
    exact ⟨by simp, HB2.out⟩
  rw [decide_eq_false he, Bool.false_or]
  have he' : (ab == bb) = false := by simpa using he
  clear he
  go_enter Try.func64, Try.ntmps64
  go_wp2
--@1
  obtain ⟨gb, hgb⟩ : ∃ gb, w.heap.size = gb := ⟨_, rfl⟩
  obtain ⟨w2, hw2⟩ : ∃ w2, (w.alloc (.cells #[.int .i64 ab, .int .i64 ap, .slice aA an ac] 85)).alloc (.cells #[.int .i64 bb, .int .i64 bp, .slice bA bn bc] 85) = w2 := ⟨_, rfl⟩
  rw [hw2] at HB2 H1 H2 ⊢
  rw [hgb] at H1 H2 ⊢
  have HB2' : Hid (Below gb w w2) := Lib.hid (by rw [← hgb]; exact HB2.out)
  clear hgb hw2 he'
  go_loopw [5] (fun i wr => ∃ k : Nat, k ≤ an ∧ i = .int .i64 (k : Int) ∧ Hid (anyTo al bl k = false) ∧ Hid (Below w2.heap.size w2 wr)) (fun i _ => an - (intOf i).toNat)
  case atStart => exact ⟨0, by omega, rfl, Lib.hid rfl, Lib.hid (Below.refl _ _)⟩
  case round =>
    obtain ⟨k, hk, rfl, HK, HW⟩ := hrel
    have c1 := (H1.out.all HW.out).cell 2
    have c2 := (H2.out.all HW.out).cell 2
    simp at c1 c2
    by_cases hlt : k < an
    · obtain ⟨ob, oo, hA2, hbl, hc2⟩ := NIn.cell (HA.out.all (bt HB2.out HW.out)) hlt
      dsimp only at hA2
      subst hA2
      have HSU := Lib.hid (anyTo_succ (al := al) (bl := bl) (k := k) (by rw [HAL.out]; exact hlt))
      obtain ⟨x, hx⟩ : ∃ x, al[k]?.getD 0 = x := ⟨_, rfl⟩
      rw [hx] at hc2 HSU
      have HX := Lib.hid hx
      clear hx
      have HBD : Hid (Below wr.heap.size wr wr.drew) := Lib.hid (below_drewN (Below.refl _ _) 1)
      have HS : Hid (∀ w', Below wr.heap.size wr w' → (fun w' => w'.cell? ⟨gb, 2, none⟩ = some (.slice (some ⟨ob, oo, none⟩) an ac) ∧ w'.cell? ⟨gb + 1, 2, none⟩ = some (.slice bA bn bc) ∧ w'.cell? ⟨ob, oo + k, none⟩ = some (.int .i64 x)) w') := Lib.hid (fun w' hb => ⟨((H1.out.all HW.out).all hb).cell 2, ((H2.out.all HW.out).all hb).cell 2, (hb.cell (p := ⟨ob, oo + k, none⟩) hbl).trans hc2⟩)
      have HHAS : Hid (∀ w', Below wr.heap.size wr w' → Calls Try.prog 34 #[.slice bA bn bc, .int .i64 x] w' fun e w'' => e = .returned (.bool (decide (x ∈ bl))) ∧ w' = w'') := Lib.hid (fun w' hb => rhas_nin bA bn bc bl x w' (Lib.hid (HB.out.all (bt (bt HB2.out HW.out) hb))) (by omega))
      obtain ⟨r, hr⟩ : ∃ r, decide (x ∈ bl) = r := ⟨_, rfl⟩
      rw [hr] at HHAS HSU
      have HWD : Hid (Below w2.heap.size w2 wr.drew) := Lib.hid (bt HW.out HBD.out)
      have HFA : Hid (∀ j, anyTo al bl j = true → j ≤ an → (al.any fun x => decide (x ∈ bl)) = true) := Lib.hid (fun j hj _ => by
        obtain ⟨y, hy, hy2⟩ := List.any_eq_true.1 hj
        exact List.any_eq_true.2 ⟨y, List.mem_of_mem_take hy, hy2⟩)
      clear hr
      have hka : (k : Int) < (an : Int) := by omega
      go_wp2
--@2
      refine wp_region_held_drew (S := (fun w' => w'.cell? ⟨gb, 2, none⟩ = some (.slice (some ⟨ob, oo, none⟩) an ac) ∧ w'.cell? ⟨gb + 1, 2, none⟩ = some (.slice bA bn bc) ∧ w'.cell? ⟨ob, oo + k, none⟩ = some (.int .i64 x))) (by kernel_rfl) (HS.out _ HBD.out) (fun hHeld => ?_)
      refine takeH 0 (some 18) (v := ?_) (by rfl) (by rfl) (by kernel_rfl) (by kernel_rfl) (by kernel_rfl) (fun _ _ _ h => h) ?_ (by assumption) ?_
      rotate_left
      · intro o ho w hSw
        obtain ⟨k0, k1, k2⟩ := hSw
        cases ho
        go_simp
        try with_reducible rfl
      try simp only [Act.put, List.setIfInBounds_toArray, List.set_cons_zero, List.set_cons_succ]
      refine takeH 1 (some 19) (v := ?_) (by rfl) (by rfl) (by kernel_rfl) (by kernel_rfl) (by kernel_rfl) (fun _ _ _ h => h) ?_ (by assumption) ?_
      rotate_left
      · intro o ho w hSw
        obtain ⟨k0, k1, k2⟩ := hSw
        cases ho
        go_simp
        try with_reducible rfl
      try simp only [Act.put, List.setIfInBounds_toArray, List.set_cons_zero, List.set_cons_succ]
      refine takeH 2 (some 20) (v := ?_) (by rfl) (by rfl) (by kernel_rfl) (by kernel_rfl) (by kernel_rfl) (fun _ _ _ h => h) ?_ (by assumption) ?_
      rotate_left
      · intro o ho w hSw
        obtain ⟨k0, k1, k2⟩ := hSw
        cases ho
        go_simp
        try with_reducible rfl
      try simp only [Act.put, List.setIfInBounds_toArray, List.set_cons_zero, List.set_cons_succ]
      refine takeH 3 (some 21) (v := ?_) (by rfl) (by rfl) (by kernel_rfl) (by kernel_rfl) (by kernel_rfl) (fun _ _ _ h => h) ?_ (by assumption) ?_
      rotate_left
      · intro o ho w hSw
        obtain ⟨k0, k1, k2⟩ := hSw
        cases ho
        go_simp
        try with_reducible rfl
      try simp only [Act.put, List.setIfInBounds_toArray, List.set_cons_zero, List.set_cons_succ]
      refine takeH 4 (some 22) (v := ?_) (by rfl) (by rfl) (by kernel_rfl) (by kernel_rfl) (by kernel_rfl) (fun _ _ _ h => h) ?_ (by assumption) ?_
      rotate_left
      · intro o ho w hSw
        obtain ⟨k0, k1, k2⟩ := hSw
        cases ho
        go_simp
        try with_reducible rfl
      try simp only [Act.put, List.setIfInBounds_toArray, List.set_cons_zero, List.set_cons_succ]
      refine takeH 5 (some 23) (v := ?_) (by rfl) (by rfl) (by kernel_rfl) (by kernel_rfl) (by kernel_rfl) (fun _ _ _ h => h) ?_ (by assumption) ?_
      rotate_left
      · intro o ho w hSw
        obtain ⟨k0, k1, k2⟩ := hSw
        cases ho
        go_simp
        try with_reducible rfl
      try simp only [Act.put, List.setIfInBounds_toArray, List.set_cons_zero, List.set_cons_succ]
      refine takeH 6 (some 24) (v := ?_) (by rfl) (by rfl) (by kernel_rfl) (by kernel_rfl) (by kernel_rfl) (fun _ _ _ h => h) ?_ (by assumption) ?_
      rotate_left
      · intro o ho w hSw
        obtain ⟨k0, k1, k2⟩ := hSw
        cases ho
        go_simp
        try with_reducible rfl
      try simp only [Act.put, List.setIfInBounds_toArray, List.set_cons_zero, List.set_cons_succ]
      refine wpAnyH_ready (rs := [7]) (by kernel_rfl) (by simp) ?_
      refine AllReadyH.cons rfl (fun K hK => ?_) AllReadyH.nil
      go_simp
      go_at_call 34
      (with_reducible refine (HHAS.out _ HBD.out).mono ?_)
      rintro e w5 ⟨rfl, rfl⟩
      go_wp2
      refine hK.out _ _ ?_ (fun hHeld5 => ?_)
      · exact (HS.out _ HBD.out)
      clear hK K
      try simp only [Act.put, List.setIfInBounds_toArray, List.set_cons_zero, List.set_cons_succ]
      refine wpAnyH_done (by kernel_rfl) ?_ _
--@3
      clear hHeld5
      cases r with
      | true =>
        have HT : Hid ((al.any fun x => decide (x ∈ bl)) = true) := Lib.hid (HFA.out (k + 1) (by rw [HSU.out]; simp) (by omega))
        go_wp2
        go_ret
        rw [HT.out]
        exact ⟨rfl, bt HB2.out HWD.out⟩
      | false =>
        have HN : Hid (anyTo al bl (k + 1) = false) := Lib.hid (by rw [HSU.out, HK.out]; rfl)
        go_wp2
        exact ⟨⟨k + 1, by omega, by go_num, HN, HWD⟩, by simp [intOf]; omega⟩
    · obtain rfl : k = an := by omega
      have HT : Hid ((al.any fun x => decide (x ∈ bl)) = false) := Lib.hid (by
        have := HK.out
        unfold anyTo at this
        rw [List.take_of_length_le (by rw [HAL.out]; exact Nat.le_refl _)] at this
        exact this)
      go_wp2
      go_ret
      rw [HT.out]
      exact ⟨rfl, bt HB2.out HW.out⟩
end Go.Proofs.Ytikfcpkobgejmaa

/- reference: what Feasible says, plainly. -/
namespace Go.Proofs.Ytikfcpkobgejmaa
open Go.RowKit

/-- Do two of the first k chosen bids conflict? -/
def pairTo (L : List Bd) (win : List Int) (k : Nat) : Bool := (List.range k).any fun i => (List.range i).any fun j => confB (bdAt L (win[i]?.getD 0).toNat) (bdAt L (win[j]?.getD 0).toNat)
theorem pairTo_succ (L : List Bd) (win : List Int) (k : Nat) : pairTo L win (k + 1) = (pairTo L win k || (List.range k).any fun j => confB (bdAt L (win[k]?.getD 0).toNat) (bdAt L (win[j]?.getD 0).toNat)) := by
  simp [pairTo, List.range_succ]
def feasR (L : List Bd) (win : List Int) : Bool := !lotsBad (L.length : Int) (-1) win && !pairTo L win win.length
def seenOf (L : List Bd) (win : List Int) (k : Nat) : List Bd := (win.take k).map fun i => bdAt L i.toNat
theorem seenOf_succ {L : List Bd} {win : List Int} {k : Nat} (hk : k < win.length) : seenOf L win (k + 1) = seenOf L win k ++ [bdAt L (win[k]?.getD 0).toNat] := by
  have e : win.take (k + 1) = win.take k ++ [win[k]] := (List.take_append_getElem hk).symm
  unfold seenOf
  rw [e, List.map_append]
  simp [hk]
theorem seenOf_any {L : List Bd} {win : List Int} {b : Bd} {k : Nat} (hk : k ≤ win.length) : (seenOf L win k).any (confB b) = true ↔ ∃ j, j < k ∧ confB b (bdAt L (win[j]?.getD 0).toNat) = true := by
  unfold seenOf
  rw [List.any_eq_true]
  constructor
  · rintro ⟨x, hx, hc⟩
    obtain ⟨i, hi, rfl⟩ := List.mem_map.1 hx
    obtain ⟨j, hj, rfl⟩ := List.mem_iff_getElem.1 hi
    simp only [List.length_take] at hj
    refine ⟨j, by omega, ?_⟩
    rw [List.getElem_take] at hc
    rw [List.getElem?_eq_getElem (by omega)]
    exact hc
  · rintro ⟨j, hj, hc⟩
    refine ⟨_, List.mem_map.2 ⟨win[j], ?_, rfl⟩, ?_⟩
    · exact List.mem_take_iff_getElem.2 ⟨j, by omega, rfl⟩
    · rw [List.getElem?_eq_getElem (by omega)] at hc
      exact hc
theorem feasGo_iff (L : List Bd) (win : List Int) : ∀ (d k : Nat) (last : Int), win.length = k + d → -1 ≤ last → (feasGo L last (seenOf L win k) (win.drop k) = true ↔ lotsBad (L.length : Int) last (win.drop k) = false ∧ ∀ i, k ≤ i → i < win.length → ∀ j, j < i → confB (bdAt L (win[i]?.getD 0).toNat) (bdAt L (win[j]?.getD 0).toNat) = false)
  | 0, k, last, hk, _ => by
    rw [List.drop_eq_nil_of_le (by omega)]
    exact ⟨fun _ => ⟨rfl, fun i h1 h2 => absurd h2 (by omega)⟩, fun _ => rfl⟩
  | d + 1, k, last, hk, hl => by
    have hlt : k < win.length := by omega
    rw [drop_at hlt]
    have hg : win[k]?.getD 0 = win[k] := by simp [hlt]
    by_cases hb : win[k] ≤ last ∨ (L.length : Int) ≤ win[k]
    · rw [feasGo_bad hb]
      refine ⟨fun h => by simp at h, fun h => ?_⟩
      have := h.1
      simp only [lotsBad, Bool.or_eq_false_iff, decide_eq_false_iff_not] at this
      omega
    · obtain ⟨q, hq⟩ := Int.eq_ofNat_of_zero_le (show 0 ≤ win[k] by omega)
      have hql : q < L.length := by omega
      have hs := seenOf_succ (L := L) hlt
      rw [hg, hq, Int.toNat_natCast, bdAt_eq hql] at hs
      rw [hq, feasGo_at (by omega) hql]
      have hlb : lotsBad (L.length : Int) last ((q : Int) :: win.drop (k + 1)) = lotsBad (L.length : Int) (q : Int) (win.drop (k + 1)) := by
        simp only [lotsBad]
        rw [decide_eq_false (by omega), decide_eq_false (by omega)]
        rfl
      rw [hlb]
      have ih := feasGo_iff L win d (k + 1) (q : Int) (by omega) (by omega)
      have hany := seenOf_any (L := L) (win := win) (b := L[q]) (k := k) (by omega)
      have hbk : bdAt L (win[k]?.getD 0).toNat = L[q] := by rw [hg, hq, Int.toNat_natCast, bdAt_eq hql]
      cases hc : (seenOf L win k).any (confB L[q]) with
      | true =>
        rw [if_pos rfl]
        refine ⟨fun h => by simp at h, fun h => ?_⟩
        obtain ⟨j, hj, hcj⟩ := hany.1 hc
        have := h.2 k (Nat.le_refl _) hlt j hj
        rw [hbk, hcj] at this
        cases this
      | false =>
        rw [if_neg (by simp), ← hs, ih]
        refine and_congr_right fun _ => ⟨fun h i h1 h2 j h3 => ?_, fun h i h1 h2 => h i (by omega) h2⟩
        rcases Nat.eq_or_lt_of_le h1 with rfl | h1
        · rw [hbk]
          cases hcj : confB L[q] (bdAt L (win[j]?.getD 0).toNat) with
          | false => rfl
          | true => rw [hany.2 ⟨j, h3, hcj⟩] at hc; cases hc
        · exact h i h1 h2 j h3
theorem feasR_eq (L : List Bd) (win : List Int) : feasR L win = feasB L win := by
  have h := feasGo_iff L win win.length 0 (-1) (by omega) (by omega)
  rw [Bool.eq_iff_iff]
  unfold feasB
  have e : seenOf L win 0 = [] := rfl
  rw [e, List.drop_zero] at h
  rw [h]
  simp only [feasR, Bool.and_eq_true, Bool.not_eq_true', pairTo]
  refine and_congr_right fun _ => ?_
  rw [List.any_eq_false]
  constructor
  · intro h i _ hi j hj
    have := h i (List.mem_range.2 hi)
    rw [Bool.not_eq_true, List.any_eq_false] at this
    simpa using this j (List.mem_range.2 hj)
  · intro h i hi
    rw [Bool.not_eq_true, List.any_eq_false]
    intro j hj
    rw [h i (Nat.zero_le _) (List.mem_range.1 hi) j (List.mem_range.1 hj)]
    simp
end Go.Proofs.Ytikfcpkobgejmaa
