/- book: Void. -/
import Derived.Test.YtkandhpnenmleaaHBkCan

namespace Go.Proofs.Ytkandhpnenmleaa
open Go.RowKit

/-- The cells of an order in a row of one's own. -/
theorem ordRow {W : World} {B n c : Nat} {A : Option Addr} {os : List Ord} (h : W.ownsRow B 42 6 (.slice A n c) n (os.flatMap Ord.cells)) (hl : os.length = n) {k : Nat} (hk : k < n) : ∃ g, A = some ⟨g, 0, none⟩ ∧ B ≤ g ∧ g < W.heap.size ∧ W.cell? ⟨g, k * 6, none⟩ = some (.int .i64 (ordAt os k).id) ∧ W.cell? ⟨g, k * 6 + 1, none⟩ = some (.int .i64 (ordAt os k).acc) ∧ W.cell? ⟨g, k * 6 + 2, none⟩ = some (.bool (ordAt os k).buy) ∧ W.cell? ⟨g, k * 6 + 3, none⟩ = some (.int .i64 (ordAt os k).price) ∧ W.cell? ⟨g, k * 6 + 4, none⟩ = some (.int .i64 (ordAt os k).n) ∧ W.cell? ⟨g, k * 6 + 5, none⟩ = some (.int .i64 (ordAt os k).left) := by
  have hk2 : k < os.length := by omega
  rcases h.2 with ⟨-, h2⟩ | ⟨g, cap, cur, h2, h3, h4, h5, h6, h7, h8⟩
  · omega
  · injection h2 with h2 _ h9
    have hc : ∀ i, i < 6 → W.cell? ⟨g, k * 6 + i, none⟩ = (Ord.cells (ordAt os k))[i]? := by
      intro i hi
      rw [ordAt_eq hk2, ← flatT_at Ord.cells 6 Ord.cells_length os k i hk2 hi, ← h8, List.getElem?_take_of_lt (by omega)]
      simp [World.cell?, h4]
    refine ⟨g, h2, h3, (Array.getElem?_eq_some_iff.1 h4).1, ?_, hc 1 (by omega), hc 2 (by omega), hc 3 (by omega), hc 4 (by omega), hc 5 (by omega)⟩
    exact hc 0 (by omega)
section
variable {b : BkS}
def accIs (b : BkS) (acc : Int) (id : Nat) : Bool := decide ((ordAt b.os id).acc = acc)
def vIds (b : BkS) (acc : Int) (k : Nat) : List Nat := (b.openIds.take k).filter (accIs b acc)
def vKeep (b : BkS) (acc : Int) (k : Nat) : BkS := b.keep fun id => !(decide (id ∈ vIds b acc k))
/-- What Void leaves. -/
def voidB (b : BkS) (acc : Int) : BkS := b.keep fun id => !(accIs b acc id)
def voidIds (b : BkS) (acc : Int) : List Nat := b.openIds.filter (accIs b acc)
theorem BkS.keep_isIn (p : Nat → Bool) (k : Nat) : (b.keep p).isIn k = (b.isIn k && p k) := by
  unfold BkS.isIn BkS.keep
  simp only [List.mem_filter, Bool.decide_and, Bool.decide_eq_true]
  cases decide (k ∈ b.bs) <;> cases decide (k ∈ b.ss) <;> cases p k <;> rfl
theorem vKeep_zero (b : BkS) (acc : Int) : vKeep b acc 0 = b := by
  unfold vKeep vIds
  simp only [List.take_zero, List.filter_nil, List.not_mem_nil, decide_false, Bool.not_false]
  exact b.keep_all
theorem BkS.mem_isIn (h : b.Ok) {id : Nat} : id ∈ b.openIds ↔ b.isIn id = true := by
  rw [BkS.mem_openIds h]
  unfold BkS.isIn
  simp
theorem vIds_not {k : Nat} (hk : k < b.openIds.length) (acc : Int) : b.openIds[k] ∉ vIds b acc k := by
  intro hm
  have := (List.mem_filter.1 hm).1
  obtain ⟨i, hi, e⟩ := List.getElem_of_mem this
  rw [List.length_take] at hi
  rw [List.getElem_take] at e
  have := List.pairwise_iff_getElem.1 b.openIds_pw i k (by omega) hk (by omega)
  omega
theorem vIds_yes {k : Nat} {acc : Int} (hk : k < b.openIds.length) (ha : (ordAt b.os b.openIds[k]).acc = acc) : vIds b acc (k + 1) = vIds b acc k ++ [b.openIds[k]] := by
  unfold vIds
  rw [← List.take_append_getElem hk, List.filter_append]
  congr 1
  simp [accIs, ha]
theorem vIds_no {k : Nat} {acc : Int} (hk : k < b.openIds.length) (ha : (ordAt b.os b.openIds[k]).acc ≠ acc) : vIds b acc (k + 1) = vIds b acc k := by
  unfold vIds
  rw [← List.take_append_getElem hk, List.filter_append]
  simp [accIs, ha]
theorem vKeep_no {k : Nat} {acc : Int} (hk : k < b.openIds.length) (ha : (ordAt b.os b.openIds[k]).acc ≠ acc) : vKeep b acc (k + 1) = vKeep b acc k := by
  unfold vKeep
  rw [vIds_no hk ha]
theorem vKeep_open (h : b.Ok) {k : Nat} (hk : k < b.openIds.length) (acc : Int) : isOpenB (vKeep b acc k) (ordAt b.os b.openIds[k]) = true := by
  have hm := List.getElem_mem hk
  have hi := (BkS.mem_isIn h).1 hm
  have hlt : b.openIds[k] < b.os.length := by
    have := (BkS.mem_openIds h).1 hm
    rcases this with hh | hh
    · exact (h.mem true _ hh).1
    · exact (h.mem false _ hh).1
  have := isOpenB_eq (b := vKeep b acc k) (h.keep _) (k := b.openIds[k]) hlt
  refine this.trans ?_
  unfold vKeep
  rw [BkS.keep_isIn, hi]
  simp [vIds_not hk acc]
theorem vKeep_yes (h : b.Ok) {k : Nat} {acc : Int} (hk : k < b.openIds.length) (ha : (ordAt b.os b.openIds[k]).acc = acc) : vKeep b acc (k + 1) = (vKeep b acc k).ended (ordAt b.os b.openIds[k]) := by
  have hm := List.getElem_mem hk
  unfold vKeep
  rw [BkS.ended_keep h _ ((BkS.mem_isIn h).1 hm) (by simp [vIds_not hk acc]), vIds_yes hk ha]
  congr 1
  funext x
  simp only [List.mem_append, List.mem_singleton]
  by_cases h1 : x ∈ vIds b acc k <;> by_cases h2 : x = b.openIds[k] <;> simp [h1, h2]
theorem vKeep_all (h : b.Ok) {k : Nat} (hk : b.openIds.length ≤ k) (acc : Int) : vKeep b acc k = voidB b acc := by
  have e : vIds b acc k = voidIds b acc := by
    unfold vIds voidIds
    rw [List.take_of_length_le hk]
  unfold vKeep voidB
  rw [e]
  have key : ∀ x, b.isIn x = true → (!(decide (x ∈ voidIds b acc))) = !(accIs b acc x) := by
    intro x hx
    congr 1
    rw [Bool.eq_iff_iff, decide_eq_true_eq]
    unfold voidIds
    rw [List.mem_filter]
    exact ⟨fun h => h.2, fun h2 => ⟨(BkS.mem_isIn h).2 hx, h2⟩⟩
  unfold BkS.keep
  congr 1
  · exact List.filter_congr (fun x hx => key x (by simp [BkS.isIn, hx]))
  · exact List.filter_congr (fun x hx => key x (by simp [BkS.isIn, hx]))
theorem vIds_all {k : Nat} (hk : b.openIds.length ≤ k) (acc : Int) : vIds b acc k = voidIds b acc := by
  unfold vIds voidIds
  rw [List.take_of_length_le hk]
theorem vIds_len (b : BkS) (acc : Int) (k : Nat) : (vIds b acc k).length ≤ k := by
  unfold vIds
  have h1 := List.length_filter_le (accIs b acc) (b.openIds.take k)
  have h2 := List.length_take_le k b.openIds
  omega
end
def VoidPost (gb B : Nat) (V : BkV) (b : BkS) (acc : Int) (w : World) (e : Ending) (w' : World) : Prop := ∃ A c, e = .returned (.slice A (voidIds b acc).length c) ∧ TI w' (A, (voidIds b acc).length, c) ((voidIds b acc).map fun (k : Nat) => (k : Int)) ∧ BkPost gb B V b w (voidB b acc) w'
def NotIn (gb : Nat) (V : BkV) (n : Nat) (v : Value) : Prop := ∀ g, v.ownBlock = some g → ¬ BkF gb V n g
set_option maxRecDepth 100000 in
set_option maxHeartbeats 2000000 in
theorem void_any (gb B : Nat) (V : BkV) (b : BkS) (acc : Int) (w : World) (HK : Hid (BkAt w B gb V b)) :
    Calls Try.prog 17 #[.pointer (some ⟨gb, 0, none⟩), .int .i64 acc] w (VoidPost gb B V b acc w) := by
  have hlt : ∀ g, BkF gb V b.os.length g → g < w.heap.size := fun g hg => (HK.out.lt hg).2
  have HLT := Lib.hid hlt
  clear hlt
  obtain ⟨nn, hnn⟩ : ∃ nn, b.os.length = nn := ⟨_, rfl⟩
  have HNN := Lib.hid hnn
  obtain ⟨n, hn⟩ : ∃ n, b.openOs.length = n := ⟨_, rfl⟩
  have hol : b.openIds.length = n := by rw [← hn]; unfold BkS.openOs; simp
  have hn2 : n ≤ 4096 := by rw [← hol, BkS.openIds_len HK.out.ok]; exact HK.out.ok.few
  have HOL := Lib.hid hol
  have HO : Hid (∀ w', Below w.heap.size w w' → Calls Try.prog 12 #[.pointer (some ⟨gb, 0, none⟩)] w' fun e w'' => ∃ A c, e = .returned (.slice A n c) ∧ w''.ownsRow w'.heap.size 42 6 (.slice A n c) n (b.openOs.flatMap Ord.cells) ∧ Below w'.heap.size w' w'') := Lib.hid (fun w' hb => by
    have := orders_any gb B V b w' (Lib.hid (HK.out.all hb))
    unfold OrdPost at this
    rw [hn] at this
    exact this)
  have hb0 : Below w.heap.size w w := Below.refl _ _
  have HN := Lib.hid hn
  clear hol hn hnn
  go_enter Try.func17, Try.ntmps17
  go_wp2_with (go_at_call 12; ((with_reducible refine (HO.out _ hb0).mono ?_); rintro e w1 ⟨A1, c1, rfl, ho1, hb1⟩))
  have HO1 := Lib.hid ho1
  have HB1 := Lib.hid hb1
  have HA1 : Hid (BkAt w1 B gb V (vKeep b acc 0)) := Lib.hid (by rw [vKeep_zero]; exact HK.out.all hb1)
  have HM1 : Hid (Mod (BkF gb V nn) w w1) := Lib.hid (Mod.of_below _ hb1)
  have HN1 : Hid (NotIn gb V nn (.slice A1 n c1)) := Lib.hid (fun g hg hf => by
    have h1 := own_ge ho1 hg
    have h2 := HLT.out g (by rw [HNN.out]; exact hf)
    omega)
  clear ho1 hb1 hb0 HO
  go_loopw [5, 11] (fun lv kv wr => ∃ (k m : Nat) (A : Option Addr) (c : Nat) (V' : BkV), k ≤ n ∧ m ≤ k ∧ kv = .int .i64 (k : Int) ∧ lv = .slice A m c ∧ Hid (m = (vIds b acc k).length) ∧ Hid (BkAt wr B gb V' (vKeep b acc k)) ∧ Hid (OwnI wr w.heap.size A m c ((vIds b acc k).map fun (k : Nat) => (k : Int))) ∧ Hid (wr.ownsRow w.heap.size 42 6 (.slice A1 n c1) n (b.openOs.flatMap Ord.cells)) ∧ Hid (Mod (BkF gb V nn) w wr) ∧ Hid (∀ g, BkF gb V' nn g → BkF gb V nn g ∨ w.heap.size ≤ g) ∧ Hid (NotIn gb V' nn (.slice A m c)) ∧ Hid (NotIn gb V' nn (.slice A1 n c1))) (fun _ kv _ => n - (intOf kv).toNat)
  case atStart => exact ⟨0, 0, none, 0, V, by omega, by omega, rfl, rfl, Lib.hid (by simp [vIds]), HA1, Lib.hid (by simp [vIds]; exact OwnI.nil _ _), HO1, HM1, Lib.hid (fun g hg => .inl hg), Lib.hid (fun g hg => by simp [Value.ownBlock] at hg), HN1⟩
  case round =>
    clear HA1 HM1 HN1 HO1 HB1
    obtain ⟨k, m, A, c, V', hk, hmk, rfl, rfl, HM, HA, HI, HR, HMD, HF, HN1, HN2⟩ := hrel
    rcases Nat.lt_or_ge k n with hkm | hkm
    · have hki : (k : Int) < (n : Int) := by omega
      obtain ⟨gl, e1, hge, hgl, x0, x1, x2, x3, x4, x5⟩ := ordRow HR.out HN.out hkm
      subst e1
      have hkl : k < b.openIds.length := by rw [HOL.out]; exact hkm
      obtain ⟨id, hid⟩ : ∃ id, b.openIds[k] = id := ⟨_, rfl⟩
      have hxe : ordAt b.openOs k = ordAt b.os id := by
        rw [ordAt_eq (by rw [HN.out]; exact hkm), ← hid]
        unfold BkS.openOs
        rw [List.getElem_map]
      obtain ⟨x, hx⟩ : ∃ x, ordAt b.os id = x := ⟨_, rfl⟩
      rw [hxe, hx] at x0 x1 x2 x3 x4 x5
      by_cases hacc : x.acc = acc
      · have HY : Hid (vIds b acc (k + 1) = vIds b acc k ++ [id]) := Lib.hid (by rw [← hid]; exact vIds_yes hkl (by rw [hid, hx]; exact hacc))
        have HE : Hid (vKeep b acc (k + 1) = (vKeep b acc k).ended x) := Lib.hid (by
          have := vKeep_yes HK.out.ok hkl (acc := acc) (by rw [hid, hx]; exact hacc)
          rw [hid, hx] at this
          exact this)
        have HOP : Hid (isOpenB (vKeep b acc k) x = true) := Lib.hid (by
          have := vKeep_open HK.out.ok hkl acc
          rw [hid, hx] at this
          exact this)
        have HXI : Hid (x.id = (id : Int)) := Lib.hid (by
          rw [← hx]
          refine HK.out.ok.ids id ?_
          have := (BkS.mem_openIds HK.out.ok).1 (List.getElem_mem hkl)
          rw [hid] at this
          rcases this with hh | hh
          · exact (HK.out.ok.mem true _ hh).1
          · exact (HK.out.ok.mem false _ hh).1)
        have hae : ((x.acc) == acc) = true := by simp [hacc]
        have HWN : Hid (w.heap.size ≤ wr.heap.size) := Lib.hid HMD.out.size
        clear hid hxe hx hacc hkl
        go_wp2_with (first
          | (go_at_call 36; ((with_reducible refine (end_any gb B V' (vKeep b acc k) x _ (Lib.hid (HA.out.all ((Below.refl _ _).alloc (Nat.le_refl _) _))) HOP).mono ?_); rintro e w3 ⟨rfl, V3, ha3, hm3, hf3⟩)
             have hm3' : Mod (BkF gb V' nn) (wr.alloc (.cells #[.int .i64 x.id, .int .i64 x.acc, .bool x.buy, .int .i64 x.price, .int .i64 x.n, .int .i64 x.left] 42)) w3 := by rw [← HNN.out]; exact hm3
             have hkx := hm3'.blk (Blk.new wr 42 #[.int .i64 x.id, .int .i64 x.acc, .bool x.buy, .int .i64 x.price, .int .i64 x.n, .int .i64 x.left]) (fun hg => by
               have := HA.out.lt (g := wr.heap.size) (by rw [show (vKeep b acc k).os.length = nn from HNN.out]; exact hg)
               omega)
             have d0 := hkx.cell 0
             simp only [List.getElem?_toArray, List.getElem?_cons_zero] at d0
             have HI3 : Hid (OwnI w3 w.heap.size A m c ((vIds b acc k).map fun (k : Nat) => (k : Int))) := Lib.hid ((HI.out.all ((Below.refl _ _).alloc (Nat.le_refl _) _)).modI hm3' HN1.out)
             have HR3 : Hid (w3.ownsRow w.heap.size 42 6 (.slice (some ⟨gl, 0, none⟩) n c1) n (b.openOs.flatMap Ord.cells)) := Lib.hid (hm3'.own (own_keep HR.out ((Below.refl _ _).alloc (Nat.le_refl _) _)) HN2.out)
             have HMD3 : Hid (Mod (BkF gb V nn) w w3) := Lib.hid ((HMD.out.alloc _).trans hm3' HF.out)
             have HF3 : Hid (∀ g, BkF gb V3 nn g → BkF gb V' nn g ∨ wr.heap.size ≤ g) := Lib.hid (fun g hg => by
               have := hf3 g (by rw [show ((vKeep b acc k).ended x).os.length = nn from HNN.out ▸ (by unfold BkS.ended; cases x.buy <;> rfl)]; exact hg)
               rcases this with h | h
               · exact .inl (by rw [show (vKeep b acc k).os.length = nn from HNN.out] at h; exact h)
               · refine .inr ?_
                 simp at h
                 omega)
             have HA3 : Hid (BkAt w3 B gb V3 (vKeep b acc (k + 1))) := Lib.hid (by rw [HE.out]; exact ha3)
             have HZ3 : Hid (wr.heap.size < w3.heap.size) := Lib.hid hkx.lt
             clear ha3 hm3 hf3 hm3' hkx)
          | (at_builtin
             obtain ⟨A5, c5, w5, hr5, ho5, hb5, hm5, hg5⟩ := app_elem2 22 slT_ints HI3.out #[.int .i64 x.id] rfl (by intro u hu; simp at hu; subst hu; rfl) (by omega) (by decide) HMD3.out.size
             refine wpList_append_run hr5 (by rfl) (by rfl) (by rfl) (by rfl) ?_
             replace hr5 := Lib.hid hr5
             replace ho5 := Lib.hid ho5
             replace hb5 := Lib.hid hb5
             replace hm5 := Lib.hid hm5
             replace hg5 := Lib.hid hg5))
        have hnv : NotIn gb V3 nn (.slice A m c) := fun g hg hf => by
          rcases HF3.out g hf with h | h
          · exact HN1.out g hg h
          · have := (own_ge HI.out hg).2
            omega
        have hnl : NotIn gb V3 nn (.slice (some ⟨gl, 0, none⟩) n c1) := fun g hg hf => by
          rcases HF3.out g hf with h | h
          · exact HN2.out g hg h
          · have := (own_ge HR.out hg).2
            omega
        have hnn3 : (vKeep b acc (k + 1)).os.length = nn := HNN.out
        refine ⟨⟨k + 1, m + 1, A5, c5, V3, by omega, by omega, by go_num, rfl, Lib.hid ?_, Lib.hid ?_, Lib.hid ?_, Lib.hid ?_, Lib.hid ?_, Lib.hid ?_, Lib.hid ?_, Lib.hid hnl⟩, by simp [intOf]; omega⟩
        · rw [HY.out, List.length_append, ← HM.out]
          rfl
        · exact HA3.out.mod hm5.out (fun g hg hf => hnv g hf (by rw [← hnn3]; exact hg))
        · rw [HY.out, List.map_append]
          have := ho5.out
          unfold OwnI
          rw [List.map_append]
          rw [HXI.out] at this
          exact this
        · exact hm5.out.own HR3.out (fun g hg hf => by
            have h1 := Ty.of_own HR.out hg
            have h2 := Ty.of_own HI.out hf
            exact absurd (h1.unique h2) (by decide))
        · refine HMD3.out.trans hm5.out (fun g hg => .inr (own_ge HI.out hg).1)
        · intro g hg
          rcases HF3.out g hg with h | h
          · exact HF.out g h
          · exact .inr (Nat.le_trans HWN.out h)
        · intro g hg hf
          rcases hg5.out g hg with h | h
          · exact hnv g h hf
          · have := (HA3.out.lt (by rw [hnn3]; exact hf)).2
            omega
      · have HY : Hid (vIds b acc (k + 1) = vIds b acc k) := Lib.hid (vIds_no hkl (by rw [hid, hx]; exact hacc))
        have HE : Hid (vKeep b acc (k + 1) = vKeep b acc k) := Lib.hid (vKeep_no hkl (by rw [hid, hx]; exact hacc))
        have hae : ((x.acc) == acc) = false := by simp [hacc]
        have hb6 : Below wr.heap.size wr (wr.alloc (.cells #[.int .i64 x.id, .int .i64 x.acc, .bool x.buy, .int .i64 x.price, .int .i64 x.n, .int .i64 x.left] 42)) := (Below.refl _ _).alloc (Nat.le_refl _) _
        have HB6 := Lib.hid hb6
        clear hid hxe hx hacc hkl hb6
        go_wp2
        exact ⟨⟨k + 1, m, A, c, V', by omega, by omega, by go_num, rfl, Lib.hid (by rw [HY.out]; exact HM.out), Lib.hid (by rw [HE.out]; exact HA.out.all HB6.out), Lib.hid (by rw [HY.out]; exact HI.out.all HB6.out), Lib.hid (own_keep HR.out HB6.out), Lib.hid (HMD.out.then_below HB6.out), HF, HN1, HN2⟩, by simp [intOf]; omega⟩
    · obtain rfl : k = n := by omega
      have HL1 : Hid (vIds b acc k = voidIds b acc) := Lib.hid (vIds_all (by rw [HOL.out]; exact Nat.le_refl _) acc)
      have HL2 : Hid (vKeep b acc k = voidB b acc) := Lib.hid (vKeep_all HK.out.ok (by rw [HOL.out]; exact Nat.le_refl _) acc)
      have HFIN : Hid (VoidPost gb B V b acc w (.returned (.slice A m c)) wr) := Lib.hid (by
        have h1 := HM.out
        rw [HL1.out] at h1
        subst h1
        have h2 := HI.out
        rw [HL1.out] at h2
        refine ⟨A, c, rfl, TI.own h2, V', ?_, ?_, ?_⟩
        · rw [← HL2.out]; exact HA.out
        · rw [HNN.out]; exact HMD.out
        · rw [HNN.out, show (voidB b acc).os.length = nn from HNN.out]; exact HF.out)
      go_wp2
      go_ret
      exact HFIN.out
end Go.Proofs.Ytkandhpnenmleaa
