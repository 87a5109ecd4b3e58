/- book: the reference's Void and Copy. -/
import Derived.Test.YtkandhpnenmleaaHBrCan
import Derived.Test.YtkandhpnenmleaaHBkCpy

namespace Go.Proofs.Ytkandhpnenmleaa
open Go.RowKit

section
variable {b : BkS}
theorem BkS.keep_congr {p q : Nat → Bool} (h : ∀ id, b.isIn id = true → p id = q id) : b.keep p = b.keep q := by
  unfold BkS.keep
  congr 1
  · exact List.filter_congr (fun x hx => h x (by simp [BkS.isIn, hx]))
  · exact List.filter_congr (fun x hx => h x (by simp [BkS.isIn, hx]))
theorem BkS.keep_keep (p q : Nat → Bool) : (b.keep p).keep q = b.keep (fun x => p x && q x) := by
  unfold BkS.keep
  dsimp only
  rw [List.filter_filter, List.filter_filter]
  congr 1 <;> exact List.filter_congr (fun x _ => Bool.and_comm _ _)
def rv (b : BkS) (acc : Int) (k : Nat) : BkS := b.keep fun id => !(accIs b acc id && decide (id < k))
def rvIds (b : BkS) (acc : Int) (k : Nat) : List Nat := (List.range k).filter fun id => b.isIn id && accIs b acc id
theorem rv_os (acc : Int) (k : Nat) : (rv b acc k).os = b.os := rfl
theorem rv_zero (acc : Int) : rv b acc 0 = b := by
  have : rv b acc 0 = b.keep (fun _ => true) := BkS.keep_congr (fun id _ => by simp)
  rw [this]
  exact b.keep_all
theorem rv_isIn (acc : Int) (k : Nat) : (rv b acc k).isIn k = b.isIn k := by
  unfold rv
  rw [BkS.keep_isIn1]
  simp
theorem rv_no {acc : Int} {k : Nat} (h : b.isIn k = false ∨ accIs b acc k = false) : rv b acc (k + 1) = rv b acc k := by
  refine BkS.keep_congr (fun id hid => ?_)
  by_cases e : id = k
  · subst e
    rcases h with h | h
    · rw [hid] at h; cases h
    · rw [h]; simp
  · have : decide (id < k + 1) = decide (id < k) := by
      refine decide_eq_decide.2 ?_
      omega
    rw [this]
theorem rv_yes {acc : Int} {k : Nat} (h : accIs b acc k = true) : rv b acc (k + 1) = (rv b acc k).keep (fun j => j != k) := by
  unfold rv
  rw [BkS.keep_keep]
  refine BkS.keep_congr (fun id _ => ?_)
  by_cases e : id = k
  · subst e
    rw [h]
    simp
  · have : decide (id < k + 1) = decide (id < k) := by
      refine decide_eq_decide.2 ?_
      omega
    rw [this]
    simp [e]
theorem rvIds_no {acc : Int} {k : Nat} (h : b.isIn k = false ∨ accIs b acc k = false) : rvIds b acc (k + 1) = rvIds b acc k := by
  unfold rvIds
  rw [List.range_succ, List.filter_append]
  rcases h with h | h <;> simp [h]
theorem rvIds_yes {acc : Int} {k : Nat} (h : b.isIn k = true) (h2 : accIs b acc k = true) : rvIds b acc (k + 1) = rvIds b acc k ++ [k] := by
  unfold rvIds
  rw [List.range_succ, List.filter_append]
  simp [h, h2]
theorem rvIds_len (acc : Int) (k : Nat) : (rvIds b acc k).length ≤ k := by
  have := List.length_filter_le (fun id => b.isIn id && accIs b acc id) (List.range k)
  rw [List.length_range] at this
  exact this
theorem rv_all (h : b.Ok) (acc : Int) : rv b acc b.os.length = voidB b acc := by
  refine BkS.keep_congr (fun id hid => ?_)
  have : id < b.os.length := by
    rcases Nat.lt_or_ge id b.os.length with hlt | hge
    · exact hlt
    · rw [h.notIn hge] at hid; cases hid
  simp [this]
theorem rvIds_all (acc : Int) : rvIds b acc b.os.length = voidIds b acc := by
  unfold rvIds voidIds BkS.openIds
  rw [List.filter_filter]
  exact List.filter_congr (fun x _ => Bool.and_comm _ _)
end
def RVoidPost (B g : Nat) (A : Option Addr) (n c : Nat) (b : BkS) (acc : Int) (w : World) (e : Ending) (w' : World) : Prop := ∃ A' c', e = .returned (.slice A' (voidIds b acc).length c') ∧ TI w' (A', (voidIds b acc).length, c') ((voidIds b acc).map fun (k : Nat) => (k : Int)) ∧ RPost B g A n c w (voidB b acc) w'
set_option maxRecDepth 100000 in
set_option maxHeartbeats 4000000 in
theorem rvoid_any (B g n c : Nat) (A : Option Addr) (l : List ROrd) (b : BkS) (acc : Int) (w : World) (HK : Hid (RAt w B g A n c l b)) :
    Calls Try.prog 39 #[.pointer (some ⟨g, 0, none⟩), .int .i64 acc] w (RVoidPost B g A n c b acc w) := by
  have hn := HK.out.rb.few
  have HLB : Hid (b.os.length = n) := Lib.hid (by rw [← HK.out.rel.len]; exact HK.out.rb.len)
  have hc0 := HK.out.rb.cell0
  go_enter Try.func39, Try.ntmps39
  go_wp2
  go_loopw [5, 6] (fun lv iv wr => ∃ (k m : Nat) (A' : Option Addr) (c' : Nat) (l' : List ROrd), k ≤ n ∧ m ≤ k ∧ iv = .int .i64 (k : Int) ∧ lv = .slice A' m c' ∧ Hid (m = (rvIds b acc k).length) ∧ Hid (OwnI wr w.heap.size A' m c' ((rvIds b acc k).map fun (k : Nat) => (k : Int))) ∧ Hid (RAt wr B g A n c l' (rv b acc k)) ∧ Hid (Mod (RF g A n c) w wr)) (fun _ iv _ => n - (intOf iv).toNat)
  case atStart => exact ⟨0, 0, none, 0, l, Nat.zero_le _, Nat.zero_le _, rfl, rfl, Lib.hid rfl, Lib.hid (OwnI.nil _ _), Lib.hid (by rw [rv_zero]; exact HK.out), Lib.hid (Mod.refl _ _)⟩
  case round =>
    obtain ⟨k, m, A', c', l', hk, hmk, rfl, rfl, HM, HI, HR, HMD⟩ := hrel
    clear hc0
    have hc0 := HR.out.rb.cell0
    rcases Nat.lt_or_ge k n with hlt | hge
    · have hii : (k : Int) < (n : Int) := by omega
      have hkb : k < b.os.length := by rw [HLB.out]; exact hlt
      obtain ⟨gr, hA, hgr, -, -, a0, a1, a2, a3, a4, a5, a6⟩ := HR.out.rb.order hlt
      subst hA
      have hio := HR.out.rel.isIn k (by rw [HR.out.rb.len]; exact hlt)
      rw [rv_isIn] at hio
      have hoa : (rAt l' k).o = ordAt b.os k := HR.out.rel.at_ k
      obtain ⟨x, hx⟩ : ∃ x, rAt l' k = x := ⟨_, rfl⟩
      rw [hx] at a0 a1 a2 a3 a4 a5 a6 hio hoa
      have hacc : accIs b acc k = decide (x.o.acc = acc) := by unfold accIs; rw [hoa]
      have hop : ∀ w, Calls Try.prog 59 #[.agg #[.int .i64 x.o.id, .int .i64 x.o.acc, .bool x.o.buy, .int .i64 x.o.price, .int .i64 x.o.n, .int .i64 x.o.left, .bool x.e]] w fun e w' => e = .returned (.bool x.open) ∧ Below w.heap.size w w' := fun w => ropen_any x w
      have HX := Lib.hid hx
      have HOA := Lib.hid hoa
      clear hx hkb hoa
      have HNO : Hid (x.open = false ∨ x.o.acc ≠ acc → ∀ w', Below wr.heap.size wr w' → Hid (m = (rvIds b acc (k + 1)).length) ∧ Hid (OwnI w' w.heap.size A' m c' ((rvIds b acc (k + 1)).map fun (k : Nat) => (k : Int))) ∧ Hid (RAt w' B g (some ⟨gr, 0, none⟩) n c l' (rv b acc (k + 1))) ∧ Hid (Mod (RF g (some ⟨gr, 0, none⟩) n c) w w')) := Lib.hid (fun h w' hb => by
        have h2 : b.isIn k = false ∨ accIs b acc k = false := by
          rcases h with h | h
          · exact .inl (by rw [← hio]; exact h)
          · exact .inr (by rw [hacc]; exact decide_eq_false h)
        rw [rvIds_no h2, rv_no h2]
        exact ⟨HM, Lib.hid (HI.out.all hb), Lib.hid ⟨HR.out.rb.all hb, HR.out.rel, HR.out.ok⟩, Lib.hid (HMD.out.then_below hb)⟩)
      cases ho : x.open
      · simp only [ho] at hop
        have HOP := Lib.hid hop
        have HO := Lib.hid ho
        clear hop ho hio hacc
        go_wp2_with (go_at_call 59
                     (with_reducible refine (HOP.out _).mono ?_)
                     rintro e w1 ⟨rfl, hb1⟩)
        obtain ⟨p1, p2, p3, p4⟩ := HNO.out (.inl HO.out) _ hb1
        exact ⟨⟨k + 1, m, A', c', l', by omega, by omega, by go_num, rfl, p1, p2, p3, p4⟩, by simp [intOf]; omega⟩
      · simp only [ho] at hop
        have HOP := Lib.hid hop
        by_cases hac : x.o.acc = acc
        · have hace : (x.o.acc == acc) = true := by simp [hac]
          have hin : b.isIn k = true := by rw [← hio]; exact ho
          have hai : accIs b acc k = true := by rw [hacc]; exact decide_eq_true hac
          have HE1 : Hid (rvIds b acc (k + 1) = rvIds b acc k ++ [k]) := Lib.hid (rvIds_yes hin hai)
          have HE2 : Hid (rv b acc (k + 1) = (rv b acc k).keep (fun j => j != k)) := Lib.hid (rv_yes hai)
          have HRE : Hid (Rel (l'.set k ⟨x.o, true⟩) (rv b acc (k + 1))) := Lib.hid (by
            rw [HE2.out]
            have := HR.out.rel.keep1 (id := k) (by rw [rv_os, HLB.out]; exact hlt)
            rw [rv_os, ← HOA.out] at this
            exact this)
          have HRB : Hid (∀ w', Below wr.heap.size wr w' → RB w' B g (some ⟨gr, 0, none⟩) n c l') := Lib.hid (fun w' hb => HR.out.rb.all hb)
          clear hop ho hio hacc hac hin hai
          go_wp2_with (first
            | (go_at_call 59
               (with_reducible refine (HOP.out _).mono ?_)
               rintro e w1 ⟨rfl, hb1⟩
               have q := HRB.out w1 hb1
               have u0 := q.cell0
               have HQ := Lib.hid q
               have HI1 := Lib.hid (HI.out.all hb1)
               have HM1 := Lib.hid (HMD.out.then_below hb1)
               obtain ⟨g', hg', -, hgl', fz', x0, x1, x2, x3, x4, x5, x6⟩ := q.order hlt
               injection hg' with hg'
               injection hg' with hg' hz1 hz2
               clear hz1 hz2
               subst hg'
               have fq6 := fz' 6
               rw [HX.out] at x0 x1 x2 x3 x4 x5 x6
               have hen := HQ.out.ended rfl hlt
               rw [HX.out] at hen
               have HEN := Lib.hid hen
               have HI2 : Hid (OwnI (w1.setCell ⟨gr, k * 7 + 6, none⟩ (.bool true)) w.heap.size A' m c' ((rvIds b acc k).map fun (k : Nat) => (k : Int))) := Lib.hid (HI1.out.modI hen.2 (fun q hq hf => HQ.out.isnt (own_ty HI1.out hq) (by decide) hf))
               have HM2 := Lib.hid (HM1.out.trans hen.2 (fun _ h => .inl h))
               clear q fz' hgl' a0 a1 a2 a3 a4 a5 a6 hc0 hgr hen)
            | (at_builtin
               obtain ⟨A5, c5, w5, hr5, ho5, -, hm5, -⟩ := app_elem2 22 slT_ints HI2.out #[.int .i64 (k : Int)] rfl (by intro u hu; simp at hu; subst hu; rfl) (by omega) (by decide) HM2.out.size
               rw [show (w1.setCell ⟨gr, k * 7 + 6, none⟩ (.bool true)).heap.size = w1.heap.size by simp] at hr5
               refine wpList_append_run hr5 (by rfl) (by rfl) (by rfl) (by rfl) ?_
               replace hr5 := Lib.hid hr5
               replace ho5 := Lib.hid ho5
               replace hm5 := Lib.hid hm5))
          refine ⟨⟨k + 1, m + 1, A5, c5, l'.set k ⟨x.o, true⟩, by omega, by omega, by go_num, rfl, Lib.hid ?_, Lib.hid ?_, Lib.hid ⟨?_, HRE.out, ?_⟩, Lib.hid ?_⟩, by simp [intOf]; omega⟩
          · rw [HE1.out, List.length_append, ← HM.out]
            rfl
          · rw [HE1.out, List.map_append]
            unfold OwnI
            rw [List.map_append]
            exact ho5.out
          · exact HEN.out.1.mod hm5.out (fun q hq hf => HEN.out.1.isnt (own_ty HI2.out hf) (by decide) hq)
          · rw [HE2.out]
            exact HR.out.ok.keep _
          · exact HM2.out.trans hm5.out (fun q hq => .inr (own_ge HI2.out hq).1)
        · have hace : (x.o.acc == acc) = false := by simp [hac]
          have HAC := Lib.hid hac
          have HRB : Hid (∀ w', Below wr.heap.size wr w' → RB w' B g (some ⟨gr, 0, none⟩) n c l') := Lib.hid (fun w' hb => HR.out.rb.all hb)
          clear hop ho hio hacc hac
          go_wp2_with (go_at_call 59
                       (with_reducible refine (HOP.out _).mono ?_)
                       rintro e w1 ⟨rfl, hb1⟩
                       have q := HRB.out w1 hb1
                       have u0 := q.cell0
                       obtain ⟨g', hg', -, -, -, x0, x1, x2, x3, x4, x5, x6⟩ := q.order hlt
                       injection hg' with hg'
                       injection hg' with hg' hz1 hz2
                       clear hz1 hz2
                       subst hg'
                       rw [HX.out] at x0 x1 x2 x3 x4 x5 x6
                       clear q a0 a1 a2 a3 a4 a5 a6 hc0)
          obtain ⟨p1, p2, p3, p4⟩ := HNO.out (.inr HAC.out) _ hb1
          exact ⟨⟨k + 1, m, A', c', l', by omega, by omega, by go_num, rfl, p1, p2, p3, p4⟩, by simp [intOf]; omega⟩
    · obtain rfl : k = n := by omega
      have HFIN : Hid (RVoidPost B g A k c b acc w (.returned (.slice A' m c')) wr) := Lib.hid (by
        have h1 := HM.out
        have h2 := HI.out
        have h3 := HR.out
        rw [← HLB.out, rvIds_all] at h1 h2
        rw [show rv b acc k = voidB b acc by rw [← HLB.out]; exact rv_all HK.out.ok acc] at h3
        subst h1
        exact ⟨A', c', rfl, TI.own h2, A, k, c, l', h3, HMD.out, fun q hq => .inl hq⟩)
      go_wp2
      go_ret
      exact HFIN.out
/-- A copy. -/
def RCopyPost (l : List ROrd) (b : BkS) (w : World) (e : Ending) (w' : World) : Prop := ∃ g' A' n' c', e = .returned (.pointer (some ⟨g', 0, none⟩)) ∧ RAt w' w.heap.size g' A' n' c' l b ∧ Below w.heap.size w w'
theorem rcells_one (os : List ROrd) : ∀ u ∈ os.flatMap ROrd.cells, u.oneCell' = true := by
  intro u hu
  obtain ⟨x, -, hx⟩ := List.mem_flatMap.1 hu
  simp [ROrd.cells] at hx
  rcases hx with rfl | rfl | rfl | rfl | rfl | rfl | rfl <;> rfl
set_option maxRecDepth 100000 in
theorem rcopy_any (B g n c : Nat) (A : Option Addr) (l : List ROrd) (b : BkS) (w : World) (HK : Hid (RAt w B g A n c l b)) :
    Calls Try.prog 26 #[.pointer (some ⟨g, 0, none⟩)] w (RCopyPost l b w) := by
  have hc0 := HK.out.rb.cell0
  have ho := HK.out.rb.own
  have hlen : (l.flatMap ROrd.cells).length = n * 7 := ho.1
  have hnil := World.ownsRow_nil w w.heap.size 85 7
  obtain ⟨A', c', w', hrun, hown, hb⟩ := app_cells (ty := 51) slT_rord hnil A n c (l.flatMap ROrd.cells) hlen (by
    intro hA
    subst hA
    rcases ho.2 with ⟨-, h⟩ | ⟨g, cap, cur, h1, -⟩
    · exact h
    · cases h1) (by
    intro a ha j u hu
    subst ha
    exact ords_news ho j u hu) (rcells_one l) (by have := HK.out.rb.few; omega) (by decide) (Nat.le_refl _)
  rw [Nat.zero_add] at hrun hown
  have HR := Lib.hid hrun
  have HO := Lib.hid hown
  have HB := Lib.hid hb
  clear hrun hown hb hnil hlen ho
  go_enter Try.func26, Try.ntmps26
  go_wp2_with (at_builtin; refine wpList_append_run HR.out (by rfl) (by rfl) (by rfl) (by rfl) ?_)
  go_ret
  refine ⟨w'.heap.size, A', n, c', rfl, ⟨⟨Blk.new _ _ _, HB.out.size, ?_, HK.out.rb.len, HK.out.rb.few⟩, HK.out.rel, HK.out.ok⟩, HB.out.alloc HB.out.size _⟩
  have := HO.out
  simp only [List.nil_append] at this
  exact own_keep this ((Below.refl _ _).alloc (Nat.le_refl _) _)
end Go.Proofs.Ytkandhpnenmleaa
