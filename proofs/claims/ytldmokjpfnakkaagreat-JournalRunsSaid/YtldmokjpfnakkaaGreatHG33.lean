/- worldmintref24: Truncate on a disk of one file; New. -/
import Derived.Test.YtldmokjpfnakkaaGreatHRDkOps

namespace Go.Proofs.YtldmokjpfnakkaaGreat
open Go.RowKit

/-- The bytes are stored, then the number of durable ones. -/
theorem RDk.cut {w w2 : World} {g gB gF room dur d : Nat} {off : Bool} {plan : Int} {v v' : Value} {bs bs' : List UInt8} (h : RDk w g gB gF room off plan v bs dur) (hown : w.ownsRow 0 5 1 v' bs'.length (bytesV bs')) (hd : d ≤ bs'.length) (hr : bs'.length ≤ room) (hb : Below (w.setCell ⟨gB, 2, none⟩ v').heap.size (w.setCell ⟨gB, 2, none⟩ v') w2) :
    w.frozen? ⟨gB, 2, none⟩ = false ∧ w2.frozen? ⟨gF, 2, none⟩ = false ∧ w2.cell? ⟨gF, 2, none⟩ = some (fV dur) ∧ w2.cell? ⟨g, 2, none⟩ = some (.slice (some ⟨gF, 0, none⟩) 64 64) ∧ RDk (w2.setCell ⟨gF, 2, none⟩ (fV d)) g gB gF room off plan v' bs' d ∧ Mod (fun b => b = gB ∨ b = gF) w (w2.setCell ⟨gF, 2, none⟩ (fV d)) := by
  obtain ⟨n1, n2, n3, n4⟩ := h.neBF
  have m1 : Mod (fun b => b = gB) w (w.setCell ⟨gB, 2, none⟩ v') := (Mod.refl (fun b => b = gB) w).set (p := ⟨gB, 2, none⟩) (.inl rfl) _
  have m2 : Mod (fun b => b = gB) w w2 := m1.then_below hb
  have m3 : Mod (fun b => b = gF) w2 (w2.setCell ⟨gF, 2, none⟩ (fV d)) := (Mod.refl (fun b => b = gF) w2).set (p := ⟨gF, 2, none⟩) (.inl rfl) _
  have hr1 := (h.rows.stored 2 v').1
  rw [row2_set] at hr1
  have hf2 : w2.ownsRow 0 3 1 (.slice (some ⟨gF, 0, none⟩) 64 64) 64 (row2 (fV 0) (fV dur)) := m2.own h.firm (fun b hb e => n1 (by injection hb with hb; exact (hb.trans e).symm))
  have hb2 := m2.blk h.blk n2
  have hneO : ∀ b, v'.ownBlock = some b → b ≠ gB ∧ b ≠ gF := fun b hq => ⟨fun e => by
    subst e
    exact absurd (Ty.unique h.tyB (Ty.of_own hown hq)) (by decide), fun e => by
    subst e
    exact absurd (Ty.unique h.tyF (Ty.of_own hown hq)) (by decide)⟩
  have ho2 := m2.own hown (fun b hq e => (hneO b hq).1 e)
  have hs := (hf2.stored 2 (fV d)).1
  rw [row2_set] at hs
  refine ⟨own_frz h.rows 2, own_frz hf2 2, by rw [hf2.cellAt 2 (by omega), row2_at _ _ (by omega), if_pos rfl], hb2.cell 2, ⟨m3.blk hb2 n3, m3.own (own_keep hr1 hb) (fun b hq e => n1 (by injection hq with hq; exact hq.trans e)), hs, m3.own ho2 (fun b hq e => (hneO b hq).2 e), hd, ⟨h.room_le.1, hr⟩, h.plan_le⟩, (m2.mono (fun b e => .inl (.inl e))).trans m3 (fun b e => .inl (.inr e))⟩
set_option maxRecDepth 100000 in
set_option maxHeartbeats 8000000 in
theorem rtrunc_any (g gB gF room dur : Nat) (plan : Int) (A : Option Addr) (n c size : Nat) (bs : List UInt8) (o : Bool) (w : World) (HD : Hid (RDk w g gB gF room false plan (.slice A n c) bs dur)) (hs : size ≤ n) (HO : Hid (failOff false plan = o)) :
    Calls Tryz.prog 27 #[.pointer (some ⟨g, 0, none⟩), .int .i64 2, .int .i64 (size : Int)] w fun e w' => e = .returned (.int .i64 (if o then 23 else 0)) ∧ RNext3 g gB gF room (.slice A n c) o (failPlan plan) (if o then bs else bs.take size) (if o then dur else min dur size) w w' := by
  obtain ⟨c0, c1, c2, c3, c4, f3, f4⟩ := HD.out.cells
  have b2 := HD.out.bAt (i := 2) (by omega)
  rw [if_pos rfl] at b2
  have hs0 : (0 : Int) ≤ (size : Int) := by omega
  have hs1 : (size : Int) ≤ (n : Int) := by omega
  have hs2 : ¬ ((n : Int) < (size : Int)) := by omega
  have hs3 : ¬ ((size : Int) < 0) := by omega
  have hlen : bs.length = n := (Bts.of_own HD.out.own).2.symm
  have HLN := Lib.hid hlen
  clear hlen
  go_enter Tryz.func27, Tryz.ntmps27
  go_wp2_with fail
  refine (rstep_any g gB gF room dur plan _ bs _ (Lib.hid (HD.out.all (by first | exact Below.refl _ _ | exact (Below.refl _ _).drew | exact below_drewN (Below.refl _ _) _)))).mono ?_
  rintro e w1 ⟨rfl, hN⟩
  rw [HO.out] at hN ⊢
  cases o
  · obtain ⟨v1, hD1, m1, hF1⟩ := hN
    obtain ⟨A1, k1, hv1⟩ := hD1.slice
    rw [HLN.out] at hv1
    subst hv1
    obtain ⟨c0, c1, c2, c3, c4, f3, f4⟩ := hD1.cells
    have b2 := hD1.bAt (i := 2) (by omega)
    rw [if_pos rfl] at b2
    have hcap := (Bts.of_own hD1.own).1.2.1
    rw [HLN.out] at hcap
    have hk1 : (size : Int) ≤ (k1 : Int) := by omega
    have ho := own_shorter (by have := hD1.own; rw [HLN.out] at this; exact this) hs
    have htl : (bs.take size).length = size := by rw [List.length_take, HLN.out]; omega
    have ho' : w1.ownsRow 0 5 1 (.slice A1 size k1) (bs.take size).length (bytesV (bs.take size)) := by
      rw [htl]
      unfold bytesV at ho ⊢
      rw [List.map_take]
      exact ho
    have hcut := fun w2 hb => hD1.cut (w2 := w2) (d := min dur size) ho' (by rw [htl]; omega) (by rw [htl]; have := hD1.room_le.2; rw [HLN.out] at this; omega) hb
    have hfz := (hcut _ (Below.refl _ _)).1
    have HCUT := Lib.hid hcut
    have HM1 := Lib.hid m1
    have HF1 := Lib.hid hF1
    have hmn : min (dur : Int) (size : Int) = ((min dur size : Nat) : Int) := by omega
    clear ho ho' htl hcut hD1 m1 hF1 HD hcap
    go_wp2
    go_region
    obtain ⟨-, k1', k2', k3', k4', k5'⟩ := HCUT.out _ ((Below.refl _ (w1.setCell ⟨gB, 2, none⟩ (.slice A1 size k1))).drew)
    obtain ⟨w2, hw2⟩ : ∃ w2, w2 = (w1.setCell ⟨gB, 2, none⟩ (.slice A1 size k1)).drew := ⟨_, rfl⟩
    rw [← hw2] at k1' k2' k3' k4' k5' ⊢
    unfold fV at k2'
    have HD5 := Lib.hid k4'
    have HM5 := Lib.hid (HM1.out.trans k5' (fun b e => by
      rcases e with e | e
      · exact .inl (.inr (.inl e))
      · exact .inl (.inr (.inr e))))
    clear k4' k5' hw2 HCUT c0 c1 c2 c3 c4 f3 f4 b2 hfz
    go_wp2
    go_region
    unfold fV at HD5 HM5
    have hbz := (Below.refl (w2.setCell ⟨gF, 2, none⟩ (.int .i64 ((min dur size : Nat) : Int))).heap.size (w2.setCell ⟨gF, 2, none⟩ (.int .i64 ((min dur size : Nat) : Int)))).drew
    have HP : Hid (RNext3 g gB gF room (.slice A n c) false (failPlan plan) (bs.take size) (min dur size) w _) := Lib.hid ⟨_, HD5.out.all hbz, HM5.out.then_below hbz, (ownBlock_slice A1 size k1 n k1).trans HF1.out⟩
    clear hbz HD5 HM5 HF1 HM1
    go_wp2
    go_ret
    exact ⟨rfl, HP.out⟩
  · have HP := Lib.hid hN
    clear hN
    go_wp2
    go_ret
    exact ⟨rfl, HP.out⟩
end Go.Proofs.YtldmokjpfnakkaaGreat

/- worldmintref24: Files on a disk of one file. -/
namespace Go.Proofs.YtldmokjpfnakkaaGreat
open Go.RowKit

def cnt (n i : Nat) : Nat := if 0 < n ∧ 2 < i then 1 else 0
def cntL (n i : Nat) : List Int := if 0 < n ∧ 2 < i then [2] else []
def RFilesI (n : Nat) (w : World) (i : Nat) (v : Value) (wr : World) : Prop := ∃ A q c, v = .slice A q c ∧ q = cnt n i ∧ OwnI wr w.heap.size A q c (cntL n i) ∧ Below w.heap.size w wr
def RFilesPost (n : Nat) (w : World) (e : Ending) (w' : World) : Prop := ∃ v, e = .returned v ∧ RFilesI n w 64 v w'
theorem cnt_lo {n i : Nat} (h : i ≤ 2 ∨ n = 0) : cnt n i = 0 ∧ cntL n i = [] := by unfold cnt cntL; rw [if_neg (by omega), if_neg (by omega)]; exact ⟨rfl, rfl⟩
theorem cnt_hi {n i : Nat} (h : 2 < i) (h0 : 0 < n) : cnt n i = 1 ∧ cntL n i = [2] := by unfold cnt cntL; rw [if_pos ⟨h0, h⟩, if_pos ⟨h0, h⟩]; exact ⟨rfl, rfl⟩
theorem cnt_step {n i : Nat} (h : i ≠ 2) : cnt n (i + 1) = cnt n i ∧ cntL n (i + 1) = cntL n i := by
  have he : (0 < n ∧ 2 < i + 1) = (0 < n ∧ 2 < i) := by rw [eq_iff_iff]; omega
  unfold cnt cntL
  simp only [he, and_self]
set_option maxRecDepth 100000 in
theorem rfiles_any (g gB gF room dur : Nat) (off : Bool) (plan : Int) (A : Option Addr) (n c : Nat) (bs : List UInt8) (w : World) (HD : Hid (RDk w g gB gF room off plan (.slice A n c) bs dur)) :
    Calls Tryz.prog 32 #[.pointer (some ⟨g, 0, none⟩)] w (RFilesPost n w) := by
  go_enter Tryz.func32, Tryz.ntmps32
  go_wp2
  go_loopg [3, 4] 64 (fun gk v iv wr => ∃ i : Nat, i + gk = 64 ∧ iv = .int .i64 (i : Int) ∧ Hid (RFilesI n w i v wr))
  case atStart => exact ⟨0, by omega, rfl, Lib.hid ⟨none, 0, 0, rfl, (cnt_lo (.inl (by omega))).1.symm, by rw [(cnt_lo (n := n) (i := 0) (.inl (by omega))).2]; exact OwnI.nil _ _, Below.refl _ _⟩⟩
  case round =>
    obtain ⟨i, hi, rfl, HI⟩ := hrel
    have HHI := Lib.hid hi
    rcases Nat.lt_or_ge i 64 with hlt | hge
    · have hiI : (i : Int) < 64 := by omega
      have hi0 : (0 : Int) ≤ (i : Int) := by omega
      obtain ⟨A1, q, c1, rfl, hq, hown, hb⟩ := HI.out
      have hD := HD.out.all hb
      obtain ⟨d0, d1, d2, d3, d4, -, -⟩ := hD.cells
      have b0 := hD.bAt hlt
      unfold nilV at b0
      have HOW := Lib.hid hown
      have HB := Lib.hid hb
      have HQ := Lib.hid hq
      clear hD hb hown hi hq
      by_cases e2 : i = 2
      · subst e2
        rw [if_pos rfl] at b0
        have hc0 := cnt_lo (n := n) (i := 2) (.inl (by omega))
        by_cases hn0 : 0 < n
        · have hnI : (0 : Int) < (n : Int) := by omega
          have ho := HOW.out
          have hq := HQ.out
          rw [hc0.1] at hq
          subst hq
          rw [hc0.2] at ho
          have hc3 := cnt_hi (n := n) (i := 3) (by omega) hn0
          obtain ⟨A2, c2, w2, hrun, hown2, hb2⟩ := app_int (w := wr) (B := w.heap.size) 22 ((2 : Nat) : Int) ho (by omega) HB.out.size
          have HP : Hid (RFilesI n w 3 (.slice A2 (0 + 1) c2) w2) := Lib.hid ⟨A2, _, c2, rfl, by rw [hc3.1], by rw [hc3.2]; exact hown2, HB.out.trans hb2⟩
          clear ho hown2 hb2 hc0 hc3
          go_wp2_with (at_builtin; refine wpList_append_run2 hrun rfl rfl rfl rfl ?_; clear hrun)
          go_roundg (64 - (2 + 1))
          case measure => have := HHI.out; omega
          case rel => exact ⟨3, by have := HHI.out; omega, by go_num, HP⟩
        · have hnI : ¬ ((0 : Int) < (n : Int)) := by omega
          have hc3 := cnt_lo (n := n) (i := 3) (.inr (by omega))
          have HP : Hid (RFilesI n w 3 (.slice A1 q c1) wr) := Lib.hid ⟨A1, q, c1, rfl, by rw [HQ.out, hc0.1, hc3.1], by rw [hc3.2, ← hc0.2]; exact HOW.out, HB.out⟩
          clear hc0 hc3
          go_wp2
          go_roundg (64 - (2 + 1))
          case measure => have := HHI.out; omega
          case rel => exact ⟨3, by have := HHI.out; omega, by go_num, HP⟩
      · rw [if_neg e2] at b0
        have hcs := cnt_step (n := n) e2
        have HP : Hid (RFilesI n w (i + 1) (.slice A1 q c1) wr) := Lib.hid ⟨A1, q, c1, rfl, by rw [HQ.out, hcs.1], by rw [hcs.2]; exact HOW.out, HB.out⟩
        clear hcs
        go_wp2
        go_roundg (64 - (i + 1))
        case measure => have := HHI.out; omega
        case rel => exact ⟨i + 1, by have := HHI.out; omega, by go_num, HP⟩
    · obtain rfl : i = 64 := by omega
      go_wp2
      go_ret
      exact ⟨_, rfl, HI.out⟩
end Go.Proofs.YtldmokjpfnakkaaGreat
