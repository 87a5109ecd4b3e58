/- worldmintref24: a disk of which one file, number 2, may have bytes. -/
import Derived.Test.YtldmokjpfnakkaaGreatHJrnOpenF
import Derived.Deep.LoopGhost

namespace Go.Proofs.YtldmokjpfnakkaaGreat
open Go.RowKit

/-- A list of 64 in which number 2 is another one. -/
def row2 (z v : Value) : List Value := (List.replicate 64 z).set 2 v
theorem row2_len (z v : Value) : (row2 z v).length = 64 := rfl
theorem row2_at (z v : Value) {i : Nat} (h : i < 64) : (row2 z v)[i]? = some (if i = 2 then v else z) := by
  unfold row2
  by_cases e : i = 2
  · subst e
    simp
  · rw [List.getElem?_set_ne (by omega), List.getElem?_replicate, if_pos h, if_neg e]
theorem row2_set (z v v' : Value) : (row2 z v).set 2 v' = row2 z v' := by unfold row2; rw [List.set_set]
def nilV : Value := .slice none 0 0
def fV (d : Nat) : Value := .int .i64 (d : Int)
def bytesV (bs : List UInt8) : List Value := bs.map fun b => Value.int .u8 ((b.toNat : Nat) : Int)
structure RDk (w : World) (g gB gF room : Nat) (off : Bool) (plan : Int) (v : Value) (bs : List UInt8) (dur : Nat) : Prop where
  blk : Blk w g 50 #[.int .i64 (room : Int), .slice (some ⟨gB, 0, none⟩) 64 64, .slice (some ⟨gF, 0, none⟩) 64 64, .bool off, .int .i64 plan]
  rows : w.ownsRow 0 39 1 (.slice (some ⟨gB, 0, none⟩) 64 64) 64 (row2 nilV v)
  firm : w.ownsRow 0 3 1 (.slice (some ⟨gF, 0, none⟩) 64 64) 64 (row2 (fV 0) (fV dur))
  own : w.ownsRow 0 5 1 v bs.length (bytesV bs)
  dle : dur ≤ bs.length
  room_le : room ≤ 16777216 ∧ bs.length ≤ room
  plan_le : -1 ≤ plan ∧ plan ≤ 4611686018427387904
def RDF (g gB gF : Nat) (v : Value) (b : Nat) : Prop := b = g ∨ b = gB ∨ b = gF ∨ v.ownBlock = some b
section
variable {w w' : World} {g gB gF room dur : Nat} {off : Bool} {plan : Int} {v : Value} {bs : List UInt8} {F : Nat → Prop}
theorem RDk.tyB (h : RDk w g gB gF room off plan v bs dur) : Ty w gB 39 := Ty.of_own h.rows rfl
theorem RDk.tyF (h : RDk w g gB gF room off plan v bs dur) : Ty w gF 3 := Ty.of_own h.firm rfl
theorem RDk.tyV (h : RDk w g gB gF room off plan v bs dur) {b : Nat} (hb : v.ownBlock = some b) : Ty w b 5 := Ty.of_own h.own hb
theorem RDk.mod (h : RDk w g gB gF room off plan v bs dur) (m : Mod F w w') (hF : ∀ b, RDF g gB gF v b → ¬ F b) : RDk w' g gB gF room off plan v bs dur :=
  ⟨m.blk h.blk (hF _ (.inl rfl)), m.own h.rows (fun b hb => hF b (.inr (.inl (by injection hb with hb; exact hb.symm)))), m.own h.firm (fun b hb => hF b (.inr (.inr (.inl (by injection hb with hb; exact hb.symm))))), m.own h.own (fun b hb => hF b (.inr (.inr (.inr hb)))), h.dle, h.room_le, h.plan_le⟩
theorem RDk.all (h : RDk w g gB gF room off plan v bs dur) (hb : Below w.heap.size w w') : RDk w' g gB gF room off plan v bs dur := h.mod (F := fun _ => False) (Mod.of_below _ hb) (fun _ _ hf => hf)
theorem RDk.ltF (h : RDk w g gB gF room off plan v bs dur) : ∀ b, RDF g gB gF v b → b < w.heap.size := by
  rintro b (rfl | rfl | rfl | hb)
  · exact h.blk.lt
  · exact (h.rows.lt b rfl).2
  · exact (h.firm.lt b rfl).2
  · exact (h.own.lt b hb).2
theorem RDk.ty (h : RDk w g gB gF room off plan v bs dur) : ∀ b, RDF g gB gF v b → Ty w b 50 ∨ Ty w b 39 ∨ Ty w b 3 ∨ Ty w b 5 := by
  rintro b (rfl | rfl | rfl | hb)
  · exact .inl h.blk.ty
  · exact .inr (.inl h.tyB)
  · exact .inr (.inr (.inl h.tyF))
  · exact .inr (.inr (.inr (h.tyV hb)))
theorem RDk.bAt (h : RDk w g gB gF room off plan v bs dur) {i : Nat} (hi : i < 64) : w.cell? ⟨gB, i, none⟩ = some (if i = 2 then v else nilV) := by
  rw [h.rows.cellAt i (by omega), row2_at _ _ hi]
theorem RDk.fAt (h : RDk w g gB gF room off plan v bs dur) {i : Nat} (hi : i < 64) : w.cell? ⟨gF, i, none⟩ = some (if i = 2 then fV dur else fV 0) := by
  rw [h.firm.cellAt i (by omega), row2_at _ _ hi]
theorem RDk.cells (h : RDk w g gB gF room off plan v bs dur) : w.cell? ⟨g, 0, none⟩ = some (.int .i64 (room : Int)) ∧ w.cell? ⟨g, 1, none⟩ = some (.slice (some ⟨gB, 0, none⟩) 64 64) ∧ w.cell? ⟨g, 2, none⟩ = some (.slice (some ⟨gF, 0, none⟩) 64 64) ∧ w.cell? ⟨g, 3, none⟩ = some (.bool off) ∧ w.cell? ⟨g, 4, none⟩ = some (.int .i64 plan) ∧ w.frozen? ⟨g, 3, none⟩ = false ∧ w.frozen? ⟨g, 4, none⟩ = false :=
  ⟨h.blk.cell 0, h.blk.cell 1, h.blk.cell 2, h.blk.cell 3, h.blk.cell 4, h.blk.frozen 3, h.blk.frozen 4⟩
theorem RDk.slice (h : RDk w g gB gF room off plan v bs dur) : ∃ A c, v = .slice A bs.length c := by
  rcases h.own.2 with ⟨h, h0⟩ | ⟨g1, cap, cur, h, _⟩
  · exact ⟨none, 0, by rw [h, h0]⟩
  · exact ⟨_, _, h⟩
/-- What a call on the disk leaves. -/
def RNext (g gB gF room : Nat) (v : Value) (off' : Bool) (plan' : Int) (bs' : List UInt8) (dur' : Nat) (w w' : World) : Prop := ∃ v', RDk w' g gB gF room off' plan' v' bs' dur' ∧ Mod (RDF g gB gF v) w w' ∧ ∀ b, RDF g gB gF v' b → RDF g gB gF v b ∨ w.heap.size ≤ b
theorem RNext.same (h : RDk w g gB gF room off plan v bs dur) (hb : Below w.heap.size w w') : RNext g gB gF room v off plan bs dur w w' := ⟨v, h.all hb, Mod.of_below _ hb, fun _ hb => .inl hb⟩
theorem RNext.trans {off' : Bool} {plan' : Int} {bs1 bs' : List UInt8} {dur1 dur' : Nat} {off1 : Bool} {plan1 : Int} {w1 w2 : World} (h : RNext g gB gF room v off1 plan1 bs1 dur1 w w1) (h2 : ∀ v1, RDk w1 g gB gF room off1 plan1 v1 bs1 dur1 → RNext g gB gF room v1 off' plan' bs' dur' w1 w2) : RNext g gB gF room v off' plan' bs' dur' w w2 := by
  obtain ⟨v1, hD1, m1, hF1⟩ := h
  obtain ⟨v2, hD2, m2, hF2⟩ := h2 v1 hD1
  have hs := m1.size
  refine ⟨v2, hD2, m1.trans m2 (fun b hb => hF1 b hb), fun b hb => ?_⟩
  rcases hF2 b hb with h | h
  · exact hF1 b h
  · exact .inr (by omega)
/-- What a call leaves that writes no bytes. -/
def D3 (g gB gF : Nat) (b : Nat) : Prop := b = g ∨ b = gB ∨ b = gF
def RNext3 (g gB gF room : Nat) (v : Value) (off' : Bool) (plan' : Int) (bs' : List UInt8) (dur' : Nat) (w w' : World) : Prop := ∃ v', RDk w' g gB gF room off' plan' v' bs' dur' ∧ Mod (D3 g gB gF) w w' ∧ v'.ownBlock = v.ownBlock
theorem D3.sub {g gB gF : Nat} {v : Value} {b : Nat} (h : D3 g gB gF b) : RDF g gB gF v b := by
  rcases h with h | h | h
  · exact .inl h
  · exact .inr (.inl h)
  · exact .inr (.inr (.inl h))
theorem RNext3.to {off' : Bool} {plan' : Int} {bs' : List UInt8} {dur' : Nat} (h : RNext3 g gB gF room v off' plan' bs' dur' w w') : RNext g gB gF room v off' plan' bs' dur' w w' := by
  obtain ⟨v', hD, m, he⟩ := h
  refine ⟨v', hD, m.mono (fun b hb => .inl hb.sub), fun b hb => .inl ?_⟩
  rcases hb with h | h | h | h
  · exact .inl h
  · exact .inr (.inl h)
  · exact .inr (.inr (.inl h))
  · exact .inr (.inr (.inr (by rw [← he]; exact h)))
theorem RNext3.same (h : RDk w g gB gF room off plan v bs dur) (hb : Below w.heap.size w w') : RNext3 g gB gF room v off plan bs dur w w' := ⟨v, h.all hb, Mod.of_below _ hb, rfl⟩
/-- The plan and the power alone turn. -/
theorem RDk.power (h : RDk w g gB gF room off plan v bs dur) (off' : Bool) (plan' : Int) (hp : -1 ≤ plan' ∧ plan' ≤ 4611686018427387904) (hb : Blk w' g 50 #[.int .i64 (room : Int), .slice (some ⟨gB, 0, none⟩) 64 64, .slice (some ⟨gF, 0, none⟩) 64 64, .bool off', .int .i64 plan']) (m : Mod (fun b => b = g) w w') : RDk w' g gB gF room off' plan' v bs dur ∧ RNext3 g gB gF room v off' plan' bs dur w w' := by
  have hD : RDk w' g gB gF room off' plan' v bs dur := ⟨hb, m.own h.rows (fun b hq e => by
      injection hq with hq
      have hq' := hq.trans e
      dsimp only at hq'
      subst hq'
      exact absurd (Ty.unique h.blk.ty h.tyB) (by decide)), m.own h.firm (fun b hq e => by
      injection hq with hq
      have hq' := hq.trans e
      dsimp only at hq'
      subst hq'
      exact absurd (Ty.unique h.blk.ty h.tyF) (by decide)), m.own h.own (fun b hq e => by
      subst e
      exact absurd (Ty.unique h.blk.ty (h.tyV hq)) (by decide)), h.dle, h.room_le, hp⟩
  exact ⟨hD, v, hD, m.mono (fun b e => .inl (.inl e)), rfl⟩
end
set_option maxRecDepth 100000 in
theorem rarm_any (g gB gF room dur : Nat) (off : Bool) (plan : Int) (v : Value) (bs : List UInt8) (x : Int) (w : World) (HD : Hid (RDk w g gB gF room off plan v bs dur)) (h1 : 0 ≤ x) (h2 : x ≤ 1000) :
    Calls Tryz.prog 10 #[.pointer (some ⟨g, 0, none⟩), .int .i64 x] w fun e w' => e = .returned (.tuple #[]) ∧ RNext g gB gF room v off (if off then plan else x) bs dur w w' := by
  obtain ⟨c0, c1, c2, c3, c4, f3, f4⟩ := HD.out.cells
  go_enter Tryz.func10, Tryz.ntmps10
  cases off
  · have hm : max x (-1) = x := by omega
    have hP := (HD.out.power (w' := w.setCell ⟨g, 4, none⟩ (.int .i64 x)) false x ⟨by omega, by omega⟩ (by simpa using Blk.set_ HD.out.blk 4 (.int .i64 x)) ((Mod.refl (fun b => b = g) w).set (p := ⟨g, 4, none⟩) (.inl rfl) _)).2.to
    have HP := Lib.hid hP
    clear hP
    go_wp2
    go_end0
    exact ⟨rfl, HP.out⟩
  · go_wp2
    go_end0
    exact ⟨rfl, RNext.same HD.out (Below.refl _ _)⟩
set_option maxRecDepth 100000 in
theorem rfails_any (g gB gF room dur : Nat) (plan : Int) (v : Value) (bs : List UInt8) (w : World) (HD : Hid (RDk w g gB gF room false plan v bs dur)) (h0 : 0 ≤ plan) :
    Calls Tryz.prog 62 #[.pointer (some ⟨g, 0, none⟩)] w fun e w' => e = .returned (.bool (failOff false plan)) ∧ RNext3 g gB gF room v (failOff false plan) (failPlan plan) bs dur w w' := by
  obtain ⟨c0, c1, c2, c3, c4, f3, f4⟩ := HD.out.cells
  have hp := HD.out.plan_le
  have hb1 : Blk (w.setCell ⟨g, 4, none⟩ (.int .i64 (plan - 1))) g 50 #[.int .i64 (room : Int), .slice (some ⟨gB, 0, none⟩) 64 64, .slice (some ⟨gF, 0, none⟩) 64 64, .bool false, .int .i64 (plan - 1)] := by simpa using Blk.set_ HD.out.blk 4 (.int .i64 (plan - 1))
  have m1 := (Mod.refl (fun b => b = g) w).set (p := ⟨g, 4, none⟩) (.inl rfl) (.int .i64 (plan - 1))
  have e2 : failPlan plan = plan - 1 := by unfold failPlan; rw [if_pos h0]
  have hmx : max (plan - 1) (-2) = plan - 1 := by omega
  rw [e2]
  by_cases hz : plan = 0
  · subst hz
    have e1 : failOff false 0 = true := rfl
    rw [e1]
    have hb2 : Blk ((w.setCell ⟨g, 4, none⟩ (.int .i64 (-1))).setCell ⟨g, 3, none⟩ (.bool true)) g 50 #[.int .i64 (room : Int), .slice (some ⟨gB, 0, none⟩) 64 64, .slice (some ⟨gF, 0, none⟩) 64 64, .bool true, .int .i64 (-1)] := by simpa using Blk.set_ hb1 3 (.bool true)
    have HP := Lib.hid (HD.out.power true (-1) ⟨by omega, by omega⟩ hb2 (m1.set (p := ⟨g, 3, none⟩) (.inl rfl) (.bool true))).2
    clear hb1 hb2 m1 e2
    go_enter Tryz.func62, Tryz.ntmps62
    go_wp2
    go_ret
    exact ⟨rfl, HP.out⟩
  · have e1 : failOff false plan = false := by unfold failOff; simp [hz]
    rw [e1]
    have hne : (plan - 1 == -1) = false := by simp; omega
    have HP := Lib.hid (HD.out.power false (plan - 1) ⟨by omega, by omega⟩ hb1 m1).2
    clear hb1 m1 e2
    go_enter Tryz.func62, Tryz.ntmps62
    go_wp2
    go_ret
    exact ⟨rfl, HP.out⟩
set_option maxRecDepth 100000 in
theorem rstep_any (g gB gF room dur : Nat) (plan : Int) (v : Value) (bs : List UInt8) (w : World) (HD : Hid (RDk w g gB gF room false plan v bs dur)) :
    Calls Tryz.prog 47 #[.pointer (some ⟨g, 0, none⟩)] w fun e w' => e = .returned (.bool (failOff false plan)) ∧ RNext3 g gB gF room v (failOff false plan) (failPlan plan) bs dur w w' := by
  obtain ⟨c0, c1, c2, c3, c4, f3, f4⟩ := HD.out.cells
  go_enter Tryz.func47, Tryz.ntmps47
  rcases Int.lt_or_le plan 0 with hp | hp
  · have e1 : failOff false plan = false := by unfold failOff; simp; omega
    have e2 : failPlan plan = plan := by unfold failPlan; rw [if_neg (by omega)]
    go_wp2
    go_ret
    exact ⟨by rw [e1]; rfl, by rw [e1, e2]; exact RNext3.same HD.out (Below.refl _ _)⟩
  · have hpn : ¬ plan < 0 := by omega
    go_wp2_with fail
    refine (rfails_any g gB gF room dur plan v bs w HD hp).mono ?_
    rintro e w1 ⟨rfl, hN⟩
    have HN := Lib.hid hN
    clear hN
    go_wp2
    go_ret
    exact ⟨rfl, HN.out⟩
set_option maxRecDepth 100000 in
theorem rused_any (g gB gF room dur : Nat) (off : Bool) (plan : Int) (A : Option Addr) (n c : Nat) (bs : List UInt8) (w : World) (HD : Hid (RDk w g gB gF room off plan (.slice A n c) bs dur)) (hn : n ≤ 16777216) :
    Calls Tryz.prog 51 #[.pointer (some ⟨g, 0, none⟩)] w fun e w' => e = .returned (.int .i64 (n : Int)) ∧ w' = w := by
  obtain ⟨c0, c1, c2, c3, c4, f3, f4⟩ := HD.out.cells
  go_enter Tryz.func51, Tryz.ntmps51
  go_wp2
  go_loopg [3, 4] 64 (fun gk nv iv wr => ∃ i : Nat, i + gk = 64 ∧ iv = .int .i64 (i : Int) ∧ nv = .int .i64 (if 2 < i then (n : Int) else 0) ∧ wr = w)
  case atStart => exact ⟨0, by omega, rfl, rfl, rfl⟩
  case round =>
    obtain ⟨i, hi, rfl, rfl, rfl⟩ := hrel
    rcases Nat.lt_or_ge i 64 with hlt | hge
    · have hiI : (i : Int) < 64 := by omega
      have hi0 : (0 : Int) ≤ (i : Int) := by omega
      have b0 := HD.out.bAt hlt
      unfold nilV at b0
      rcases Nat.lt_trichotomy i 2 with h2 | h2 | h2
      · rw [if_neg (by omega)] at b0
        go_wp2
        go_roundg (64 - (i + 1))
        case measure => omega
        case rel => exact ⟨i + 1, by omega, by go_num, by rw [if_neg (by omega)], rfl⟩
      · subst h2
        rw [if_pos rfl] at b0
        go_wp2
        go_roundg (64 - (2 + 1))
        case measure => omega
        case rel => exact ⟨3, by omega, by go_num, by simp, rfl⟩
      · rw [if_neg (by omega)] at b0
        have hw : IntKind.i64.wrap (n : Int) = (n : Int) := IntWalk.i64_in _ (by omega)
        go_wp2
        go_roundg (64 - (i + 1))
        case measure => omega
        case rel => exact ⟨i + 1, by omega, by go_num, by rw [if_pos (by omega)], rfl⟩
    · obtain rfl : i = 64 := by omega
      go_wp2
      go_ret
      exact ⟨by simp, rfl⟩
end Go.Proofs.YtldmokjpfnakkaaGreat
