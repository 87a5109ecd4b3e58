/- wire's Writer known by its own blocks: contracts that say which blocks turn. -/
import Derived.Test.YtgjbbobphfejoaaGreatDoorHG35
import Derived.Test.YtgjbbobphfejoaaGreatDoorHG0
import Derived.Test.YtgjbbobphfejoaaGreatDoorHG36
import Derived.Test.YtgjbbobphfejoaaGreatDoorHG1
import Derived.Test.YtgjbbobphfejoaaGreatDoorHG37
import Derived.Test.YtgjbbobphfejoaaGreatDoorHG2
import Derived.Deep.RegionLaw
import Derived.Deep.RegionHeld3
import Derived.Deep.AppendLies
import Derived.RangeFuncNested
import Derived.RangeFuncBound
import Derived.RangeFuncCalls
import Derived.RangeFuncLeaves
import Derived.RangeFuncBox
import Derived.Shelf.Abstract
import Derived.Shelf.RegionOpen
import Derived.WalkKit
import Derived.OwnWalkIn
import Derived.TacticsInMore
import Derived.LoopNIn
import Derived.LoopIn
import Derived.Lib.Hide
import Derived.Test.YtgjbbobphfejoaaGreatDoorProg
import Derived.Maps.AppendAt

namespace Go.Proofs.YtgjbbobphfejoaaGreatDoor
open Go.RowKit

/-- A Writer at block gd whose slice is v, with the bytes bs. -/
def WrV (w : World) (gd : Nat) (v : Value) (bs : List UInt8) : Prop :=
  Blk w gd 57 #[v] ∧ w.ownsRow 0 5 1 v bs.length (bs.map fun b => Value.int .u8 ((b.toNat : Nat) : Int))
def WF (gd : Nat) (v : Value) (b : Nat) : Prop := b = gd ∨ v.ownBlock = some b
def WrNext (gd : Nat) (v : Value) (bs : List UInt8) (w w' : World) : Prop :=
  ∃ v', WrV w' gd v' bs ∧ Mod (WF gd v) w w' ∧ (v'.ownBlock = v.ownBlock ∨ ∀ b, v'.ownBlock = some b → w.heap.size ≤ b)
section
variable {w w' w'' : World} {gd : Nat} {v : Value} {bs bs' : List UInt8} {F : Nat → Prop}
theorem WrV.new (w : World) : WrV (w.alloc (.cells #[.slice none 0 0] 57)) w.heap.size (.slice none 0 0) [] := ⟨Blk.new _ _ _, World.ownsRow_nil _ _ _ _⟩
theorem WrV.mod (h : WrV w gd v bs) (m : Mod F w w') (hF : ∀ b, WF gd v b → ¬ F b) : WrV w' gd v bs := ⟨m.blk h.1 (hF _ (.inl rfl)), m.own h.2 (fun g e => hF g (.inr e))⟩
theorem WrV.all (h : WrV w gd v bs) (hb : Below w.heap.size w w') : WrV w' gd v bs := h.mod (F := fun _ => False) (Mod.of_below _ hb) (fun _ _ hf => hf)
theorem WrV.lt (h : WrV w gd v bs) : ∀ b, WF gd v b → b < w.heap.size := by
  rintro b (rfl | e)
  · exact h.1.lt
  · exact (h.2.lt b e).2
theorem WrV.slice (h : WrV w gd v bs) : ∃ A c, v = .slice A bs.length c := own_slice h.2
theorem WrNext.refl (h : WrV w gd v bs) : WrNext gd v bs w w := ⟨v, h, Mod.refl _ _, .inl rfl⟩
theorem WrNext.trans (h : WrNext gd v bs w w') (k : ∀ v', WrV w' gd v' bs → WrNext gd v' bs' w' w'') : WrNext gd v bs' w w'' := by
  obtain ⟨v1, h1, m1, o1⟩ := h
  obtain ⟨v2, h2, m2, o2⟩ := k v1 h1
  refine ⟨v2, h2, m1.trans m2 ?_, ?_⟩
  · rintro b (rfl | e)
    · exact .inl (.inl rfl)
    · rcases o1 with o | o
      · exact .inl (.inr (by rw [← o]; exact e))
      · exact .inr (o b e)
  · rcases o2 with o | o
    · rw [o]; exact o1
    · exact .inr (fun b e => Nat.le_trans m1.size (o b e))
theorem WrNext.step {v1 : Value} (h : WrV w' gd v1 bs) (m1 : Mod (WF gd v) w w') (o1 : v1.ownBlock = v.ownBlock ∨ ∀ b, v1.ownBlock = some b → w.heap.size ≤ b) (k : WrNext gd v1 bs' w' w'') : WrNext gd v bs' w w'' := by
  obtain ⟨v2, h2, m2, o2⟩ := k
  refine ⟨v2, h2, m1.trans m2 ?_, ?_⟩
  · rintro b (rfl | e)
    · exact .inl (.inl rfl)
    · rcases o1 with o | o
      · exact .inl (.inr (by rw [← o]; exact e))
      · exact .inr (o b e)
  · rcases o2 with o | o
    · rw [o]; exact o1
    · exact .inr (fun b e => Nat.le_trans m1.size (o b e))
theorem WrV.wr (h : WrV w gd v bs) : Wr w 0 gd bs := by
  obtain ⟨A, c, rfl⟩ := h.slice
  exact ⟨Nat.zero_le _, A, _, c, rfl, h.1, h.2⟩
theorem wrv_put {w3 : World} {v' : Value} (h : WrV w gd v bs) (hg : w.grownBy w3 v.ownBlock) (hown : w3.ownsRow 0 5 1 v' bs'.length (bs'.map fun b => Value.int .u8 ((b.toNat : Nat) : Int))) (ho : v'.ownBlock = v.ownBlock ∨ ∀ b, v'.ownBlock = some b → w.heap.size ≤ b) :
    w3.cell? ⟨gd, 0, none⟩ = some v ∧ w3.frozen? ⟨gd, 0, none⟩ = false ∧ WrNext gd v bs' w (w3.setCell ⟨gd, 0, none⟩ v') := by
  obtain ⟨k1, k2, k3, k4, -⟩ := own_put (by decide) (Nat.zero_le _) h.1 h.2 hg hown
  exact ⟨k1, k2, v', ⟨k3, k4⟩, (Mod.of_grown hg (fun g e => .inl (.inr e))).set (.inl (.inl rfl)) _, ho⟩
end
theorem WrV.one {w : World} {gd : Nat} {v : Value} {bs : List UInt8} (h : WrV w gd v bs) (hl : bs.length ≤ 35184372088832) (x : UInt8) (xi : Int) (hx : xi = ((x.toNat : Nat) : Int)) :
    ∃ A n c g cap w3, w.cell? ⟨gd, 0, none⟩ = some (.slice A n c) ∧
      Hid ((Builtin.append_ #[55, 55] 55 #[.slice A n c, .slice (some ⟨w.heap.size, 0, none⟩) 1 1]).run Tryz.prog (w.alloc (.cells #[.int .u8 xi] 5)) = .ok (.slice (some ⟨g, 0, none⟩) (n + 1) cap) w3) ∧
      w3.cell? ⟨gd, 0, none⟩ = some (.slice A n c) ∧ w3.frozen? ⟨gd, 0, none⟩ = false ∧ Hid (WrNext gd v (bs ++ [x]) w (w3.setCell ⟨gd, 0, none⟩ (.slice (some ⟨g, 0, none⟩) (n + 1) cap))) := by
  subst hx
  obtain ⟨A, c, rfl⟩ := h.slice
  obtain ⟨i0, hi, hz0, hz1, hz2⟩ := info_parts info_u8
  obtain ⟨g, cap, w3, hap, hown, hg, ho, _⟩ := run_append_one (P := Tryz.prog) w 0 55 55 5 i0 _ 1 Tryz.underlying55 hi hz0 hz1 hz2 rfl _ _ _ h.2 (.int .u8 ((x.toNat : Nat) : Int)) rfl (by unfold maxLen; omega) (by omega) (Nat.zero_le _)
  obtain ⟨k1, k2, k3⟩ := wrv_put (bs' := bs ++ [x]) h hg (by rw [List.map_append, List.length_append]; exact hown) (v' := .slice (some ⟨g, 0, none⟩) (bs.length + 1) cap) (ho.imp (fun e => by simpa [Value.ownBlock] using e) (fun e b eb => by simp [Value.ownBlock] at eb; omega))
  exact ⟨A, _, c, g, cap, w3, by simpa using h.1.cell 0, Lib.hid hap, k1, k2, Lib.hid k3⟩
theorem WrV.more {w : World} {gd : Nat} {v : Value} {bs : List UInt8} (h : WrV w gd v bs) (A' : Option Addr) (m c' : Nat) (xs : List UInt8) (hx : xs.length = m) (hR : Rd w w.heap.size A' m (vByte xs)) (hl : bs.length + m ≤ 70368744177664) :
    ∃ A n c A3 n3 c3 w3, w.cell? ⟨gd, 0, none⟩ = some (.slice A n c) ∧
      Hid ((Builtin.append_ #[55, 55] 55 #[.slice A n c, .slice A' m c']).run Tryz.prog w = .ok (.slice A3 n3 c3) w3) ∧
      w3.cell? ⟨gd, 0, none⟩ = some (.slice A n c) ∧ w3.frozen? ⟨gd, 0, none⟩ = false ∧ Hid (WrNext gd v (bs ++ xs) w (w3.setCell ⟨gd, 0, none⟩ (.slice A3 n3 c3))) := by
  obtain ⟨A, c, rfl⟩ := h.slice
  obtain ⟨i0, hi, hz0, hz1, hz2⟩ := info_parts info_u8
  obtain ⟨v', w3, hap, hown, hg, ho⟩ := run_append_rd (P := Tryz.prog) w 0 55 55 5 i0 _ 1 Tryz.underlying55 hi hz0 hz1 hz2 rfl _ _ _ h.2 w.heap.size A' m c' (vByte xs) hR hR.none_ (fun _ _ => rfl) (by unfold maxLen; omega) (by omega) (Nat.zero_le _)
  have e : (List.range m).map (vByte xs) = xs.map fun b => Value.int .u8 ((b.toNat : Nat) : Int) := by
    subst hx
    refine List.ext_getElem (by simp) fun i h1 h2 => ?_
    have hi : i < xs.length := by simpa using h2
    simp [vByte, hi]
  rw [e, ← hx] at hown
  obtain ⟨A3, c3, rfl⟩ := own_slice hown
  obtain ⟨k1, k2, k3⟩ := wrv_put (bs' := bs ++ xs) h hg (by rw [List.map_append, List.length_append]; exact hown) (ho.imp (fun e => e) (fun e b eb => by rw [e] at eb; injection eb with eb; omega))
  exact ⟨A, _, c, _, _, _, w3, by simpa using h.1.cell 0, Lib.hid hap, k1, k2, Lib.hid k3⟩

set_option maxRecDepth 100000 in
theorem wuintV_any (gd : Nat) (v : Value) (bs : List UInt8) (n : Nat) (ni : Int) (hni : ni = (n : Int)) (w : World) (HW : Hid (WrV w gd v bs)) (hn : n ≤ 18446744073709551615) (hl : bs.length ≤ 17592186044416) :
    Calls Tryz.prog 36 #[.pointer (some ⟨gd, 0, none⟩), .int .u64 ni] w fun e w' => e = .returned (.tuple #[]) ∧ WrNext gd v (bs ++ varint n) w w' := by
  subst hni
  have HV := Lib.hid (varint_len10 hn)
  go_enter Tryz.func36, Tryz.ntmps36
  go_wp2
  go_loopw [1] (fun u wr => ∃ m : Nat, ∃ pre : List UInt8, u = .int .u64 (m : Int) ∧ m ≤ 18446744073709551615 ∧ Hid (pre ++ varint m = bs ++ varint n) ∧ Hid (WrNext gd v pre w wr)) (fun u _ => (intOf u).toNat)
  case atStart => exact ⟨n, bs, rfl, hn, Lib.hid rfl, Lib.hid (WrNext.refl HW.out)⟩
  case round =>
    obtain ⟨m, pre, rfl, hm, HE, HWr⟩ := hrel
    have hpl : pre.length ≤ 35184372088832 := by
      have h1 := congrArg List.length HE.out
      simp only [List.length_append] at h1
      have := HV.out
      omega
    obtain ⟨v1, h1, m1, o1⟩ := HWr.out
    by_cases hge : 128 ≤ m
    · obtain ⟨A, k, c, g, cap, w3, hc, HA, hc3, hf3, HW3⟩ := h1.one hpl (UInt8.ofNat (m % 128 + 128)) (bits BinOp.or IntKind.u8 ((m : Int) % 256) 128) (or128 m)
      have HZ := Lib.hid (WrNext.step h1 m1 o1 HW3.out)
      clear h1 m1 o1 HWr HW3
      go_wp2_with (at_builtin; refine wpList_append_run HA.out rfl rfl rfl rfl ?_)
      exact ⟨⟨m / 128, _, by go_num, by omega, Lib.hid (by rw [← HE.out, varint_ge hge, List.append_assoc]; rfl), HZ⟩, by simp [intOf]; omega⟩
    · obtain ⟨A, k, c, g, cap, w3, hc, HA, hc3, hf3, HW3⟩ := h1.one hpl (UInt8.ofNat m) (m : Int) (by rw [ofNat_toNat (by omega)])
      have HZ := Lib.hid (WrNext.step h1 m1 o1 HW3.out)
      clear h1 m1 o1 HWr HW3
      go_wp2_with (at_builtin; refine wpList_append_run HA.out rfl rfl rfl rfl ?_)
      go_end0
      exact ⟨rfl, by rw [← HE.out, varint_lt (by omega)]; exact HZ.out⟩

set_option maxRecDepth 100000 in
theorem wrawV_any (gd : Nat) (v : Value) (bs xs : List UInt8) (A : Option Addr) (m c : Nat) (w : World) (HW : Hid (WrV w gd v bs)) (HX : Hid (xs.length = m)) (hm : m ≤ 17592186044416) (hR : Rd w w.heap.size A m (vByte xs)) (hF : ∀ b off, A = some ⟨b, off, none⟩ → 0 < m → ¬ WF gd v b) (hl : bs.length ≤ 17592186044416) :
    Calls Tryz.prog 49 #[.pointer (some ⟨gd, 0, none⟩), .slice A m c] w fun e w' => e = .returned (.tuple #[]) ∧ WrNext gd v (bs ++ encRaw xs) w w' := by
  have HV := Lib.hid (varint_len10 (n := m) (by omega))
  have HR := Lib.hid hR
  have HF := Lib.hid hF
  clear hR hF
  go_enter Tryz.func49, Tryz.ntmps49
  go_wp2_with fail
  refine (wuintV_any gd v bs m _ rfl _ HW (by omega) hl).mono ?_
  rintro e w1 ⟨rfl, v1, h1, m1, o1⟩
  obtain ⟨A1, k, c1, A3, n3, c3, w3, hc, HA, hc3, hf3, HW3⟩ := h1.more A m c xs HX.out ((m1.rd HR.out (Nat.le_refl _) HF.out).more m1.size) (by have := HV.out; simp only [List.length_append]; omega)
  have HZ := Lib.hid (WrNext.step h1 m1 o1 HW3.out)
  clear h1 m1 o1 HW3
  go_wp2_with (at_builtin; refine wpList_append_run HA.out rfl rfl rfl rfl ?_)
  go_end0
  exact ⟨rfl, by unfold encRaw; rw [HX.out, ← List.append_assoc]; exact HZ.out⟩
end Go.Proofs.YtgjbbobphfejoaaGreatDoor

/- The documented examples (worldmintlaw02.lives). -/
namespace Go.Proofs.YtgjbbobphfejoaaGreatDoor
open Go.RowKit

theorem Rdr.other {w w' : World} {B gd B1 g1 : Nat} {rest rest1 : List UInt8} {err err1 : Int} (h : Rdr w B gd rest err) (h1 : Rdr w B1 g1 rest1 err1) (hne : gd ≠ g1) (hg : w.grownBy w' (some g1)) : Rdr w' B gd rest err := by
  obtain ⟨k1, k2, A, n, c, p1, p2, p3, p4⟩ := h
  obtain ⟨_, _, A1, n1, c1, q1, _⟩ := h1
  refine ⟨k1, Nat.le_trans k2 hg.size, A, n, c, p1.grown hg (by simpa using hne), p2, p3, fun e => ⟨(p4 e).1, (p4 e).2.1, ?_⟩⟩
  intro hn
  obtain ⟨b, off, e', hb, hc⟩ := (p4 e).2.2 hn
  have hne' : b ≠ g1 := by
    rintro rfl
    have h0 := hc 0 hn
    rw [Nat.add_zero, Blk.cell q1 off] at h0
    rcases off with _ | _ | off <;> simp [vByte] at h0
  exact ⟨b, off, e', hb, fun j hj => (World.cell?_of_block (w := w) (hg.block b (by omega) (by simpa using hne'))).trans (hc j hj)⟩
end Go.Proofs.YtgjbbobphfejoaaGreatDoor

/- Writers and rows beside other memory that turns. -/
namespace Go.Proofs.YtgjbbobphfejoaaGreatDoor
open Go.RowKit

end Go.Proofs.YtgjbbobphfejoaaGreatDoor

/- Values of worldmintref02 in memory; write, encode. -/
namespace Go.Proofs.YtgjbbobphfejoaaGreatDoor
open Go.RowKit

/-- A value (worldmintref02.Val). -/
structure V where
  kind : Int
  u : Nat
  n : Int
  b : List UInt8
  l : List Int
def V0 : V := ⟨0, 0, 0, [], []⟩
end Go.Proofs.YtgjbbobphfejoaaGreatDoor

/- The walk of worldmintlaw02.read. -/
namespace Go.Proofs.YtgjbbobphfejoaaGreatDoor
open Go.RowKit

end Go.Proofs.YtgjbbobphfejoaaGreatDoor

/- The walks of worldmintref02.Same and Vals. -/
namespace Go.Proofs.YtgjbbobphfejoaaGreatDoor
open Go.RowKit

theorem BIn.grown {w w' : World} {s : Sl} {bs : List UInt8} {row : Option Nat} (h : BIn w w.heap.size s bs) (hg : w.grownBy w' row) (hne : ∀ b off, 0 < s.2.1 → s.1 = some ⟨b, off, none⟩ → some b ≠ row) : BIn w' w'.heap.size s bs := by
  refine ⟨h.len, h.cap, h.max, fun hn => ?_⟩
  obtain ⟨b, off, e, hb, hc⟩ := h.rd hn
  exact ⟨b, off, e, Nat.lt_of_lt_of_le hb hg.size, fun j hj => (World.cell?_of_block (w := w) (hg.block b hb (hne b off hn e))).trans (hc j hj)⟩
theorem NIn.grown {w w' : World} {s : Sl} {bs : List Int} {row : Option Nat} (h : NIn w w.heap.size s bs) (hg : w.grownBy w' row) (hne : ∀ b off, 0 < s.2.1 → s.1 = some ⟨b, off, none⟩ → some b ≠ row) : NIn w' w'.heap.size s bs := by
  refine ⟨h.len, h.cap, h.max, fun hn => ?_⟩
  obtain ⟨b, off, e, hb, hc⟩ := h.rd hn
  exact ⟨b, off, e, Nat.lt_of_lt_of_le hb hg.size, fun j hj => (World.cell?_of_block (w := w) (hg.block b hb (hne b off hn e))).trans (hc j hj)⟩
theorem BIn.all {w w' : World} {s : Sl} {bs : List UInt8} (h : BIn w w.heap.size s bs) (hb : Below w.heap.size w w') : BIn w' w'.heap.size s bs := h.grown (only_of_below hb none) (fun _ _ _ _ e => by cases e)
theorem BIn.lt {w : World} {s : Sl} {bs : List UInt8} (h : BIn w w.heap.size s bs) : ∀ b off, 0 < s.2.1 → s.1 = some ⟨b, off, none⟩ → b < w.heap.size := by
  intro b off hn e
  obtain ⟨b', off', e', hb, _⟩ := h.rd hn
  rw [e] at e'; cases e'; exact hb
theorem NIn.lt {w : World} {s : Sl} {bs : List Int} (h : NIn w w.heap.size s bs) : ∀ b off, 0 < s.2.1 → s.1 = some ⟨b, off, none⟩ → b < w.heap.size := by
  intro b off hn e
  obtain ⟨b', off', e', hb, _⟩ := h.rd hn
  rw [e] at e'; cases e'; exact hb
end Go.Proofs.YtgjbbobphfejoaaGreatDoor

/- The walk of worldmintref02.Vals. -/
namespace Go.Proofs.YtgjbbobphfejoaaGreatDoor
open Go.RowKit

end Go.Proofs.YtgjbbobphfejoaaGreatDoor

/- Plain Lean: values that are written and read. -/
namespace Go.Proofs.YtgjbbobphfejoaaGreatDoor
open Go.RowKit

end Go.Proofs.YtgjbbobphfejoaaGreatDoor

/- Several values appended at once. -/
namespace Go.Proofs.YtgjbbobphfejoaaGreatDoor
open Go.RowKit

theorem Rdr.drew {w : World} {B gd : Nat} {rest : List UInt8} {err : Int} (h : Rdr w B gd rest err) : Rdr w.drew B gd rest err := h
end Go.Proofs.YtgjbbobphfejoaaGreatDoor

/- Plain Lean: prefixes of encodings; what is read was written. -/
namespace Go.Proofs.YtgjbbobphfejoaaGreatDoor
open Go.RowKit

end Go.Proofs.YtgjbbobphfejoaaGreatDoor

/- The walks of worldmintref02's encodings. -/
namespace Go.Proofs.YtgjbbobphfejoaaGreatDoor
open Go.RowKit

/-- A row of bytes of the call's own is returned. -/
def RetB (bs : List UInt8) (w : World) (e : Ending) (w' : World) : Prop :=
  ∃ (A : Option Addr) (n c : Nat), e = .returned (.slice A n c) ∧ Hid (bs.length = n) ∧ w'.ownsRow w.heap.size 5 1 (.slice A n c) n (bs.map fun b => Value.int .u8 ((b.toNat : Nat) : Int)) ∧ Below w.heap.size w w'
theorem Wr.drew {w : World} {B gd : Nat} {bs : List UInt8} (h : Wr w B gd bs) : Wr w.drew B gd bs := h
end Go.Proofs.YtgjbbobphfejoaaGreatDoor

/- The walks of hash.mix, worldmintref01.mix, hash.wordsOf and its iterator. -/
namespace Go.Proofs.YtgjbbobphfejoaaGreatDoor
open Go.RowKit Go.Shelf
attribute [local go_sem] Oper.semAt_some

set_option maxHeartbeats 400000 in
theorem mix_any (a b : Int) (w : World) :
    Calls Tryz.prog 151 #[.int .u64 a, .int .u64 b] w fun e w' => e = .returned (.int .u64 (mixI a b)) ∧ w = w' := by
  go_enter Tryz.func151, Tryz.ntmps151
  go_wp2
  go_ret
  exact ⟨rfl, rfl⟩


set_option maxHeartbeats 400000 in
theorem wordsOf_in (F : Fence) (n : Nat) (h25 : F.fn 79) (hro : F.round = none) (A : Option Addr) (len cap : Nat) (w : World) :
    CallsIn F n Tryz.prog 79 #[.slice A len cap] w fun e w' => e = .returned (.func (.func 150) #[] #[.pointer (some ⟨w.heap.size, 0, none⟩)]) ∧ w.alloc (.cells #[.slice A len cap] 55) = w' := by
  refine callsIn_of_wp Tryz.func79 rfl h25 ?_ hro
  simp only [Tryz.ntmps79, List.size_toArray, List.length_cons, List.length_nil, Nat.reduceAdd, Nat.reduceSub, Array.replicate_succ, Array.replicate_zero, List.push_toArray, List.append_toArray, List.nil_append, List.cons_append]
  gi_wp2
  go_ret
  exact ⟨rfl, rfl⟩

/-- The blocks that the iterator reads. -/
def WordsKept (A : Option Addr) (len Bs : Nat) (k : Nat) : Prop := k = Bs ∨ (0 < len ∧ ∃ ad, A = some ad ∧ k = ad.block)

set_option maxRecDepth 100000 in
set_option maxHeartbeats 1000000 in
theorem words1_in (F : Fence) (n : Nat) (h28 : F.fn 150) (hro : F.round = none) (hn : 1 ≤ n) (l Bs B len cap : Nat) (A : Option Addr) (bs : List UInt8) (HL : Hid (bs.length = len)) (hlc : len ≤ cap) (hmax : len ≤ 140737488351232)
    (J Jx : List Int → World → Prop)
    (hY : Hid (∀ pre x W, J pre W → pre.length < nwords bs → YieldAt F (n - 1) Tryz.prog l #[.int .u64 x] W fun e W' =>
      (e = .returned (.bool true) ∧ J (pre ++ [x]) W' ∧ Keeps (WordsKept A len Bs) W W') ∨ (e = .returned (.bool false) ∧ Jx (pre ++ [x]) W')))
    (W : World) (HB : Hid (W.cell? ⟨Bs, 0, none⟩ = some (.slice A len cap))) (hR : Rd W B A len (vByte bs)) (h0 : J [] W) :
    CallsIn F n Tryz.prog 150 #[.func (.yield l) #[] #[], .pointer (some ⟨Bs, 0, none⟩)] W fun e W' => (∃ v, e = .returned v) ∧
      ((∃ ys, ys = wordsI bs ∧ J ys W') ∨ (∃ pre, True ∧ Jx pre W')) := by
  refine callsIn_of_wp Tryz.func150 rfl h28 ?_ hro
  simp only [Tryz.ntmps150, List.size_toArray, List.length_cons, List.length_nil, Nat.reduceAdd, Nat.reduceSub, Array.replicate_succ, Array.replicate_zero, List.push_toArray, List.append_toArray, List.nil_append, List.cons_append]
  gi_wp2
  gi_loopw [3] (fun v wr => ∃ k s : Nat, Hid (s = 8 * k) ∧ s < len + 8 ∧ v = .int .i64 (s : Int) ∧ J (wordsTo bs k) wr ∧ Keeps (WordsKept A len Bs) W wr)
    (fun v _ => len + 8 - (intOf v).toNat)
  case atStart => exact ⟨0, 0, rfl, by omega, rfl, h0, Keeps.refl _ _⟩
  case round =>
    obtain ⟨k, s, hs, hk, rfl, hJs, hnx⟩ := hrel
    have hBs : wr.cell? ⟨Bs, 0, none⟩ = some (.slice A len cap) := (hnx.cell (p := ⟨Bs, 0, none⟩) (.inl rfl)).trans HB.out
    by_cases hlt : s < len
    · obtain ⟨b, off, rfl, hb, hc0⟩ := hR (by omega)
      have Hc : Hid (∀ j, j < (group bs k).length → wr.cell? ⟨b, off + s + j, none⟩ = some (.int .u8 (((group bs k)[j]?.getD 0).toNat : Nat))) := by
        intro j hj
        rw [group_length] at hj
        rw [hnx.cell (p := ⟨b, off + s + j, none⟩) (.inr ⟨by omega, _, rfl, rfl⟩), Nat.add_assoc, hc0 (s + j) (by have := HL.out; have := hs.out; omega)]
        simp only [vByte, group, hs.out, List.getElem?_take, List.getElem?_drop]
        rw [if_pos (by omega)]
      have Hl : Hid ((group bs k).length = min 8 (len - s)) := by show _ = _; rw [group_length, HL.out, hs.out]
      clear hc0
      by_cases h8 : s + 8 ≤ len
      · gi_wp2
        gi_loop [4, 22] (fun v i => ∃ j : Nat, j ≤ 8 ∧ i = .int .i64 (j : Int) ∧ v = .int .u64 ((wordN ((group bs k).take j) : Nat) : Int))
          (fun _ i => 8 - (intOf i).toNat)
        case atStart => exact ⟨0, by omega, rfl, by simp [wordN]⟩
        case round =>
          obtain ⟨j, hj, rfl, rfl⟩ := hrel
          by_cases hj8 : j < 8
          · have hcj := Hc.out j (by have := Hl.out; omega)
            have HS := Lib.hid (word_step (group bs k) j (by omega) (by have := Hl.out; omega))
            gi_wp2
            exact ⟨⟨j + 1, by omega, by go_num, congrArg (Value.int .u64) HS.out⟩, by simp [intOf]; omega⟩
          · obtain rfl : j = 8 := by omega
            obtain ⟨fn, tmps, assign, body, hy, hR3⟩ := hY.out _ ((wordN ((group bs k).take (8)) : Nat) : Int) wr hJs (by rw [wordsTo_length]; unfold nwords; have := HL.out; have := hs.out; omega)
            gi_wp2
            refine hR3.mono ?_
            rintro e W3 (⟨rfl, hJ3, hk3⟩ | ⟨rfl, hJx3⟩)
            · gi_wp2
              exact ⟨⟨k + 1, s + 8, by show _ = _; rw [hs.out]; omega, by omega, by go_num, by rw [wordsTo_succ]; rw [group_take _ _ _ (by have := Hl.out; omega)] at hJ3; exact hJ3, hnx.trans hk3⟩, by simp [intOf]; omega⟩
            · gi_wp2
              refine bodyPost_ret (results_none rfl _ _ _) rfl ?_
              exact ⟨⟨_, rfl⟩, .inr ⟨_, trivial, hJx3⟩⟩
      · gi_wp2
        gi_loop [4, 22] (fun v i => ∃ j : Nat, j ≤ len - s ∧ i = .int .i64 (j : Int) ∧ v = .int .u64 ((wordN ((group bs k).take j) : Nat) : Int))
          (fun _ i => len - s - (intOf i).toNat)
        case atStart => exact ⟨0, by omega, rfl, by simp [wordN]⟩
        case round =>
          obtain ⟨j, hj, rfl, rfl⟩ := hrel
          by_cases hj8 : j < len - s
          · have hcj := Hc.out j (by have := Hl.out; omega)
            have HS := Lib.hid (word_step (group bs k) j (by omega) (by have := Hl.out; omega))
            gi_wp2
            exact ⟨⟨j + 1, by omega, by go_num, congrArg (Value.int .u64) HS.out⟩, by simp [intOf]; omega⟩
          · obtain rfl : j = len - s := by omega
            obtain ⟨fn, tmps, assign, body, hy, hR3⟩ := hY.out _ ((wordN ((group bs k).take (len - s)) : Nat) : Int) wr hJs (by rw [wordsTo_length]; unfold nwords; have := HL.out; have := hs.out; omega)
            gi_wp2
            refine hR3.mono ?_
            rintro e W3 (⟨rfl, hJ3, hk3⟩ | ⟨rfl, hJx3⟩)
            · gi_wp2
              exact ⟨⟨k + 1, s + 8, by show _ = _; rw [hs.out]; omega, by omega, by go_num, by rw [wordsTo_succ]; rw [group_take _ _ _ (by have := Hl.out; omega)] at hJ3; exact hJ3, hnx.trans hk3⟩, by simp [intOf]; omega⟩
            · gi_wp2
              refine bodyPost_ret (results_none rfl _ _ _) rfl ?_
              exact ⟨⟨_, rfl⟩, .inr ⟨_, trivial, hJx3⟩⟩
    · gi_wp2
      go_end0
      exact ⟨⟨_, rfl⟩, .inl ⟨_, by unfold wordsI nwords; congr 1; have := HL.out; have := hs.out; omega, hJs⟩⟩

theorem words_stops (F : Fence) (n : Nat) (h28 : F.fn 150) (hro : F.round = none) (hn : 1 ≤ n) (Bs B len cap : Nat) (A : Option Addr) (bs : List UInt8) (hl : bs.length = len) (hlc : len ≤ cap) (hmax : len ≤ 140737488351232)
    (w : World) (hBs : Bs < w.heap.size) (hB : B ≤ w.heap.size) (hc : w.cell? ⟨Bs, 0, none⟩ = some (.slice A len cap)) (hR : Rd w B A len (vByte bs)) :
    SeqStopsK F n Tryz.prog 150 #[.pointer (some ⟨Bs, 0, none⟩)] (fun x : Int => #[Value.int .u64 x]) (Keeps (WordsKept A len Bs)) (fun ys => ys = wordsI bs) (fun _ => True) (nwords bs) w := fun l J Jx W hW _ _ hY h0 =>
  words1_in F n h28 hro hn l Bs B len cap A bs hl hlc hmax J Jx hY W ((hW.cell (p := ⟨Bs, 0, none⟩) hBs).trans hc) (hR.below hW hB) h0

end Go.Proofs.YtgjbbobphfejoaaGreatDoor

/- The walk of hash.Sum. -/
namespace Go.Proofs.YtgjbbobphfejoaaGreatDoor
open Go.RowKit Go.Shelf
attribute [local go_sem] Oper.semAt_some

set_option maxRecDepth 100000 in
set_option maxHeartbeats 1000000 in
theorem hsum_any (label : ByteArray) (A : Option Addr) (len cap B : Nat) (ws : List Int) (w : World) (HL : Hid (ws.length = len)) (hlab : label.size ≤ 140737488351232) (hmax : len ≤ 140737488351232)
    (hB : B ≤ w.heap.size) (hR : Rd w B A len (vInt ws)) :
    Calls Tryz.prog 80 #[.string label, .slice A len cap] w fun e w' => e = .returned (.int .u64 (sumI label.data.toList ws)) ∧ Below w.heap.size w w' := by
  obtain ⟨c1, w1, hconv, hc1, hz1, hb1, hr1⟩ := conv_bytes (P := Tryz.prog) (w.alloc (.cells #[.int .u64 0] 105)) 9 55 5 label Tryz.underlying9 Tryz.underlying55 Tryz.underlying5
  rw [World.size_alloc] at hconv hz1 hb1 hr1
  have HZ := Lib.hid hz1; clear hz1
  refine (callsIn_wide (n := 5)).1 ?_
  refine callsIn_of_wp_marks Tryz.func80 rfl trivial ?_ rfl
  simp only [Tryz.ntmps80, List.size_toArray, List.length_cons, List.length_nil, Nat.reduceAdd, Nat.reduceSub, Array.replicate_succ, Array.replicate_zero, List.push_toArray, List.append_toArray, List.nil_append, List.cons_append]
  gi_wp2_with (refine ⟨trivial, ?_⟩; gi_at_call 79; refine (wordsOf_in Fence.wide _ trivial rfl _ _ _ _).mono ?_; rintro e w' ⟨rfl, rfl⟩)
  have bS1 : Boxed w1 w.heap.size 105 (.int .u64 0) := (hb1.block _ (by omega)).trans (Boxed.new w 105 (.int .u64 0))
  have bN := Boxed.new w1 55 (.slice (some ⟨w.heap.size + 1, 0, none⟩) label.size c1)
  have hB1 : Below w.heap.size w w1 := ((Below.refl _ w).alloc (Nat.le_refl _) (.cells #[.int .u64 0] 105)).trans (hb1.mono (by omega))
  have hB2 := hB1.alloc (by have := HZ.out; omega) (.cells #[.slice (some ⟨w.heap.size + 1, 0, none⟩) label.size c1] 55)
  refine wpIn_rangeFunc_ownG rfl (by decide) (gf := 150) (lb := #[.pointer (some ⟨w1.heap.size, 0, none⟩)]) rfl trivial (enters_of Tryz.func150 (by kernel_rfl) rfl)
    (words_stops Fence.wide _ trivial rfl (by decide) w1.heap.size (w.heap.size + 1 + 1) label.size c1 _ label.data.toList (by simp) hc1 hlab _ (by simp) (by have := HZ.out; simp; omega) bN.cell (hr1.alloc (by have := HZ.out; omega) _))
    (fun h k => h.trans k) ?hKb (Below.refl _ _) (fun _ => rfl)
    (fun pre W => Boxed W w.heap.size 105 (.int .u64 (mixAll 0 pre)) ∧ Below w.heap.size w W)
    (fun _ _ _ => False)
    (OwnFrom.and (Own.from (boxed_own _ _ _) _) (ownFrom_below (Nat.le_refl _) (by have := HZ.out; simp; omega)))
    (fun _ _ _ _ _ hs _ _ => hs)
    ⟨bS1.alloc _, hB2⟩
    (fun x => { tmps := #[.string label, .slice A len cap, undef, undef, .int .u64 0, .pointer (some ⟨w.heap.size, 0, none⟩), .int .u64 x, undef, undef, .string label, .slice (some ⟨w.heap.size + 1, 0, none⟩) label.size c1, .func (.func 150) #[] #[.pointer (some ⟨w1.heap.size, 0, none⟩)], .int .u64 x, undef, undef, undef, undef, undef, undef, undef, undef, undef, undef, undef, undef, undef, undef, undef, undef, undef, undef, undef, undef, undef, undef, undef, undef, undef, undef], defers := [] }) ?assign ?body ?done ?stop
  case hKb =>
    intro W l o o' hl hW _ _ k hk
    have hz := HZ.out
    rw [World.size_alloc] at hl
    refine World.putObj_heap_other ?_
    rcases hk with rfl | ⟨_, ad, h, rfl⟩
    · omega
    · injection h with h; subst h; simp; omega
  case assign =>
    intro l x W K hK
    gi_wp2
    exact hK
  case body =>
    rintro l pre x W ⟨hS, hB'⟩ _
    have hc := hS.cell
    have hf := hS.frozen
    gi_wp2_with (refine ⟨trivial, ?_⟩; gi_at_call 151; refine (CallsIn.inRound l (callsIn_wide.2 (mix_any _ _ _))).mono ?_; rintro e w' ⟨rfl, rfl⟩)
    refine ⟨(KeepsOthers.setCell _ _ _).from _, fun k hk => Below.heap_setCell _ _ _ _ ?_, by rw [mixAll_snoc]; exact hS.set _, hB'.setCell (p := ⟨w.heap.size, 0, none⟩) (Nat.le_refl _) _⟩
    have hz := HZ.out
    rcases hk with rfl | ⟨_, ad, h, rfl⟩
    · simp; omega
    · injection h with h; subst h; simp
  case done =>
    rintro D ys W hD rfl ⟨hS, hB'⟩ hK
    have hc := hS.cell
    have hf := hS.frozen
    gi_wp2_with (refine ⟨trivial, ?_⟩; gi_at_call 151; refine (callsIn_wide.2 (mix_any _ _ _)).mono ?_; rintro e w' ⟨rfl, rfl⟩)
    gi_loopw [8, 28] (fun _ i wr => ∃ j : Nat, j ≤ len ∧ i = .int .i64 (j : Int) ∧ Boxed wr w.heap.size 105 (.int .u64 (sumTo label.data.toList len ws j)) ∧ Below w.heap.size w wr ∧ Hid (wr.heap[D]? = some (.deferred (some []))))
      (fun _ i _ => len - (intOf i).toNat)
    case atStart =>
      exact ⟨0, by omega, rfl, by rw [sumTo_zero]; exact (hS.set _).set _, (hB'.setCell (p := ⟨w.heap.size, 0, none⟩) (Nat.le_refl _) _).setCell (p := ⟨w.heap.size, 0, none⟩) (Nat.le_refl _) _, (KeepsOthers.setCell _ _ _).same D _ ((KeepsOthers.setCell _ _ _).same D _ hK rfl) rfl⟩
    case round =>
      obtain ⟨j, hj, rfl, hS3, hB3, hK3⟩ := hrel
      have hc3 := hS3.cell
      have hf3 := hS3.frozen
      by_cases hlt : j < len
      · obtain ⟨b, off, rfl, hb, hcl⟩ := (hR.below hB3 hB).at_ hlt
        have hcl' : wr.cell? ⟨b, off + j, none⟩ = some (.int .i64 (ws[j]?.getD 0)) := hcl
        have HT := Lib.hid (sumTo_succ label.data.toList len ws j (by have := HL.out; omega))
        clear hcl
        gi_wp2_with (refine ⟨trivial, ?_⟩; gi_at_call 151; refine (callsIn_wide.2 (mix_any _ _ _)).mono ?_; rintro e w' ⟨rfl, rfl⟩)
        exact ⟨⟨j + 1, by omega, by go_num, by rw [HT.out]; exact hS3.set _, hB3.setCell (p := ⟨w.heap.size, 0, none⟩) (Nat.le_refl _) _, (KeepsOthers.setCell _ _ _).same D _ hK3.out rfl⟩, by simp [intOf]; omega⟩
      · obtain rfl : j = len := by omega
        gi_wp2_with (refine ⟨trivial, ?_⟩; gi_at_call 151; refine (callsIn_wide.2 (mix_any _ _ _)).mono ?_; rintro e w' ⟨rfl, rfl⟩)
        refine ⟨by simp, .inl ⟨_, _, rfl, run_takeDeferred hK3.out, ?_⟩⟩
        refine ⟨_, results_tmp rfl _ _ _, ?_, hB3.trans (belowK_b (w := w) (Nat.le_refl _) wr D _ _ (by have := HZ.out; simp at hD; omega) hK3.out rfl rfl)⟩
        rw [← sumTo_all _ _ _ HL.out]
        rfl
  case stop =>
    rintro D c pre W _ _ h _
    exact h.elim

end Go.Proofs.YtgjbbobphfejoaaGreatDoor
