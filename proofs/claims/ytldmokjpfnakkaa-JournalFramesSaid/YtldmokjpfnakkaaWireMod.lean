/- wire's Writer known by its own blocks: contracts that say which blocks turn. -/
import Derived.Test.YtldmokjpfnakkaaWireWriter
import Derived.Test.YtldmokjpfnakkaaFrame
namespace Go.Proofs.Ytldmokjpfnakkaa
open Go.RowKit

/-- A Writer at block gd whose slice is v, with the bytes bs. -/
def WrV (w : World) (gd : Nat) (v : Value) (bs : List UInt8) : Prop :=
  Blk w gd 37 #[v] ∧ w.ownsRow 0 5 1 v bs.length (bs.map fun b => Value.int .u8 ((b.toNat : Nat) : Int))
def WF (gd : Nat) (v : Value) (b : Nat) : Prop := b = gd ∨ v.ownBlock = some b
def WrNext (gd : Nat) (v : Value) (bs : List UInt8) (w w' : World) : Prop :=
  ∃ v', WrV w' gd v' bs ∧ Mod (WF gd v) w w' ∧ (v'.ownBlock = v.ownBlock ∨ ∀ b, v'.ownBlock = some b → w.heap.size ≤ b)
section
variable {w w' w'' : World} {gd : Nat} {v : Value} {bs bs' : List UInt8} {F : Nat → Prop}
theorem WrV.new (w : World) : WrV (w.alloc (.cells #[.slice none 0 0] 37)) w.heap.size (.slice none 0 0) [] := ⟨Blk.new _ _ _, World.ownsRow_nil _ _ _ _⟩
theorem WrV.mod (h : WrV w gd v bs) (m : Mod F w w') (hF : ∀ b, WF gd v b → ¬ F b) : WrV w' gd v bs := ⟨m.blk h.1 (hF _ (.inl rfl)), m.own h.2 (fun g e => hF g (.inr e))⟩
theorem WrV.all (h : WrV w gd v bs) (hb : Below w.heap.size w w') : WrV w' gd v bs := h.mod (F := fun _ => False) (Mod.of_below _ hb) (fun _ _ hf => hf)
theorem WrV.lt (h : WrV w gd v bs) : ∀ b, WF gd v b → b < w.heap.size := by
  rintro b (rfl | e)
  · exact h.1.lt
  · exact (h.2.lt b e).2
theorem WrV.slice (h : WrV w gd v bs) : ∃ A c, v = .slice A bs.length c := own_slice h.2
theorem WrNext.refl (h : WrV w gd v bs) : WrNext gd v bs w w := ⟨v, h, Mod.refl _ _, .inl rfl⟩
theorem WrNext.trans (h : WrNext gd v bs w w') (k : ∀ v', WrV w' gd v' bs → WrNext gd v' bs' w' w'') : WrNext gd v bs' w w'' := by
  obtain ⟨v1, h1, m1, o1⟩ := h
  obtain ⟨v2, h2, m2, o2⟩ := k v1 h1
  refine ⟨v2, h2, m1.trans m2 ?_, ?_⟩
  · rintro b (rfl | e)
    · exact .inl (.inl rfl)
    · rcases o1 with o | o
      · exact .inl (.inr (by rw [← o]; exact e))
      · exact .inr (o b e)
  · rcases o2 with o | o
    · rw [o]; exact o1
    · exact .inr (fun b e => Nat.le_trans m1.size (o b e))
theorem WrNext.step {v1 : Value} (h : WrV w' gd v1 bs) (m1 : Mod (WF gd v) w w') (o1 : v1.ownBlock = v.ownBlock ∨ ∀ b, v1.ownBlock = some b → w.heap.size ≤ b) (k : WrNext gd v1 bs' w' w'') : WrNext gd v bs' w w'' := by
  obtain ⟨v2, h2, m2, o2⟩ := k
  refine ⟨v2, h2, m1.trans m2 ?_, ?_⟩
  · rintro b (rfl | e)
    · exact .inl (.inl rfl)
    · rcases o1 with o | o
      · exact .inl (.inr (by rw [← o]; exact e))
      · exact .inr (o b e)
  · rcases o2 with o | o
    · rw [o]; exact o1
    · exact .inr (fun b e => Nat.le_trans m1.size (o b e))
theorem WrV.wr (h : WrV w gd v bs) : Wr w 0 gd bs := by
  obtain ⟨A, c, rfl⟩ := h.slice
  exact ⟨Nat.zero_le _, A, _, c, rfl, h.1, h.2⟩
theorem wrv_put {w3 : World} {v' : Value} (h : WrV w gd v bs) (hg : w.grownBy w3 v.ownBlock) (hown : w3.ownsRow 0 5 1 v' bs'.length (bs'.map fun b => Value.int .u8 ((b.toNat : Nat) : Int))) (ho : v'.ownBlock = v.ownBlock ∨ ∀ b, v'.ownBlock = some b → w.heap.size ≤ b) :
    w3.cell? ⟨gd, 0, none⟩ = some v ∧ w3.frozen? ⟨gd, 0, none⟩ = false ∧ WrNext gd v bs' w (w3.setCell ⟨gd, 0, none⟩ v') := by
  obtain ⟨k1, k2, k3, k4, -⟩ := own_put (by decide) (Nat.zero_le _) h.1 h.2 hg hown
  exact ⟨k1, k2, v', ⟨k3, k4⟩, (Mod.of_grown hg (fun g e => .inl (.inr e))).set (.inl (.inl rfl)) _, ho⟩
end
theorem WrV.one {w : World} {gd : Nat} {v : Value} {bs : List UInt8} (h : WrV w gd v bs) (hl : bs.length ≤ 35184372088832) (x : UInt8) (xi : Int) (hx : xi = ((x.toNat : Nat) : Int)) :
    ∃ A n c g cap w3, w.cell? ⟨gd, 0, none⟩ = some (.slice A n c) ∧
      Hid ((Builtin.append_ #[23, 23] 23 #[.slice A n c, .slice (some ⟨w.heap.size, 0, none⟩) 1 1]).run Try.prog (w.alloc (.cells #[.int .u8 xi] 5)) = .ok (.slice (some ⟨g, 0, none⟩) (n + 1) cap) w3) ∧
      w3.cell? ⟨gd, 0, none⟩ = some (.slice A n c) ∧ w3.frozen? ⟨gd, 0, none⟩ = false ∧ Hid (WrNext gd v (bs ++ [x]) w (w3.setCell ⟨gd, 0, none⟩ (.slice (some ⟨g, 0, none⟩) (n + 1) cap))) := by
  subst hx
  obtain ⟨A, c, rfl⟩ := h.slice
  obtain ⟨i0, hi, hz0, hz1, hz2⟩ := info_parts info_u8
  obtain ⟨g, cap, w3, hap, hown, hg, ho, _⟩ := run_append_one (P := Try.prog) w 0 23 23 5 i0 _ 1 Try.underlying23 hi hz0 hz1 hz2 rfl _ _ _ h.2 (.int .u8 ((x.toNat : Nat) : Int)) rfl (by unfold maxLen; omega) (by omega) (Nat.zero_le _)
  obtain ⟨k1, k2, k3⟩ := wrv_put (bs' := bs ++ [x]) h hg (by rw [List.map_append, List.length_append]; exact hown) (v' := .slice (some ⟨g, 0, none⟩) (bs.length + 1) cap) (ho.imp (fun e => by simpa [Value.ownBlock] using e) (fun e b eb => by simp [Value.ownBlock] at eb; omega))
  exact ⟨A, _, c, g, cap, w3, by simpa using h.1.cell 0, Lib.hid hap, k1, k2, Lib.hid k3⟩
theorem WrV.more {w : World} {gd : Nat} {v : Value} {bs : List UInt8} (h : WrV w gd v bs) (A' : Option Addr) (m c' : Nat) (xs : List UInt8) (hx : xs.length = m) (hR : Rd w w.heap.size A' m (vByte xs)) (hl : bs.length + m ≤ 70368744177664) :
    ∃ A n c A3 n3 c3 w3, w.cell? ⟨gd, 0, none⟩ = some (.slice A n c) ∧
      Hid ((Builtin.append_ #[23, 23] 23 #[.slice A n c, .slice A' m c']).run Try.prog w = .ok (.slice A3 n3 c3) w3) ∧
      w3.cell? ⟨gd, 0, none⟩ = some (.slice A n c) ∧ w3.frozen? ⟨gd, 0, none⟩ = false ∧ Hid (WrNext gd v (bs ++ xs) w (w3.setCell ⟨gd, 0, none⟩ (.slice A3 n3 c3))) := by
  obtain ⟨A, c, rfl⟩ := h.slice
  obtain ⟨i0, hi, hz0, hz1, hz2⟩ := info_parts info_u8
  obtain ⟨v', w3, hap, hown, hg, ho⟩ := run_append_rd (P := Try.prog) w 0 23 23 5 i0 _ 1 Try.underlying23 hi hz0 hz1 hz2 rfl _ _ _ h.2 w.heap.size A' m c' (vByte xs) hR hR.none_ (fun _ _ => rfl) (by unfold maxLen; omega) (by omega) (Nat.zero_le _)
  have e : (List.range m).map (vByte xs) = xs.map fun b => Value.int .u8 ((b.toNat : Nat) : Int) := by
    subst hx
    refine List.ext_getElem (by simp) fun i h1 h2 => ?_
    have hi : i < xs.length := by simpa using h2
    simp [vByte, hi]
  rw [e, ← hx] at hown
  obtain ⟨A3, c3, rfl⟩ := own_slice hown
  obtain ⟨k1, k2, k3⟩ := wrv_put (bs' := bs ++ xs) h hg (by rw [List.map_append, List.length_append]; exact hown) (ho.imp (fun e => e) (fun e b eb => by rw [e] at eb; injection eb with eb; omega))
  exact ⟨A, _, c, _, _, _, w3, by simpa using h.1.cell 0, Lib.hid hap, k1, k2, Lib.hid k3⟩

set_option maxRecDepth 100000 in
theorem wuintV_any (gd : Nat) (v : Value) (bs : List UInt8) (n : Nat) (ni : Int) (hni : ni = (n : Int)) (w : World) (HW : Hid (WrV w gd v bs)) (hn : n ≤ 18446744073709551615) (hl : bs.length ≤ 17592186044416) :
    Calls Try.prog 23 #[.pointer (some ⟨gd, 0, none⟩), .int .u64 ni] w fun e w' => e = .returned (.tuple #[]) ∧ WrNext gd v (bs ++ varint n) w w' := by
  subst hni
  have HV := Lib.hid (varint_len10 hn)
  go_enter Try.func23, Try.ntmps23
  go_wp2
  go_loopw [1] (fun u wr => ∃ m : Nat, ∃ pre : List UInt8, u = .int .u64 (m : Int) ∧ m ≤ 18446744073709551615 ∧ Hid (pre ++ varint m = bs ++ varint n) ∧ Hid (WrNext gd v pre w wr)) (fun u _ => (intOf u).toNat)
  case atStart => exact ⟨n, bs, rfl, hn, Lib.hid rfl, Lib.hid (WrNext.refl HW.out)⟩
  case round =>
    obtain ⟨m, pre, rfl, hm, HE, HWr⟩ := hrel
    have hpl : pre.length ≤ 35184372088832 := by
      have h1 := congrArg List.length HE.out
      simp only [List.length_append] at h1
      have := HV.out
      omega
    obtain ⟨v1, h1, m1, o1⟩ := HWr.out
    by_cases hge : 128 ≤ m
    · obtain ⟨A, k, c, g, cap, w3, hc, HA, hc3, hf3, HW3⟩ := h1.one hpl (UInt8.ofNat (m % 128 + 128)) (bits BinOp.or IntKind.u8 ((m : Int) % 256) 128) (or128 m)
      have HZ := Lib.hid (WrNext.step h1 m1 o1 HW3.out)
      clear h1 m1 o1 HWr HW3
      go_wp2_with (at_builtin; refine wpList_append_run HA.out rfl rfl rfl rfl ?_)
      exact ⟨⟨m / 128, _, by go_num, by omega, Lib.hid (by rw [← HE.out, varint_ge hge, List.append_assoc]; rfl), HZ⟩, by simp [intOf]; omega⟩
    · obtain ⟨A, k, c, g, cap, w3, hc, HA, hc3, hf3, HW3⟩ := h1.one hpl (UInt8.ofNat m) (m : Int) (by rw [ofNat_toNat (by omega)])
      have HZ := Lib.hid (WrNext.step h1 m1 o1 HW3.out)
      clear h1 m1 o1 HWr HW3
      go_wp2_with (at_builtin; refine wpList_append_run HA.out rfl rfl rfl rfl ?_)
      go_end0
      exact ⟨rfl, by rw [← HE.out, varint_lt (by omega)]; exact HZ.out⟩

set_option maxRecDepth 100000 in
theorem wrawV_any (gd : Nat) (v : Value) (bs xs : List UInt8) (A : Option Addr) (m c : Nat) (w : World) (HW : Hid (WrV w gd v bs)) (HX : Hid (xs.length = m)) (hm : m ≤ 17592186044416) (hR : Rd w w.heap.size A m (vByte xs)) (hF : ∀ b off, A = some ⟨b, off, none⟩ → 0 < m → ¬ WF gd v b) (hl : bs.length ≤ 17592186044416) :
    Calls Try.prog 21 #[.pointer (some ⟨gd, 0, none⟩), .slice A m c] w fun e w' => e = .returned (.tuple #[]) ∧ WrNext gd v (bs ++ encRaw xs) w w' := by
  have HV := Lib.hid (varint_len10 (n := m) (by omega))
  have HR := Lib.hid hR
  have HF := Lib.hid hF
  clear hR hF
  go_enter Try.func21, Try.ntmps21
  go_wp2_with fail
  refine (wuintV_any gd v bs m _ rfl _ HW (by omega) hl).mono ?_
  rintro e w1 ⟨rfl, v1, h1, m1, o1⟩
  obtain ⟨A1, k, c1, A3, n3, c3, w3, hc, HA, hc3, hf3, HW3⟩ := h1.more A m c xs HX.out ((m1.rd HR.out (Nat.le_refl _) HF.out).more m1.size) (by have := HV.out; simp only [List.length_append]; omega)
  have HZ := Lib.hid (WrNext.step h1 m1 o1 HW3.out)
  clear h1 m1 o1 HW3
  go_wp2_with (at_builtin; refine wpList_append_run HA.out rfl rfl rfl rfl ?_)
  go_end0
  exact ⟨rfl, by unfold encRaw; rw [HX.out, ← List.append_assoc]; exact HZ.out⟩
end Go.Proofs.Ytldmokjpfnakkaa
