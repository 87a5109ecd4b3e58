/- The documented examples (worldmintlaw02.lives). -/
import Derived.Test.YtahajgmmoefpjaaWireReader2
import Derived.Test.YtahajgmmoefpjaaRefHelp
namespace Go.Proofs.Ytahajgmmoefpjaa
open Go.RowKit

theorem varint_300 : varint 300 = [172, 2] := by rw [varint_ge (by decide), varint_lt (by decide)]; rfl
theorem encInt_m1 : encInt (-1) = [1] := by unfold encInt; rw [varint_lt (by decide)]; rfl
theorem encRaw_ab : encRaw [97, 98] = [2, 97, 98] := by unfold encRaw; rw [varint_lt (by decide)]; rfl
theorem Rdr.other {w w' : World} {B gd B1 g1 : Nat} {rest rest1 : List UInt8} {err err1 : Int} (h : Rdr w B gd rest err) (h1 : Rdr w B1 g1 rest1 err1) (hne : gd ≠ g1) (hg : w.grownBy w' (some g1)) : Rdr w' B gd rest err := by
  obtain ⟨k1, k2, A, n, c, p1, p2, p3, p4⟩ := h
  obtain ⟨_, _, A1, n1, c1, q1, _⟩ := h1
  refine ⟨k1, Nat.le_trans k2 hg.size, A, n, c, p1.grown hg (by simpa using hne), p2, p3, fun e => ⟨(p4 e).1, (p4 e).2.1, ?_⟩⟩
  intro hn
  obtain ⟨b, off, e', hb, hc⟩ := (p4 e).2.2 hn
  have hne' : b ≠ g1 := by
    rintro rfl
    have h0 := hc 0 hn
    rw [Nat.add_zero, Blk.cell q1 off] at h0
    rcases off with _ | _ | off <;> simp [vByte] at h0
  exact ⟨b, off, e', hb, fun j hj => (World.cell?_of_block (w := w) (hg.block b (by omega) (by simpa using hne'))).trans (hc j hj)⟩
theorem rd_litb (W : World) (t : TypeId) (cs : List UInt8) (m : Nat) (hm : cs.length = m) (vs : Array Value) (hv : vs = (cs.map fun b => Value.int .u8 ((b.toNat : Nat) : Int)).toArray) : Rd (W.alloc (.cells vs t)) (W.heap.size + 1) (some ⟨W.heap.size, 0, none⟩) m (vByte cs) := by
  subst hv hm
  exact fun _ => ⟨_, _, rfl, by omega, fun j hj => by
    rw [Nat.zero_add, Blk.cell (Blk.new W t _) j]
    simp [vByte, hj]⟩

set_option maxRecDepth 100000 in
set_option maxHeartbeats 1000000 in
theorem lives2_any (w : World) : Calls Try.prog 17 #[] w fun e w' => e = .returned (.bool true) ∧ Below w.heap.size w w' := by
  have hb0 : Below w.heap.size w (w.alloc (.cells #[.slice none 0 0] 26)) := (Below.refl _ w).alloc (Nat.le_refl _) _
  have HW0 := Lib.hid (Wr.new w)
  go_enter Try.func17, Try.ntmps17
  go_wp2_with fail
  refine (wuint_any w.heap.size w.heap.size [] 300 _ rfl _ HW0 (by decide) (by decide)).mono ?_
  rintro e w1 ⟨rfl, hW, hb1⟩
  rw [varint_300, List.nil_append] at hW
  replace HW0 := Lib.hid hW
  replace hb0 := hb0.trans hb1
  clear hW hb1
  go_wp2_with fail
  refine (wint_any w.heap.size w.heap.size _ (-1) _ HW0 (by decide) (by decide) (by decide)).mono ?_
  rintro e w2 ⟨rfl, hW, hb1⟩
  simp only [encInt_m1, List.cons_append, List.nil_append] at hW
  replace HW0 := Lib.hid hW
  replace hb0 := hb0.trans hb1
  clear hW hb1
  go_wp2_with fail
  refine (wtext_any w.heap.size w.heap.size _ _ _ HW0 (by decide) (by decide)).mono ?_
  rintro e w3 ⟨rfl, hW, hb1⟩
  simp only [encRaw_ab, List.cons_append, List.nil_append] at hW
  replace HW0 := Lib.hid hW
  replace hb0 := hb0.trans hb1
  clear hW hb1
  go_wp2_with fail
  refine (wdone_any _ _ _ _ HW0 (by decide)).mono ?_
  rintro e w4 ⟨A4, n4, c4, rfl, hnc, hcm, HX4, hown4, hr4, hb4⟩
  replace hb0 := bt hb0 hb4
  clear hb4 HW0
  obtain rfl : 6 = n4 := HX4.out
  go_wp2_with fail
  refine (read_any _ _ _ _ _ HX4 hr4 (by decide)).mono ?_
  rintro e w5 ⟨g5, rfl, hg5, hR5, hb5, _⟩
  have hlit := rd_litb w5 5 [128, 0] 2 rfl #[.int .u8 128, .int .u8 0] rfl
  have HR5 := Lib.hid (hR5.all ((Below.refl _ w5).alloc (Nat.le_refl _) (.cells #[.int .u8 128, .int .u8 0] 5)))
  replace hb5 := hb5.alloc hb5.size (.cells #[.int .u8 128, .int .u8 0] 5)
  clear hR5
  go_wp2_with fail
  refine (read_any _ _ _ [128, 0] _ (Lib.hid rfl) (by simpa using hlit) (by decide)).mono ?_
  rintro e w6 ⟨g6, rfl, hg6, hR6, hb6, _⟩
  have hne : g6 ≠ g5 := by have := HR5.out.lt; omega
  have hg64 : w4.heap.size ≤ g6 := by have := hb5.size; omega
  replace HR5 := Lib.hid (HR5.out.all hb6)
  have HR6 := Lib.hid hR6
  replace hb5 := hb5.trans (hb6.mono hb5.size)
  clear hb6 hR6 hlit
  go_wp2_with fail
  refine (ruint_any _ _ _ _ _ HR5).mono ?_
  rintro e w7 ⟨rfl, hR7, ho⟩
  rw [show readU [172, 2, 1, 2, 97, 98] 0 = (0, 300, [1, 2, 97, 98]) from rfl] at *
  replace HR6 := Lib.hid (HR6.out.other HR5.out hne ho)
  replace HR5 := Lib.hid hR7
  replace hb5 := below_of_only hb5 ho hb5.size hg5
  clear hR7 ho
  go_wp2_with fail
  refine (rint_any _ _ _ _ _ HR5).mono ?_
  rintro e w8 ⟨rfl, hR7, ho⟩
  rw [show readU [1, 2, 97, 98] 0 = (0, 1, [2, 97, 98]) from rfl] at *
  replace HR6 := Lib.hid (HR6.out.other HR5.out hne ho)
  replace HR5 := Lib.hid hR7
  replace hb5 := below_of_only hb5 ho hb5.size hg5
  clear hR7 ho
  rw [show unzigI 1 = -1 by decide]
  go_wp2_with fail
  refine (rtext_any _ _ _ _ _ HR5).mono ?_
  rintro e w9 ⟨rfl, _, hR7, ho⟩
  rw [show readRaw [2, 97, 98] 0 = (0, [97, 98], []) from rfl] at *
  replace HR6 := Lib.hid (HR6.out.other HR5.out hne ho)
  replace HR5 := Lib.hid hR7
  replace hb5 := below_of_only hb5 ho hb5.size hg5
  clear hR7 ho
  go_wp2_with fail
  refine (rint_any _ _ _ _ _ HR6).mono ?_
  rintro e w10 ⟨rfl, hR7, ho⟩
  rw [show readU [128, 0] 0 = (2, 0, []) from rfl] at *
  replace HR5 := Lib.hid (HR5.out.other HR6.out (Ne.symm hne) ho)
  replace HR6 := Lib.hid hR7
  replace hb5 := below_of_only hb5 ho hb5.size hg64
  clear hR7 ho
  have hlit := rd_litb w10 5 [172, 2, 1, 2, 97, 98] 6 rfl #[.int .u8 172, .int .u8 2, .int .u8 1, .int .u8 2, .int .u8 97, .int .u8 98] rfl
  have hb10 := (Below.refl _ w10).alloc (Nat.le_refl _) (.cells #[.int .u8 172, .int .u8 2, .int .u8 1, .int .u8 2, .int .u8 97, .int .u8 98] 5)
  replace HR5 := Lib.hid (HR5.out.all hb10)
  replace HR6 := Lib.hid (HR6.out.all hb10)
  replace hr4 := (hr4.all hb5).all hb10
  replace hb5 := bt hb5 hb10
  clear hb10
  go_wp2_with fail
  refine (sameBytes_true _ _ _ _ _ _ _ _ _ rfl HX4 (Lib.hid rfl) hr4 (by simpa using hlit) (by decide) (by decide)).mono ?_
  rintro e w11 ⟨rfl, hb11⟩
  replace HR5 := Lib.hid (HR5.out.all hb11)
  replace HR6 := Lib.hid (HR6.out.all hb11)
  replace hb5 := bt hb5 hb11
  clear hb11 hlit
  go_wp2_with fail
  refine (rend_any _ _ _ _ _ HR5).mono ?_
  rintro e w12 ⟨rfl, rfl⟩
  rw [show endI [] 0 = 0 from rfl]
  go_wp2_with fail
  refine (rend_any _ _ _ _ _ HR6).mono ?_
  rintro e w12 ⟨rfl, rfl⟩
  rw [show endI [] 2 = 2 from rfl]
  go_wp2_with fail
  go_ret
  exact ⟨rfl, hb0.trans (hb5.mono hb0.size)⟩

end Go.Proofs.Ytahajgmmoefpjaa
