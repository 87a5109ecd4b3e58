/- book: the calls that are made from numbers. -/
import Derived.Test.YtkandhpnenmleaaHBase

namespace Go.Proofs.Ytkandhpnenmleaa
open Go.RowKit

structure OpP where
  kind : Int
  acc : Int
  buy : Bool
  price : Int
  n : Int
  id : Int
def OpP.cells (x : OpP) : List Value := [.int .i64 x.kind, .int .i64 x.acc, .bool x.buy, .int .i64 x.price, .int .i64 x.n, .int .i64 x.id]
theorem OpP.cells_length (x : OpP) : x.cells.length = 6 := rfl
theorem slT_op : SlT Try.prog 36 39 6 48 := SlT.of Try.underlying36 (by kernel_rfl) (by decide)
/-- A slice of calls. -/
structure OpsAt (w : World) (B : Nat) (A : Option Addr) (m c : Nat) (l : List OpP) : Prop where
  own : w.ownsRow B 39 6 (.slice A m c) m (l.flatMap OpP.cells)
  len : l.length = m
  acc : ∀ x ∈ l, x.acc ≠ 9
def OpsPost (most : Nat) (w : World) (e : Ending) (w' : World) : Prop := ∃ A m c l, e = .returned (.slice A m c) ∧ OpsAt w' w.heap.size A m c l ∧ m ≤ most ∧ Below w.heap.size w w'
theorem lit_at (l : List Value) (k : Nat) (hk : k < l.length) (h : ∀ v ∈ l, ∃ x, v = Value.int .i64 x ∧ x ≠ 9) : ∃ x, l[k]? = some (Value.int .i64 x) ∧ x ≠ 9 := by
  obtain ⟨x, hx, h9⟩ := h l[k] (List.getElem_mem hk)
  exact ⟨x, by rw [List.getElem?_eq_getElem hk, hx], h9⟩
theorem oneOp (a b : Int) (c : Bool) (d e f : Int) : ∀ u ∈ (#[Value.int .i64 a, .int .i64 b, .bool c, .int .i64 d, .int .i64 e, .int .i64 f] : Array Value).toList, u.oneCell' = true := by
  intro u hu
  simp at hu
  rcases hu with rfl | rfl | rfl | rfl | rfl | rfl <;> rfl
set_option maxRecDepth 100000 in
set_option maxHeartbeats 8000000 in
theorem ops_any (A : Option Addr) (n c : Nat) (f : Nat → Int) (most : Nat) (mi : Int) (w : World) (hmi : mi = (most : Int)) (hm : most ≤ 100) (hR : Rd w w.heap.size A n (fun j => .int .i64 (f j))) (HW : Hid (∀ j, j < n → -9223372036854775808 ≤ f j ∧ f j ≤ 9223372036854775807)) (hn : n ≤ 9223372036854775807) :
    Calls Try.prog 16 #[.slice A n c, .int .i64 mi] w (OpsPost most w) := by
  obtain ⟨mi, hmi⟩ : ∃ m2, m2 = mi := ⟨mi, rfl⟩
  subst hmi
  have hmi2 := Lib.hid hmi
  subst hmi
  clear hmi2
  have HR := Lib.hid hR
  clear hR
  go_enter Try.func16, Try.ntmps16
  go_wp2
  go_loopw [5, 6] (fun lv iv wr => ∃ (k : Nat) (A' : Option Addr) (c' : Nat) (l : List OpP), k ≤ most ∧ iv = .int .i64 ((3 * k : Nat) : Int) ∧ lv = .slice A' k c' ∧ Hid (OpsAt wr w.heap.size A' k c' l) ∧ Hid (Below w.heap.size w wr)) (fun _ iv _ => 3 * most + 3 - (intOf iv).toNat)
  case atStart => exact ⟨0, none, 0, [], Nat.zero_le _, rfl, rfl, Lib.hid ⟨World.ownsRow_nil _ _ _ 6, rfl, fun x hx => by cases hx⟩, Lib.hid (Below.refl _ _)⟩
  case round =>
    obtain ⟨k, A', c', l, hk, rfl, rfl, HO, HB⟩ := hrel
    by_cases h1 : 3 * k + 2 < n ∧ k < most
    · obtain ⟨h1, h2⟩ := h1
      have HR2 := Lib.hid (HR.out.all HB.out)
      obtain ⟨bb, off, hA, hbl, hcell⟩ := HR2.out (by omega)
      subst hA
      have e0 := hcell (3 * k) (by omega)
      have e1 := hcell (3 * k + 1) (by omega)
      have e2 := hcell (3 * k + 2) (by omega)
      obtain ⟨f00, f01⟩ := HW.out (3 * k) (by omega)
      obtain ⟨f10, f11⟩ := HW.out (3 * k + 1) (by omega)
      obtain ⟨f20, f21⟩ := HW.out (3 * k + 2) (by omega)
      obtain ⟨y0, hy0⟩ : ∃ y, f (3 * k) = y := ⟨_, rfl⟩
      obtain ⟨y1, hy1⟩ : ∃ y, f (3 * k + 1) = y := ⟨_, rfl⟩
      obtain ⟨y2, hy2⟩ : ∃ y, f (3 * k + 2) = y := ⟨_, rfl⟩
      dsimp only at e0 e1 e2
      rw [hy0] at e0 f00 f01
      rw [hy1] at e1 f10 f11
      rw [hy2] at e2 f20 f21
      clear hy0 hy1 hy2 hcell
      go_wp2_with fail
      refine (around_nat y0 1000 1000 _ (by rfl) f00 f01 (by decide) (by decide)).mono ?_
      rintro e w1 ⟨a, rfl, ha, -, rfl⟩
      go_wp2_with fail
      refine (around_nat y1 10000 10000 _ (by rfl) f10 f11 (by decide) (by decide)).mono ?_
      rintro e w1 ⟨b, rfl, hb, -, rfl⟩
      go_wp2_with fail
      refine (around_nat y2 1000 1000 _ (by rfl) f20 f21 (by decide) (by decide)).mono ?_
      rintro e w1 ⟨d, rfl, hd, -, rfl⟩
      obtain ⟨v1, hv1, -⟩ := lit_at [Value.int .i64 0, .int .i64 (-1), .int .i64 1, .int .i64 1099511627776, .int .i64 1099511627777, .int .i64 1048576] (b % 6) (by simp; omega) (by intro v hv; simp at hv; rcases hv with rfl | rfl | rfl | rfl | rfl | rfl <;> exact ⟨_, rfl, by decide⟩)
      obtain ⟨v2, hv2, -⟩ := lit_at [Value.int .i64 0, .int .i64 1, .int .i64 (-1), .int .i64 1099511627776, .int .i64 1048576, .int .i64 1048577] (b / 6 % 6) (by simp; omega) (by intro v hv; simp at hv; rcases hv with rfl | rfl | rfl | rfl | rfl | rfl <;> exact ⟨_, rfl, by decide⟩)
      obtain ⟨v3, hv3, hv39⟩ := lit_at [Value.int .i64 0, .int .i64 1, .int .i64 1073741824, .int .i64 1073741825, .int .i64 (-1)] (b % 5) (by simp; omega) (by intro v hv; simp at hv; rcases hv with rfl | rfl | rfl | rfl | rfl <;> exact ⟨_, rfl, by decide⟩)
      by_cases hk39 : d % 40 = 39
      · have HACC := Lib.hid hv39
        clear hv39
        have hcd : ((d : Int) % 40 == 39) = true := by simp; omega
        have hb4 : Below wr.heap.size wr ((((wr.alloc (.cells #[.int .i64 ((a : Int) % 8), .int .i64 v3, .bool ((a : Int) / 32 % 2 == 0), .int .i64 v1, .int .i64 v2, .int .i64 ((b : Int) - 5000)] 39)).alloc (.cells #[.int .i64 0, .int .i64 (-1), .int .i64 1, .int .i64 1099511627776, .int .i64 1099511627777, .int .i64 1048576] 3)).alloc (.cells #[.int .i64 0, .int .i64 1, .int .i64 (-1), .int .i64 1099511627776, .int .i64 1048576, .int .i64 1048577] 3)).alloc (.cells #[.int .i64 0, .int .i64 1, .int .i64 1073741824, .int .i64 1073741825, .int .i64 (-1)] 3)) := (((((Below.refl _ _).alloc (Nat.le_refl _) _).alloc (by first | (simp; done) | (simp; omega)) _).alloc (by first | (simp; done) | (simp; omega)) _).alloc (by first | (simp; done) | (simp; omega)) _)
        have hz4 : ((((wr.alloc (.cells #[.int .i64 ((a : Int) % 8), .int .i64 v3, .bool ((a : Int) / 32 % 2 == 0), .int .i64 v1, .int .i64 v2, .int .i64 ((b : Int) - 5000)] 39)).alloc (.cells #[.int .i64 0, .int .i64 (-1), .int .i64 1, .int .i64 1099511627776, .int .i64 1099511627777, .int .i64 1048576] 3)).alloc (.cells #[.int .i64 0, .int .i64 1, .int .i64 (-1), .int .i64 1099511627776, .int .i64 1048576, .int .i64 1048577] 3)).alloc (.cells #[.int .i64 0, .int .i64 1, .int .i64 1073741824, .int .i64 1073741825, .int .i64 (-1)] 3)).heap.size = wr.heap.size + 1 + 1 + 1 + 1 := by simp
        clear hk39
        have HZ4 := Lib.hid hz4
        clear hz4
        go_wp2_with (at_builtin
                     obtain ⟨A5, c5, w5, hr5, ho5, hb5, -, -⟩ := app_elem2 36 slT_op (own_keep HO.out.own hb4) #[.int .i64 ((a : Int) % 8), .int .i64 v3, .bool ((a : Int) / 32 % 2 == 0), .int .i64 v1, .int .i64 v2, .int .i64 ((b : Int) - 5000)] rfl (oneOp _ _ _ _ _ _) (by omega) (by decide) (Nat.le_trans HB.out.size hb4.size)
                     rw [HZ4.out] at hr5
                     have HO5 := Lib.hid ho5
                     have HB5 := Lib.hid ((bt HB.out hb4).trans hb5)
                     refine wpList_append_run hr5 (by rfl) (by rfl) (by rfl) (by rfl) ?_
                     replace hr5 := Lib.hid hr5
                     clear ho5 hb5)
        exact ⟨⟨k + 1, A5, c5, l ++ [OpP.mk ((a : Int) % 8) v3 ((a : Int) / 32 % 2 == 0) v1 v2 ((b : Int) - 5000)], by omega, by go_num, rfl, Lib.hid ⟨by rw [List.flatMap_append, List.flatMap_singleton]; exact HO5.out, by rw [List.length_append, HO.out.len]; rfl, fun x hx => by
          rcases List.mem_append.1 hx with h | h
          · exact HO.out.acc x h
          · rw [List.mem_singleton.1 h]; exact HACC.out⟩, HB5⟩, by simp [intOf]; omega⟩
      · clear hv39
        have HACC : Hid (1 + (a : Int) / 8 % 4 ≠ 9) := Lib.hid (by omega)
        have hcd : ((d : Int) % 40 == 39) = false := by simp; omega
        have hb4 : Below wr.heap.size wr (wr.alloc (.cells #[.int .i64 ((a : Int) % 8), .int .i64 (1 + (a : Int) / 8 % 4), .bool ((a : Int) / 32 % 2 == 0), .int .i64 (95 + (b : Int) % 10), .int .i64 (1 + (b : Int) / 10 % 20), .int .i64 ((d : Int) % (1 + (k : Int)))] 39)) := ((Below.refl _ _).alloc (Nat.le_refl _) _)
        have hz4 : (wr.alloc (.cells #[.int .i64 ((a : Int) % 8), .int .i64 (1 + (a : Int) / 8 % 4), .bool ((a : Int) / 32 % 2 == 0), .int .i64 (95 + (b : Int) % 10), .int .i64 (1 + (b : Int) / 10 % 20), .int .i64 ((d : Int) % (1 + (k : Int)))] 39)).heap.size = wr.heap.size + 1 := by simp
        clear hk39
        have HZ4 := Lib.hid hz4
        clear hz4
        go_wp2_with (at_builtin
                     obtain ⟨A5, c5, w5, hr5, ho5, hb5, -, -⟩ := app_elem2 36 slT_op (own_keep HO.out.own hb4) #[.int .i64 ((a : Int) % 8), .int .i64 (1 + (a : Int) / 8 % 4), .bool ((a : Int) / 32 % 2 == 0), .int .i64 (95 + (b : Int) % 10), .int .i64 (1 + (b : Int) / 10 % 20), .int .i64 ((d : Int) % (1 + (k : Int)))] rfl (oneOp _ _ _ _ _ _) (by omega) (by decide) (Nat.le_trans HB.out.size hb4.size)
                     rw [HZ4.out] at hr5
                     have HO5 := Lib.hid ho5
                     have HB5 := Lib.hid ((bt HB.out hb4).trans hb5)
                     refine wpList_append_run hr5 (by rfl) (by rfl) (by rfl) (by rfl) ?_
                     replace hr5 := Lib.hid hr5
                     clear ho5 hb5)
        exact ⟨⟨k + 1, A5, c5, l ++ [OpP.mk ((a : Int) % 8) (1 + (a : Int) / 8 % 4) ((a : Int) / 32 % 2 == 0) (95 + (b : Int) % 10) (1 + (b : Int) / 10 % 20) ((d : Int) % (1 + (k : Int)))], by omega, by go_num, rfl, Lib.hid ⟨by rw [List.flatMap_append, List.flatMap_singleton]; exact HO5.out, by rw [List.length_append, HO.out.len]; rfl, fun x hx => by
          rcases List.mem_append.1 hx with h | h
          · exact HO.out.acc x h
          · rw [List.mem_singleton.1 h]; exact HACC.out⟩, HB5⟩, by simp [intOf]; omega⟩
    · have HFIN : Hid (OpsPost most w (.returned (.slice A' k c')) wr) := Lib.hid ⟨A', k, c', l, rfl, HO.out, hk, HB.out⟩
      rcases Nat.lt_or_ge (3 * k + 2) n with h2 | h2
      · obtain rfl : k = most := by omega
        go_wp2
        go_ret
        exact HFIN.out
      · go_wp2
        go_ret
        exact HFIN.out
end Go.Proofs.Ytkandhpnenmleaa
