/- share.Split: make of ints. -/
import Derived.Test.YtlcalajehnaenaaGreatDoorHLdOrd
import Derived.Test.YtlcalajehnaenaaGreatDoorHG0
namespace Go.Proofs.YtlcalajehnaenaaGreatDoor
open Go.RowKit
theorem mk_row (t e : TypeId) (i : TypeInfo) (z : Value) (ht : Tryz.prog.underlying t = some (.slice e)) (hi : Tryz.prog.info? e = some i) (hz : i.zero = some z) (hsize : i.size = 1) (hby : i.bytes = 8) (hzs : z.cells = #[z]) (n : Nat) (hn : n ≤ 1000000) (w : World) :
 (Instr.makeSlice t (.int .i64 (n : Int)) (.int .i64 (n : Int))).run Tryz.prog w = .ok (.slice (some ⟨w.heap.size, 0, none⟩) n n) (w.alloc (.cells (List.replicate n z).toArray e)) := by
 have h := run_make (P := Tryz.prog) w t e i z ht hi hz .i64 .i64 (n : Int) (n : Int) (by omega) (Int.le_refl _) (by rw [hby]; omega) (by omega)
 have e1 : (n : Int).toNat = n := by omega
 rw [e1, hsize, hzs, Nat.mul_one] at h
 have e2 : madeCells #[z] n = (List.replicate n z).toArray := by rw [← toList_madeCells_one]
 rw [e2] at h
 exact h
theorem mk_ints (n : Nat) (hn : n ≤ 1000000) (w : World) : (Instr.makeSlice 22 (.int .i64 (n : Int)) (.int .i64 (n : Int))).run Tryz.prog w = .ok (.slice (some ⟨w.heap.size, 0, none⟩) n n) (w.alloc (.cells (List.replicate n (.int .i64 0)).toArray 3)) := by
 have hI : (Tryz.prog.info? 3).map (fun i => (i.zero, i.size, i.bytes)) = some (some (.int .i64 0), 1, 8) := by kernel_rfl
 obtain ⟨i0, hi, hz0, hz1, hz2⟩ : ∃ i, Tryz.prog.info? 3 = some i ∧ i.zero = some (.int .i64 0) ∧ i.size = 1 ∧ i.bytes = 8 := by
  cases hh : Tryz.prog.info? 3 with
  | none => rw [hh] at hI; cases hI
  | some i =>
    rw [hh] at hI
    simp only [Option.map_some, Option.some.injEq, Prod.mk.injEq] at hI
    exact ⟨i, rfl, hI.1, hI.2.1, hI.2.2⟩
 exact mk_row _ _ i0 _ Tryz.underlying22 hi hz0 hz1 hz2 rfl n hn w
theorem mk_u64s (n : Nat) (hn : n ≤ 1000000) (w : World) : (Instr.makeSlice 308 (.int .i64 (n : Int)) (.int .i64 (n : Int))).run Tryz.prog w = .ok (.slice (some ⟨w.heap.size, 0, none⟩) n n) (w.alloc (.cells (List.replicate n (.int .u64 0)).toArray 201)) := by
 have hI : (Tryz.prog.info? 201).map (fun i => (i.zero, i.size, i.bytes)) = some (some (.int .u64 0), 1, 8) := by kernel_rfl
 obtain ⟨i0, hi, hz0, hz1, hz2⟩ : ∃ i, Tryz.prog.info? 201 = some i ∧ i.zero = some (.int .u64 0) ∧ i.size = 1 ∧ i.bytes = 8 := by
  cases hh : Tryz.prog.info? 201 with
  | none => rw [hh] at hI; cases hI
  | some i =>
    rw [hh] at hI
    simp only [Option.map_some, Option.some.injEq, Prod.mk.injEq] at hI
    exact ⟨i, rfl, hI.1, hI.2.1, hI.2.2⟩
 exact mk_row _ _ i0 _ Tryz.underlying308 hi hz0 hz1 hz2 rfl n hn w
theorem sumI_take_wAt (ws : List Int) (i : Nat) (h : i < ws.length) : sumZ (ws.take (i + 1)) = sumZ (ws.take i) + wAt ws i := by
 rw [← List.take_append_getElem h, sumI_append]
 unfold wAt
 simp [sumZ, h]
theorem sumI_bound {ws : List Int} {K : Int} (h : ∀ x ∈ ws, 0 ≤ x ∧ x ≤ K) : 0 ≤ sumZ ws ∧ sumZ ws ≤ K * (ws.length : Int) := by
 induction ws with
 | nil => simp [sumZ]
 | cons x l ih =>
   have h1 := h x (by simp)
   obtain ⟨h2, h3⟩ := ih (fun y hy => h y (by simp [hy]))
   have e : K * ((x :: l).length : Int) = K * (l.length : Int) + K := by
    rw [List.length_cons, Int.natCast_add, Int.mul_add]
    simp
   rw [e]
   simp only [sumZ]
   omega
end Go.Proofs.YtlcalajehnaenaaGreatDoor
