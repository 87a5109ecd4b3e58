/- journal: lemmas for the laws. -/
import Derived.Test.YtldmokjpfnakkaaJrnLives
namespace Go.Proofs.Ytldmokjpfnakkaa
open Go.RowKit
theorem frames_le (L : List Bz) (hs : ∀ z ∈ L, z.bs.length ≤ 10) (hn : L.length ≤ 6) : ∀ k, k ≤ L.length → (framesB 0 (bsOf (L.take k))).length ≤ 50 * k := by
  intro k
  induction k with
  | zero => intro _; simp [bsOf, framesB]
  | succ k ih =>
    intro hk
    have h1 := ih (by omega)
    rw [← List.take_append_getElem (show k < L.length by omega), bsOf_snoc, framesB_snoc, List.length_append]
    have h2 := frameB_len (k := ((0 + (bsOf (L.take k)).length : Nat) : Int)) (bs := (L[k]'(by omega)).bs) (by rw [bsOf_length, List.length_take]; exact ⟨by omega, by omega⟩) (by have := hs _ (List.getElem_mem (show k < L.length by omega)); omega)
    have h3 := hs _ (List.getElem_mem (show k < L.length by omega))
    omega
theorem rd_list {w : World} {B n : Nat} {A : Option Addr} {f : Nat → Int} (h : Rd w B A n (fun j => .int .u8 (f j))) (hf : ∀ j, j < n → 0 ≤ f j ∧ f j ≤ 255) : Rd w B A n (vByte ((List.range n).map fun j => UInt8.ofNat (f j).toNat)) :=
  h.congr (fun j hj => by
    have := hf j hj
    unfold vByte
    rw [List.getElem?_map, List.getElem?_range hj]
    simp only [Option.map_some, Option.getD_some]
    rw [ofNat_toNat (by omega)]
    congr 1
    omega)
theorem run_cut (A : Option Addr) (n c m : Nat) (mi : Int) (hmi : mi = (m : Int)) (hm : m ≤ c) (w : World) : (Instr.slice 23 (.slice A n c) none (some (.int .i64 mi)) none).run Try.prog w = .ok (.slice A m c) w := by
  subst hmi
  have e : A.map (fun a => a.add 0) = A := by
    cases A with
    | none => rfl
    | some a => simp [Addr.add]
  have h1 : (m : Int) ≤ (c : Int) := by omega
  have h2 := run_slice_h (P := Try.prog) (w := w) 23 A n c (by kernel_rfl) .i64 (m : Int) (by omega) h1
  rw [h2]
  have h3 : (sizeOf (Try.prog.elem 23)).run Try.prog w = .ok 1 w := by kernel_rfl
  rw [h3]
  simp only [Result.andThen, sliced, Nat.zero_mul, e, ite_self, Nat.sub_zero, Int.toNat_natCast]
theorem three_rows {w : World} {A1 A2 A3 : Option Addr} {n1 n2 n3 c1 c2 c3 : Nat} {b1 b2 b3 : List UInt8} (h1 : Sb w A1 n1 c1 b1) (h2 : Sb w A2 n2 c2 b2) (h3 : Sb w A3 n3 c3 b3) :
    LsRd (w.alloc (.cells #[.slice A1 n1 c1, .slice A2 n2 c2, .slice A3 n3 c3] 23)) (some ⟨w.heap.size, 0, none⟩) 3 3 [⟨A1, n1, c1, b1⟩, ⟨A2, n2, c2, b2⟩, ⟨A3, n3, c3, b3⟩] := by
  have hb := (Below.refl w.heap.size w).alloc (Nat.le_refl _) (.cells #[.slice A1 n1 c1, .slice A2 n2 c2, .slice A3 n3 c3] 23)
  have hB := Blk.new w 23 #[.slice A1 n1 c1, .slice A2 n2 c2, .slice A3 n3 c3]
  refine ⟨rfl, by decide, by decide, fun _ => ⟨_, _, rfl, by simp, fun j hj => ?_⟩, fun z hz => ?_⟩
  · rw [Nat.zero_add, hB.cell]
    rcases (show j = 0 ∨ j = 1 ∨ j = 2 by omega) with rfl | rfl | rfl <;> rfl
  · simp at hz
    rcases hz with rfl | rfl | rfl
    · exact ⟨h1.1, h1.2.1, h1.2.2.1, (h1.all hb).rd⟩
    · exact ⟨h2.1, h2.2.1, h2.2.2.1, (h2.all hb).rd⟩
    · exact ⟨h3.1, h3.2.1, h3.2.2.1, (h3.all hb).rd⟩
theorem three_sb {w : World} {A1 A2 A3 : Option Addr} {n1 n2 n3 c1 c2 c3 : Nat} {b1 b2 b3 : List UInt8} (h1 : Sb w A1 n1 c1 b1) (h2 : Sb w A2 n2 c2 b2) (h3 : Sb w A3 n3 c3 b3) :
    ∀ z ∈ ([⟨A1, n1, c1, b1⟩, ⟨A2, n2, c2, b2⟩, ⟨A3, n3, c3, b3⟩] : List Bz), Sb (w.alloc (.cells #[.slice A1 n1 c1, .slice A2 n2 c2, .slice A3 n3 c3] 23)) z.A z.n z.c z.bs := by
  have hb := (Below.refl w.heap.size w).alloc (Nat.le_refl _) (.cells #[.slice A1 n1 c1, .slice A2 n2 c2, .slice A3 n3 c3] 23)
  intro z hz
  simp at hz
  rcases hz with rfl | rfl | rfl
  · exact h1.all hb
  · exact h2.all hb
  · exact h3.all hb
theorem three_n {nR na nF : Nat} (h1 : nR ≤ 60) (h2 : na ≤ 300) (h3 : nF ≤ 50) {AR A2 AF : Option Addr} {cR c2 cF : Nat} {rsR bs2 fs : List UInt8} : ∀ z ∈ ([⟨AR, nR, cR, rsR⟩, ⟨A2, na, c2, bs2⟩, ⟨AF, nF, cF, fs⟩] : List Bz), z.n ≤ 300 := by
  intro z hz
  simp at hz
  rcases hz with rfl | rfl | rfl <;> simp only <;> omega
theorem scan_len {bs : List UInt8} {L : List Bz} {m n : Nat} (h : ScanIs bs (bsOf L) m) (hn : bs.length ≤ n) : L.length ≤ n := by
  obtain ⟨h1, r, h2, -⟩ := h
  have h3 := framesB_len (bsOf L) 0
  rw [bsOf_length] at h3
  have h4 := congrArg List.length h2
  rw [List.length_append] at h4
  omega
theorem frames_next {L : List Bz} {k : Nat} {z : Bz} (hz : L[k]? = some z) : framesB 0 (bsOf (L.take (k + 1))) = framesB 0 (bsOf (L.take k)) ++ frameB (k : Nat) z.bs := by
  obtain ⟨hk, rfl⟩ := List.getElem?_eq_some_iff.1 hz
  rw [← List.take_append_getElem hk, bsOf_snoc, framesB_snoc, bsOf_length, List.length_take, Nat.zero_add, Nat.min_eq_left (by omega)]
end Go.Proofs.Ytldmokjpfnakkaa
