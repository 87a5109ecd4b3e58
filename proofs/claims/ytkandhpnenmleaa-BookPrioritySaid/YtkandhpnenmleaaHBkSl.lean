/- book: the library's functions on slices of numbers. -/
import Derived.Test.YtkandhpnenmleaaHBkC
import Derived.Test.YtkandhpnenmleaaHBkSh

namespace Go.Proofs.Ytkandhpnenmleaa
open Go.RowKit

/-- Cells are written one behind the other into one block. -/
theorem setCells_mod (b : Nat) : ∀ (vs : List Value) (o : Nat) (w : World), Mod (fun g => g = b) w (w.setCells b o vs) ∧ (w.setCells b o vs).heap.size = w.heap.size
  | [], _, w => ⟨Mod.refl _ w, rfl⟩
  | v :: vs, o, w => by
    rw [World.setCells]
    obtain ⟨h1, h2⟩ := setCells_mod b vs (o + 1) (w.setCell ⟨b, o, none⟩ v)
    have h3 : (w.setCell ⟨b, o, none⟩ v).heap.size = w.heap.size := by simp [World.setCell]
    exact ⟨(Mod.set (F := fun g => g = b) (Mod.refl _ w) (p := ⟨b, o, none⟩) (.inl rfl) v).trans h1 (fun _ h => .inl h), h2.trans h3⟩
theorem setCells_at (b : Nat) (t : TypeId) (fr : Nat × Nat) : ∀ (vs : List Value) (o : Nat) (w : World) (cur : Array Value), w.heap[b]? = some (.cells cur t fr) →
    ∃ cur', (w.setCells b o vs).heap[b]? = some (.cells cur' t fr) ∧ cur'.size = cur.size ∧ (∀ j, j < o ∨ o + vs.length ≤ j → cur'[j]? = cur[j]?) ∧ (o + vs.length ≤ cur.size → ∀ j, j < vs.length → cur'[o + j]? = vs[j]?)
  | [], o, w, cur, h => ⟨cur, h, rfl, fun _ _ => rfl, fun _ j hj => absurd hj (by simp)⟩
  | v :: vs, o, w, cur, h => by
    rw [World.setCells]
    have h1 : (w.setCell ⟨b, o, none⟩ v).heap[b]? = some (.cells (cur.setIfInBounds o v) t fr) := by simp [World.setCell, Array.getElem?_modify, h]
    obtain ⟨c2, d1, d2, d3, d4⟩ := setCells_at b t fr vs (o + 1) _ _ h1
    refine ⟨c2, d1, by simpa using d2, fun j hj => ?_, fun hc j hj => ?_⟩
    · rw [d3 j (by simp at hj; omega), Array.getElem?_setIfInBounds_ne (by simp at hj; omega)]
    · simp at hc hj
      cases j with
      | zero =>
        rw [Nat.add_zero, d3 o (by omega)]
        have ho : o < cur.size := by omega
        simp [ho]
      | succ j =>
        have := d4 (by simp; omega) j (by omega)
        rw [show o + (j + 1) = o + 1 + j by omega, this]
        rfl

/-- A slice cut to its length. -/
theorem clip_any (A : Option Addr) (n c : Nat) (w : World) (hc : n ≤ c) :
    Calls Try.prog 53 #[.slice A n c] w fun e w' => e = .returned (.slice A n n) ∧ w = w' := by
  go_enter Try.func53, Try.ntmps53
  cases A
  · go_wp2
    go_ret
    exact ⟨rfl, rfl⟩
  · go_wp2
    go_ret
    exact ⟨rfl, rfl⟩
theorem idsV_one (l : List Nat) : ∀ v ∈ idsV l, v.oneCell' = true := by
  intro v hv
  obtain ⟨k, -, rfl⟩ := List.mem_map.1 hv
  rfl
theorem IRow.cells {W : World} {B : Nat} {A : Option Addr} {n c : Nat} {l : List Nat} (h : IRow W B (A, n, c) l) (a : Addr) (ha : A = some a) : ∀ j v, (idsV l)[j]? = some v → W.cell? (a.add j) = some v := by
  intro j v hv
  have hj : j < n := by
    have := h.1
    have h2 := (List.getElem?_eq_some_iff.1 hv).1
    simp only [idsV, List.length_map] at h2
    dsimp only at this
    omega
  obtain ⟨g, off, cur, h1, h2, h3, h4, h5⟩ := h.2.2.2 (by have := h.2.1; dsimp only at this ⊢; omega)
  dsimp only at h1 h5
  rw [ha] at h1
  injection h1 with h1
  subst h1
  rw [show (⟨g, off, none⟩ : Addr).add j = ⟨g, off + j, none⟩ from Addr.add_lit _ _ _]
  simp only [World.cell?, h3]
  rw [h5 j hj, hv]
  rfl
/-- A slice of a block that is known whole. -/
theorem IRow.fresh {W : World} {B g m c : Nat} {cur : Array Value} {l : List Nat} (hb : Blk W g 3 cur) (hB : B ≤ g) (hl : l.length = m) (hmc : m ≤ c) (hc : c ≤ maxLen) (hs : c ≤ cur.size) (hv : ∀ j, j < m → cur[j]? = (idsV l)[j]?) : IRow W B (some ⟨g, 0, none⟩, m, c) l :=
  ⟨hl, hmc, by simpa [maxLen] using hc, fun _ => ⟨g, 0, cur, rfl, hB, hb, by dsimp only; omega, fun j hj => by rw [Nat.zero_add]; exact hv j hj⟩⟩
/-- Insert one number into a slice without room. -/
theorem ins_any (A : Option Addr) (n i vb : Nat) (x : Nat) (l : List Nat) (B : Nat) (w : World) (h : IRow w B (A, n, n) l) (hi : i ≤ n) (hn : n ≤ 1000000) (hb : Blk w vb 3 #[.int .i64 (x : Int)]) (hB : B ≤ w.heap.size) :
    Calls Try.prog 52 #[.slice A n n, .int .i64 (i : Int), .slice (some ⟨vb, 0, none⟩) 1 1] w fun e w' => ∃ A' c', e = .returned (.slice A' (n + 1) c') ∧ IRow w' B (A', n + 1, c') (l.take i ++ [x] ++ l.drop i) ∧ (∀ g, blkOf (A', n + 1, c') = some g → w.heap.size ≤ g) ∧ Below w.heap.size w w' := by
  have hl : l.length = n := h.1
  have hlv : (idsV l).length = n := by simpa [idsV] using hl
  have hvs : ∀ j v, ([Value.int .i64 (x : Int)])[j]? = some v → w.cell? ⟨vb, 0 + j, none⟩ = some v := by
    intro j v hv
    rw [Nat.zero_add]
    rw [hb.cell j]
    simpa using hv
  have h1v : ∀ v ∈ [Value.int .i64 (x : Int)], v.oneCell' = true := by simp [Value.oneCell']
  have hcg := grownCap_ge w (n + 1) n 3
  have hcm := grownCap_le_maxLen w (n + 1) n 3 (by unfold maxLen; omega)
  by_cases hin : i = n
  · subst hin
    refine (Any2.slices_Insert_int_end_grow Try.insertA A i i vb 0 1 1 (idsV l) [.int .i64 (x : Int)] w (by omega) (Nat.le_refl _) (by omega) (by omega) hlv rfl (fun hA => ?_) (fun a ha => h.cells a ha) hvs h1v).mono ?_
    · cases Nat.eq_zero_or_pos i with
      | inl h0 => exact h0
      | inr h0 =>
        obtain ⟨g, off, cur, h2, -⟩ := h.2.2.2 h0
        dsimp only at h2
        rw [hA] at h2
        cases h2
    · rintro e w' ⟨rfl, rfl⟩
      refine ⟨_, _, rfl, IRow.fresh (Blk.new w.drew _ _) hB (by simp [hl]) hcg hcm ?_ (fun j hj => ?_), fun g hg => ?_, ?_⟩
      · have hz1 : (Value.int .i64 0).cells.size = 1 := rfl
        simp [size_zeroCells, hlv, hz1]
        omega
      · rw [Array.getElem?_append_left (by simp [hlv]; omega), List.getElem?_toArray]
        unfold idsV
        simp [← hl]
      · simp [blkOf, slV, Value.ownBlock] at hg
        omega
      · exact bt (below_drewN (Below.refl _ w) 1) ((Below.refl _ _).alloc (Nat.le_refl _) _)
  · have hlt : i < n := by omega
    obtain ⟨g, off, cur, h2, h3, h4, h5, h6⟩ := h.2.2.2 (by dsimp only; omega)
    dsimp only at h2
    subst h2
    refine (Any2.slices_Insert_int_grow Try.insertA g off n n i vb 0 1 1 (idsV l) [.int .i64 (x : Int)] w hlt (by omega) (Nat.le_refl _) (by omega) (by omega) hlv rfl (fun j v hv => by have := h.cells _ rfl j v hv; rwa [Addr.add_lit] at this) hvs (idsV_one l) h1v).mono ?_
    rintro e w' ⟨rfl, rfl⟩
    have e0 : (Try.insertA_ren.t 3) = 3 := rfl
    rw [e0]
    obtain ⟨cur0, hcur0⟩ : ∃ cur0, cur0 = (((idsV l).take i).toArray ++ Builtin.zeroCells (Value.int .i64 0).cells (n + 1 - i) ++ Builtin.zeroCells (Value.int .i64 0).cells (grownCap w (n + 1) n 3 - (n + 1))) := ⟨_, rfl⟩
    rw [← hcur0]
    have hs0 : cur0.size = i + (n + 1 - i) + (grownCap w (n + 1) n 3 - (n + 1)) := by
      have hz1 : (Value.int .i64 0).cells.size = 1 := rfl
      rw [hcur0]
      simp [size_zeroCells, hlv, hz1]
      omega
    obtain ⟨c1, a1, a2, a3, a4⟩ := setCells_at w.heap.size 3 (0, 0) [.int .i64 (x : Int)] i (w.alloc (.cells cur0 3)).drew cur0 (Blk.new w _ _)
    obtain ⟨m1, z1⟩ := setCells_mod w.heap.size [.int .i64 (x : Int)] i (w.alloc (.cells cur0 3)).drew
    obtain ⟨c2, d1, d2, d3, d4⟩ := setCells_at w.heap.size 3 (0, 0) ((idsV l).drop i) (i + 1) ((w.alloc (.cells cur0 3)).drew.setCells w.heap.size i [.int .i64 (x : Int)]).drew c1 a1
    obtain ⟨m2, z2⟩ := setCells_mod w.heap.size ((idsV l).drop i) (i + 1) ((w.alloc (.cells cur0 3)).drew.setCells w.heap.size i [.int .i64 (x : Int)]).drew
    have hdl : ((idsV l).drop i).length = n - i := by rw [List.length_drop, hlv]
    refine ⟨_, _, rfl, IRow.fresh d1 hB (by simp [hl]; omega) hcg hcm (by omega) (fun j hj => ?_), fun g hg => ?_, ?_⟩
    · have hids : idsV (l.take i ++ [x] ++ l.drop i) = (idsV l).take i ++ [.int .i64 (x : Int)] ++ (idsV l).drop i := by simp [idsV]
      rw [hids]
      rcases Nat.lt_trichotomy j i with hj1 | hj1 | hj1
      · rw [d3 j (by omega), a3 j (by omega), hcur0, List.append_assoc, List.getElem?_append_left (by simp [hlv]; omega), Array.getElem?_append_left (by simp [size_zeroCells, hlv]; omega), Array.getElem?_append_left (by simp [hlv]; omega), List.getElem?_toArray]
      · subst hj1
        rw [d3 j (by omega)]
        have := a4 (by simp; omega) 0 (by simp)
        rw [Nat.add_zero] at this
        rw [this, List.append_assoc, List.getElem?_append_right (by simp [hlv]; omega)]
        simp [hlv, Nat.min_eq_left hi]
      · have := d4 (by omega) (j - (i + 1)) (by omega)
        rw [show i + 1 + (j - (i + 1)) = j by omega] at this
        rw [this, List.getElem?_append_right (by simp [hlv]; omega)]
        congr 1
        simp [hlv]
        omega
    · simp [blkOf, slV, Value.ownBlock] at hg
      omega
    · have hb1 : Below w.heap.size w (w.alloc (.cells cur0 3)).drew := below_drewN ((Below.refl _ _).alloc (Nat.le_refl _) _) 1
      have hb2 := m1.below hb1 (by simp [World.drew]) (fun b hb => by rw [hb]; exact Nat.le_refl _)
      exact m2.below (below_drewN hb2 1) (below_drewN hb2 1).size (fun b hb => by rw [hb]; exact Nat.le_refl _)
/-- Delete one number in place. -/
theorem del_any (A : Option Addr) (n c i : Nat) (l : List Nat) (B : Nat) (w : World) (h : IRow w B (A, n, c) l) (hi : i < n) :
    Calls Try.prog 58 #[.slice A n c, .int .i64 (i : Int), .int .i64 ((i : Int) + 1)] w fun e w' => e = .returned (.slice A (n - 1) c) ∧ IRow w' B (A, n - 1, c) (l.eraseIdx i) ∧ Mod (fun g => blkOf (A, n, c) = some g) w w' := by
  have hl : l.length = n := h.1
  have hnc : n ≤ c := h.2.1
  obtain ⟨g, off, cur, h2, h3, h4, h5, h6⟩ := h.2.2.2 (by dsimp only; omega)
  dsimp only at h2 h5 h6
  subst h2
  have hid : idsV l = (l.map fun (k : Nat) => (k : Int)).map (Value.int .i64) := by simp [idsV]
  have e1 : (i : Int) + 1 = ((i + 1 : Nat) : Int) := by omega
  rw [e1]
  refine (Any.slices_Delete_int_cells Try.deleteA g off n c i (i + 1) (l.map fun (k : Nat) => (k : Int)) w (by simp [hl]) hnc h.2.2.1 (by omega) (by omega) (fun j hj => ?_) (fun j hj => by simp [World.frozen?, h4])).mono ?_
  · simp at hj
    simp only [World.cell?, h4]
    rw [h6 j (by omega)]
    simp [idsV, List.getElem?_eq_getElem hj, List.getD]
  · rintro e w' ⟨rfl, q, rfl⟩
    rw [show i + 1 - i = 1 by omega]
    obtain ⟨vs, hvs⟩ : ∃ vs, vs = (((List.map (fun (k : Nat) => (k : Int)) l).take n).take i ++ ((List.map (fun (k : Nat) => (k : Int)) l).take n).drop (i + 1) ++ List.replicate 1 0).map (Value.int .i64) := ⟨_, rfl⟩
    rw [← hvs]
    have hvl : vs.length = n := by
      rw [hvs]
      simp [hl]
      omega
    have hvj : ∀ j, j < n - 1 → vs[j]? = (idsV (l.eraseIdx i))[j]? := by
      intro j hj
      rw [hvs, List.eraseIdx_eq_take_drop_succ]
      have ht : (List.map (fun (k : Nat) => (k : Int)) l).take n = List.map (fun (k : Nat) => (k : Int)) l := List.take_of_length_le (by simp [hl])
      rw [ht]
      unfold idsV
      rw [List.map_append, List.getElem?_append_left (by simp [hl]; omega)]
      simp
      rfl
    obtain ⟨c1, a1, a2, a3, a4⟩ := setCells_at g 3 (0, 0) vs off (w.drewN q) cur h4
    obtain ⟨m1, z1⟩ := setCells_mod g vs off (w.drewN q)
    have hle : (l.eraseIdx i).length = n - 1 := by rw [List.length_eraseIdx, if_pos (by omega), hl]
    refine ⟨rfl, ⟨hle, by dsimp only; omega, h.2.2.1, fun _ => ⟨g, off, c1, rfl, h3, a1, by dsimp only; omega, fun j hj => ?_⟩⟩, ?_⟩
    · dsimp only at hj
      rw [a4 (by omega) j (by omega)]
      exact hvj j hj
    · refine (((Mod.refl _ w).drewN q).trans m1 (fun b hb => .inl ?_))
      subst hb
      show blkOf (some ⟨b, off, none⟩, n, c) = some b
      unfold blkOf
      rw [if_pos (by dsimp only; omega)]
      rfl
end Go.Proofs.Ytkandhpnenmleaa
