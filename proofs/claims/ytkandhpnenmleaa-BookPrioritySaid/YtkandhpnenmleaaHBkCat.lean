/- book: two slices of numbers joined. -/
import Derived.Test.YtkandhpnenmleaaHBkSl

namespace Go.Proofs.Ytkandhpnenmleaa
open Go.RowKit

theorem app_intsI {w : World} {s : Sl} {xs ys : List Int} {B n c : Nat} {A : Option Addr} (ty : TypeId) (h0 : OwnI w B A n c ys) (h : NIn w w.heap.size s xs) (hn : n + s.2.1 ≤ 1000000) (hB : B ≤ w.heap.size) :
    ∃ A' c' w', (Builtin.append_ #[22, 22] ty #[.slice A n c, slV s]).run Try.prog w = .ok (.slice A' (n + s.2.1) c') w' ∧ OwnI w' B A' (n + s.2.1) c' (ys ++ xs) ∧ Below B w w' := by
  obtain ⟨A', c', w', hrun, hown, hb⟩ := app_cells (ty := ty) (base := B) slT_ints h0 s.1 s.2.1 s.2.2 (xs.map (Value.int .i64)) (by rw [List.length_map, h.len, Nat.mul_one]) h.none_ h.news (by
    intro u hu
    obtain ⟨x, -, rfl⟩ := List.mem_map.1 hu
    rfl) (by omega) (by decide) hB
  refine ⟨A', c', w', hrun, ?_, hb⟩
  unfold OwnI
  rw [List.map_append]
  exact hown
/-- slices.Grow(nil, m). -/
theorem grow_any (x : Int) (m : Nat) (w : World) (hx : x = (m : Int)) (hm : m ≤ 1000000) :
    Calls Try.prog 55 #[.slice none 0 0, .int .i64 x] w fun e w' => ∃ A c, e = .returned (.slice A 0 c) ∧ OwnI w' w.heap.size A 0 c [] ∧ Below w.heap.size w w' := by
  subst hx
  by_cases h0 : m = 0
  · subst h0
    refine (Any8.slices_Grow_room Try.growA none 0 0 0 w (by omega) (by omega) (by omega) (by omega)).mono ?_
    rintro e w' ⟨rfl, rfl⟩
    exact ⟨_, _, rfl, OwnI.nil _ _, Below.refl _ _⟩
  · obtain ⟨i0, z, -, hi, hz, hs, hb, hzs, hsz⟩ := slT_ints
    have hcm := grownCap_le_maxLen w (0 + m) 0 3 (by unfold maxLen; omega)
    have hcg := grownCap_ge w (0 + m) 0 3
    refine (Any8.slices_Grow_grow Try.growA i0 z hi hz (by omega) none 0 0 m [] w (by omega) (by omega) (by rw [hb]; omega) (by omega) (by simp) (by simp) (by simp)).mono ?_
    rintro e w' ⟨rfl, rfl⟩
    refine ⟨_, _, rfl, World.ownsRow_made w.drew _ _ (Nat.le_refl _) hcm ?_, ?_⟩
    · have e0 : (Try.growA_ren.t 25) = 3 := rfl
      rw [e0]
      simp only [Array.size_append, size_zeroCells, hzs]
      rw [Nat.zero_add] at hcg ⊢
      simp
      omega
    · exact bt (below_drewN (Below.refl _ w) 1) ((Below.refl _ _).alloc (Nat.le_refl _) _)
def catN (n1 n2 : Nat) : Nat → Nat
  | 0 => 0
  | 1 => n1
  | _ => n1 + n2
def catL (x1 x2 : List Int) : Nat → List Int
  | 0 => []
  | 1 => x1
  | _ => x1 ++ x2
theorem cat_any (s1 s2 : Sl) (x1 x2 : List Int) (gb : Nat) (w : World) (h1 : Hid (NIn w w.heap.size s1 x1)) (h2 : Hid (NIn w w.heap.size s2 x2)) (hb : Blk w gb 22 #[slV s1, slV s2]) (hn1 : s1.2.1 ≤ 100000) (hn2 : s2.2.1 ≤ 100000) :
    Calls Try.prog 33 #[.slice (some ⟨gb, 0, none⟩) 2 2] w fun e w' => ∃ A c, e = .returned (.slice A (s1.2.1 + s2.2.1) c) ∧ OwnI w' w.heap.size A (s1.2.1 + s2.2.1) c (x1 ++ x2) ∧ Below w.heap.size w w' := by
  have c0 : w.cell? ⟨gb, 0, none⟩ = some (slV s1) := by rw [hb.cell]; rfl
  have c1 : w.cell? ⟨gb, 1, none⟩ = some (slV s2) := by rw [hb.cell]; rfl
  have hgb := hb.lt
  clear hb
  obtain ⟨A1, n1, k1⟩ := s1
  obtain ⟨A2, n2, k2⟩ := s2
  dsimp only at hn1 hn2 ⊢
  unfold slV at c0 c1
  dsimp only at c0 c1
  go_enter Try.func33, Try.ntmps33
  go_wp2
  go_loopw [3, 11] (fun tv kv wr => ∃ k : Nat, k ≤ 2 ∧ kv = .int .i64 (k : Int) ∧ tv = .int .i64 ((catN n1 n2 k : Nat) : Int) ∧ wr = w) (fun _ kv _ => 2 - (intOf kv).toNat)
  case atStart => exact ⟨0, by omega, rfl, rfl, rfl⟩
  case round =>
    obtain ⟨k, hk, rfl, rfl, rfl⟩ := hrel
    rcases Nat.lt_or_ge k 2 with hk2 | hk2
    · obtain ⟨t, ht⟩ : ∃ t, catN n1 n2 k = t := ⟨_, rfl⟩
      rw [ht]
      have ht2 : t ≤ 100000 := by
        rw [← ht]
        rcases Nat.lt_or_ge k 1 with hk1 | hk1
        · obtain rfl : k = 0 := by omega
          simp [catN]
        · obtain rfl : k = 1 := by omega
          simpa [catN] using hn1
      rcases Nat.lt_or_ge k 1 with hk1 | hk1
      · obtain rfl : k = 0 := by omega
        have hw : wrap64 ((t : Int) + (n1 : Int)) = ((t + n1 : Nat) : Int) := by unfold wrap64; omega
        have hs0 : ¬ (((t + n1 : Nat) : Int) < 0) := by omega
        go_wp2
        refine ⟨⟨1, by omega, rfl, ?_, trivial⟩, by simp [intOf]⟩
        rw [← ht]
        simp [catN]
      · obtain rfl : k = 1 := by omega
        have hw : wrap64 ((t : Int) + (n2 : Int)) = ((t + n2 : Nat) : Int) := by unfold wrap64; omega
        have hs0 : ¬ (((t + n2 : Nat) : Int) < 0) := by omega
        go_wp2
        refine ⟨⟨2, by omega, rfl, ?_, trivial⟩, by simp [intOf]⟩
        rw [← ht]
        simp [catN]
    · obtain rfl : k = 2 := by omega
      obtain ⟨w0, rfl⟩ : ∃ w0, w0 = wr := ⟨_, rfl⟩
      have hcn : catN n1 n2 2 = n1 + n2 := rfl
      rw [hcn]
      clear hcn
      go_wp2_with (go_at_call 55; ((with_reducible refine (grow_any _ (n1 + n2) _ (by omega) (by omega)).mono ?_); rintro e w1 ⟨A0, cc0, rfl, ho0, hb1⟩))
      have HO0 := Lib.hid ho0
      have HB1 := Lib.hid hb1
      clear ho0 hb1
      go_loopw [6, 27] (fun sv kv w2 => ∃ (k : Nat) (A : Option Addr) (c : Nat), k ≤ 2 ∧ kv = .int .i64 (k : Int) ∧ sv = .slice A (catN n1 n2 k) c ∧ Hid (OwnI w2 w0.heap.size A (catN n1 n2 k) c (catL x1 x2 k)) ∧ Hid (Below w0.heap.size w0 w2)) (fun _ kv _ => 2 - (intOf kv).toNat)
      case atStart => exact ⟨0, A0, cc0, by omega, rfl, rfl, HO0, HB1⟩
      case round =>
        obtain ⟨k, A, c, hk, rfl, rfl, HO, HB⟩ := hrel
        have d0 := (HB.out.cell (p := ⟨gb, 0, none⟩) hgb).trans c0
        have d1 := (HB.out.cell (p := ⟨gb, 1, none⟩) hgb).trans c1
        rcases Nat.lt_or_ge k 2 with hk2 | hk2
        · obtain ⟨t, ht⟩ : ∃ t, catN n1 n2 k = t := ⟨_, rfl⟩
          obtain ⟨L, hL⟩ : ∃ L, catL x1 x2 k = L := ⟨_, rfl⟩
          rw [ht, hL] at HO
          have ht2 : t ≤ 100000 := by
            rw [← ht]
            rcases Nat.lt_or_ge k 1 with hk1 | hk1
            · obtain rfl : k = 0 := by omega
              simp [catN]
            · obtain rfl : k = 1 := by omega
              simpa [catN] using hn1
          rw [ht]
          rcases Nat.lt_or_ge k 1 with hk1 | hk1
          · obtain rfl : k = 0 := by omega
            obtain ⟨A', c', w3, hrun, hown, hb3⟩ := app_intsI 22 HO.out (NIn.all h1.out HB.out) (by dsimp only; omega) HB.out.size
            unfold slV at hrun
            dsimp only at hrun hown
            have HO3 : Hid (OwnI w3 w0.heap.size A' (catN n1 n2 1) c' (catL x1 x2 1)) := by
              rw [← ht, ← hL] at hown
              refine Lib.hid ?_
              simpa [catN, catL] using hown
            have ht3 : t + n1 = catN n1 n2 1 := by
              rw [← ht]
              simp [catN]
            have HB3 := Lib.hid (HB.out.trans hb3)
            clear hown hb3 ht hL
            go_wp2_with (at_builtin; refine Lib.wpList_append_run _ rfl _ _ _ _ rfl _ _ rfl rfl _ _ hrun ?_)
            exact ⟨⟨1, A', c', by omega, rfl, rfl, HO3, HB3⟩, by simp [intOf]⟩
          · obtain rfl : k = 1 := by omega
            obtain ⟨A', c', w3, hrun, hown, hb3⟩ := app_intsI 22 HO.out (NIn.all h2.out HB.out) (by dsimp only; omega) HB.out.size
            unfold slV at hrun
            dsimp only at hrun hown
            have HO3 : Hid (OwnI w3 w0.heap.size A' (catN n1 n2 2) c' (catL x1 x2 2)) := by
              rw [← ht, ← hL] at hown
              refine Lib.hid ?_
              exact hown
            have ht3 : t + n2 = catN n1 n2 2 := by
              rw [← ht]
              simp [catN]
            have HB3 := Lib.hid (HB.out.trans hb3)
            clear hown hb3 ht hL
            go_wp2_with (at_builtin; refine Lib.wpList_append_run _ rfl _ _ _ _ rfl _ _ rfl rfl _ _ hrun ?_)
            exact ⟨⟨2, A', c', by omega, rfl, rfl, HO3, HB3⟩, by simp [intOf]⟩
        · obtain rfl : k = 2 := by omega
          go_wp2
          go_ret
          exact ⟨A, c, rfl, HO.out, HB.out⟩
end Go.Proofs.Ytkandhpnenmleaa
