/- The walk of worldmintref02.Vals. -/
import Derived.Test.YtahajgmmoefpjaaWireVals
namespace Go.Proofs.Ytahajgmmoefpjaa
open Go.RowKit

/-- A value as Vals makes them. -/
structure GoodV (v : V) : Prop where
  fit : FitV v
  small : v.b.length ≤ 9 ∧ v.l.length ≤ 4
  norm : v = ⟨0, v.u, 0, [], []⟩ ∨ v = ⟨1, 0, v.n, [], []⟩ ∨ v = ⟨2, 0, 0, [], []⟩ ∨ v = ⟨2, 0, 1, [], []⟩ ∨ v = ⟨3, 0, 0, v.b, []⟩ ∨ v = ⟨4, 0, 0, v.b, []⟩ ∨ v = ⟨5, 0, 0, [], v.l⟩

theorem tdiv6 {x : Int} (h1 : -9223372036854775808 ≤ x) (h2 : x ≤ 9223372036854775807) : -9223372036854775808 ≤ x.tdiv 6 ∧ x.tdiv 6 ≤ 9223372036854775807 := by
  by_cases h : 0 ≤ x
  · rw [Int.tdiv_eq_ediv_of_nonneg h]; omega
  · obtain ⟨y, rfl⟩ : ∃ y, x = -y := ⟨-x, by omega⟩
    rw [Int.neg_tdiv, Int.tdiv_eq_ediv_of_nonneg (by omega)]; omega
theorem byte_of_wf8 (z : Int) : ∃ y : UInt8, IntKind.u8.wrap z = ((y.toNat : Nat) : Int) := by
  have h : 0 ≤ IntKind.u8.wrap z ∧ IntKind.u8.wrap z < 256 := by
    simp [IntKind.wrap, IntKind.bits, IntKind.signed]
    omega
  exact ⟨UInt8.ofNat (IntKind.u8.wrap z).toNat, by rw [UInt8.toNat_ofNat']; omega⟩
theorem good_snoc {vs : List V} {v : V} (h : ∀ y ∈ vs, GoodV y) (hv : GoodV v) : ∀ y ∈ vs ++ [v], GoodV y := by
  intro y hy
  rcases List.mem_append.1 hy with h1 | h1
  · exact h y h1
  · rw [List.mem_singleton] at h1; subst h1; exact hv
theorem inI0 : InI 0 := ⟨by decide, by decide⟩
theorem inI1 : InI 1 := ⟨by decide, by decide⟩
theorem wrap_byte (z : Int) : ∃ y : UInt8, IntKind.u8.wrap z = ((y.toNat : Nat) : Int) := byte_of_wf8 z
theorem good0 {u : Nat} (h : u ≤ 18446744073709551615) : GoodV ⟨0, u, 0, [], []⟩ := ⟨⟨h, inI0, by simp, by simp, by simp⟩, by simp, .inl rfl⟩
theorem good1 {n : Int} (h : InI n) : GoodV ⟨1, 0, n, [], []⟩ := ⟨⟨by simp, h, by simp, by simp, by simp⟩, by simp, .inr (.inl rfl)⟩
theorem good2 {n : Int} (h1 : 0 ≤ n) (h2 : n ≤ 1) : GoodV ⟨2, 0, n, [], []⟩ := by
  rcases (show n = 0 ∨ n = 1 by omega) with rfl | rfl
  · exact ⟨⟨by simp, inI0, by simp, by simp, by simp⟩, by simp, .inr (.inr (.inl rfl))⟩
  · exact ⟨⟨by simp, inI1, by simp, by simp, by simp⟩, by simp, .inr (.inr (.inr (.inl rfl)))⟩
theorem good34 {k : Int} {b : List UInt8} (hk : k = 3 ∨ k = 4) (hb : b.length ≤ 9) : GoodV ⟨k, 0, 0, b, []⟩ := by
  refine ⟨⟨by simp, inI0, by simp only; omega, by simp, by simp⟩, ⟨hb, by simp⟩, ?_⟩
  rcases hk with rfl | rfl
  · exact .inr (.inr (.inr (.inr (.inl rfl))))
  · exact .inr (.inr (.inr (.inr (.inr (.inl rfl)))))
theorem good5 {l : List Int} (hl : l.length ≤ 4) (hr : ∀ j : Nat, -9223372036854775808 ≤ l[j]?.getD 0 ∧ l[j]?.getD 0 ≤ 9223372036854775807) : GoodV ⟨5, 0, 0, [], l⟩ :=
  ⟨⟨by simp, inI0, by simp, by simp only; omega, hr⟩, ⟨by simp, hl⟩, .inr (.inr (.inr (.inr (.inr (.inr rfl)))))⟩
theorem shr_u64 (x : Int) (m : Nat) : ∃ u : Nat, (u : Int) = IntKind.u64.wrap x / 2 ^ m ∧ u ≤ 18446744073709551615 := by
  have h0 : 0 ≤ IntKind.u64.wrap x ∧ IntKind.u64.wrap x ≤ 18446744073709551615 := by rw [wrap_u64]; omega
  obtain ⟨y, hy⟩ := Int.eq_ofNat_of_zero_le h0.1
  rw [hy] at h0 ⊢
  exact ⟨y / 2 ^ m, by rw [Int.natCast_ediv, Int.natCast_pow]; rfl, Nat.le_trans (Nat.div_le_self _ _) (by omega)⟩
theorem shr_i64 {x : Int} (m : Nat) (h : InI x) : InI (x / 2 ^ m) := by
  obtain ⟨h1, h2⟩ := h
  have hp : (0 : Int) < 2 ^ m := Int.pow_pos (by decide)
  constructor
  · rw [Int.le_ediv_iff_mul_le hp]
    have : (-9223372036854775808 : Int) * 2 ^ m ≤ -9223372036854775808 * 1 := Int.mul_le_mul_of_nonpos_left (by decide) (by omega)
    omega
  · have : x / 2 ^ m ≤ 9223372036854775807 / 2 ^ m := Int.ediv_le_ediv hp h2
    have h3 : (9223372036854775807 : Int) / 2 ^ m ≤ 9223372036854775807 := Int.ediv_le_self _ (by decide)
    omega
theorem VOwn.lt {w : World} {base k : Nat} {v : Value} {vs : List V} (h : VOwn w base v k vs) : ∀ r, v.ownBlock = some r → r < w.heap.size := by
  obtain ⟨_, S, T, h1, _⟩ := h
  exact fun r e => (h1.lt r e).2
theorem range_snoc {bs : List Int} {x : Int} (h : ∀ i : Nat, -9223372036854775808 ≤ bs[i]?.getD 0 ∧ bs[i]?.getD 0 ≤ 9223372036854775807) (hx : InI x) : ∀ i : Nat, -9223372036854775808 ≤ (bs ++ [x])[i]?.getD 0 ∧ (bs ++ [x])[i]?.getD 0 ≤ 9223372036854775807 := by
  intro i
  by_cases hi : i < bs.length
  · rw [List.getElem?_append_left hi]; exact h i
  · rw [List.getElem?_append_right (by omega)]
    by_cases h2 : i = bs.length
    · subst h2; simp only [Nat.sub_self, List.getElem?_cons_zero, Option.getD_some]; exact hx
    · rw [List.getElem?_eq_none (by simp; omega)]; simp
def ValsPost (w : World) (e : Ending) (w' : World) : Prop :=
  ∃ (A' : Option Addr) (k c' : Nat) (vs : List V), e = .returned (.slice A' k c') ∧ k ≤ 8 ∧ k ≤ c' ∧ c' ≤ 9223372036854775807 ∧ VOwn w' w.heap.size (.slice A' k c') k vs ∧ Hid (∀ x ∈ vs, GoodV x) ∧ Below w.heap.size w w'
set_option maxRecDepth 100000 in
set_option maxHeartbeats 4000000 in
theorem vals_any (A : Option Addr) (n c : Nat) (f : Nat → Int) (w : World) (hA : A = none → n = 0) (hR : Rd w w.heap.size A n (fun j => .int .i64 (f j))) (_hnc : n ≤ c) (_hc : c ≤ 9223372036854775807) (hf : Hid (∀ j, j < n → InI (f j))) :
    Calls Try.prog 19 #[.slice A n c] w (ValsPost w) := by
  obtain ⟨i0, hi, hz0, hz1, hz2⟩ := info_parts info_u8
  obtain ⟨i1, gi, gz0, gz1, gz2⟩ := info_parts info_i64
  go_enter Try.func19, Try.ntmps19
  go_wp2
  go_loopw [3, 4] (fun v i wr => ∃ k : Nat, ∃ vs : List V, k ≤ n ∧ k ≤ 8 ∧ i = .int .i64 (k : Int) ∧ VOwn wr w.heap.size v k vs ∧ Hid (∀ x ∈ vs, GoodV x) ∧ Below w.heap.size w wr) (fun _ i _ => n - (intOf i).toNat)
  case atStart => exact ⟨0, [], by omega, by omega, rfl, VOwn.nil _ _, Lib.hid (by simp), Below.refl _ _⟩
  case round =>
    obtain ⟨k, vs, hk, hk8, rfl, hO, HG, hb⟩ := hrel
    obtain ⟨v3, rfl⟩ : ∃ x, x = u3 := ⟨_, rfl⟩
    rcases (show (k < n ∧ k < 8) ∨ (k < n ∧ ¬ k < 8) ∨ ¬ k < n by omega) with ⟨hlt, hl8⟩ | ⟨hlt, hl8⟩ | hlt
    · have hl8' : decide ((k : Int) < 8) = true := by simp; omega
      obtain ⟨b, off, rfl, hbB, hcell⟩ := (hR.all hb).at_ hlt
      obtain ⟨hx1, hx2⟩ := hf.out k hlt
      generalize f k = x at *
      go_wp2_with fail
      refine (around_nat x 6 _ _ rfl hx1 hx2 (by omega) (by omega)).mono ?_
      rintro e w' ⟨kk, rfl, hkk, _, rfl⟩
      go_wp2_with fail
      refine (around_nat (x.tdiv 6) 63 _ _ rfl (tdiv6 hx1 hx2).1 (tdiv6 hx1 hx2).2 (by omega) (by omega)).mono ?_
      rintro e w' ⟨m, rfl, hm, _, rfl⟩
      rcases (show kk = 0 ∨ kk = 1 ∨ kk = 2 ∨ kk = 3 ∨ kk = 4 ∨ kk = 5 by omega) with rfl | rfl | rfl | rfl | rfl | rfl
      · obtain ⟨u, hu, hu0⟩ : ∃ u : Nat, (u : Int) = IntKind.u64.wrap x / 2 ^ m ∧ u ≤ 18446744073709551615 := shr_u64 x m
        have hO1 := hO.all ((Below.refl _ wr).alloc (Nat.le_refl _) (.cells #[.int .i64 0, .int .u64 (IntKind.u64.wrap x / 2 ^ m), .int .i64 0, .slice none 0 0, .slice none 0 0] 47))
        obtain ⟨g, cap, w2, HA, hO2, _, hb2⟩ := hO1.snoc ⟨0, u, 0, [], []⟩ (none, 0, 0) (none, 0, 0) (BIn.nil _ _) (NIn.nil _ _) (Far.nil _) (Far.nil _) (fun b off h => absurd h (by simp)) (fun b off h => absurd h (by simp)) (by omega) (by have := hb.size; simp; omega)
        have hb3 := (hb.alloc hb.size (.cells #[.int .i64 0, .int .u64 (IntKind.u64.wrap x / 2 ^ m), .int .i64 0, .slice none 0 0, .slice none 0 0] 47)).trans hb2
        have HG2 : Hid (∀ y ∈ vs ++ [⟨0, u, 0, [], []⟩], GoodV y) := Lib.hid (good_snoc HG.out (good0 hu0))
        simp only [vCells, hu, World.size_alloc] at HA
        clear hO1 hb2 hu
        go_wp2_with (at_builtin; refine wpList_append_run HA.out rfl rfl rfl rfl ?_)
        exact ⟨⟨k + 1, _, by omega, by omega, by go_num, hO2, HG2, hb3⟩, by simp [intOf]; omega⟩
      · have hu : ((0 : Nat) : Int) = 0 := rfl
        have hO1 := hO.all ((Below.refl _ wr).alloc (Nat.le_refl _) (.cells #[.int .i64 1, .int .u64 0, .int .i64 (x / 2 ^ m), .slice none 0 0, .slice none 0 0] 47))
        obtain ⟨g, cap, w2, HA, hO2, _, hb2⟩ := hO1.snoc ⟨1, 0, x / 2 ^ m, [], []⟩ (none, 0, 0) (none, 0, 0) (BIn.nil _ _) (NIn.nil _ _) (Far.nil _) (Far.nil _) (fun b off h => absurd h (by simp)) (fun b off h => absurd h (by simp)) (by omega) (by have := hb.size; simp; omega)
        have hb3 := (hb.alloc hb.size (.cells #[.int .i64 1, .int .u64 0, .int .i64 (x / 2 ^ m), .slice none 0 0, .slice none 0 0] 47)).trans hb2
        have HG2 : Hid (∀ y ∈ vs ++ [⟨1, 0, x / 2 ^ m, [], []⟩], GoodV y) := Lib.hid (good_snoc HG.out (good1 (shr_i64 m ⟨hx1, hx2⟩)))
        simp only [vCells, hu, World.size_alloc] at HA
        clear hO1 hb2 hu
        go_wp2_with (at_builtin; refine wpList_append_run HA.out rfl rfl rfl rfl ?_)
        exact ⟨⟨k + 1, _, by omega, by omega, by go_num, hO2, HG2, hb3⟩, by simp [intOf]; omega⟩
      · have hu : ((0 : Nat) : Int) = 0 := rfl
        have hO1 := hO.all ((Below.refl _ wr).alloc (Nat.le_refl _) (.cells #[.int .i64 2, .int .u64 0, .int .i64 ((m : Int) % 2), .slice none 0 0, .slice none 0 0] 47))
        obtain ⟨g, cap, w2, HA, hO2, _, hb2⟩ := hO1.snoc ⟨2, 0, (m : Int) % 2, [], []⟩ (none, 0, 0) (none, 0, 0) (BIn.nil _ _) (NIn.nil _ _) (Far.nil _) (Far.nil _) (fun b off h => absurd h (by simp)) (fun b off h => absurd h (by simp)) (by omega) (by have := hb.size; simp; omega)
        have hb3 := (hb.alloc hb.size (.cells #[.int .i64 2, .int .u64 0, .int .i64 ((m : Int) % 2), .slice none 0 0, .slice none 0 0] 47)).trans hb2
        have HG2 : Hid (∀ y ∈ vs ++ [⟨2, 0, (m : Int) % 2, [], []⟩], GoodV y) := Lib.hid (good_snoc HG.out (good2 (by omega) (by omega)))
        simp only [vCells, hu, World.size_alloc] at HA
        clear hO1 hb2 hu
        go_wp2_with (at_builtin; refine wpList_append_run HA.out rfl rfl rfl rfl ?_)
        exact ⟨⟨k + 1, _, by omega, by omega, by go_num, hO2, HG2, hb3⟩, by simp [intOf]; omega⟩
      · have HB7 := Lib.hid (Blk.new wr 47 #[.int .i64 3, .int .u64 0, .int .i64 0, .slice none 0 0, .slice none 0 0])
        have hbA : Below wr.heap.size wr (wr.alloc (.cells #[.int .i64 3, .int .u64 0, .int .i64 0, .slice none 0 0, .slice none 0 0] 47)) := (Below.refl _ _).alloc (Nat.le_refl _) _
        obtain ⟨wo, rfl⟩ : ∃ x, x = wr := ⟨_, rfl⟩
        go_wp2
        go_loopw [8] (fun v wr => ∃ j : Nat, ∃ bs : List UInt8, ∃ (A3 : Option Addr) (c3 : Nat), j ≤ m % 10 ∧ v = .int .i64 (j : Int) ∧ Hid (Blk wr wo.heap.size 47 #[.int .i64 3, .int .u64 0, .int .i64 0, .slice A3 j c3, .slice none 0 0]) ∧ wr.ownsRow wo.heap.size 5 1 (.slice A3 j c3) j (bs.map fun b => Value.int .u8 ((b.toNat : Nat) : Int)) ∧ Below wo.heap.size wo wr) (fun v _ => 10 - (intOf v).toNat)
        case atStart => exact ⟨0, [], none, 0, by omega, rfl, HB7, World.ownsRow_nil _ _ _ _, hbA⟩
        case round =>
          obtain ⟨j, bs, A3, c3, hj, rfl, HB, hown, hbi⟩ := hrel
          obtain ⟨c0', c1', c2', c3', c4', f0', f1', f2', f3', f4'⟩ := blk5 HB.out
          by_cases hlj : j < m % 10
          · have hcx : wr.cell? ⟨b, off + k, none⟩ = some (.int .i64 x) := (hbi.cell (p := ⟨b, off + k, none⟩) hbB).trans hcell
            have hk0 : (0 : Int) ≤ (k : Int) := by omega
            have hk1 : (k : Int) < (n : Int) := by omega
            have hbs := hbi.size
            obtain ⟨y, hy⟩ := wrap_byte (x / 2 ^ min (IntKind.u64.wrap (j : Int)).toNat 64)
            have HY := Lib.hid hy
            clear hy
            have hnext : ∀ (z : Value) w1, (wr.alloc (.cells #[z] 5)).drew.grownBy w1 (Value.slice A3 j c3).ownBlock → Blk w1 wo.heap.size 47 #[.int .i64 3, .int .u64 0, .int .i64 0, .slice A3 j c3, .slice none 0 0] := fun z w1 hg => Blk.grown (w := (wr.alloc (.cells #[z] 5)).drew) (HB.out.alloc _) hg (Ne.symm (own_ne (by decide) HB.out hown))
            have HN := Lib.hid hnext
            clear hnext
            have hn1 : (wr.alloc (.cells #[.int .u8 (IntKind.u8.wrap (x / 2 ^ min (IntKind.u64.wrap (j : Int)).toNat 64))] 5)).cell? ⟨wo.heap.size, 3, none⟩ = some (.slice A3 j c3) := (((Below.refl _ wr).alloc (Nat.le_refl _) _).cell (p := ⟨wo.heap.size, 3, none⟩) (Blk.lt HB.out)).trans c3'
            go_wp2
            go_region_law (refine step_append_lies _ (by rfl) _ _ _ (by rfl) wo.heap.size 5 i0 _ 1 1 Try.underlying24 hi hz0 hz1 hz2 rfl (by decide) _ j _ (by rfl) (by first | exact (hown.alloc _).drew | exact hown.alloc _) ⟨wr.heap.size, 0, none⟩ 1 1 [.int .u8 (IntKind.u8.wrap (x / 2 ^ min (IntKind.u64.wrap (j : Int)).toNat 64))] (by rfl) (by rfl) (World.news_of_block (cs := #[.int .u8 (IntKind.u8.wrap (x / 2 ^ min (IntKind.u64.wrap (j : Int)).toNat 64))]) (t := 5) (fr := (0, 0)) (heap_alloc_new wr _)) (by simp [Value.oneCell']) (by decide) (by unfold maxLen; omega) (by omega) (by simp; omega) (wr.heap.size + 1) (by simp) ?_; intro gg cap w1 hown1 hgrow hat hlt1; have hBw := HN.out _ _ hgrow; obtain ⟨d0, d1, d2, d3, d4, e0, e1, e2, e3, e4⟩ := blk5 hBw)
            all_goals
              have hgw : (wr.alloc (.cells #[.int .u8 (IntKind.u8.wrap (x / 2 ^ min (IntKind.u64.wrap (j : Int)).toNat 64))] 5)).drew.grownBy w1 (Value.slice A3 j c3).ownBlock := hgrow
              have hB5 := Lib.hid (Blk.set_ hBw 3 (.slice (some ⟨gg, 0, none⟩) (j + 1) cap))
              have hb5 : Below wo.heap.size wo (w1.setCell ⟨wo.heap.size, 3, none⟩ (.slice (some ⟨gg, 0, none⟩) (j + 1) cap)) := (((hbi.alloc hbi.size _).drew).grown hgw (by have := hbi.size; simp; omega) (fun r e => (hown.lt r e).1)).setCell (Nat.le_refl _) _
              have ho5 := hown1.kept (only_set (p := ⟨wo.heap.size, 3, none⟩) (only_refl w1 (some wo.heap.size)) (.inl rfl) (.slice (some ⟨gg, 0, none⟩) (j + 1) cap)) (.inr (own_ne (by decide) hBw hown1))
              clear hgrow hat hgw hBw hown1 d0 d1 d2 d3 d4 e0 e1 e2 e3 e4 hn1 c0' c1' c2' c3' c4' f0' f1' f2' f3' f4' hcx
              rw [HY.out] at ho5
              go_wp2
              exact ⟨⟨j + 1, bs ++ [y], _, _, by omega, by go_num, hB5, by rw [List.map_append]; exact ho5, hb5⟩, by simp [intOf]; omega⟩
          · have hO1 := hO.all hbi
            obtain ⟨g, cap, w2, HA, hO2, _, hb2⟩ := hO1.snoc ⟨3, 0, 0, bs, []⟩ (A3, j, c3) (none, 0, 0) (BIn.own hown) (NIn.nil _ _) ((Far.own hown).more hb.size) (Far.nil _) (fun b off hp e hh => by have := (Far.own hown) b off hp e; have := hO.lt b hh.symm; omega) (fun b off h => absurd h (by simp)) (by omega) (by have := hb.size; have := hbi.size; omega)
            have hb3 := (hb.trans (hbi.mono hb.size)).trans hb2
            have HG2 : Hid (∀ y ∈ vs ++ [(⟨3, 0, 0, bs, []⟩ : V)], GoodV y) := Lib.hid (good_snoc HG.out (good34 (.inl rfl) (by have := hown.1; simp at this; omega)))
            simp only [vCells, Int.natCast_zero] at HA
            clear hO1 hb2
            go_wp2_with (at_builtin; refine wpList_append_run HA.out rfl rfl rfl rfl ?_)
            exact ⟨⟨k + 1, _, by omega, by omega, by go_num, hO2, HG2, hb3⟩, by simp [intOf]; omega⟩
      · have HB7 := Lib.hid (Blk.new wr 47 #[.int .i64 4, .int .u64 0, .int .i64 0, .slice none 0 0, .slice none 0 0])
        have hbA : Below wr.heap.size wr (wr.alloc (.cells #[.int .i64 4, .int .u64 0, .int .i64 0, .slice none 0 0, .slice none 0 0] 47)) := (Below.refl _ _).alloc (Nat.le_refl _) _
        obtain ⟨wo, rfl⟩ : ∃ x, x = wr := ⟨_, rfl⟩
        go_wp2
        go_loopw [8] (fun v wr => ∃ j : Nat, ∃ bs : List UInt8, ∃ (A3 : Option Addr) (c3 : Nat), j ≤ m % 10 ∧ v = .int .i64 (j : Int) ∧ Hid (Blk wr wo.heap.size 47 #[.int .i64 4, .int .u64 0, .int .i64 0, .slice A3 j c3, .slice none 0 0]) ∧ wr.ownsRow wo.heap.size 5 1 (.slice A3 j c3) j (bs.map fun b => Value.int .u8 ((b.toNat : Nat) : Int)) ∧ Below wo.heap.size wo wr) (fun v _ => 10 - (intOf v).toNat)
        case atStart => exact ⟨0, [], none, 0, by omega, rfl, HB7, World.ownsRow_nil _ _ _ _, hbA⟩
        case round =>
          obtain ⟨j, bs, A3, c3, hj, rfl, HB, hown, hbi⟩ := hrel
          obtain ⟨c0', c1', c2', c3', c4', f0', f1', f2', f3', f4'⟩ := blk5 HB.out
          by_cases hlj : j < m % 10
          · have hcx : wr.cell? ⟨b, off + k, none⟩ = some (.int .i64 x) := (hbi.cell (p := ⟨b, off + k, none⟩) hbB).trans hcell
            have hk0 : (0 : Int) ≤ (k : Int) := by omega
            have hk1 : (k : Int) < (n : Int) := by omega
            have hbs := hbi.size
            obtain ⟨y, hy⟩ := wrap_byte (x / 2 ^ min (IntKind.u64.wrap (j : Int)).toNat 64)
            have HY := Lib.hid hy
            clear hy
            have hnext : ∀ (z : Value) w1, (wr.alloc (.cells #[z] 5)).drew.grownBy w1 (Value.slice A3 j c3).ownBlock → Blk w1 wo.heap.size 47 #[.int .i64 4, .int .u64 0, .int .i64 0, .slice A3 j c3, .slice none 0 0] := fun z w1 hg => Blk.grown (w := (wr.alloc (.cells #[z] 5)).drew) (HB.out.alloc _) hg (Ne.symm (own_ne (by decide) HB.out hown))
            have HN := Lib.hid hnext
            clear hnext
            have hn1 : (wr.alloc (.cells #[.int .u8 (IntKind.u8.wrap (x / 2 ^ min (IntKind.u64.wrap (j : Int)).toNat 64))] 5)).cell? ⟨wo.heap.size, 3, none⟩ = some (.slice A3 j c3) := (((Below.refl _ wr).alloc (Nat.le_refl _) _).cell (p := ⟨wo.heap.size, 3, none⟩) (Blk.lt HB.out)).trans c3'
            go_wp2
            go_region_law (refine step_append_lies _ (by rfl) _ _ _ (by rfl) wo.heap.size 5 i0 _ 1 1 Try.underlying24 hi hz0 hz1 hz2 rfl (by decide) _ j _ (by rfl) (by first | exact (hown.alloc _).drew | exact hown.alloc _) ⟨wr.heap.size, 0, none⟩ 1 1 [.int .u8 (IntKind.u8.wrap (x / 2 ^ min (IntKind.u64.wrap (j : Int)).toNat 64))] (by rfl) (by rfl) (World.news_of_block (cs := #[.int .u8 (IntKind.u8.wrap (x / 2 ^ min (IntKind.u64.wrap (j : Int)).toNat 64))]) (t := 5) (fr := (0, 0)) (heap_alloc_new wr _)) (by simp [Value.oneCell']) (by decide) (by unfold maxLen; omega) (by omega) (by simp; omega) (wr.heap.size + 1) (by simp) ?_; intro gg cap w1 hown1 hgrow hat hlt1; have hBw := HN.out _ _ hgrow; obtain ⟨d0, d1, d2, d3, d4, e0, e1, e2, e3, e4⟩ := blk5 hBw)
            all_goals
              have hgw : (wr.alloc (.cells #[.int .u8 (IntKind.u8.wrap (x / 2 ^ min (IntKind.u64.wrap (j : Int)).toNat 64))] 5)).drew.grownBy w1 (Value.slice A3 j c3).ownBlock := hgrow
              have hB5 := Lib.hid (Blk.set_ hBw 3 (.slice (some ⟨gg, 0, none⟩) (j + 1) cap))
              have hb5 : Below wo.heap.size wo (w1.setCell ⟨wo.heap.size, 3, none⟩ (.slice (some ⟨gg, 0, none⟩) (j + 1) cap)) := (((hbi.alloc hbi.size _).drew).grown hgw (by have := hbi.size; simp; omega) (fun r e => (hown.lt r e).1)).setCell (Nat.le_refl _) _
              have ho5 := hown1.kept (only_set (p := ⟨wo.heap.size, 3, none⟩) (only_refl w1 (some wo.heap.size)) (.inl rfl) (.slice (some ⟨gg, 0, none⟩) (j + 1) cap)) (.inr (own_ne (by decide) hBw hown1))
              clear hgrow hat hgw hBw hown1 d0 d1 d2 d3 d4 e0 e1 e2 e3 e4 hn1 c0' c1' c2' c3' c4' f0' f1' f2' f3' f4' hcx
              rw [HY.out] at ho5
              go_wp2
              exact ⟨⟨j + 1, bs ++ [y], _, _, by omega, by go_num, hB5, by rw [List.map_append]; exact ho5, hb5⟩, by simp [intOf]; omega⟩
          · have hO1 := hO.all hbi
            obtain ⟨g, cap, w2, HA, hO2, _, hb2⟩ := hO1.snoc ⟨4, 0, 0, bs, []⟩ (A3, j, c3) (none, 0, 0) (BIn.own hown) (NIn.nil _ _) ((Far.own hown).more hb.size) (Far.nil _) (fun b off hp e hh => by have := (Far.own hown) b off hp e; have := hO.lt b hh.symm; omega) (fun b off h => absurd h (by simp)) (by omega) (by have := hb.size; have := hbi.size; omega)
            have hb3 := (hb.trans (hbi.mono hb.size)).trans hb2
            have HG2 : Hid (∀ y ∈ vs ++ [(⟨4, 0, 0, bs, []⟩ : V)], GoodV y) := Lib.hid (good_snoc HG.out (good34 (.inr rfl) (by have := hown.1; simp at this; omega)))
            simp only [vCells, Int.natCast_zero] at HA
            clear hO1 hb2
            go_wp2_with (at_builtin; refine wpList_append_run HA.out rfl rfl rfl rfl ?_)
            exact ⟨⟨k + 1, _, by omega, by omega, by go_num, hO2, HG2, hb3⟩, by simp [intOf]; omega⟩
      · have HB7 := Lib.hid (Blk.new wr 47 #[.int .i64 5, .int .u64 0, .int .i64 0, .slice none 0 0, .slice none 0 0])
        have hbA : Below wr.heap.size wr (wr.alloc (.cells #[.int .i64 5, .int .u64 0, .int .i64 0, .slice none 0 0, .slice none 0 0] 47)) := (Below.refl _ _).alloc (Nat.le_refl _) _
        obtain ⟨wo, rfl⟩ : ∃ x, x = wr := ⟨_, rfl⟩
        go_wp2
        go_loopw [9] (fun v wr => ∃ j : Nat, ∃ bs : List Int, ∃ (A3 : Option Addr) (c3 : Nat), j ≤ m % 5 ∧ v = .int .i64 (j : Int) ∧ Hid (Blk wr wo.heap.size 47 #[.int .i64 5, .int .u64 0, .int .i64 0, .slice none 0 0, .slice A3 j c3]) ∧ wr.ownsRow wo.heap.size 3 1 (.slice A3 j c3) j (bs.map (Value.int .i64)) ∧ Below wo.heap.size wo wr ∧ Hid (∀ i : Nat, -9223372036854775808 ≤ bs[i]?.getD 0 ∧ bs[i]?.getD 0 ≤ 9223372036854775807)) (fun v _ => 5 - (intOf v).toNat)
        case atStart => exact ⟨0, [], none, 0, by omega, rfl, HB7, World.ownsRow_nil _ _ _ _, hbA, Lib.hid (by simp)⟩
        case round =>
          obtain ⟨j, bs, A3, c3, hj, rfl, HB, hown, hbi, HR0⟩ := hrel
          obtain ⟨c0', c1', c2', c3', c4', f0', f1', f2', f3', f4'⟩ := blk5 HB.out
          by_cases hlj : j < m % 5
          · have hcx : wr.cell? ⟨b, off + k, none⟩ = some (.int .i64 x) := (hbi.cell (p := ⟨b, off + k, none⟩) hbB).trans hcell
            have hk0 : (0 : Int) ≤ (k : Int) := by omega
            have hk1 : (k : Int) < (n : Int) := by omega
            have hbs := hbi.size
            have HY := Lib.hid (shr_i64 (min (IntKind.u64.wrap (IntKind.i64.wrap (13 * (j : Int)))).toNat 64) ⟨hx1, hx2⟩)
            have hnext : ∀ (z : Value) w1, (wr.alloc (.cells #[z] 3)).drew.grownBy w1 (Value.slice A3 j c3).ownBlock → Blk w1 wo.heap.size 47 #[.int .i64 5, .int .u64 0, .int .i64 0, .slice none 0 0, .slice A3 j c3] := fun z w1 hg => Blk.grown (w := (wr.alloc (.cells #[z] 3)).drew) (HB.out.alloc _) hg (Ne.symm (own_ne (by decide) HB.out hown))
            have HN := Lib.hid hnext
            clear hnext
            have hn1 : (wr.alloc (.cells #[.int .i64 (x / 2 ^ min (IntKind.u64.wrap (IntKind.i64.wrap (13 * (j : Int)))).toNat 64)] 3)).cell? ⟨wo.heap.size, 4, none⟩ = some (.slice A3 j c3) := (((Below.refl _ wr).alloc (Nat.le_refl _) _).cell (p := ⟨wo.heap.size, 4, none⟩) (Blk.lt HB.out)).trans c4'
            go_wp2
            go_region_law (refine step_append_lies _ (by rfl) _ _ _ (by rfl) wo.heap.size 3 i1 _ 1 8 Try.underlying33 gi gz0 gz1 gz2 rfl (by decide) _ j _ (by rfl) (by first | exact (hown.alloc _).drew | exact hown.alloc _) ⟨wr.heap.size, 0, none⟩ 1 1 [.int .i64 (x / 2 ^ min (IntKind.u64.wrap (IntKind.i64.wrap (13 * (j : Int)))).toNat 64)] (by rfl) (by rfl) (World.news_of_block (cs := #[.int .i64 (x / 2 ^ min (IntKind.u64.wrap (IntKind.i64.wrap (13 * (j : Int)))).toNat 64)]) (t := 3) (fr := (0, 0)) (heap_alloc_new wr _)) (by simp [Value.oneCell']) (by decide) (by unfold maxLen; omega) (by omega) (by simp; omega) (wr.heap.size + 1) (by simp) ?_; intro gg cap w1 hown1 hgrow hat hlt1; have hBw := HN.out _ _ hgrow; obtain ⟨d0, d1, d2, d3, d4, e0, e1, e2, e3, e4⟩ := blk5 hBw)
            all_goals
              have hgw : (wr.alloc (.cells #[.int .i64 (x / 2 ^ min (IntKind.u64.wrap (IntKind.i64.wrap (13 * (j : Int)))).toNat 64)] 3)).drew.grownBy w1 (Value.slice A3 j c3).ownBlock := hgrow
              have hB5 := Lib.hid (Blk.set_ hBw 4 (.slice (some ⟨gg, 0, none⟩) (j + 1) cap))
              have hb5 : Below wo.heap.size wo (w1.setCell ⟨wo.heap.size, 4, none⟩ (.slice (some ⟨gg, 0, none⟩) (j + 1) cap)) := (((hbi.alloc hbi.size _).drew).grown hgw (by have := hbi.size; simp; omega) (fun r e => (hown.lt r e).1)).setCell (Nat.le_refl _) _
              have ho5 := hown1.kept (only_set (p := ⟨wo.heap.size, 4, none⟩) (only_refl w1 (some wo.heap.size)) (.inl rfl) (.slice (some ⟨gg, 0, none⟩) (j + 1) cap)) (.inr (own_ne (by decide) hBw hown1))
              clear hgrow hat hgw hBw hown1 d0 d1 d2 d3 d4 e0 e1 e2 e3 e4 hn1 c0' c1' c2' c3' c4' f0' f1' f2' f3' f4' hcx
              have HRG : Hid (∀ i : Nat, -9223372036854775808 ≤ (bs ++ [x / 2 ^ min (IntKind.u64.wrap (IntKind.i64.wrap (13 * (j : Int)))).toNat 64])[i]?.getD 0 ∧ (bs ++ [x / 2 ^ min (IntKind.u64.wrap (IntKind.i64.wrap (13 * (j : Int)))).toNat 64])[i]?.getD 0 ≤ 9223372036854775807) := Lib.hid (range_snoc HR0.out HY.out)
              go_wp2
              exact ⟨⟨j + 1, bs ++ [x / 2 ^ min (IntKind.u64.wrap (IntKind.i64.wrap (13 * (j : Int)))).toNat 64], _, _, by omega, by go_num, hB5, by rw [List.map_append]; exact ho5, hb5, HRG⟩, by simp [intOf]; omega⟩
          · have hO1 := hO.all hbi
            obtain ⟨g, cap, w2, HA, hO2, _, hb2⟩ := hO1.snoc ⟨5, 0, 0, [], bs⟩ (none, 0, 0) (A3, j, c3) (BIn.nil _ _) (NIn.own hown) (Far.nil _) ((Far.own hown).more hb.size) (fun b off h => absurd h (by simp)) (fun b off hp e hh => by have := (Far.own hown) b off hp e; have := hO.lt b hh.symm; omega) (by omega) (by have := hb.size; have := hbi.size; omega)
            have hb3 := (hb.trans (hbi.mono hb.size)).trans hb2
            have HG2 : Hid (∀ y ∈ vs ++ [(⟨5, 0, 0, [], bs⟩ : V)], GoodV y) := Lib.hid (good_snoc HG.out (good5 (by have := hown.1; simp at this; omega) HR0.out))
            simp only [vCells, Int.natCast_zero] at HA
            clear hO1 hb2
            go_wp2_with (at_builtin; refine wpList_append_run HA.out rfl rfl rfl rfl ?_)
            exact ⟨⟨k + 1, _, by omega, by omega, by go_num, hO2, HG2, hb3⟩, by simp [intOf]; omega⟩
    all_goals
      obtain ⟨A', c', rfl⟩ := hO.slice
      obtain ⟨_, h1, h2, _⟩ := hO.row
      go_wp2
      go_ret
      exact ⟨A', k, c', vs, rfl, hk8, h1, h2, hO, HG, hb⟩
end Go.Proofs.Ytahajgmmoefpjaa
