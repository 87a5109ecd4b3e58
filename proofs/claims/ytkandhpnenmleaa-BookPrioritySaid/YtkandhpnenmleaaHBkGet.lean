/- book: Get, best, Best. -/
import Derived.Test.YtkandhpnenmleaaHBkPlace

namespace Go.Proofs.Ytkandhpnenmleaa
open Go.RowKit

/-- Six cells of a block are written anew. -/
def set6 (w : World) (g : Nat) (a b c d e f : Value) : World := (((((w.setCell ⟨g, 0, none⟩ a).setCell ⟨g, 1, none⟩ b).setCell ⟨g, 2, none⟩ c).setCell ⟨g, 3, none⟩ d).setCell ⟨g, 4, none⟩ e).setCell ⟨g, 5, none⟩ f
theorem set6_blk {w : World} {g : Nat} {t : TypeId} {cs : Array Value} (h : Blk w g t cs) (hs : cs.size = 6) (a b c d e f : Value) : Blk (set6 w g a b c d e f) g t #[a, b, c, d, e, f] := by
  have h1 := (((((h.set_ 0 a).set_ 1 b).set_ 2 c).set_ 3 d).set_ 4 e).set_ 5 f
  have e1 : (((((cs.setIfInBounds 0 a).setIfInBounds 1 b).setIfInBounds 2 c).setIfInBounds 3 d).setIfInBounds 4 e).setIfInBounds 5 f = #[a, b, c, d, e, f] := by
    rcases cs with ⟨_ | ⟨x0, _ | ⟨x1, _ | ⟨x2, _ | ⟨x3, _ | ⟨x4, _ | ⟨x5, _ | ⟨x6, l⟩⟩⟩⟩⟩⟩⟩⟩
    all_goals first | (simp at hs; done) | simp
  rw [e1] at h1
  exact h1
theorem set6_mod {w : World} {g : Nat} {F : Nat → Prop} (hF : F g) (a b c d e f : Value) : Mod F w (set6 w g a b c d e f) :=
  ((((((Mod.refl F w).set (p := ⟨g, 0, none⟩) (.inl hF) a).set (p := ⟨g, 1, none⟩) (.inl hF) b).set (p := ⟨g, 2, none⟩) (.inl hF) c).set (p := ⟨g, 3, none⟩) (.inl hF) d).set (p := ⟨g, 4, none⟩) (.inl hF) e).set (p := ⟨g, 5, none⟩) (.inl hF) f
theorem blk_drew {w : World} {g : Nat} {t : TypeId} {cs : Array Value} (h : Blk w g t cs) : Blk w.drew g t cs := h
def getO (os : List Ord) (id : Int) : Ord := if 0 ≤ id ∧ id < (os.length : Int) then ordAt os id.toNat else ord0
def hasO (os : List Ord) (id : Int) : Bool := decide (0 ≤ id) && decide (id < (os.length : Int))
set_option maxRecDepth 100000 in
theorem get_any (gb B : Nat) (V : BkV) (b : BkS) (id : Int) (w : World) (HK : Hid (BkAt w B gb V b)) :
    Calls Try.prog 18 #[.pointer (some ⟨gb, 0, none⟩), .int .i64 id] w fun e w' => e = .returned (.tuple #[.agg #[.int .i64 (getO b.os id).id, .int .i64 (getO b.os id).acc, .bool (getO b.os id).buy, .int .i64 (getO b.os id).price, .int .i64 (getO b.os id).n, .int .i64 (getO b.os id).left], .bool (hasO b.os id)]) ∧ Below w.heap.size w w' := by
  have c0 := HK.out.blk.cell 0
  simp only [List.getElem?_toArray, List.getElem?_cons_zero] at c0
  unfold BkV.os at c0
  have hgb := HK.out.blk.lt
  by_cases h0 : id < 0
  · have hr : getO b.os id = ord0 := if_neg (by omega)
    have hh : hasO b.os id = false := by simp [hasO]; omega
    rw [hr, hh]
    clear hr hh
    go_enter Try.func18, Try.ntmps18
    go_wp2
    refine bodyPost_ret (v := .tuple #[.agg #[.int .i64 0, .int .i64 0, .bool false, .int .i64 0, .int .i64 0, .int .i64 0], .bool false]) (by simp [results, Try.results18, go_sem]) rfl ⟨rfl, (Below.refl _ _).alloc (Nat.le_refl _) _⟩
  · by_cases h1 : id < (b.os.length : Int)
    · have hid : id.toNat < b.os.length := by omega
      have hr : getO b.os id = ordAt b.os id.toNat := if_pos ⟨by omega, h1⟩
      have hh : hasO b.os id = true := by simp [hasO]; omega
      rw [hr, hh]
      obtain ⟨gr, e2, lgr, -, x0, x1, x2, x3, x4, x5⟩ := HK.out.order hid
      obtain ⟨k, rfl⟩ : ∃ k : Nat, id = (k : Int) := ⟨id.toNat, by omega⟩
      rw [Int.toNat_natCast] at *
      rw [e2] at c0
      clear hr hh
      obtain ⟨x, hx⟩ : ∃ x, ordAt b.os k = x := ⟨_, rfl⟩
      rw [hx] at x0 x1 x2 x3 x4 x5 ⊢
      obtain ⟨nn, hnn⟩ : ∃ nn, b.os.length = nn := ⟨_, rfl⟩
      rw [hnn] at c0 h1
      clear hx hnn HK hid e2
      go_enter Try.func18, Try.ntmps18
      go_wp2
      refine bodyPost_ret (v := .tuple #[.agg #[.int .i64 x.id, .int .i64 x.acc, .bool x.buy, .int .i64 x.price, .int .i64 x.n, .int .i64 x.left], .bool true]) (by simp [results, Try.results18, go_sem]) rfl ⟨rfl, ?_⟩
      exact (Below.refl _ _).alloc (Nat.le_refl _) _
    · have hr : getO b.os id = ord0 := if_neg (by omega)
      have hh : hasO b.os id = false := by simp [hasO]; omega
      rw [hr, hh]
      clear hr hh
      go_enter Try.func18, Try.ntmps18
      go_wp2
      refine bodyPost_ret (v := .tuple #[.agg #[.int .i64 0, .int .i64 0, .bool false, .int .i64 0, .int .i64 0, .int .i64 0], .bool false]) (by simp [results, Try.results18, go_sem]) rfl ⟨rfl, (Below.refl _ _).alloc (Nat.le_refl _) _⟩
def bestO (os : List Ord) : List Nat → Ord
  | [] => ord0
  | id :: _ => ordAt os id

set_option maxRecDepth 100000 in
theorem best_true (gb B : Nat) (V : BkV) (b : BkS) (w : World) (HK : Hid (BkAt w B gb V b)) :
    Calls Try.prog 48 #[.pointer (some ⟨gb, 0, none⟩), .int .i64 0] w fun e w' => e = .returned (.tuple #[.agg #[.int .i64 (bestO b.os (b.side true)).id, .int .i64 (bestO b.os (b.side true)).acc, .bool (bestO b.os (b.side true)).buy, .int .i64 (bestO b.os (b.side true)).price, .int .i64 (bestO b.os (b.side true)).n, .int .i64 (bestO b.os (b.side true)).left], .bool (!(b.side true).isEmpty)]) ∧ Below w.heap.size w w' := by
  obtain ⟨A, n, c, hV⟩ : ∃ A n c, V.b = (A, n, c) := ⟨_, _, _, rfl⟩
  have c1 := HK.out.blk.cell 1
  simp only [List.getElem?_toArray, List.getElem?_cons_zero, List.getElem?_cons_succ] at c1
  unfold slV at c1
  rw [hV] at c1
  dsimp only at c1
  have hgb := HK.out.blk.lt
  have hlen : (b.side true).length = n := by have := HK.out.bs.len; rw [hV] at this; exact this
  rcases hl : b.side true with _ | ⟨id, t⟩
  · rw [hl] at hlen
    obtain rfl : n = 0 := by simpa using hlen.symm
    clear hV
    go_enter Try.func48, Try.ntmps48
    go_wp2
    refine bodyPost_ret (v := .tuple #[.agg #[.int .i64 0, .int .i64 0, .bool false, .int .i64 0, .int .i64 0, .int .i64 0], .bool false]) (by simp [results, Try.results48, go_sem]) rfl ⟨rfl, (Below.refl _ _).alloc (Nat.le_refl _) _⟩
  · have hI : IRow w B (A, n, c) (id :: t) := by
      have := HK.out.bs
      rw [hV] at this
      rw [← hl]
      exact this
    have h0 : 0 < n := by rw [← hlen, hl]; simp
    obtain ⟨gs, off, e1, -, lgs, c2, -⟩ := hI.cell h0
    have hid := HK.out.ok.mem true id (by rw [hl]; simp)
    obtain ⟨gr, e2, lgr, -, x0, x1, x2, x3, x4, x5⟩ := HK.out.order hid.1
    have c0 := HK.out.blk.cell 0
    simp only [List.getElem?_toArray, List.getElem?_cons_zero] at c0
    unfold BkV.os at c0
    rw [e2] at c0
    subst e1
    simp only [List.getElem?_cons_zero, Option.getD_some, Nat.add_zero] at c2
    have hn0 : ¬ ((n : Int) = 0) := by omega
    have hdd : (id : Int) < (b.os.length : Int) := by omega
    obtain ⟨x, hx⟩ : ∃ x, ordAt b.os id = x := ⟨_, rfl⟩
    have hbo : bestO b.os (id :: t) = x := hx
    rw [hx] at x0 x1 x2 x3 x4 x5
    rw [hbo]
    obtain ⟨nn, hnn⟩ : ∃ nn, b.os.length = nn := ⟨_, rfl⟩
    rw [hnn] at c0 hdd
    clear hV hl hlen hI hid hbo hx hnn HK
    go_enter Try.func48, Try.ntmps48
    go_wp2
    go_region
    go_wp2
    refine bodyPost_ret (v := .tuple #[.agg #[.int .i64 x.id, .int .i64 x.acc, .bool x.buy, .int .i64 x.price, .int .i64 x.n, .int .i64 x.left], .bool true]) (by simp [results, Try.results48, go_sem]) rfl ⟨rfl, ?_⟩
    exact below_drewN ((Below.refl _ _).alloc (Nat.le_refl _) _) 1

set_option maxRecDepth 100000 in
theorem best_false (gb B : Nat) (V : BkV) (b : BkS) (w : World) (HK : Hid (BkAt w B gb V b)) :
    Calls Try.prog 48 #[.pointer (some ⟨gb, 0, none⟩), .int .i64 1] w fun e w' => e = .returned (.tuple #[.agg #[.int .i64 (bestO b.os (b.side false)).id, .int .i64 (bestO b.os (b.side false)).acc, .bool (bestO b.os (b.side false)).buy, .int .i64 (bestO b.os (b.side false)).price, .int .i64 (bestO b.os (b.side false)).n, .int .i64 (bestO b.os (b.side false)).left], .bool (!(b.side false).isEmpty)]) ∧ Below w.heap.size w w' := by
  obtain ⟨A, n, c, hV⟩ : ∃ A n c, V.s = (A, n, c) := ⟨_, _, _, rfl⟩
  have c1 := HK.out.blk.cell 3
  simp only [List.getElem?_toArray, List.getElem?_cons_zero, List.getElem?_cons_succ] at c1
  unfold slV at c1
  rw [hV] at c1
  dsimp only at c1
  have hgb := HK.out.blk.lt
  have hlen : (b.side false).length = n := by have := HK.out.ss.len; rw [hV] at this; exact this
  rcases hl : b.side false with _ | ⟨id, t⟩
  · rw [hl] at hlen
    obtain rfl : n = 0 := by simpa using hlen.symm
    clear hV
    go_enter Try.func48, Try.ntmps48
    go_wp2
    refine bodyPost_ret (v := .tuple #[.agg #[.int .i64 0, .int .i64 0, .bool false, .int .i64 0, .int .i64 0, .int .i64 0], .bool false]) (by simp [results, Try.results48, go_sem]) rfl ⟨rfl, (Below.refl _ _).alloc (Nat.le_refl _) _⟩
  · have hI : IRow w B (A, n, c) (id :: t) := by
      have := HK.out.ss
      rw [hV] at this
      rw [← hl]
      exact this
    have h0 : 0 < n := by rw [← hlen, hl]; simp
    obtain ⟨gs, off, e1, -, lgs, c2, -⟩ := hI.cell h0
    have hid := HK.out.ok.mem false id (by rw [hl]; simp)
    obtain ⟨gr, e2, lgr, -, x0, x1, x2, x3, x4, x5⟩ := HK.out.order hid.1
    have c0 := HK.out.blk.cell 0
    simp only [List.getElem?_toArray, List.getElem?_cons_zero] at c0
    unfold BkV.os at c0
    rw [e2] at c0
    subst e1
    simp only [List.getElem?_cons_zero, Option.getD_some, Nat.add_zero] at c2
    have hn0 : ¬ ((n : Int) = 0) := by omega
    have hdd : (id : Int) < (b.os.length : Int) := by omega
    obtain ⟨x, hx⟩ : ∃ x, ordAt b.os id = x := ⟨_, rfl⟩
    have hbo : bestO b.os (id :: t) = x := hx
    rw [hx] at x0 x1 x2 x3 x4 x5
    rw [hbo]
    obtain ⟨nn, hnn⟩ : ∃ nn, b.os.length = nn := ⟨_, rfl⟩
    rw [hnn] at c0 hdd
    clear hV hl hlen hI hid hbo hx hnn HK
    go_enter Try.func48, Try.ntmps48
    go_wp2
    go_region
    go_wp2
    refine bodyPost_ret (v := .tuple #[.agg #[.int .i64 x.id, .int .i64 x.acc, .bool x.buy, .int .i64 x.price, .int .i64 x.n, .int .i64 x.left], .bool true]) (by simp [results, Try.results48, go_sem]) rfl ⟨rfl, ?_⟩
    exact below_drewN ((Below.refl _ _).alloc (Nat.le_refl _) _) 1

set_option maxRecDepth 100000 in
set_option maxHeartbeats 1000000 in
theorem Best_any (gb B : Nat) (V : BkV) (b : BkS) (w : World) (HK : Hid (BkAt w B gb V b)) :
    Calls Try.prog 22 #[.pointer (some ⟨gb, 0, none⟩)] w fun e w' => e = .returned (.tuple #[.agg #[.int .i64 (bestO b.os (b.side true)).id, .int .i64 (bestO b.os (b.side true)).acc, .bool (bestO b.os (b.side true)).buy, .int .i64 (bestO b.os (b.side true)).price, .int .i64 (bestO b.os (b.side true)).n, .int .i64 (bestO b.os (b.side true)).left], .agg #[.int .i64 (bestO b.os (b.side false)).id, .int .i64 (bestO b.os (b.side false)).acc, .bool (bestO b.os (b.side false)).buy, .int .i64 (bestO b.os (b.side false)).price, .int .i64 (bestO b.os (b.side false)).n, .int .i64 (bestO b.os (b.side false)).left], .bool (!(b.side true).isEmpty), .bool (!(b.side false).isEmpty)]) ∧ Below w.heap.size w w' := by
  obtain ⟨x, hx⟩ : ∃ x, bestO b.os (b.side true) = x := ⟨_, rfl⟩
  obtain ⟨y, hy⟩ : ∃ y, bestO b.os (b.side false) = y := ⟨_, rfl⟩
  obtain ⟨p, hp⟩ : ∃ p, (!(b.side true).isEmpty) = p := ⟨_, rfl⟩
  obtain ⟨q, hq⟩ : ∃ q, (!(b.side false).isEmpty) = q := ⟨_, rfl⟩
  rw [hx, hy, hp, hq]
  have H1 : Hid (∀ w1, Below w.heap.size w w1 → Calls Try.prog 48 #[.pointer (some ⟨gb, 0, none⟩), .int .i64 0] w1 fun e w' => e = .returned (.tuple #[.agg #[.int .i64 x.id, .int .i64 x.acc, .bool x.buy, .int .i64 x.price, .int .i64 x.n, .int .i64 x.left], .bool p]) ∧ Below w1.heap.size w1 w') := Lib.hid (fun w1 hb => by rw [← hx, ← hp]; exact best_true gb B V b w1 (Lib.hid (HK.out.all hb)))
  have H2 : Hid (∀ w1, Below w.heap.size w w1 → Calls Try.prog 48 #[.pointer (some ⟨gb, 0, none⟩), .int .i64 1] w1 fun e w' => e = .returned (.tuple #[.agg #[.int .i64 y.id, .int .i64 y.acc, .bool y.buy, .int .i64 y.price, .int .i64 y.n, .int .i64 y.left], .bool q]) ∧ Below w1.heap.size w1 w') := Lib.hid (fun w1 hb => by rw [← hy, ← hq]; exact best_false gb B V b w1 (Lib.hid (HK.out.all hb)))
  clear hx hy hp hq HK
  have hb : Below w.heap.size w ((w.alloc (.cells #[.int .i64 0, .int .i64 0, .bool false, .int .i64 0, .int .i64 0, .int .i64 0] 42)).alloc (.cells #[.int .i64 0, .int .i64 0, .bool false, .int .i64 0, .int .i64 0, .int .i64 0] 42)) := ((Below.refl _ _).alloc (Nat.le_refl _) _).alloc (by simp) _
  go_enter Try.func22, Try.ntmps22
  go_wp2_with (go_at_call 48; first
    | ((with_reducible refine (H1.out _ hb).mono ?_); rintro e w1 ⟨rfl, hb1⟩
       have k1 : Blk w1 w.heap.size 42 #[.int .i64 0, .int .i64 0, .bool false, .int .i64 0, .int .i64 0, .int .i64 0] := ((Blk.new w _ _).alloc _).all hb1
       have k2 : Blk w1 (w.heap.size + 1) 42 #[.int .i64 0, .int .i64 0, .bool false, .int .i64 0, .int .i64 0, .int .i64 0] := (Blk.new' (w.alloc _) _ _ (by simp)).all hb1
       replace hb1 := bt hb hb1
       have k1 := Lib.hid k1
       have k2 := Lib.hid k2
       have hs1 : w.heap.size + 1 < w1.heap.size := k2.out.lt)
    | ((with_reducible refine (H2.out _ (hb1.alloc hb1.size _)).mono ?_); rintro e w2 ⟨rfl, hb2⟩
       have k3 := ((Blk.new w1 _ _).all hb2)
       have k1' := (k1.out.alloc _).all hb2
       have k2' := (k2.out.alloc _).all hb2
       have hs2 := k3.lt
       replace hb2 := Lib.hid (bt (hb1.alloc hb1.size _) hb2)))
  obtain ⟨W, hW⟩ : ∃ W, W = w2.alloc (.cells #[.int .i64 y.id, .int .i64 y.acc, .bool y.buy, .int .i64 y.price, .int .i64 y.n, .int .i64 y.left] 42) := ⟨_, rfl⟩
  rw [← hW]
  have m1 : Blk W w.heap.size 42 #[.int .i64 0, .int .i64 0, .bool false, .int .i64 0, .int .i64 0, .int .i64 0] := by rw [hW]; exact k1'.alloc _
  have m2 : Blk W (w.heap.size + 1) 42 #[.int .i64 0, .int .i64 0, .bool false, .int .i64 0, .int .i64 0, .int .i64 0] := by rw [hW]; exact k2'.alloc _
  have m3 : Blk W w1.heap.size 42 #[.int .i64 x.id, .int .i64 x.acc, .bool x.buy, .int .i64 x.price, .int .i64 x.n, .int .i64 x.left] := by rw [hW]; exact k3.alloc _
  have m4 : Blk W w2.heap.size 42 #[.int .i64 y.id, .int .i64 y.acc, .bool y.buy, .int .i64 y.price, .int .i64 y.n, .int .i64 y.left] := by rw [hW]; exact Blk.new _ _ _
  have hbW : Below w.heap.size w W := by rw [hW]; exact hb2.out.alloc hb2.out.size _
  have hBW := Lib.hid hbW
  have n12 : w.heap.size ≠ w.heap.size + 1 := by omega
  have hsz : w.heap.size < W.heap.size := m1.lt
  have n13 : w1.heap.size ≠ w.heap.size := by omega
  have n14 : w2.heap.size ≠ w.heap.size := by omega
  have n23 : w1.heap.size ≠ w.heap.size + 1 := by omega
  have n24 : w2.heap.size ≠ w.heap.size + 1 := by omega
  obtain ⟨g2, hg2⟩ : ∃ g2, w.heap.size + 1 = g2 := ⟨_, rfl⟩
  rw [hg2] at m2 n12 n23 n24 ⊢
  obtain ⟨g6, hg6⟩ : ∃ g6, w1.heap.size = g6 := ⟨_, rfl⟩
  rw [hg6] at m3 n13 n23 ⊢
  obtain ⟨g8, hg8⟩ : ∃ g8, w2.heap.size = g8 := ⟨_, rfl⟩
  rw [hg8] at m4 n14 n24 ⊢
  have HM := Lib.hid (And.intro m1 m2)
  have a0 := m1.cell 0
  have a1 := m1.cell 1
  have a2 := m1.cell 2
  have a3 := m1.cell 3
  have a4 := m1.cell 4
  have a5 := m1.cell 5
  have b0 := m2.cell 0
  have b1 := m2.cell 1
  have b2 := m2.cell 2
  have b3 := m2.cell 3
  have b4 := m2.cell 4
  have b5 := m2.cell 5
  have c0 := m3.cell 0
  have c1 := m3.cell 1
  have c2 := m3.cell 2
  have c3 := m3.cell 3
  have c4 := m3.cell 4
  have c5 := m3.cell 5
  have d0 := m4.cell 0
  have d1 := m4.cell 1
  have d2 := m4.cell 2
  have d3 := m4.cell 3
  have d4 := m4.cell 4
  have d5 := m4.cell 5
  have fm10 := m1.frozen 0
  have fm11 := m1.frozen 1
  have fm12 := m1.frozen 2
  have fm13 := m1.frozen 3
  have fm14 := m1.frozen 4
  have fm15 := m1.frozen 5
  have fm20 := m2.frozen 0
  have fm21 := m2.frozen 1
  have fm22 := m2.frozen 2
  have fm23 := m2.frozen 3
  have fm24 := m2.frozen 4
  have fm25 := m2.frozen 5
  simp only [List.getElem?_toArray, List.getElem?_cons_zero, List.getElem?_cons_succ] at a0 a1 a2 a3 a4 a5 b0 b1 b2 b3 b4 b5 c0 c1 c2 c3 c4 c5 d0 d1 d2 d3 d4 d5
  have hg2l : w.heap.size ≤ g2 := by omega
  have hszW : w.heap.size ≤ W.heap.size := by omega
  clear hW m1 m2 m3 m4 k1 k2 k3 k1' k2' hg2 hg6 hg8 hbW hb1 hs1 hs2 hsz H1 H2
  go_region
  go_wp2
  obtain ⟨W2, hW2⟩ : ∃ W2, W2 = (set6 (set6 W w.heap.size (.int .i64 x.id) (.int .i64 x.acc) (.bool x.buy) (.int .i64 x.price) (.int .i64 x.n) (.int .i64 x.left)) g2 (.int .i64 y.id) (.int .i64 y.acc) (.bool y.buy) (.int .i64 y.price) (.int .i64 y.n) (.int .i64 y.left)).drew := ⟨_, rfl⟩
  have q0 := set6_mod (w := W) (F := fun g => g = w.heap.size) rfl (.int .i64 x.id) (.int .i64 x.acc) (.bool x.buy) (.int .i64 x.price) (.int .i64 x.n) (.int .i64 x.left)
  have q5 := set6_mod (w := set6 W w.heap.size (.int .i64 x.id) (.int .i64 x.acc) (.bool x.buy) (.int .i64 x.price) (.int .i64 x.n) (.int .i64 x.left)) (F := fun g => g = g2) rfl (.int .i64 y.id) (.int .i64 y.acc) (.bool y.buy) (.int .i64 y.price) (.int .i64 y.n) (.int .i64 y.left)
  have q1 : Blk W2 w.heap.size 42 #[.int .i64 x.id, .int .i64 x.acc, .bool x.buy, .int .i64 x.price, .int .i64 x.n, .int .i64 x.left] := by rw [hW2]; exact blk_drew (q5.blk (set6_blk HM.out.1 rfl (.int .i64 x.id) (.int .i64 x.acc) (.bool x.buy) (.int .i64 x.price) (.int .i64 x.n) (.int .i64 x.left)) n12)
  have q2 : Blk W2 g2 42 #[.int .i64 y.id, .int .i64 y.acc, .bool y.buy, .int .i64 y.price, .int .i64 y.n, .int .i64 y.left] := by rw [hW2]; exact blk_drew (set6_blk (q0.blk HM.out.2 (Ne.symm n12)) rfl (.int .i64 y.id) (.int .i64 y.acc) (.bool y.buy) (.int .i64 y.price) (.int .i64 y.n) (.int .i64 y.left))
  have q3 : Mod (fun g => g = w.heap.size ∨ g = g2) W W2 := by rw [hW2]; exact ((q0.mono (fun b h => .inl (.inl h))).trans q5 (fun b h => .inl (.inr h))).drew
  have hfin : Below w.heap.size w W2 := q3.below hBW.out (by omega) (fun b hb => by rcases hb with h | h <;> omega)
  unfold set6 at hW2
  rw [← hW2]
  clear hW2 q0 q5 q3
  have r0 := q1.cell 0
  have r1 := q1.cell 1
  have r2 := q1.cell 2
  have r3 := q1.cell 3
  have r4 := q1.cell 4
  have r5 := q1.cell 5
  have s0 := q2.cell 0
  have s1 := q2.cell 1
  have s2 := q2.cell 2
  have s3 := q2.cell 3
  have s4 := q2.cell 4
  have s5 := q2.cell 5
  simp only [List.getElem?_toArray, List.getElem?_cons_zero, List.getElem?_cons_succ] at r0 r1 r2 r3 r4 r5 s0 s1 s2 s3 s4 s5
  refine bodyPost_ret (v := .tuple #[.agg #[.int .i64 x.id, .int .i64 x.acc, .bool x.buy, .int .i64 x.price, .int .i64 x.n, .int .i64 x.left], .agg #[.int .i64 y.id, .int .i64 y.acc, .bool y.buy, .int .i64 y.price, .int .i64 y.n, .int .i64 y.left], .bool p, .bool q]) (by simp [results, Try.results22, go_sem, r0, r1, r2, r3, r4, r5, s0, s1, s2, s3, s4, s5]) rfl ⟨rfl, hfin⟩
end Go.Proofs.Ytkandhpnenmleaa
