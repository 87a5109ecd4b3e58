/- book: the law's agrees. -/
import Derived.Test.YtkandhpnenmleaaHBrJoin
import Derived.Test.YtkandhpnenmleaaHBrBst
import Derived.Test.YtkandhpnenmleaaHBkGet
import Derived.Deep.DeepCutAuto

namespace Go.Proofs.Ytkandhpnenmleaa
open Go.RowKit

set_option maxRecDepth 100000 in
set_option maxHeartbeats 8000000 in
theorem agrees_any (B gb g n c : Nat) (V : BkV) (A : Option Addr) (l : List ROrd) (b : BkS) (id : Int) (w : World) (HP : Hid (Pair w B ⟨gb, V, g, A, n, c, l⟩ b)) :
    Calls Try.prog 21 #[.pointer (some ⟨gb, 0, none⟩), .pointer (some ⟨g, 0, none⟩), .int .i64 id] w fun e w' => e = .returned (.bool true) ∧ Below w.heap.size w w' := by
  obtain ⟨o1, ho1⟩ : ∃ o, bestO b.os (b.side true) = o := ⟨_, rfl⟩
  obtain ⟨o2, ho2⟩ : ∃ o, bestO b.os (b.side false) = o := ⟨_, rfl⟩
  obtain ⟨p1, hp1⟩ : ∃ p, (!(b.side true).isEmpty) = p := ⟨_, rfl⟩
  obtain ⟨p2, hp2⟩ : ∃ p, (!(b.side false).isEmpty) = p := ⟨_, rfl⟩
  obtain ⟨og, hog⟩ : ∃ o, getO b.os id = o := ⟨_, rfl⟩
  obtain ⟨pg, hpg⟩ : ∃ p, hasO b.os id = p := ⟨_, rfl⟩
  obtain ⟨os, hos⟩ : ∃ os, b.openOs = os := ⟨_, rfl⟩
  obtain ⟨rl, hrl⟩ : ∃ rl, l.filter ROrd.open = rl := ⟨_, rfl⟩
  have HRL : Hid (rl.map ROrd.o = os) := Lib.hid (by rw [← hrl, ← hos]; exact HP.out.rf.rel.openOs)
  obtain ⟨k, hk⟩ : ∃ k, os.length = k := ⟨_, rfl⟩
  have hk2 : rl.length = k := by rw [← hk, ← HRL.out, List.length_map]
  have hk4 : k ≤ 4096 := by
    have h1 := BkS.openIds_len HP.out.bk.ok
    have h2 := HP.out.bk.ok.few
    rw [← hk, ← hos]
    unfold BkS.openOs
    rw [List.length_map]
    omega
  have HKL := Lib.hid hk
  have HBB : Hid (∀ w', Below w.heap.size w w' → Calls Try.prog 22 #[.pointer (some ⟨gb, 0, none⟩)] w' fun e w'' => e = .returned (.tuple #[.agg #[.int .i64 o1.id, .int .i64 o1.acc, .bool o1.buy, .int .i64 o1.price, .int .i64 o1.n, .int .i64 o1.left], .agg #[.int .i64 o2.id, .int .i64 o2.acc, .bool o2.buy, .int .i64 o2.price, .int .i64 o2.n, .int .i64 o2.left], .bool p1, .bool p2]) ∧ Below w'.heap.size w' w'') := Lib.hid (fun w' hb => by
    have := Best_any gb B V b w' (Lib.hid (HP.out.bk.all hb))
    rw [ho1, ho2, hp1, hp2] at this
    exact this)
  have HRB : Hid (∀ w', Below w.heap.size w w' → Calls Try.prog 42 #[.pointer (some ⟨g, 0, none⟩)] w' fun e w'' => ∃ e1 e2, e = .returned (.tuple #[.agg #[.int .i64 o1.id, .int .i64 o1.acc, .bool o1.buy, .int .i64 o1.price, .int .i64 o1.n, .int .i64 o1.left, .bool e1], .agg #[.int .i64 o2.id, .int .i64 o2.acc, .bool o2.buy, .int .i64 o2.price, .int .i64 o2.n, .int .i64 o2.left, .bool e2], .bool p1, .bool p2]) ∧ Below w'.heap.size w' w'') := Lib.hid (fun w' hb => by
    refine (rBest_any B g n c A l b w' (Lib.hid (HP.out.rf.all hb))).mono ?_
    rintro e w'' ⟨⟨⟨xo, xe⟩, ⟨yo, ye⟩, h1, h2, h3⟩, h4⟩
    dsimp only at h1 h2 h3
    rw [ho1] at h1
    rw [ho2] at h2
    rw [hp1, hp2] at h3
    subst h1 h2
    exact ⟨xe, ye, h3, h4⟩)
  have HGT : Hid (∀ w', Below w.heap.size w w' → Calls Try.prog 18 #[.pointer (some ⟨gb, 0, none⟩), .int .i64 id] w' fun e w'' => e = .returned (.tuple #[.agg #[.int .i64 og.id, .int .i64 og.acc, .bool og.buy, .int .i64 og.price, .int .i64 og.n, .int .i64 og.left], .bool pg]) ∧ Below w'.heap.size w' w'') := Lib.hid (fun w' hb => by
    have := get_any gb B V b id w' (Lib.hid (HP.out.bk.all hb))
    rw [hog, hpg] at this
    exact this)
  have HRG : Hid (∀ w', Below w.heap.size w w' → Calls Try.prog 43 #[.pointer (some ⟨g, 0, none⟩), .int .i64 id] w' fun e w'' => ∃ eg, e = .returned (.tuple #[.agg #[.int .i64 og.id, .int .i64 og.acc, .bool og.buy, .int .i64 og.price, .int .i64 og.n, .int .i64 og.left, .bool eg], .bool pg]) ∧ Below w'.heap.size w' w'') := Lib.hid (fun w' hb => by
    have := rget_any B g n c A l b id w' (Lib.hid (HP.out.rf.all hb))
    rw [HP.out.rf.rel.getO, hog, hpg] at this
    exact this.mono fun e w'' h => ⟨_, h.1, h.2⟩)
  have HOR : Hid (∀ w', Below w.heap.size w w' → Calls Try.prog 12 #[.pointer (some ⟨gb, 0, none⟩)] w' fun e w'' => ∃ A8 c8, e = .returned (.slice A8 k c8) ∧ w''.ownsRow w'.heap.size 42 6 (.slice A8 k c8) k (os.flatMap Ord.cells) ∧ Below w'.heap.size w' w'') := Lib.hid (fun w' hb => by
    have := orders_any gb B V b w' (Lib.hid (HP.out.bk.all hb))
    unfold OrdPost at this
    rw [hos, hk] at this
    exact this)
  have HRO : Hid (∀ w', Below w.heap.size w w' → Calls Try.prog 47 #[.pointer (some ⟨g, 0, none⟩)] w' fun e w'' => ∃ A8 c8, e = .returned (.slice A8 k c8) ∧ w''.ownsRow w'.heap.size 85 7 (.slice A8 k c8) k (rl.flatMap ROrd.cells) ∧ Below w'.heap.size w' w'') := Lib.hid (fun w' hb => by
    have := rorders_any B g n c A l w' (Lib.hid (HP.out.rf.rb.all hb))
    unfold ROrdPost at this
    rw [hrl, hk2] at this
    exact this)
  clear ho1 ho2 hp1 hp2 hog hpg hos hrl hk hk2
  go_enter Try.func21, Try.ntmps21
  go_wp2_with fail
  refine (HBB.out w (Below.refl _ _)).mono ?_
  rintro e w1 ⟨rfl, hb1⟩
  have HB1 := Lib.hid hb1
  clear hb1
  go_wp2_with fail
  obtain ⟨W1, hW1⟩ : ∃ W, W = (w1.alloc (.cells #[.int .i64 o1.id, .int .i64 o1.acc, .bool o1.buy, .int .i64 o1.price, .int .i64 o1.n, .int .i64 o1.left] 42)).alloc (.cells #[.int .i64 o2.id, .int .i64 o2.acc, .bool o2.buy, .int .i64 o2.price, .int .i64 o2.n, .int .i64 o2.left] 42) := ⟨_, rfl⟩
  rw [← hW1]
  have hb2 : Below w.heap.size w W1 := by rw [hW1]; exact (HB1.out.alloc HB1.out.size _).alloc (by have := HB1.out.size; simp; omega) _
  have k7 : Blk W1 w1.heap.size 42 #[.int .i64 o1.id, .int .i64 o1.acc, .bool o1.buy, .int .i64 o1.price, .int .i64 o1.n, .int .i64 o1.left] := by rw [hW1]; exact (Blk.new _ _ _).alloc _
  have k8 : Blk W1 (w1.heap.size + 1) 42 #[.int .i64 o2.id, .int .i64 o2.acc, .bool o2.buy, .int .i64 o2.price, .int .i64 o2.n, .int .i64 o2.left] := by rw [hW1]; exact Blk.new' _ _ _ (by simp)
  clear hW1
  obtain ⟨g8, hg8⟩ : ∃ g8, w1.heap.size + 1 = g8 := ⟨_, rfl⟩
  rw [hg8] at k8 ⊢
  clear hg8
  obtain ⟨g7, hg7⟩ : ∃ g7, w1.heap.size = g7 := ⟨_, rfl⟩
  rw [hg7] at k7 ⊢
  have HK2 := Lib.hid (And.intro hb2 (And.intro k7 k8))
  clear hg7 hb2 k7 k8
  refine (HRB.out W1 HK2.out.1).mono ?_
  rintro e w2 ⟨e1, e2, rfl, hb3⟩
  have HK3 : Hid (Below w.heap.size w w2 ∧ Blk w2 g7 42 #[.int .i64 o1.id, .int .i64 o1.acc, .bool o1.buy, .int .i64 o1.price, .int .i64 o1.n, .int .i64 o1.left] ∧ Blk w2 g8 42 #[.int .i64 o2.id, .int .i64 o2.acc, .bool o2.buy, .int .i64 o2.price, .int .i64 o2.n, .int .i64 o2.left]) := Lib.hid ⟨bt HK2.out.1 hb3, HK2.out.2.1.all hb3, HK2.out.2.2.all hb3⟩
  clear hb3
  go_wp2_with fail
  obtain ⟨W2, hW2⟩ : ∃ W, W = (w2.alloc (.cells #[.int .i64 o1.id, .int .i64 o1.acc, .bool o1.buy, .int .i64 o1.price, .int .i64 o1.n, .int .i64 o1.left, .bool e1] 85)).alloc (.cells #[.int .i64 o2.id, .int .i64 o2.acc, .bool o2.buy, .int .i64 o2.price, .int .i64 o2.n, .int .i64 o2.left, .bool e2] 85) := ⟨_, rfl⟩
  rw [← hW2]
  have hb4 : Below w2.heap.size w2 W2 := by rw [hW2]; exact ((Below.refl _ _).alloc (Nat.le_refl _) _).alloc (by simp) _
  have k11 : Blk W2 w2.heap.size 85 #[.int .i64 o1.id, .int .i64 o1.acc, .bool o1.buy, .int .i64 o1.price, .int .i64 o1.n, .int .i64 o1.left, .bool e1] := by rw [hW2]; exact (Blk.new _ _ _).alloc _
  have k12 : Blk W2 (w2.heap.size + 1) 85 #[.int .i64 o2.id, .int .i64 o2.acc, .bool o2.buy, .int .i64 o2.price, .int .i64 o2.n, .int .i64 o2.left, .bool e2] := by rw [hW2]; exact Blk.new' _ _ _ (by simp)
  clear hW2
  obtain ⟨g12, hg12⟩ : ∃ g12, w2.heap.size + 1 = g12 := ⟨_, rfl⟩
  rw [hg12] at k12 ⊢
  clear hg12
  have HK4 : Hid (Below w.heap.size w W2 ∧ Blk W2 g7 42 #[.int .i64 o1.id, .int .i64 o1.acc, .bool o1.buy, .int .i64 o1.price, .int .i64 o1.n, .int .i64 o1.left] ∧ Blk W2 g8 42 #[.int .i64 o2.id, .int .i64 o2.acc, .bool o2.buy, .int .i64 o2.price, .int .i64 o2.n, .int .i64 o2.left]) := Lib.hid ⟨bt HK3.out.1 hb4, HK3.out.2.1.all hb4, HK3.out.2.2.all hb4⟩
  clear hb4
  obtain ⟨g11, hg11⟩ : ∃ g11, w2.heap.size = g11 := ⟨_, rfl⟩
  rw [hg11] at k11 ⊢
  have HK5 := Lib.hid (And.intro k11 k12)
  clear hg11 k11 k12
  refine (HGT.out W2 HK4.out.1).mono ?_
  rintro e w3 ⟨rfl, hb5⟩
  go_wp2_with fail
  obtain ⟨W3, hW3⟩ : ∃ W, W = w3.alloc (.cells #[.int .i64 og.id, .int .i64 og.acc, .bool og.buy, .int .i64 og.price, .int .i64 og.n, .int .i64 og.left] 42) := ⟨_, rfl⟩
  rw [← hW3]
  have hb6 : Below W2.heap.size W2 W3 := by rw [hW3]; exact hb5.alloc hb5.size _
  have k15 : Blk W3 w3.heap.size 42 #[.int .i64 og.id, .int .i64 og.acc, .bool og.buy, .int .i64 og.price, .int .i64 og.n, .int .i64 og.left] := by rw [hW3]; exact Blk.new _ _ _
  clear hW3 hb5
  obtain ⟨g15, hg15⟩ : ∃ g15, w3.heap.size = g15 := ⟨_, rfl⟩
  rw [hg15] at k15 ⊢
  have HK6 : Hid (Below w.heap.size w W3 ∧ Blk W3 g7 42 #[.int .i64 o1.id, .int .i64 o1.acc, .bool o1.buy, .int .i64 o1.price, .int .i64 o1.n, .int .i64 o1.left] ∧ Blk W3 g8 42 #[.int .i64 o2.id, .int .i64 o2.acc, .bool o2.buy, .int .i64 o2.price, .int .i64 o2.n, .int .i64 o2.left] ∧ Blk W3 g11 85 #[.int .i64 o1.id, .int .i64 o1.acc, .bool o1.buy, .int .i64 o1.price, .int .i64 o1.n, .int .i64 o1.left, .bool e1] ∧ Blk W3 g12 85 #[.int .i64 o2.id, .int .i64 o2.acc, .bool o2.buy, .int .i64 o2.price, .int .i64 o2.n, .int .i64 o2.left, .bool e2] ∧ Blk W3 g15 42 #[.int .i64 og.id, .int .i64 og.acc, .bool og.buy, .int .i64 og.price, .int .i64 og.n, .int .i64 og.left]) := Lib.hid ⟨bt HK4.out.1 hb6, HK4.out.2.1.all hb6, HK4.out.2.2.all hb6, HK5.out.1.all hb6, HK5.out.2.all hb6, k15⟩
  clear hg15 hb6 k15
  refine (HRG.out W3 HK6.out.1).mono ?_
  rintro e w4 ⟨eg, rfl, hb7⟩
  go_upto_region 5 with (fail)
  obtain ⟨W, hW⟩ : ∃ W, W = w4.alloc (.cells #[.int .i64 og.id, .int .i64 og.acc, .bool og.buy, .int .i64 og.price, .int .i64 og.n, .int .i64 og.left, .bool eg] 85) := ⟨_, rfl⟩
  rw [← hW]
  have hb8 : Below W3.heap.size W3 W := by rw [hW]; exact hb7.alloc hb7.size _
  have k17 : Blk W w4.heap.size 85 #[.int .i64 og.id, .int .i64 og.acc, .bool og.buy, .int .i64 og.price, .int .i64 og.n, .int .i64 og.left, .bool eg] := by rw [hW]; exact Blk.new _ _ _
  clear hW hb7
  obtain ⟨g17, hg17⟩ : ∃ g17, w4.heap.size = g17 := ⟨_, rfl⟩
  rw [hg17] at k17 ⊢
  have HW : Hid (Below w.heap.size w W) := Lib.hid (bt HK6.out.1 hb8)
  have HS5 : Hid (∀ w', Below w.heap.size w w' → Below W.heap.size W w' → (fun w' => w'.cell? ⟨g15, 0, none⟩ = some (.int .i64 og.id) ∧ w'.cell? ⟨g15, 1, none⟩ = some (.int .i64 og.acc) ∧ w'.cell? ⟨g15, 2, none⟩ = some (.bool og.buy) ∧ w'.cell? ⟨g15, 3, none⟩ = some (.int .i64 og.price) ∧ w'.cell? ⟨g15, 4, none⟩ = some (.int .i64 og.n) ∧ w'.cell? ⟨g15, 5, none⟩ = some (.int .i64 og.left) ∧ w'.cell? ⟨g17, 0, none⟩ = some (.int .i64 og.id) ∧ w'.cell? ⟨g17, 1, none⟩ = some (.int .i64 og.acc) ∧ w'.cell? ⟨g17, 2, none⟩ = some (.bool og.buy) ∧ w'.cell? ⟨g17, 3, none⟩ = some (.int .i64 og.price) ∧ w'.cell? ⟨g17, 4, none⟩ = some (.int .i64 og.n) ∧ w'.cell? ⟨g17, 5, none⟩ = some (.int .i64 og.left) ∧ w'.cell? ⟨g17, 6, none⟩ = some (.bool eg)) w') := Lib.hid (fun w' _ hb => by
    have q15 := (HK6.out.2.2.2.2.2.all hb8).all hb
    have q17 := k17.all hb
    refine ⟨?_, ?_, ?_, ?_, ?_, ?_, ?_, ?_, ?_, ?_, ?_, ?_, ?_⟩
    all_goals first | (rw [q15.cell]; rfl) | (rw [q17.cell]; rfl))
  have HS7 : Hid (∀ w', Below w.heap.size w w' → Below W.heap.size W w' → (fun w' => w'.cell? ⟨g7, 0, none⟩ = some (.int .i64 o1.id) ∧ w'.cell? ⟨g7, 1, none⟩ = some (.int .i64 o1.acc) ∧ w'.cell? ⟨g7, 2, none⟩ = some (.bool o1.buy) ∧ w'.cell? ⟨g7, 3, none⟩ = some (.int .i64 o1.price) ∧ w'.cell? ⟨g7, 4, none⟩ = some (.int .i64 o1.n) ∧ w'.cell? ⟨g7, 5, none⟩ = some (.int .i64 o1.left) ∧ w'.cell? ⟨g11, 0, none⟩ = some (.int .i64 o1.id) ∧ w'.cell? ⟨g11, 1, none⟩ = some (.int .i64 o1.acc) ∧ w'.cell? ⟨g11, 2, none⟩ = some (.bool o1.buy) ∧ w'.cell? ⟨g11, 3, none⟩ = some (.int .i64 o1.price) ∧ w'.cell? ⟨g11, 4, none⟩ = some (.int .i64 o1.n) ∧ w'.cell? ⟨g11, 5, none⟩ = some (.int .i64 o1.left) ∧ w'.cell? ⟨g11, 6, none⟩ = some (.bool e1) ∧ w'.cell? ⟨g8, 0, none⟩ = some (.int .i64 o2.id) ∧ w'.cell? ⟨g8, 1, none⟩ = some (.int .i64 o2.acc) ∧ w'.cell? ⟨g8, 2, none⟩ = some (.bool o2.buy) ∧ w'.cell? ⟨g8, 3, none⟩ = some (.int .i64 o2.price) ∧ w'.cell? ⟨g8, 4, none⟩ = some (.int .i64 o2.n) ∧ w'.cell? ⟨g8, 5, none⟩ = some (.int .i64 o2.left) ∧ w'.cell? ⟨g12, 0, none⟩ = some (.int .i64 o2.id) ∧ w'.cell? ⟨g12, 1, none⟩ = some (.int .i64 o2.acc) ∧ w'.cell? ⟨g12, 2, none⟩ = some (.bool o2.buy) ∧ w'.cell? ⟨g12, 3, none⟩ = some (.int .i64 o2.price) ∧ w'.cell? ⟨g12, 4, none⟩ = some (.int .i64 o2.n) ∧ w'.cell? ⟨g12, 5, none⟩ = some (.int .i64 o2.left) ∧ w'.cell? ⟨g12, 6, none⟩ = some (.bool e2)) w') := Lib.hid (fun w' _ hb => by
    obtain ⟨-, h7, h8, h11, h12, -⟩ := HK6.out
    have q7 := (h7.all hb8).all hb
    have q8 := (h8.all hb8).all hb
    have q11 := (h11.all hb8).all hb
    have q12 := (h12.all hb8).all hb
    refine ⟨?_, ?_, ?_, ?_, ?_, ?_, ?_, ?_, ?_, ?_, ?_, ?_, ?_, ?_, ?_, ?_, ?_, ?_, ?_, ?_, ?_, ?_, ?_, ?_, ?_, ?_⟩
    all_goals first | (rw [q7.cell]; rfl) | (rw [q8.cell]; rfl) | (rw [q11.cell]; rfl) | (rw [q12.cell]; rfl))
  replace HS5 : Hid (∀ w', Below W.heap.size W w' → (fun w' => w'.cell? ⟨g15, 0, none⟩ = some (.int .i64 og.id) ∧ w'.cell? ⟨g15, 1, none⟩ = some (.int .i64 og.acc) ∧ w'.cell? ⟨g15, 2, none⟩ = some (.bool og.buy) ∧ w'.cell? ⟨g15, 3, none⟩ = some (.int .i64 og.price) ∧ w'.cell? ⟨g15, 4, none⟩ = some (.int .i64 og.n) ∧ w'.cell? ⟨g15, 5, none⟩ = some (.int .i64 og.left) ∧ w'.cell? ⟨g17, 0, none⟩ = some (.int .i64 og.id) ∧ w'.cell? ⟨g17, 1, none⟩ = some (.int .i64 og.acc) ∧ w'.cell? ⟨g17, 2, none⟩ = some (.bool og.buy) ∧ w'.cell? ⟨g17, 3, none⟩ = some (.int .i64 og.price) ∧ w'.cell? ⟨g17, 4, none⟩ = some (.int .i64 og.n) ∧ w'.cell? ⟨g17, 5, none⟩ = some (.int .i64 og.left) ∧ w'.cell? ⟨g17, 6, none⟩ = some (.bool eg)) w') := Lib.hid (fun w' hb => HS5.out w' (bt HW.out hb) hb)
  replace HS7 : Hid (∀ w', Below W.heap.size W w' → (fun w' => w'.cell? ⟨g7, 0, none⟩ = some (.int .i64 o1.id) ∧ w'.cell? ⟨g7, 1, none⟩ = some (.int .i64 o1.acc) ∧ w'.cell? ⟨g7, 2, none⟩ = some (.bool o1.buy) ∧ w'.cell? ⟨g7, 3, none⟩ = some (.int .i64 o1.price) ∧ w'.cell? ⟨g7, 4, none⟩ = some (.int .i64 o1.n) ∧ w'.cell? ⟨g7, 5, none⟩ = some (.int .i64 o1.left) ∧ w'.cell? ⟨g11, 0, none⟩ = some (.int .i64 o1.id) ∧ w'.cell? ⟨g11, 1, none⟩ = some (.int .i64 o1.acc) ∧ w'.cell? ⟨g11, 2, none⟩ = some (.bool o1.buy) ∧ w'.cell? ⟨g11, 3, none⟩ = some (.int .i64 o1.price) ∧ w'.cell? ⟨g11, 4, none⟩ = some (.int .i64 o1.n) ∧ w'.cell? ⟨g11, 5, none⟩ = some (.int .i64 o1.left) ∧ w'.cell? ⟨g11, 6, none⟩ = some (.bool e1) ∧ w'.cell? ⟨g8, 0, none⟩ = some (.int .i64 o2.id) ∧ w'.cell? ⟨g8, 1, none⟩ = some (.int .i64 o2.acc) ∧ w'.cell? ⟨g8, 2, none⟩ = some (.bool o2.buy) ∧ w'.cell? ⟨g8, 3, none⟩ = some (.int .i64 o2.price) ∧ w'.cell? ⟨g8, 4, none⟩ = some (.int .i64 o2.n) ∧ w'.cell? ⟨g8, 5, none⟩ = some (.int .i64 o2.left) ∧ w'.cell? ⟨g12, 0, none⟩ = some (.int .i64 o2.id) ∧ w'.cell? ⟨g12, 1, none⟩ = some (.int .i64 o2.acc) ∧ w'.cell? ⟨g12, 2, none⟩ = some (.bool o2.buy) ∧ w'.cell? ⟨g12, 3, none⟩ = some (.int .i64 o2.price) ∧ w'.cell? ⟨g12, 4, none⟩ = some (.int .i64 o2.n) ∧ w'.cell? ⟨g12, 5, none⟩ = some (.int .i64 o2.left) ∧ w'.cell? ⟨g12, 6, none⟩ = some (.bool e2)) w') := Lib.hid (fun w' hb => HS7.out w' (bt HW.out hb) hb)
  replace HOR : Hid (∀ w', Below W.heap.size W w' → Calls Try.prog 12 #[.pointer (some ⟨gb, 0, none⟩)] w' fun e w'' => ∃ A8 c8, e = .returned (.slice A8 k c8) ∧ w''.ownsRow w'.heap.size 42 6 (.slice A8 k c8) k (os.flatMap Ord.cells) ∧ Below w'.heap.size w' w'') := Lib.hid (fun w' hb => HOR.out w' (bt HW.out hb))
  replace HRO : Hid (∀ w', Below W.heap.size W w' → Calls Try.prog 47 #[.pointer (some ⟨g, 0, none⟩)] w' fun e w'' => ∃ A8 c8, e = .returned (.slice A8 k c8) ∧ w''.ownsRow w'.heap.size 85 7 (.slice A8 k c8) k (rl.flatMap ROrd.cells) ∧ Below w'.heap.size w' w'') := Lib.hid (fun w' hb => HRO.out w' (bt HW.out hb))
  have hP0 : Below W.heap.size W W.drew := below_drewN (Below.refl _ _) 1
  clear hg17 hb8 k17 HBB HRB HGT HRG
  have hq1 : (p1 != p1) = false := by simp
  have hq2 : (p2 != p2) = false := by simp
  have hq3 : (pg != pg) = false := by simp
  refine wp_region_held_drew (S := (fun w' => w'.cell? ⟨g15, 0, none⟩ = some (.int .i64 og.id) ∧ w'.cell? ⟨g15, 1, none⟩ = some (.int .i64 og.acc) ∧ w'.cell? ⟨g15, 2, none⟩ = some (.bool og.buy) ∧ w'.cell? ⟨g15, 3, none⟩ = some (.int .i64 og.price) ∧ w'.cell? ⟨g15, 4, none⟩ = some (.int .i64 og.n) ∧ w'.cell? ⟨g15, 5, none⟩ = some (.int .i64 og.left) ∧ w'.cell? ⟨g17, 0, none⟩ = some (.int .i64 og.id) ∧ w'.cell? ⟨g17, 1, none⟩ = some (.int .i64 og.acc) ∧ w'.cell? ⟨g17, 2, none⟩ = some (.bool og.buy) ∧ w'.cell? ⟨g17, 3, none⟩ = some (.int .i64 og.price) ∧ w'.cell? ⟨g17, 4, none⟩ = some (.int .i64 og.n) ∧ w'.cell? ⟨g17, 5, none⟩ = some (.int .i64 og.left) ∧ w'.cell? ⟨g17, 6, none⟩ = some (.bool eg))) (by kernel_rfl) (HS5.out _ hP0) (fun hHeld => ?_)
  refine takeH 0 (some 45) (v := ?_) (by rfl) (by rfl) (by kernel_rfl) (by kernel_rfl) (by kernel_rfl) (fun _ _ _ h => h) ?_ (by assumption) ?_
  rotate_left
  · (intro o ho w hSw; obtain ⟨x0, x1, x2, x3, x4, x5, x6, x7, x8, x9, x10, x11, x12⟩ := hSw; cases ho; go_simp; try with_reducible rfl)
  try simp only [Act.put, List.setIfInBounds_toArray, List.set_cons_zero, List.set_cons_succ]
  refine takeH 1 (some 46) (v := ?_) (by rfl) (by rfl) (by kernel_rfl) (by kernel_rfl) (by kernel_rfl) (fun _ _ _ h => h) ?_ (by assumption) ?_
  rotate_left
  · (intro o ho w hSw; obtain ⟨x0, x1, x2, x3, x4, x5, x6, x7, x8, x9, x10, x11, x12⟩ := hSw; cases ho; go_simp; try with_reducible rfl)
  try simp only [Act.put, List.setIfInBounds_toArray, List.set_cons_zero, List.set_cons_succ]
  refine takeH 2 (some 47) (v := ?_) (by rfl) (by rfl) (by kernel_rfl) (by kernel_rfl) (by kernel_rfl) (fun _ _ _ h => h) ?_ (by assumption) ?_
  rotate_left
  · (intro o ho w hSw; obtain ⟨x0, x1, x2, x3, x4, x5, x6, x7, x8, x9, x10, x11, x12⟩ := hSw; cases ho; go_simp; try with_reducible rfl)
  try simp only [Act.put, List.setIfInBounds_toArray, List.set_cons_zero, List.set_cons_succ]
  refine takeH 3 (some 48) (v := ?_) (by rfl) (by rfl) (by kernel_rfl) (by kernel_rfl) (by kernel_rfl) (fun _ _ _ h => h) ?_ (by assumption) ?_
  rotate_left
  · (intro o ho w hSw; obtain ⟨x0, x1, x2, x3, x4, x5, x6, x7, x8, x9, x10, x11, x12⟩ := hSw; cases ho; go_simp; try with_reducible rfl)
  try simp only [Act.put, List.setIfInBounds_toArray, List.set_cons_zero, List.set_cons_succ]
  first
  | refine skipH 4 (some 49) (by rfl) (by rfl) (by kernel_rfl) (by kernel_rfl) (by kernel_rfl) (fun _ _ _ h => h) (by assumption) ?_
  | refine takeH 4 (some 49) (v := ?_) (by rfl) (by rfl) (by kernel_rfl) (by kernel_rfl) (by kernel_rfl) (fun _ _ _ h => h) ?_ (by assumption) ?_
    rotate_left
    · (intro o ho w hSw; obtain ⟨x0, x1, x2, x3, x4, x5, x6, x7, x8, x9, x10, x11, x12⟩ := hSw; cases ho; go_simp; try with_reducible rfl)
  try simp only [Act.put, List.setIfInBounds_toArray, List.set_cons_zero, List.set_cons_succ]
  first
  | refine skipH 5 (some 50) (by rfl) (by rfl) (by kernel_rfl) (by kernel_rfl) (by kernel_rfl) (fun _ _ _ h => h) (by assumption) ?_
  | refine takeH 5 (some 50) (v := ?_) (by rfl) (by rfl) (by kernel_rfl) (by kernel_rfl) (by kernel_rfl) (fun _ _ _ h => h) ?_ (by assumption) ?_
    rotate_left
    · (intro o ho w hSw; obtain ⟨x0, x1, x2, x3, x4, x5, x6, x7, x8, x9, x10, x11, x12⟩ := hSw; cases ho; go_simp; try with_reducible rfl)
  try simp only [Act.put, List.setIfInBounds_toArray, List.set_cons_zero, List.set_cons_succ]
  first
  | refine skipH 6 (some 51) (by rfl) (by rfl) (by kernel_rfl) (by kernel_rfl) (by kernel_rfl) (fun _ _ _ h => h) (by assumption) ?_
  | refine takeH 6 (some 51) (v := ?_) (by rfl) (by rfl) (by kernel_rfl) (by kernel_rfl) (by kernel_rfl) (fun _ _ _ h => h) ?_ (by assumption) ?_
    rotate_left
    · (intro o ho w hSw; obtain ⟨x0, x1, x2, x3, x4, x5, x6, x7, x8, x9, x10, x11, x12⟩ := hSw; cases ho; go_simp; try with_reducible rfl)
  try simp only [Act.put, List.setIfInBounds_toArray, List.set_cons_zero, List.set_cons_succ]
  refine takeH 7 (some 52) (v := ?_) (by rfl) (by rfl) (by kernel_rfl) (by kernel_rfl) (by kernel_rfl) (fun _ _ _ h => h) ?_ (by assumption) ?_
  rotate_left
  · (intro o ho w hSw; obtain ⟨x0, x1, x2, x3, x4, x5, x6, x7, x8, x9, x10, x11, x12⟩ := hSw; cases ho; go_simp; try with_reducible rfl)
  try simp only [Act.put, List.setIfInBounds_toArray, List.set_cons_zero, List.set_cons_succ]
  refine takeH 8 (some 53) (v := ?_) (by rfl) (by rfl) (by kernel_rfl) (by kernel_rfl) (by kernel_rfl) (fun _ _ _ h => h) ?_ (by assumption) ?_
  rotate_left
  · (intro o ho w hSw; obtain ⟨x0, x1, x2, x3, x4, x5, x6, x7, x8, x9, x10, x11, x12⟩ := hSw; cases ho; go_simp; try with_reducible rfl)
  try simp only [Act.put, List.setIfInBounds_toArray, List.set_cons_zero, List.set_cons_succ]
  first
  | refine skipH 9 (some 54) (by rfl) (by rfl) (by kernel_rfl) (by kernel_rfl) (by kernel_rfl) (fun _ _ _ h => h) (by assumption) ?_
  | refine takeH 9 (some 54) (v := ?_) (by rfl) (by rfl) (by kernel_rfl) (by kernel_rfl) (by kernel_rfl) (fun _ _ _ h => h) ?_ (by assumption) ?_
    rotate_left
    · (intro o ho w hSw; obtain ⟨x0, x1, x2, x3, x4, x5, x6, x7, x8, x9, x10, x11, x12⟩ := hSw; cases ho; go_simp; try with_reducible rfl)
  try simp only [Act.put, List.setIfInBounds_toArray, List.set_cons_zero, List.set_cons_succ]
  first
  | refine skipH 10 (some 55) (by rfl) (by rfl) (by kernel_rfl) (by kernel_rfl) (by kernel_rfl) (fun _ _ _ h => h) (by assumption) ?_
  | refine takeH 10 (some 55) (v := ?_) (by rfl) (by rfl) (by kernel_rfl) (by kernel_rfl) (by kernel_rfl) (fun _ _ _ h => h) ?_ (by assumption) ?_
    rotate_left
    · (intro o ho w hSw; obtain ⟨x0, x1, x2, x3, x4, x5, x6, x7, x8, x9, x10, x11, x12⟩ := hSw; cases ho; go_simp; try with_reducible rfl)
  try simp only [Act.put, List.setIfInBounds_toArray, List.set_cons_zero, List.set_cons_succ]
  first
  | refine skipH 11 (some 56) (by rfl) (by rfl) (by kernel_rfl) (by kernel_rfl) (by kernel_rfl) (fun _ _ _ h => h) (by assumption) ?_
  | refine takeH 11 (some 56) (v := ?_) (by rfl) (by rfl) (by kernel_rfl) (by kernel_rfl) (by kernel_rfl) (fun _ _ _ h => h) ?_ (by assumption) ?_
    rotate_left
    · (intro o ho w hSw; obtain ⟨x0, x1, x2, x3, x4, x5, x6, x7, x8, x9, x10, x11, x12⟩ := hSw; cases ho; go_simp; try with_reducible rfl)
  try simp only [Act.put, List.setIfInBounds_toArray, List.set_cons_zero, List.set_cons_succ]
  refine takeH 12 (some 57) (v := ?_) (by rfl) (by rfl) (by kernel_rfl) (by kernel_rfl) (by kernel_rfl) (fun _ _ _ h => h) ?_ (by assumption) ?_
  rotate_left
  · (intro o ho w hSw; obtain ⟨x0, x1, x2, x3, x4, x5, x6, x7, x8, x9, x10, x11, x12⟩ := hSw; cases ho; go_simp; try with_reducible rfl)
  try simp only [Act.put, List.setIfInBounds_toArray, List.set_cons_zero, List.set_cons_succ]
  refine takeH 13 (some 58) (v := ?_) (by rfl) (by rfl) (by kernel_rfl) (by kernel_rfl) (by kernel_rfl) (fun _ _ _ h => h) ?_ (by assumption) ?_
  rotate_left
  · (intro o ho w hSw; obtain ⟨x0, x1, x2, x3, x4, x5, x6, x7, x8, x9, x10, x11, x12⟩ := hSw; cases ho; go_simp; try with_reducible rfl)
  try simp only [Act.put, List.setIfInBounds_toArray, List.set_cons_zero, List.set_cons_succ]
  first
  | refine skipH 14 (some 59) (by rfl) (by rfl) (by kernel_rfl) (by kernel_rfl) (by kernel_rfl) (fun _ _ _ h => h) (by assumption) ?_
  | refine takeH 14 (some 59) (v := ?_) (by rfl) (by rfl) (by kernel_rfl) (by kernel_rfl) (by kernel_rfl) (fun _ _ _ h => h) ?_ (by assumption) ?_
    rotate_left
    · (intro o ho w hSw; obtain ⟨x0, x1, x2, x3, x4, x5, x6, x7, x8, x9, x10, x11, x12⟩ := hSw; cases ho; go_simp; try with_reducible rfl)
  try simp only [Act.put, List.setIfInBounds_toArray, List.set_cons_zero, List.set_cons_succ]
  first
  | refine skipH 16 (some 61) (by rfl) (by rfl) (by kernel_rfl) (by kernel_rfl) (by kernel_rfl) (fun _ _ _ h => h) (by assumption) ?_
  | refine takeH 16 (some 61) (v := ?_) (by rfl) (by rfl) (by kernel_rfl) (by kernel_rfl) (by kernel_rfl) (fun _ _ _ h => h) ?_ (by assumption) ?_
    rotate_left
    · (intro o ho w hSw; obtain ⟨x0, x1, x2, x3, x4, x5, x6, x7, x8, x9, x10, x11, x12⟩ := hSw; cases ho; go_simp; try with_reducible rfl)
  try simp only [Act.put, List.setIfInBounds_toArray, List.set_cons_zero, List.set_cons_succ]
  refine wpAnyH_ready (rs := [15]) (by kernel_rfl) (by simp) ?_
  refine AllReadyH.cons rfl (fun K hK => ?_) AllReadyH.nil
  go_simp
  go_at_call 45
  (with_reducible refine (lorder_any og _).mono ?_)
  rintro e v1 ⟨rfl, hb1⟩
  have hP1 := bt hP0 hb1
  go_wp2
  refine hK.out _ _ ?_ (fun hH1 => ?_)
  · exact (HS5.out _ hP1)
  clear hK K
  try simp only [Act.put, List.setIfInBounds_toArray, List.set_cons_zero, List.set_cons_succ]
  refine wpAnyH_ready (rs := [17]) (by kernel_rfl) (by simp) ?_
  refine AllReadyH.cons rfl (fun K hK => ?_) AllReadyH.nil
  go_simp
  go_at_call 44
  (with_reducible refine (rsame_any og false eg _).mono ?_)
  rintro e v2 ⟨rfl, hb2⟩
  have hP2 := bt hP1 hb2
  go_wp2
  refine hK.out _ _ ?_ (fun hH2 => ?_)
  · exact (HS5.out _ hP2)
  clear hK K
  try simp only [Act.put, List.setIfInBounds_toArray, List.set_cons_zero, List.set_cons_succ]
  first
  | refine skipH 18 (some 63) (by rfl) (by rfl) (by kernel_rfl) (by kernel_rfl) (by kernel_rfl) (fun _ _ _ h => h) (by assumption) ?_
  | refine takeH 18 (some 63) (v := ?_) (by rfl) (by rfl) (by kernel_rfl) (by kernel_rfl) (by kernel_rfl) (fun _ _ _ h => h) ?_ (by assumption) ?_
    rotate_left
    · (intro o ho w hSw; obtain ⟨x0, x1, x2, x3, x4, x5, x6, x7, x8, x9, x10, x11, x12⟩ := hSw; cases ho; go_simp; try with_reducible rfl)
  try simp only [Act.put, List.setIfInBounds_toArray, List.set_cons_zero, List.set_cons_succ]
  refine takeH 19 (some 64) (v := ?_) (by rfl) (by rfl) (by kernel_rfl) (by kernel_rfl) (by kernel_rfl) (fun _ _ _ h => h) ?_ (by assumption) ?_
  rotate_left
  · (intro o ho w hSw; obtain ⟨x0, x1, x2, x3, x4, x5, x6, x7, x8, x9, x10, x11, x12⟩ := hSw; cases ho; go_simp; try with_reducible rfl)
  try simp only [Act.put, List.setIfInBounds_toArray, List.set_cons_zero, List.set_cons_succ]
  refine wpAnyH_done (by kernel_rfl) ?_ _
  go_upto_region 7 with (fail)
  have hP3 : Below W.heap.size W v2.drew := below_drewN hP2 1
  clear hq1 hq2 hq3
  refine wp_region_held_drew (S := (fun w' => w'.cell? ⟨g7, 0, none⟩ = some (.int .i64 o1.id) ∧ w'.cell? ⟨g7, 1, none⟩ = some (.int .i64 o1.acc) ∧ w'.cell? ⟨g7, 2, none⟩ = some (.bool o1.buy) ∧ w'.cell? ⟨g7, 3, none⟩ = some (.int .i64 o1.price) ∧ w'.cell? ⟨g7, 4, none⟩ = some (.int .i64 o1.n) ∧ w'.cell? ⟨g7, 5, none⟩ = some (.int .i64 o1.left) ∧ w'.cell? ⟨g11, 0, none⟩ = some (.int .i64 o1.id) ∧ w'.cell? ⟨g11, 1, none⟩ = some (.int .i64 o1.acc) ∧ w'.cell? ⟨g11, 2, none⟩ = some (.bool o1.buy) ∧ w'.cell? ⟨g11, 3, none⟩ = some (.int .i64 o1.price) ∧ w'.cell? ⟨g11, 4, none⟩ = some (.int .i64 o1.n) ∧ w'.cell? ⟨g11, 5, none⟩ = some (.int .i64 o1.left) ∧ w'.cell? ⟨g11, 6, none⟩ = some (.bool e1) ∧ w'.cell? ⟨g8, 0, none⟩ = some (.int .i64 o2.id) ∧ w'.cell? ⟨g8, 1, none⟩ = some (.int .i64 o2.acc) ∧ w'.cell? ⟨g8, 2, none⟩ = some (.bool o2.buy) ∧ w'.cell? ⟨g8, 3, none⟩ = some (.int .i64 o2.price) ∧ w'.cell? ⟨g8, 4, none⟩ = some (.int .i64 o2.n) ∧ w'.cell? ⟨g8, 5, none⟩ = some (.int .i64 o2.left) ∧ w'.cell? ⟨g12, 0, none⟩ = some (.int .i64 o2.id) ∧ w'.cell? ⟨g12, 1, none⟩ = some (.int .i64 o2.acc) ∧ w'.cell? ⟨g12, 2, none⟩ = some (.bool o2.buy) ∧ w'.cell? ⟨g12, 3, none⟩ = some (.int .i64 o2.price) ∧ w'.cell? ⟨g12, 4, none⟩ = some (.int .i64 o2.n) ∧ w'.cell? ⟨g12, 5, none⟩ = some (.int .i64 o2.left) ∧ w'.cell? ⟨g12, 6, none⟩ = some (.bool e2))) (by kernel_rfl) (HS7.out _ hP3) (fun hHeld => ?_)
  refine takeH 0 (some 65) (v := ?_) (by rfl) (by rfl) (by kernel_rfl) (by kernel_rfl) (by kernel_rfl) (fun _ _ _ h => h) ?_ (by assumption) ?_
  rotate_left
  · (intro o ho w hSw; obtain ⟨x0, x1, x2, x3, x4, x5, x6, x7, x8, x9, x10, x11, x12, x13, x14, x15, x16, x17, x18, x19, x20, x21, x22, x23, x24, x25⟩ := hSw; cases ho; go_simp; try with_reducible rfl)
  try simp only [Act.put, List.setIfInBounds_toArray, List.set_cons_zero, List.set_cons_succ]
  refine takeH 2 (some 67) (v := ?_) (by rfl) (by rfl) (by kernel_rfl) (by kernel_rfl) (by kernel_rfl) (fun _ _ _ h => h) ?_ (by assumption) ?_
  rotate_left
  · (intro o ho w hSw; obtain ⟨x0, x1, x2, x3, x4, x5, x6, x7, x8, x9, x10, x11, x12, x13, x14, x15, x16, x17, x18, x19, x20, x21, x22, x23, x24, x25⟩ := hSw; cases ho; go_simp; try with_reducible rfl)
  try simp only [Act.put, List.setIfInBounds_toArray, List.set_cons_zero, List.set_cons_succ]
  refine wpAnyH_ready (rs := [1]) (by kernel_rfl) (by simp) ?_
  refine AllReadyH.cons rfl (fun K hK => ?_) AllReadyH.nil
  go_simp
  go_at_call 45
  (with_reducible refine (lorder_any o1 _).mono ?_)
  rintro e v4 ⟨rfl, hb4⟩
  have hP4 := bt hP3 hb4
  go_wp2
  refine hK.out _ _ ?_ (fun hH4 => ?_)
  · exact (HS7.out _ hP4)
  clear hK K
  try simp only [Act.put, List.setIfInBounds_toArray, List.set_cons_zero, List.set_cons_succ]
  refine wpAnyH_ready (rs := [3]) (by kernel_rfl) (by simp) ?_
  refine AllReadyH.cons rfl (fun K hK => ?_) AllReadyH.nil
  go_simp
  go_at_call 44
  (with_reducible refine (rsame_any o1 false e1 _).mono ?_)
  rintro e v5 ⟨rfl, hb5⟩
  have hP5 := bt hP4 hb5
  go_wp2
  refine hK.out _ _ ?_ (fun hH5 => ?_)
  · exact (HS7.out _ hP5)
  clear hK K
  try simp only [Act.put, List.setIfInBounds_toArray, List.set_cons_zero, List.set_cons_succ]
  refine takeH 4 (some 69) (v := ?_) (by rfl) (by rfl) (by kernel_rfl) (by kernel_rfl) (by kernel_rfl) (fun _ _ _ h => h) ?_ (by assumption) ?_
  rotate_left
  · (intro o ho w hSw; obtain ⟨x0, x1, x2, x3, x4, x5, x6, x7, x8, x9, x10, x11, x12, x13, x14, x15, x16, x17, x18, x19, x20, x21, x22, x23, x24, x25⟩ := hSw; cases ho; go_simp; try with_reducible rfl)
  try simp only [Act.put, List.setIfInBounds_toArray, List.set_cons_zero, List.set_cons_succ]
  first
  | refine skipH 5 (some 70) (by rfl) (by rfl) (by kernel_rfl) (by kernel_rfl) (by kernel_rfl) (fun _ _ _ h => h) (by assumption) ?_
  | refine takeH 5 (some 70) (v := ?_) (by rfl) (by rfl) (by kernel_rfl) (by kernel_rfl) (by kernel_rfl) (fun _ _ _ h => h) ?_ (by assumption) ?_
    rotate_left
    · (intro o ho w hSw; obtain ⟨x0, x1, x2, x3, x4, x5, x6, x7, x8, x9, x10, x11, x12, x13, x14, x15, x16, x17, x18, x19, x20, x21, x22, x23, x24, x25⟩ := hSw; cases ho; go_simp; try with_reducible rfl)
  try simp only [Act.put, List.setIfInBounds_toArray, List.set_cons_zero, List.set_cons_succ]
  first
  | refine skipH 7 (some 72) (by rfl) (by rfl) (by kernel_rfl) (by kernel_rfl) (by kernel_rfl) (fun _ _ _ h => h) (by assumption) ?_
  | refine takeH 7 (some 72) (v := ?_) (by rfl) (by rfl) (by kernel_rfl) (by kernel_rfl) (by kernel_rfl) (fun _ _ _ h => h) ?_ (by assumption) ?_
    rotate_left
    · (intro o ho w hSw; obtain ⟨x0, x1, x2, x3, x4, x5, x6, x7, x8, x9, x10, x11, x12, x13, x14, x15, x16, x17, x18, x19, x20, x21, x22, x23, x24, x25⟩ := hSw; cases ho; go_simp; try with_reducible rfl)
  try simp only [Act.put, List.setIfInBounds_toArray, List.set_cons_zero, List.set_cons_succ]
  refine wpAnyH_ready (rs := [6]) (by kernel_rfl) (by simp) ?_
  refine AllReadyH.cons rfl (fun K hK => ?_) AllReadyH.nil
  go_simp
  go_at_call 45
  (with_reducible refine (lorder_any o2 _).mono ?_)
  rintro e v6 ⟨rfl, hb6⟩
  have hP6 := bt hP5 hb6
  go_wp2
  refine hK.out _ _ ?_ (fun hH6 => ?_)
  · exact (HS7.out _ hP6)
  clear hK K
  try simp only [Act.put, List.setIfInBounds_toArray, List.set_cons_zero, List.set_cons_succ]
  refine wpAnyH_ready (rs := [8]) (by kernel_rfl) (by simp) ?_
  refine AllReadyH.cons rfl (fun K hK => ?_) AllReadyH.nil
  go_simp
  go_at_call 44
  (with_reducible refine (rsame_any o2 false e2 _).mono ?_)
  rintro e v7 ⟨rfl, hb7⟩
  have hP7 := bt hP6 hb7
  go_wp2
  refine hK.out _ _ ?_ (fun hH7 => ?_)
  · exact (HS7.out _ hP7)
  clear hK K
  try simp only [Act.put, List.setIfInBounds_toArray, List.set_cons_zero, List.set_cons_succ]
  refine takeH 9 (some 74) (v := ?_) (by rfl) (by rfl) (by kernel_rfl) (by kernel_rfl) (by kernel_rfl) (fun _ _ _ h => h) ?_ (by assumption) ?_
  rotate_left
  · (intro o ho w hSw; obtain ⟨x0, x1, x2, x3, x4, x5, x6, x7, x8, x9, x10, x11, x12, x13, x14, x15, x16, x17, x18, x19, x20, x21, x22, x23, x24, x25⟩ := hSw; cases ho; go_simp; try with_reducible rfl)
  try simp only [Act.put, List.setIfInBounds_toArray, List.set_cons_zero, List.set_cons_succ]
  refine takeH 10 (some 75) (v := ?_) (by rfl) (by rfl) (by kernel_rfl) (by kernel_rfl) (by kernel_rfl) (fun _ _ _ h => h) ?_ (by assumption) ?_
  rotate_left
  · (intro o ho w hSw; obtain ⟨x0, x1, x2, x3, x4, x5, x6, x7, x8, x9, x10, x11, x12, x13, x14, x15, x16, x17, x18, x19, x20, x21, x22, x23, x24, x25⟩ := hSw; cases ho; go_simp; try with_reducible rfl)
  try simp only [Act.put, List.setIfInBounds_toArray, List.set_cons_zero, List.set_cons_succ]
  first
  | refine skipH 11 (some 76) (by rfl) (by rfl) (by kernel_rfl) (by kernel_rfl) (by kernel_rfl) (fun _ _ _ h => h) (by assumption) ?_
  | refine takeH 11 (some 76) (v := ?_) (by rfl) (by rfl) (by kernel_rfl) (by kernel_rfl) (by kernel_rfl) (fun _ _ _ h => h) ?_ (by assumption) ?_
    rotate_left
    · (intro o ho w hSw; obtain ⟨x0, x1, x2, x3, x4, x5, x6, x7, x8, x9, x10, x11, x12, x13, x14, x15, x16, x17, x18, x19, x20, x21, x22, x23, x24, x25⟩ := hSw; cases ho; go_simp; try with_reducible rfl)
  try simp only [Act.put, List.setIfInBounds_toArray, List.set_cons_zero, List.set_cons_succ]
  first
  | refine skipH 13 (some 78) (by rfl) (by rfl) (by kernel_rfl) (by kernel_rfl) (by kernel_rfl) (fun _ _ _ h => h) (by assumption) ?_
  | refine takeH 13 (some 78) (v := ?_) (by rfl) (by rfl) (by kernel_rfl) (by kernel_rfl) (by kernel_rfl) (fun _ _ _ h => h) ?_ (by assumption) ?_
    rotate_left
    · (intro o ho w hSw; obtain ⟨x0, x1, x2, x3, x4, x5, x6, x7, x8, x9, x10, x11, x12, x13, x14, x15, x16, x17, x18, x19, x20, x21, x22, x23, x24, x25⟩ := hSw; cases ho; go_simp; try with_reducible rfl)
  try simp only [Act.put, List.setIfInBounds_toArray, List.set_cons_zero, List.set_cons_succ]
  refine wpAnyH_ready (rs := [12]) (by kernel_rfl) (by simp) ?_
  refine AllReadyH.cons rfl (fun K hK => ?_) AllReadyH.nil
  go_simp
  go_at_call 12
  (with_reducible refine (HOR.out _ hP7).mono ?_)
  rintro e v8 ⟨A8, c8, rfl, hr8, hb8⟩
  have hP8 := bt hP7 hb8
  go_wp2
  refine hK.out _ _ ?_ (fun hH8 => ?_)
  · exact (HS7.out _ hP8)
  clear hK K
  try simp only [Act.put, List.setIfInBounds_toArray, List.set_cons_zero, List.set_cons_succ]
  refine wpAnyH_ready (rs := [14]) (by kernel_rfl) (by simp) ?_
  refine AllReadyH.cons rfl (fun K hK => ?_) AllReadyH.nil
  go_simp
  go_at_call 47
  (with_reducible refine (HRO.out _ hP8).mono ?_)
  rintro e v9 ⟨A9, c9, rfl, hr9, hb9⟩
  have hP9 := bt hP8 hb9
  have H18 := Lib.hid (own_keep hr8 hb9)
  have H19 := Lib.hid hr9
  go_wp2
  refine hK.out _ _ ?_ (fun hH9 => ?_)
  · exact (HS7.out _ hP9)
  clear hK K
  try simp only [Act.put, List.setIfInBounds_toArray, List.set_cons_zero, List.set_cons_succ]
  refine wpAnyH_ready (rs := [15]) (by kernel_rfl) (by simp) ?_
  refine AllReadyH.cons rfl (fun K hK => ?_) AllReadyH.nil
  go_simp
  go_at_call 46
  (with_reducible refine (lsame_any A8 A9 k c8 c9 _ _ os rl _ H18 H19 HKL HRL (by omega)).mono ?_)
  rintro e v10 ⟨rfl, hb10⟩
  have hP10 := bt hP9 hb10
  go_wp2
  refine hK.out _ _ ?_ (fun hH10 => ?_)
  · exact (HS7.out _ hP10)
  clear hK K
  try simp only [Act.put, List.setIfInBounds_toArray, List.set_cons_zero, List.set_cons_succ]
  refine takeH 16 (some 81) (v := ?_) (by rfl) (by rfl) (by kernel_rfl) (by kernel_rfl) (by kernel_rfl) (fun _ _ _ h => h) ?_ (by assumption) ?_
  rotate_left
  · (intro o ho w hSw; obtain ⟨x0, x1, x2, x3, x4, x5, x6, x7, x8, x9, x10, x11, x12, x13, x14, x15, x16, x17, x18, x19, x20, x21, x22, x23, x24, x25⟩ := hSw; cases ho; go_simp; try with_reducible rfl)
  try simp only [Act.put, List.setIfInBounds_toArray, List.set_cons_zero, List.set_cons_succ]
  refine takeH 17 (some 6) (v := ?_) (by rfl) (by rfl) (by kernel_rfl) (by kernel_rfl) (by kernel_rfl) (fun _ _ _ h => h) ?_ (by assumption) ?_
  rotate_left
  · (intro o ho w hSw; obtain ⟨x0, x1, x2, x3, x4, x5, x6, x7, x8, x9, x10, x11, x12, x13, x14, x15, x16, x17, x18, x19, x20, x21, x22, x23, x24, x25⟩ := hSw; cases ho; go_simp; try with_reducible rfl)
  try simp only [Act.put, List.setIfInBounds_toArray, List.set_cons_zero, List.set_cons_succ]
  refine wpAnyH_done (by kernel_rfl) ?_ _
  go_wp2
  go_ret
  exact ⟨rfl, bt HW.out hP10⟩
end Go.Proofs.Ytkandhpnenmleaa
