/- journal: the walk of records' iterator and of Scan. -/
import Derived.Test.YtgjbbobphfejoaaGreatDoorHG39
import Derived.Test.YtgjbbobphfejoaaGreatDoorHG4
import Derived.Test.YtgjbbobphfejoaaGreatDoorHG38
import Derived.Deep.RegionHeld3
import Derived.Maps.AppendAt

namespace Go.Proofs.YtgjbbobphfejoaaGreatDoor
open Go.RowKit Go.Shelf
attribute [local go_sem] Oper.semAt_some

theorem Sb.below {w w' : World} {A : Option Addr} {n c : Nat} {bs : List UInt8} (h : Sb w A n c bs) (hb : Below w.heap.size w w') : Sb w' A n c bs := h.all hb
theorem Sb.skip {w : World} {b off n c m o' : Nat} {bs : List UInt8} (h : Sb w (some ⟨b, off, none⟩) n c bs) (hm : m ≤ n) (ho : c ≠ m → o' = off + m) : Sb w (some ⟨b, o', none⟩) (n - m) (c - m) (bs.drop m) := by
  obtain ⟨h1, h2, h3, ⟨h4, h5⟩ | ⟨b', off', h4, h5⟩⟩ := h
  · cases h4
  · injection h4 with h4
    injection h4 with h4 h6 _
    subst h4 h6
    refine ⟨by rw [List.length_drop, h1], by omega, by omega, .inr ⟨b, o', rfl, h5.1, fun j hj => ?_⟩⟩
    rw [ho (by omega), Nat.add_assoc, h5.2 (m + j) (by omega)]
    unfold vByte
    rw [List.getElem?_drop]
theorem first_drop {k : Int} {r x : List UInt8} {m : Nat} (h : FirstIs k r (some x)) (hm : m = (frameB k x).length) : r = frameB k x ++ r.drop m ∧ m ≤ r.length ∧ 0 < m := by
  obtain ⟨s, rfl⟩ := h
  have := frameB_pos k x
  subst hm
  rw [List.drop_left, List.length_append]
  exact ⟨rfl, by omega, this⟩
def bsOf (L : List Bz) : List (List UInt8) := L.map Bz.bs
theorem bsOf_snoc (L : List Bz) (z : Bz) : bsOf (L ++ [z]) = bsOf L ++ [z.bs] := by simp [bsOf]
theorem bsOf_length (L : List Bz) : (bsOf L).length = L.length := by simp [bsOf]

set_option maxRecDepth 100000 in
set_option maxHeartbeats 1000000 in
theorem recs1_in (l Bs : Nat) (w : World) (bs : List UInt8) (hbs : bs.length ≤ 1099511627776) (J : List Bz → List UInt8 → World → Prop) (Jx : World → Prop)
    (hJ : Hid (∀ L r W, J L r W → ∃ A n c, Blk W Bs 55 #[.slice A n c] ∧ Sb w A n c r ∧ Below w.heap.size w W))
    (hB : Hid (∀ L r W W', J L r W → Below W.heap.size W W' → J L r W'))
    (hS : Hid (∀ L r r' W A n c, J L r W → Sb w A n c r' → J L r' (W.setCell ⟨Bs, 0, none⟩ (.slice A n c))))
    (hY : Hid (∀ L r z (m : Nat) W, J L r W → z.ok W → z.low w.heap.size → L.length ≤ bs.length → m ≤ bs.length → m = (frameB (L.length : Nat) z.bs).length → (framesB 0 (bsOf L)).length + m ≤ bs.length → YieldAt Fence.wide 4 Tryz.prog l #[.slice z.A z.n z.c, .int .i64 (m : Int)] W fun e W' =>
      (e = .returned (.bool true) ∧ J (L ++ [z]) r W') ∨ (e = .returned (.bool false) ∧ Jx W')))
    (W : World) (h0 : J [] bs W) :
    CallsIn Fence.wide 5 Tryz.prog 81 #[.func (.yield l) #[] #[], .pointer (some ⟨Bs, 0, none⟩)] W fun e W' => (∃ v, e = .returned v) ∧ ((∃ L r, (bs = framesB 0 (bsOf L) ++ r ∧ FirstIs (L.length : Nat) r none) ∧ J L r W') ∨ Jx W') := by
  refine callsIn_of_wp Tryz.func81 rfl trivial ?_ rfl
  simp only [Tryz.ntmps81, List.size_toArray, List.length_cons, List.length_nil, Nat.reduceAdd, Nat.reduceSub, Array.replicate_succ, Array.replicate_zero, List.push_toArray, List.append_toArray, List.nil_append, List.cons_append]
  gi_wp2
  gi_loopw [3] (fun v wr => ∃ (k : Nat) (L : List Bz) (r : List UInt8), k ≤ bs.length ∧ Hid (L.length = k) ∧ v = .int .i64 (k : Int) ∧ Hid (bs = framesB 0 (bsOf L) ++ r) ∧ J L r wr) (fun v _ => bs.length + 1 - (intOf v).toNat)
  case atStart => exact ⟨0, [], bs, Nat.zero_le _, Lib.hid rfl, rfl, Lib.hid rfl, h0⟩
  case round =>
    obtain ⟨k, L, r, hk, HK, rfl, HE, hJr⟩ := hrel
    obtain ⟨A, n, c, hb, hs, hw⟩ := hJ.out L r wr hJr
    have hcell : wr.cell? ⟨Bs, 0, none⟩ = some (.slice A n c) := by simpa using hb.cell 0
    have hrl : (framesB 0 (bsOf L)).length + r.length = bs.length := by rw [← List.length_append, ← HE.out]
    have hn : n ≤ 1099511627776 := by have := hs.1; omega
    have HSb := Lib.hid (hs.below hw)
    clear hb
    gi_wp2_with fail
    refine ⟨trivial, ?_⟩
    refine (callsIn_wide.2 (first_any _ _ _ _ r _ HSb (by omega) (by omega) hn)).mono ?_
    rintro e w1 (⟨rfl, hno, hb1⟩ | ⟨z, m, rfl, hz, hyes, HM, hzl, hb1⟩)
    · have HN := Lib.hid hno
      have hJ1 := hB.out L r wr w1 hJr hb1
      clear hno hb1 hs hw hcell
      gi_wp2
      refine ⟨fun f h => (by cases h), ?_⟩
      gi_wp2
      refine bodyPost_ret (results_none rfl _ _ _) rfl ?_
      exact ⟨⟨_, rfl⟩, .inl ⟨L, r, ⟨HE.out, by rw [HK.out]; exact HN.out⟩, hJ1⟩⟩
    · have hJ1 := hB.out L r wr w1 hJr hb1
      obtain ⟨he, hml, hm0⟩ := first_drop hyes HM.out
      have HD := Lib.hid he
      obtain ⟨fn, tmps, assign, body, hy, hR3⟩ := hY.out L r z m w1 hJ1 hz (hzl.mono hw.size) (by rw [HK.out]; exact hk) (by omega) (by rw [HK.out]; exact HM.out) (by omega)
      clear he hb1 hs hw hcell hyes hzl
      gi_wp2
      refine hR3.mono ?_
      rintro e W3 (⟨rfl, hJ3⟩ | ⟨rfl, hJx3⟩)
      · obtain ⟨A3, n3, c3, hb3, hs3, hw3⟩ := hJ.out _ r W3 hJ3
        have hl3 := hs3.1
        obtain ⟨b3, o3, rfl, -⟩ := hs3.rd (by omega)
        have hcell : W3.cell? ⟨Bs, 0, none⟩ = some (.slice (some ⟨b3, o3, none⟩) n3 c3) := by simpa using hb3.cell 0
        have hfr : W3.frozen? ⟨Bs, 0, none⟩ = false := hb3.frozen 0
        have hnc3 := hs3.2.1
        have hcm3 := hs3.2.2.1
        have hmn3 : m ≤ n3 := by omega
        have HS1 : Hid (J (L ++ [z]) (r.drop m) (W3.setCell ⟨Bs, 0, none⟩ (.slice (if c3 = m then some ⟨b3, o3, none⟩ else some ⟨b3, o3 + m, none⟩) (n3 - m) (c3 - m)))) := Lib.hid (by
          split
          · exact hS.out _ r _ W3 _ _ _ hJ3 (hs3.skip hmn3 (by omega))
          · exact hS.out _ r _ W3 _ _ _ hJ3 (hs3.skip hmn3 (by omega)))
        have HE2 : Hid (bs = framesB 0 (bsOf (L ++ [z])) ++ r.drop m) := Lib.hid (by
          rw [bsOf_snoc, framesB_snoc, List.append_assoc, Nat.zero_add, bsOf_length, HK.out, ← HD.out]
          exact HE.out)
        have hk2 : k + 1 ≤ bs.length := by
          have h1 := framesB_len (bsOf (L ++ [z])) 0
          rw [bsOf_length, List.length_append] at h1
          have h2 := congrArg List.length HE2.out
          rw [List.length_append] at h2
          have := HK.out
          simp at h1
          omega
        have HK2 := Lib.hid (show (L ++ [z]).length = k + 1 by rw [List.length_append, HK.out]; rfl)
        clear hb3 hs3 hw3 hJ3 hJ1 hJr hl3
        gi_wp2
        all_goals exact ⟨⟨k + 1, L ++ [z], r.drop m, hk2, HK2, by go_num, HE2, HS1.out⟩, by simp [intOf]; omega⟩
      · gi_wp2
        refine bodyPost_ret (results_none rfl _ _ _) rfl ?_
        exact ⟨⟨_, rfl⟩, .inr hJx3⟩

/-- Scan's own state: the list, the length, what is left; L: the records so far. -/
structure ScanI (w : World) (L : List Bz) (r : List UInt8) (W : World) : Prop where
  low : ∀ z ∈ L, z.low w.heap.size
  bl : ∃ v, Blk W w.heap.size 26 #[v] ∧ LsOwn W (w.heap.size + 3) v L
  bt : Blk W (w.heap.size + 1) 3 #[.int .i64 (((framesB 0 (bsOf L)).length : Nat) : Int)]
  bb : ∃ A n c, Blk W (w.heap.size + 2) 55 #[.slice A n c] ∧ Sb w A n c r
  below : Below w.heap.size w W
theorem ScanI.mod {w W W' : World} {L : List Bz} {r : List UInt8} {F : Nat → Prop} (h : ScanI w L r W) (m : Mod F W W') (hF : ∀ b, F b → w.heap.size ≤ b ∧ ∀ t, ¬ Ty W b t) : ScanI w L r W' := by
  obtain ⟨h0, ⟨v, h1, h2⟩, h3, ⟨A, n, c, h4, h5⟩, h6⟩ := h
  refine ⟨h0, ⟨v, m.blk h1 (fun hf => (hF _ hf).2 _ h1.ty), h2.mod m (fun g e hf => (hF _ hf).2 _ (Ty.of_own h2.1 e)) (fun b hf => (hF b hf).2 _)⟩, m.blk h3 (fun hf => (hF _ hf).2 _ h3.ty), ⟨A, n, c, m.blk h4 (fun hf => (hF _ hf).2 _ h4.ty), h5⟩, m.below h6 h6.size (fun b hf => (hF b hf).1)⟩
theorem ScanI.all {w W W' : World} {L : List Bz} {r : List UInt8} (h : ScanI w L r W) (hb : Below W.heap.size W W') : ScanI w L r W' := h.mod (F := fun _ => False) (Mod.of_below _ hb) (fun _ hf => hf.elim)
theorem ScanI.own {w : World} {L : List Bz} {r : List UInt8} {B : Nat} (hB : w.heap.size ≤ B) {W W' : World} {row : Option Nat} (h : ScanI w L r W) (hg : W.grownBy W' row) (hr : ∀ r, row = some r → B ≤ r ∧ ∃ o : Obj, W.heap[r]? = some o ∧ o.isCells = false) : ScanI w L r W' := by
  refine h.mod (F := fun b => row = some b) (Mod.of_grown hg (fun g e => .inl e)) (fun b e => ?_)
  obtain ⟨h1, o, h2, h3⟩ := hr b e
  refine ⟨by omega, fun t ht => ?_⟩
  obtain ⟨cs, fr, h4⟩ := ht
  rw [h2] at h4
  injection h4 with h4
  subst h4
  cases h3
theorem ScanI.cut {w W : World} {L : List Bz} {r r' : List UInt8} {A : Option Addr} {n c : Nat} (h : ScanI w L r W) (hs : Sb w A n c r') : ScanI w L r' (W.setCell ⟨w.heap.size + 2, 0, none⟩ (.slice A n c)) := by
  obtain ⟨h0, ⟨v, h1, h2⟩, h3, ⟨A', n', c', h4, h5⟩, h6⟩ := h
  have m : Mod (fun b => b = w.heap.size + 2) W (W.setCell ⟨w.heap.size + 2, 0, none⟩ (.slice A n c)) := (Mod.refl (fun b => b = w.heap.size + 2) W).set (p := ⟨w.heap.size + 2, 0, none⟩) (.inl rfl) _
  refine ⟨h0, ⟨v, m.blk h1 (by omega), h2.mod m (fun g e hf => ?_) (fun b hf ht => ?_)⟩, m.blk h3 (by omega), ⟨A, n, c, by simpa using h4.set_ 0 (.slice A n c), hs⟩, m.below h6 h6.size (fun b hf => by omega)⟩
  · subst hf
    have := (h2.1.lt _ e).1
    omega
  · subst hf
    exact absurd (Ty.unique h4.ty ht) (by decide)

theorem records_in (n : Nat) (A : Option Addr) (len cap : Nat) (w : World) :
    CallsIn Fence.wide n Tryz.prog 54 #[.slice A len cap] w fun e w' => e = .returned (.func (.func 81) #[] #[.pointer (some ⟨w.heap.size, 0, none⟩)]) ∧ w.alloc (.cells #[.slice A len cap] 55) = w' := by
  refine callsIn_of_wp Tryz.func54 rfl trivial ?_ rfl
  simp only [Tryz.ntmps54, List.size_toArray, List.length_cons, List.length_nil, Nat.reduceAdd, Nat.reduceSub, Array.replicate_succ, Array.replicate_zero, List.push_toArray, List.append_toArray, List.nil_append, List.cons_append]
  gi_wp2
  go_ret
  exact ⟨rfl, rfl⟩

theorem scan_state (w : World) (bs : List UInt8) (hbs : bs.length ≤ 1099511627776) (B : Nat) (Ix : Code → List Bz × List UInt8 → World → Prop) :
    SeqState Fence.wide 5 Tryz.prog 81 #[.pointer (some ⟨w.heap.size + 2, 0, none⟩)] (fun x : Bz × Nat => #[Value.slice x.1.A x.1.n x.1.c, .int .i64 (x.2 : Int)]) B
      (fun s W => ScanI w s.1 s.2 W) (fun s x W => ScanI w s.1 s.2 W ∧ x.1.ok W ∧ x.1.low w.heap.size ∧ s.1.length ≤ bs.length ∧ x.2 ≤ bs.length ∧ x.2 = (frameB (s.1.length : Nat) x.1.bs).length ∧ (framesB 0 (bsOf s.1)).length + x.2 ≤ bs.length) (fun s x => (s.1 ++ [x.1], s.2)) Ix ([], bs) (fun s => bs = framesB 0 (bsOf s.1) ++ s.2 ∧ FirstIs (s.1.length : Nat) s.2 none) := by
  intro l R Rx hR hY W h0 hR0
  refine (recs1_in l (w.heap.size + 2) w bs hbs (fun L r W => ScanI w L r W ∧ R W) (fun W => ∃ c s, Ix c s W ∧ Rx c W) ?_ ?_ ?_ ?_ W ⟨h0, hR0⟩).mono ?_
  · rintro L r W ⟨h, _⟩
    obtain ⟨A, n, c, h4, h5⟩ := h.bb
    exact ⟨A, n, c, h4, h5, h.below⟩
  · rintro L r W W' ⟨h, hr⟩ hb
    exact ⟨h.all hb, hR _ _ hr ⟨hb.size, fun k _ _ hk _ => (hb.block k (Array.getElem?_eq_some_iff.1 hk).1).trans hk⟩⟩
  · rintro L r r' W A n c ⟨h, hr⟩ hs
    exact ⟨h.cut hs, hR _ _ hr ((KeepsOthers.setCell _ _ _).from _)⟩
  · rintro L r z m W ⟨h, hr⟩ hz hzl hL hm hm2 hm3
    obtain ⟨fn, tmps, assign, body, hy, hr3⟩ := hY (L, r) (z, m) W ⟨h, hz, hzl, hL, hm, hm2, hm3⟩ hr
    exact ⟨fn, tmps, assign, body, hy, hr3.mono fun e W' hh => hh.imp (fun ⟨a, b, c⟩ => ⟨a, b, c⟩) (fun ⟨a, c, b⟩ => ⟨a, c, _, b⟩)⟩
  · rintro e W' ⟨he, (⟨L, r, hf, h, hr⟩ | ⟨c, s, hx, hrx⟩)⟩
    · exact ⟨he, .inl ⟨(L, r), hf, h, hr⟩⟩
    · exact ⟨he, .inr ⟨c, s, hx, hrx⟩⟩

/-- What Scan returns. -/
def ScanPost (bs : List UInt8) (w : World) (e : Ending) (w' : World) : Prop :=
  ∃ (v : Value) (L : List Bz) (m : Nat), e = .returned (.tuple #[v, .int .i64 (m : Int)]) ∧ LsOwn w' w.heap.size v L ∧ ScanIs bs (bsOf L) m ∧ Below w.heap.size w w'
def ScanPost2 (bs : List UInt8) (w : World) (e : Ending) (w' : World) : Prop :=
  ∃ (v : Value) (L : List Bz) (m : Nat), e = .returned (.tuple #[v, .int .i64 (m : Int)]) ∧ LsOwn w' w.heap.size v L ∧ ScanIs bs (bsOf L) m ∧ Below w.heap.size w w' ∧ ∀ z ∈ L, z.low w.heap.size
set_option maxRecDepth 100000 in
set_option maxHeartbeats 1000000 in
theorem scan2_any (A : Option Addr) (n c : Nat) (bs : List UInt8) (w : World) (HS : Hid (Sb w A n c bs)) (hn : n ≤ 1099511627776) :
    Calls Tryz.prog 25 #[.slice A n c] w (ScanPost2 bs w) := by
  have hbs : bs.length ≤ 1099511627776 := by have := HS.out.1; omega
  refine (callsIn_wide (n := 6)).1 ?_
  refine callsIn_of_wp_marks Tryz.func25 rfl trivial ?_ rfl
  simp only [Tryz.ntmps25, List.size_toArray, List.length_cons, List.length_nil, Nat.reduceAdd, Nat.reduceSub, Array.replicate_succ, Array.replicate_zero, List.push_toArray, List.append_toArray, List.nil_append, List.cons_append]
  gi_wp2_with (refine ⟨trivial, ?_⟩; gi_at_call 54; refine (records_in _ _ _ _ _).mono ?_; rintro e w' ⟨rfl, rfl⟩)
  obtain ⟨W0, hW0⟩ : ∃ W0, ((w.alloc (.cells #[.slice none 0 0] 26)).alloc (.cells #[.int .i64 0] 3)).alloc (.cells #[.slice A n c] 55) = W0 := ⟨_, rfl⟩
  have hsz : W0.heap.size = w.heap.size + 3 := by rw [← hW0]; simp
  have hI0 : ScanI w [] bs W0 := by
    rw [← hW0]
    refine ⟨fun _ h => absurd h (by simp), ⟨.slice none 0 0, Blk.alloc (Blk.alloc (Blk.new _ _ _) _) _, LsOwn.nil _ _⟩, ?_, ⟨A, n, c, ?_, HS.out⟩, (((Below.refl _ w).alloc (Nat.le_refl _) _).alloc (by simp) _).alloc (by simp; omega) _⟩
    · have := Blk.alloc (Blk.new (w.alloc (.cells #[.slice none 0 0] 26)) 3 #[.int .i64 0]) (.cells #[.slice A n c] 55)
      rw [World.size_alloc] at this
      exact this
    · have := Blk.new ((w.alloc (.cells #[.slice none 0 0] 26)).alloc (.cells #[.int .i64 0] 3)) 55 #[.slice A n c]
      rw [World.size_alloc, World.size_alloc] at this
      exact this
  rw [hW0]
  have HSZ := Lib.hid hsz
  clear hsz hW0
  refine range_state (β := List Bz × List UInt8) (α := Bz × Nat) rfl (by decide) (gf := 81) (lb := #[.pointer (some ⟨w.heap.size + 2, 0, none⟩)]) rfl trivial (enters_of Tryz.func81 (by kernel_rfl) rfl)
      (encs := fun x : Bz × Nat => #[Value.slice x.1.A x.1.n x.1.c, .int .i64 (x.2 : Int)]) (fun _ => rfl)
      (fun s W => ScanI w s.1 s.2 W) (fun s x W => ScanI w s.1 s.2 W ∧ x.1.ok W ∧ x.1.low w.heap.size ∧ s.1.length ≤ bs.length ∧ x.2 ≤ bs.length ∧ x.2 = (frameB (s.1.length : Nat) x.1.bs).length ∧ (framesB 0 (bsOf s.1)).length + x.2 ≤ bs.length) (fun s x => (s.1 ++ [x.1], s.2))
      (fun _ _ _ => False) ([], bs) (fun s => bs = framesB 0 (bsOf s.1) ++ s.2 ∧ FirstIs (s.1.length : Nat) s.2 none)
      (scan_state w bs hbs _ _)
      (fun s A B row hs hg hr => hs.own (by have := HSZ.out; omega) hg hr) ?hIy
      (fun c s A B row hs hg hr => hs)
      hI0
      (fun x => { tmps := #[.slice A n c, undef, .slice none 0 0, .int .i64 0, .pointer (some ⟨w.heap.size, 0, none⟩), .pointer (some ⟨w.heap.size + 1, 0, none⟩), .slice x.1.A x.1.n x.1.c, .int .i64 (x.2 : Int), .slice A n c, .func (.func 81) #[] #[.pointer (some ⟨w.heap.size + 2, 0, none⟩)], .slice x.1.A x.1.n x.1.c, .int .i64 (x.2 : Int), undef, undef, undef, undef, undef, undef, undef, undef, undef], defers := [] }) ?assign ?body ?done ?stop
  case hIy =>
    rintro x s W W' row ⟨h1, h2, h3⟩ hg hr
    refine ⟨h1.own (by have := HSZ.out; omega) hg hr, h2.mod (F := fun b => row = some b) (Mod.of_grown hg (fun g e => .inl e)) (fun b e ht => ?_), h3⟩
    obtain ⟨-, o, h4, h5⟩ := hr b e
    obtain ⟨cs, fr, h6⟩ := ht
    rw [h4] at h6
    injection h6 with h6
    subst h6
    cases h5
  case assign =>
    intro l x W K hK
    gi_wp2
    exact hK
  case body =>
    rintro l ⟨L, r⟩ ⟨z, m⟩ W ⟨hI, hz, hzl, hL, hm, hm2, hm3⟩
    dsimp only at hI hz hzl hL hm hm2 hm3 ⊢
    obtain ⟨h0, ⟨v, h1, h2⟩, h3, h4, h5⟩ := hI
    have hL2 : L.length < 1099511627776 := by
      have := framesB_len (bsOf L) 0
      rw [bsOf_length] at this
      have := frameB_pos (L.length : Nat) z.bs
      omega
    obtain ⟨g, cap, w1, hrun, hown, hg, hgo⟩ := h2.snoc (ty := 26) z hz hL2 (by have := h1.lt; have := h3.lt; obtain ⟨_, _, _, h4, _⟩ := h4; have := h4.lt; omega)
    have hvb : ∀ b, v.ownBlock = some b → w.heap.size + 3 ≤ b := fun b e => (h2.1.lt b e).1
    have m1 : Mod (fun b => v.ownBlock = some b) W w1 := Mod.of_grown hg (fun b e => .inl e)
    have hc0 : W.cell? ⟨w.heap.size, 0, none⟩ = some v := by simpa using h1.cell 0
    have hk1 : Blk w1 w.heap.size 26 #[v] := m1.blk h1 (fun e => by have := hvb _ e; omega)
    have hk3 := m1.blk h3 (fun e => by have := hvb _ e; omega)
    have hd0 : w1.cell? ⟨w.heap.size, 0, none⟩ = some v := by simpa using hk1.cell 0
    have hd1 : w1.frozen? ⟨w.heap.size, 0, none⟩ = false := hk1.frozen 0
    have he0 : w1.cell? ⟨w.heap.size + 1, 0, none⟩ = some (.int .i64 (((framesB 0 (bsOf L)).length : Nat) : Int)) := by simpa using hk3.cell 0
    have he1 : w1.frozen? ⟨w.heap.size + 1, 0, none⟩ = false := hk3.frozen 0
    have HK1 := Lib.hid hk1
    have HK3 := Lib.hid hk3
    have HRUN := Lib.hid hrun
    have HT := Lib.hid (show (framesB 0 (bsOf (L ++ [z]))).length = (framesB 0 (bsOf L)).length + m by rw [bsOf_snoc, framesB_snoc, List.length_append, Nat.zero_add, bsOf_length, ← hm2])
    have HFIN : Hid (ScanI w (L ++ [z]) r ((w1.setCell ⟨w.heap.size, 0, none⟩ (.slice (some ⟨g, 0, none⟩) (L.length + 1) cap)).setCell ⟨w.heap.size + 1, 0, none⟩ (.int .i64 (((framesB 0 (bsOf L)).length : Nat) + (m : Int)))) ∧ KeepsFrom W0.heap.size W ((w1.setCell ⟨w.heap.size, 0, none⟩ (.slice (some ⟨g, 0, none⟩) (L.length + 1) cap)).setCell ⟨w.heap.size + 1, 0, none⟩ (.int .i64 (((framesB 0 (bsOf L)).length : Nat) + (m : Int))))) := Lib.hid (by
      obtain ⟨A', n', c', h4, h6⟩ := h4
      have hk4 := m1.blk h4 (fun e => by have := hvb _ e; omega)
      have ma : Mod (fun b => b = w.heap.size ∨ b = w.heap.size + 1) w1 ((w1.setCell ⟨w.heap.size, 0, none⟩ (.slice (some ⟨g, 0, none⟩) (L.length + 1) cap)).setCell ⟨w.heap.size + 1, 0, none⟩ (.int .i64 (((framesB 0 (bsOf L)).length : Nat) + (m : Int)))) :=
        ((Mod.refl (fun b => b = w.heap.size ∨ b = w.heap.size + 1) w1).set (p := ⟨w.heap.size, 0, none⟩) (.inl (.inl rfl)) _).set (p := ⟨w.heap.size + 1, 0, none⟩) (.inl (.inr rfl)) _
      have hbw := m1.below h5 h5.size (fun b e => by have := hvb b e; omega)
      refine ⟨⟨(fun y hy => (List.mem_append.1 hy).elim (h0 y) (fun hy => by simp at hy; subst hy; exact hzl)), ⟨_, ?_, hown.mod ma (fun b e hf => ?_) (fun b hf ht => ?_)⟩, ?_, ⟨A', n', c', ma.blk hk4 (by omega), h6⟩, ma.below hbw hbw.size (fun b hf => by omega)⟩, ?_⟩
      · exact Blk.far (by simpa using hk1.set_ 0 (.slice (some ⟨g, 0, none⟩) (L.length + 1) cap)) (by simp) _
      · have := (hown.1.lt b e).1
        omega
      · rcases hf with rfl | rfl
        · exact absurd (Ty.unique hk1.ty ht) (by decide)
        · exact absurd (Ty.unique hk3.ty ht) (by decide)
      · rw [HT.out]
        have := Blk.set_ (Blk.far (p := ⟨w.heap.size, 0, none⟩) hk3 (by simp) (.slice (some ⟨g, 0, none⟩) (L.length + 1) cap)) 0 (.int .i64 (((framesB 0 (bsOf L)).length : Nat) + (m : Int)))
        simpa using this
      · refine KeepsFrom.trans (Y := w1) ⟨hg.size, fun k o _ hk ho => ?_⟩ (((KeepsOthers.setCell _ _ _).trans (KeepsOthers.setCell _ _ _)).from _)
        refine (hg.block k (Array.getElem?_eq_some_iff.1 hk).1 (fun e => ?_)).trans hk
        obtain ⟨cs, fr, hh⟩ := Ty.of_own h2.1 e.symm
        rw [hh] at hk
        injection hk with hk
        subst hk
        cases ho)
    clear hown hg hgo m1 hk1 hk3 h1 h2 h3 h4 h5 hrun hm2 h0 hzl
    gi_wp2_with (gi_at_builtin; refine wpListIn_append_run HRUN.out rfl rfl rfl rfl ?_)
    exact ⟨HFIN.out.2, HFIN.out.1⟩
  case done =>
    rintro D ⟨L, r⟩ W hD ⟨hfin1, hfin2⟩ hI hK
    dsimp only at hfin1 hfin2 hI
    obtain ⟨h0, ⟨v, h1, h2⟩, h3, h4, h5⟩ := hI
    have hc0 : W.cell? ⟨w.heap.size, 0, none⟩ = some v := by simpa using h1.cell 0
    have he0 : W.cell? ⟨w.heap.size + 1, 0, none⟩ = some (.int .i64 (((framesB 0 (bsOf L)).length : Nat) : Int)) := by simpa using h3.cell 0
    have HF1 := Lib.hid hfin1
    have HF2 := Lib.hid hfin2
    clear hfin1 hfin2
    gi_wp2
    gi_region
    gi_wp2
    have hK2 : (W.drew).heap[D]? = some (.deferred (some [])) := hK
    refine ⟨by simp, .inl ⟨_, _, rfl, run_takeDeferred hK2, ?_⟩⟩
    have hm : Mod (fun b => b = D) W ((W.drew).putObj D (.deferred none)) := by
      have := grownBy_putObj' W.drew D (.deferred none)
      exact ⟨this.os, this.tape, this.output, this.size, fun k hk hne => this.block k hk (fun e => hne (by injection e))⟩
    have hD2 : ∀ t, ¬ Ty W D t := by
      rintro t ⟨cs, fr, hh⟩
      rw [hK] at hh
      cases hh
    refine ⟨.tuple #[v, .int .i64 (((framesB 0 (bsOf L)).length : Nat) : Int)], by simp [results, Tryz.f25, go_sem], v, L, _, rfl, LsOwn.lower (h2.mod hm (fun g e hf => ?_) (fun b hf => by rw [hf]; exact hD2 _)) (by omega), ⟨rfl, r, HF1.out, by rw [bsOf_length]; exact HF2.out⟩, hm.below h5 h5.size (fun b hf => by have := HSZ.out; omega), h0⟩
    rw [hf] at e
    exact hD2 _ (Ty.of_own h2.1 e)
  case stop =>
    rintro D c pre W _ h _
    exact h.elim
theorem scan_any (A : Option Addr) (n c : Nat) (bs : List UInt8) (w : World) (HS : Hid (Sb w A n c bs)) (hn : n ≤ 1099511627776) :
    Calls Tryz.prog 25 #[.slice A n c] w (ScanPost bs w) :=
  (scan2_any A n c bs w HS hn).mono fun _ _ ⟨v, L, m, h1, h2, h3, h4, _⟩ => ⟨v, L, m, h1, h2, h3, h4⟩
end Go.Proofs.YtgjbbobphfejoaaGreatDoor

/- The walks of worldmintref02's Reader. -/
namespace Go.Proofs.YtgjbbobphfejoaaGreatDoor
open Go.RowKit

variable {Q : Nat → Prop}
end Go.Proofs.YtgjbbobphfejoaaGreatDoor

/- journal: the reference's first and Scan. -/
namespace Go.Proofs.YtgjbbobphfejoaaGreatDoor
open Go.RowKit

end Go.Proofs.YtgjbbobphfejoaaGreatDoor

/- journal: SameLists and Records of the reference. -/
namespace Go.Proofs.YtgjbbobphfejoaaGreatDoor
open Go.RowKit

theorem bsOf_get {L : List Bz} {k : Nat} {z : Bz} (h : L[k]? = some z) : (bsOf L)[k]? = some z.bs := by simp [bsOf, h]
set_option maxRecDepth 100000 in
set_option maxHeartbeats 1000000 in
theorem sameLists_any (A A' : Option Addr) (n n' c c' : Nat) (L L' : List Bz) (w : World) (H1 : Hid (LsRd w A n c L)) (H2 : Hid (LsRd w A' n' c' L')) (hn : n ≤ 1099511627776) (hn' : n' ≤ 1099511627776) :
    Calls Tryz.prog 52 #[.slice A n c, .slice A' n' c'] w fun e w' => e = .returned (.bool (decide (bsOf L = bsOf L'))) ∧ Below w.heap.size w w' := by
  have HL1 := Lib.hid H1.out.1
  have HL2 := Lib.hid H2.out.1
  by_cases hne : n = n'
  · subst hne
    go_enter Tryz.func52, Tryz.ntmps52
    go_wp2
    go_loopw [5] (fun i wr => ∃ k : Nat, k ≤ n ∧ i = .int .i64 (k : Int) ∧ Hid (∀ j, j < k → (bsOf L)[j]? = (bsOf L')[j]?) ∧ Below w.heap.size w wr) (fun i _ => n - (intOf i).toNat)
    case atStart => exact ⟨0, by omega, rfl, Lib.hid (fun j hj => absurd hj (by omega)), Below.refl _ _⟩
    case round =>
      obtain ⟨k, hk, rfl, HE, hb⟩ := hrel
      by_cases hlt : k < n
      · obtain ⟨b, off, z, rfl, hl1, hc1, hz1, hr1⟩ := (H1.out.all hb).cell hlt
        obtain ⟨b', off', z', rfl, hl2, hc2, hz2, hr2⟩ := (H2.out.all hb).cell hlt
        have HZ1 := Lib.hid hz1
        have HZ2 := Lib.hid hz2
        have HR1 := Lib.hid hr1
        have HR2 := Lib.hid hr2
        have hm1 : z.n ≤ 9223372036854775807 := Nat.le_trans hr1.cap hr1.max
        have hm2 : z'.n ≤ 9223372036854775807 := Nat.le_trans hr2.cap hr2.max
        clear hz1 hz2 hr1 hr2
        go_wp2_with fail
        go_region_held3 (fun w' => Below wr.heap.size wr w' ∧ w'.cell? ⟨b, off + k, none⟩ = some (.slice z.A z.n z.c) ∧ w'.cell? ⟨b', off' + k, none⟩ = some (.slice z'.A z'.n z'.c)) (first | exact ⟨(Below.refl _ wr).drew, hc1, hc2⟩ | exact ⟨hS2, (hS2.cell (p := ⟨b, off + k, none⟩) hl1).trans hc1, (hS2.cell (p := ⟨b', off' + k, none⟩) hl2).trans hc2⟩)
          ((go_at_call 51; have hS1 := (‹Below wr.heap.size wr _ ∧ _›).1; ((with_reducible refine (sameBytes_list _ _ _ _ _ _ z.bs z'.bs _ (Lib.hid HR1.out.len) (Lib.hid HR2.out.len) (HR1.out.all hS1).rd (HR2.out.all hS1).rd hm1 hm2).mono ?_); rintro e wy ⟨rfl, hb3⟩; have hS2 := bt hS1 hb3; clear hS1 hb3)))
        by_cases heq : z.bs = z'.bs
        · have hd : decide (z.bs = z'.bs) = true := by simpa using heq
          have HE2 : Hid (∀ j, j < k + 1 → (bsOf L)[j]? = (bsOf L')[j]?) := Lib.hid (fun j hj => by
            rcases (show j < k ∨ j = k by omega) with h | rfl
            · exact HE.out j h
            · rw [bsOf_get HZ1.out, bsOf_get HZ2.out, heq])
          rw [hd]
          clear heq hd
          go_wp2
          exact ⟨⟨k + 1, by omega, by go_num, HE2, hb.trans (hS2.mono hb.size)⟩, by simp [intOf]; omega⟩
        · have hd : decide (z.bs = z'.bs) = false := by simpa using heq
          have HD : Hid (decide (bsOf L = bsOf L') = false) := Lib.hid (by
            rw [decide_eq_false_iff_not]
            intro h
            apply heq
            have h1 := bsOf_get HZ1.out
            rw [h, bsOf_get HZ2.out] at h1
            injection h1 with h1
            exact h1.symm)
          rw [hd]
          clear heq hd
          go_wp2
          go_ret
          rw [HD.out]
          exact ⟨rfl, hb.trans (hS2.mono hb.size)⟩
      · obtain rfl : k = n := by omega
        go_wp2
        go_ret
        refine ⟨?_, hb⟩
        show Ending.returned (.bool true) = _
        congr 2
        symm
        rw [decide_eq_true_iff]
        refine List.ext_getElem? fun j => ?_
        by_cases hj : j < k
        · exact HE.out j hj
        · rw [List.getElem?_eq_none (by rw [bsOf_length, HL1.out]; omega), List.getElem?_eq_none (by rw [bsOf_length, HL2.out]; omega)]
  · have hd : ((n : Int) != (n' : Int)) = true := by simp; omega
    have hd2 : decide (bsOf L = bsOf L') = false := by
      rw [decide_eq_false_iff_not]
      intro h
      have := congrArg List.length h
      rw [bsOf_length, bsOf_length, HL1.out, HL2.out] at this
      exact hne this
    have HD := Lib.hid hd2
    clear hd2
    go_enter Tryz.func52, Tryz.ntmps52
    go_wp2
    go_ret
    rw [HD.out]
    exact ⟨rfl, Below.refl _ _⟩

end Go.Proofs.YtgjbbobphfejoaaGreatDoor

/- append of bytes onto a row of the call's own: what was read before is read after. -/
namespace Go.Proofs.YtgjbbobphfejoaaGreatDoor
open Go.RowKit

theorem own_keeps {w : World} {base k m c cv : Nat} {A A' : Option Addr} {bs xs : List UInt8} (h : w.ownsRow base 5 1 (.slice A k cv) k (bs.map fun b => Value.int .u8 ((b.toNat : Nat) : Int))) (hx : xs.length = m) (hR : Rd w w.heap.size A' m (vByte xs)) (hk0 : 0 < k) (hm0 : 0 < m) (hk : k + m ≤ 35184372088832) (hbase : base ≤ w.heap.size) :
    ∃ A3 n3 c3 w3, Hid ((Builtin.append_ #[55, 55] 55 #[.slice A k cv, .slice A' m c]).run Tryz.prog w = .ok (.slice A3 n3 c3) w3) ∧ Hid (n3 = k + m) ∧
      w3.ownsRow base 5 1 (.slice A3 n3 c3) n3 ((bs ++ xs).map fun b => Value.int .u8 ((b.toNat : Nat) : Int)) ∧ w.grownBy w3 (Value.slice A k cv).ownBlock ∧ Rd w3 w3.heap.size A k (vByte bs) := by
  obtain ⟨i0, hi, hz0, hz1, hz2⟩ := info_parts info_u8
  obtain ⟨v', w3, hap, hown, hb, _⟩ := run_append_rd (P := Tryz.prog) w base 55 55 5 i0 _ 1 Tryz.underlying55 hi hz0 hz1 hz2 rfl _ k _ h w.heap.size A' m c (vByte xs) hR hR.none_ (fun _ _ => rfl) (by unfold maxLen; omega) (by omega) hbase
  obtain ⟨A3, c3, rfl⟩ := own_slice hown
  have e : (List.range m).map (vByte xs) = xs.map fun b => Value.int .u8 ((b.toNat : Nat) : Int) := by
    subst hx
    refine List.ext_getElem (by simp) fun i h1 h2 => ?_
    have hi : i < xs.length := by simpa using h2
    simp [vByte, hi]
  rw [e, ← List.map_append] at hown
  obtain ⟨n3, hn3⟩ : ∃ n3, n3 = k + m := ⟨_, rfl⟩
  rw [← hn3] at hown hap
  replace hn3 := Lib.hid hn3
  have hrun := Lib.hid hap
  refine ⟨A3, n3, c3, w3, hrun, hn3, hown, hb, ?_⟩
  have hrd := (rd_bytes h).2.2
  obtain ⟨ab, ao, rfl, hab, hac⟩ := hR hm0
  have hl : (xs.map fun b => Value.int .u8 ((b.toNat : Nat) : Int)).length = m * i0.size := by rw [hz1]; simp [hx]
  have hnews : ∀ (j : Nat) u, (xs.map fun b => Value.int .u8 ((b.toNat : Nat) : Int))[j]? = some u → w.cell? ((⟨ab, ao, none⟩ : Addr).add j) = some u := by
    intro j u hu
    have hj : j < m := by
      rcases Nat.lt_or_ge j m with h | h
      · exact h
      · rw [List.getElem?_eq_none (by simp; omega)] at hu
        cases hu
    have ea : (⟨ab, ao, none⟩ : Addr).add j = ⟨ab, ao + j, none⟩ := by unfold Addr.add; split <;> simp_all
    rw [ea, hac j hj]
    have hj' : j < xs.length := by omega
    rw [List.getElem?_map, List.getElem?_eq_getElem hj'] at hu
    simp only [Option.map_some, Option.some.injEq] at hu
    rw [← hu]
    simp [vByte, hj']
  have h1 : ∀ u ∈ (xs.map fun b => Value.int .u8 ((b.toNat : Nat) : Int)), u.oneCell' = true := by
    intro u hu
    obtain ⟨_, _, rfl⟩ := List.mem_map.1 hu
    rfl
  rcases h.2 with ⟨h2, h0⟩ | ⟨g, cap, cur, h2, hbg, hg, hnc, hcm, hcs, htake⟩
  · omega
  · injection h2 with h2 h3 h4
    subst h2 h4
    by_cases hroom : k + m ≤ cv
    · have hfit : k * i0.size + (xs.map fun b => Value.int .u8 ((b.toNat : Nat) : Int)).length ≤ cur.size := by rw [hl, hcs, hz1]; omega
      have hr := run_append_room (P := Tryz.prog) w 55 55 5 i0 Tryz.underlying55 hi g k cv cur hg ⟨ab, ao, none⟩ m c _ hl hnews h1 hroom hfit
      rw [hrun.out] at hr
      injection hr with hr1 hr2
      injection hr1 with hr3 hr4 hr5
      subst hr3
      have := (rd_bytes hown).2.2
      rw [hn3.out] at this
      exact (this.less (show k ≤ k + m by omega)).congr (fun j hj => by
        have hbl : bs.length = k := by simpa using h.1
        unfold vByte
        rw [List.getElem?_append_left (by omega)])
    · have holds : ∀ j u, (bs.map fun b => Value.int .u8 ((b.toNat : Nat) : Int))[j]? = some u → w.cell? ((⟨g, 0, none⟩ : Addr).add j) = some u := h.cells (g := g) rfl
      have hr := run_append_grow (P := Tryz.prog) w 55 55 5 i0 _ Tryz.underlying55 hi hz0 ⟨g, 0, none⟩ k cv _ (by rw [hz1]; exact h.1) holds ⟨ab, ao, none⟩ m c _ hl hnews (by omega) (by omega) (growslice_fits (by omega) (by rw [hz2]; omega))
      rw [hrun.out] at hr
      injection hr with hr1 hr2
      subst hr2
      exact (hrd.keep (fun b hb => Below.heap_alloc w.drew _ b hb)).more (by simp)
end Go.Proofs.YtgjbbobphfejoaaGreatDoor
