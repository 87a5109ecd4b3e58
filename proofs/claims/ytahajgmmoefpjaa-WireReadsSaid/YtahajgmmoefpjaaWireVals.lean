/- The walks of worldmintref02.Same and Vals. -/
import Derived.Test.YtahajgmmoefpjaaWireVal2
import Derived.Deep.RegionLaw
import Derived.Deep.RegionHeld3
import Derived.Deep.AppendLies
namespace Go.Proofs.Ytahajgmmoefpjaa
open Go.RowKit

set_option maxRecDepth 100000 in
set_option maxHeartbeats 1000000 in
theorem same_any (v : V) (s t s' t' : Sl) (w : World) (h1 : BIn w w.heap.size s v.b) (h2 : NIn w w.heap.size t v.l) (h3 : BIn w w.heap.size s' v.b) (h4 : NIn w w.heap.size t' v.l) :
    Calls Try.prog 22 #[.agg (vCells v s t), .agg (vCells v s' t')] w fun e w' => e = .returned (.bool true) ∧ Below w.heap.size w w' := by
  unfold vCells
  obtain ⟨s1, s2, s3⟩ := s
  obtain ⟨t1, t2, t3⟩ := t
  obtain ⟨s1', s2', s3'⟩ := s'
  obtain ⟨t1', t2', t3'⟩ := t'
  obtain ⟨kind, u, n, b, l⟩ := v
  simp only at *
  have hal : Below w.heap.size w ((w.alloc (.cells #[.int .i64 kind, .int .u64 (u : Int), .int .i64 n, .slice s1 s2 s3, .slice t1 t2 t3] 47)).alloc (.cells #[.int .i64 kind, .int .u64 (u : Int), .int .i64 n, .slice s1' s2' s3', .slice t1' t2' t3'] 47)) := ((Below.refl _ w).alloc (Nat.le_refl _) _).alloc (by simp) _
  have b1 := h1.rd.all hal
  have b2 := h2.rd.all hal
  have b3 := h3.rd.all hal
  have b4 := h4.rd.all hal
  have m1 := Nat.le_trans h1.cap h1.max
  have m2 := Nat.le_trans h2.cap h2.max
  have m3 := Nat.le_trans h3.cap h3.max
  have m4 := Nat.le_trans h4.cap h4.max
  have L1 := Lib.hid h1.len
  have L2 := Lib.hid h2.len
  have L3 := Lib.hid h3.len
  have L4 := Lib.hid h4.len
  simp only at b1 b2 b3 b4 m1 m2 m3 m4 L1 L2 L3 L4
  clear h1 h2 h3 h4
  have hB1 : Blk ((w.alloc (.cells #[.int .i64 kind, .int .u64 (u : Int), .int .i64 n, .slice s1 s2 s3, .slice t1 t2 t3] 47)).alloc (.cells #[.int .i64 kind, .int .u64 (u : Int), .int .i64 n, .slice s1' s2' s3', .slice t1' t2' t3'] 47)) w.heap.size 47 #[.int .i64 kind, .int .u64 (u : Int), .int .i64 n, .slice s1 s2 s3, .slice t1 t2 t3] := Blk.alloc (Blk.new w _ _) _
  have hB2 := Blk.new (w.alloc (.cells #[.int .i64 kind, .int .u64 (u : Int), .int .i64 n, .slice s1 s2 s3, .slice t1 t2 t3] 47)) 47 #[.int .i64 kind, .int .u64 (u : Int), .int .i64 n, .slice s1' s2' s3', .slice t1' t2' t3']
  rw [World.size_alloc] at hB2
  have HB1 := Lib.hid hB1
  have HB2 := Lib.hid hB2
  clear hB1 hB2
  have q1 : (kind == kind) = true := by simp
  have q2 : ((u : Int) == (u : Int)) = true := by simp
  have q3 : (n == n) = true := by simp
  go_enter Try.func22, Try.ntmps22
  go_wp2_with fail
  refine (sameBytes_true _ _ _ _ _ _ b b _ rfl L1 L3 b1 b3 m1 m3).mono ?_
  rintro e w1 ⟨rfl, hb1⟩
  replace b2 := b2.all hb1
  replace b4 := b4.all hb1
  replace hal := bt hal hb1
  have hC1 := HB1.out.all hb1
  have hC2 := HB2.out.all hb1
  have HC1 := Lib.hid hC1
  have HC2 := Lib.hid hC2
  obtain ⟨c10, c11, c12, c13, c14, _⟩ := blk5 hC1
  obtain ⟨c20, c21, c22, c23, c24, _⟩ := blk5 hC2
  clear hb1 hC1 hC2
  go_wp2_with fail
  refine (sameInts_true _ _ _ _ _ _ l l _ rfl L2 L4 b2 b4 m2 m4).mono ?_
  rintro e w2 ⟨rfl, hb2⟩
  replace hal := bt hal hb2
  have hD1 := HC1.out.all hb2
  have hD2 := HC2.out.all hb2
  obtain ⟨d10, d11, d12, d13, d14, _⟩ := blk5 hD1
  obtain ⟨d20, d21, d22, d23, d24, _⟩ := blk5 hD2
  clear hb2 hD1 hD2 c10 c11 c12 c13 c14 c20 c21 c22 c23 c24
  go_wp2
  go_ret
  exact ⟨rfl, hal⟩

/-- append of one element of several cells: the walk lays it into a block of its own first. -/
theorem run_append_elem {P : Program} (w : World) (base : Nat) (t ty e : TypeId) (i : TypeInfo) (z : Value) (size bytes : Nat) (ht : P.underlying t = some (.slice e)) (hi : P.info? e = some i) (hz : i.zero = some z)
    (hsize : i.size = size) (hby : i.bytes = bytes) (hzs : z.cells.size = size) (hsz : 0 < size)
    (v : Value) (n : Nat) (xs : List Value) (hown : w.ownsRow base e size v n xs) (cs : Array Value) (hcs : cs.size = size) (h1 : ∀ u ∈ cs.toList, u.oneCell' = true)
    (h63 : n + 1 ≤ maxLen) (hbytes : (n + 1) * bytes ≤ 140737488355328) (hbase : base ≤ w.heap.size) :
    ∃ g cap w', (Builtin.append_ #[t, t] ty #[v, .slice (some ⟨w.heap.size, 0, none⟩) 1 1]).run P (w.alloc (.cells cs e)) = .ok (.slice (some ⟨g, 0, none⟩) (n + 1) cap) w' ∧ w'.ownsRow base e size (.slice (some ⟨g, 0, none⟩) (n + 1) cap) (n + 1) (xs ++ cs.toList) ∧
      w.grownBy w' v.ownBlock ∧ (some g = v.ownBlock ∨ g = w.heap.size + 1) ∧ w.heap.size < w'.heap.size := by
  obtain ⟨v', w', hrun, h2, h3, _, h5⟩ := run_append_own_at (P := P) (w.alloc (.cells cs e)) base t ty e i z size bytes ht hi hz hsize hby hzs hsz v n xs (hown.alloc _) ⟨w.heap.size, 0, none⟩ 1 1 cs.toList (by simp [hcs]) (World.news_of_block (World.alloc_heap_new w _)) h1 h63 hbytes (by simp; omega)
  obtain ⟨g, cap, rfl⟩ := ownsRow_succ h2
  refine ⟨g, cap, w', hrun, h2, (World.grownBy_alloc w _ _).trans h3, ?_, ?_⟩
  · rcases h5 with h5 | h5
    · exact .inl (by simpa [Value.ownBlock] using h5)
    · exact .inr (by simpa [Value.ownBlock] using h5)
  · have := h3.size
    simp at this
    omega

/-- The slice v owns its row of values, whose parts lie outside of it, all from base on. -/
def VOwn (w : World) (base : Nat) (v : Value) (k : Nat) (vs : List V) : Prop :=
  vs.length = k ∧ ∃ S T : Nat → Sl, w.ownsRow base 47 5 v k ((List.range k).flatMap fun j => (vCells (vs[j]?.getD V0) (S j) (T j)).toList) ∧
    ∀ j, j < k → BIn w w.heap.size (S j) (vs[j]?.getD V0).b ∧ NIn w w.heap.size (T j) (vs[j]?.getD V0).l ∧ Far base (S j) ∧ Far base (T j) ∧
      (∀ b off, 0 < (S j).2.1 → (S j).1 = some ⟨b, off, none⟩ → some b ≠ v.ownBlock) ∧ (∀ b off, 0 < (T j).2.1 → (T j).1 = some ⟨b, off, none⟩ → some b ≠ v.ownBlock)
theorem VOwn.nil (w : World) (base : Nat) : VOwn w base (.slice none 0 0) 0 [] := ⟨rfl, fun _ => (none, 0, 0), fun _ => (none, 0, 0), World.ownsRow_nil _ _ _ _, fun j hj => absurd hj (by omega)⟩
theorem BIn.grown {w w' : World} {s : Sl} {bs : List UInt8} {row : Option Nat} (h : BIn w w.heap.size s bs) (hg : w.grownBy w' row) (hne : ∀ b off, 0 < s.2.1 → s.1 = some ⟨b, off, none⟩ → some b ≠ row) : BIn w' w'.heap.size s bs := by
  refine ⟨h.len, h.cap, h.max, fun hn => ?_⟩
  obtain ⟨b, off, e, hb, hc⟩ := h.rd hn
  exact ⟨b, off, e, Nat.lt_of_lt_of_le hb hg.size, fun j hj => (World.cell?_of_block (w := w) (hg.block b hb (hne b off hn e))).trans (hc j hj)⟩
theorem NIn.grown {w w' : World} {s : Sl} {bs : List Int} {row : Option Nat} (h : NIn w w.heap.size s bs) (hg : w.grownBy w' row) (hne : ∀ b off, 0 < s.2.1 → s.1 = some ⟨b, off, none⟩ → some b ≠ row) : NIn w' w'.heap.size s bs := by
  refine ⟨h.len, h.cap, h.max, fun hn => ?_⟩
  obtain ⟨b, off, e, hb, hc⟩ := h.rd hn
  exact ⟨b, off, e, Nat.lt_of_lt_of_le hb hg.size, fun j hj => (World.cell?_of_block (w := w) (hg.block b hb (hne b off hn e))).trans (hc j hj)⟩
theorem BIn.all {w w' : World} {s : Sl} {bs : List UInt8} (h : BIn w w.heap.size s bs) (hb : Below w.heap.size w w') : BIn w' w'.heap.size s bs := h.grown (only_of_below hb none) (fun _ _ _ _ e => by cases e)
theorem NIn.all {w w' : World} {s : Sl} {bs : List Int} (h : NIn w w.heap.size s bs) (hb : Below w.heap.size w w') : NIn w' w'.heap.size s bs := h.grown (only_of_below hb none) (fun _ _ _ _ e => by cases e)
theorem BIn.lt {w : World} {s : Sl} {bs : List UInt8} (h : BIn w w.heap.size s bs) : ∀ b off, 0 < s.2.1 → s.1 = some ⟨b, off, none⟩ → b < w.heap.size := by
  intro b off hn e
  obtain ⟨b', off', e', hb, _⟩ := h.rd hn
  rw [e] at e'; cases e'; exact hb
theorem NIn.lt {w : World} {s : Sl} {bs : List Int} (h : NIn w w.heap.size s bs) : ∀ b off, 0 < s.2.1 → s.1 = some ⟨b, off, none⟩ → b < w.heap.size := by
  intro b off hn e
  obtain ⟨b', off', e', hb, _⟩ := h.rd hn
  rw [e] at e'; cases e'; exact hb
/-- Memory turns in a block that none of it lies in. -/
theorem VOwn.grown {w w' : World} {base k : Nat} {v : Value} {vs : List V} {row : Option Nat} (h : VOwn w base v k vs) (hg : w.grownBy w' row) (hr : ∀ r, row = some r → r < base) : VOwn w' base v k vs := by
  obtain ⟨hl, S, T, h1, h2⟩ := h
  refine ⟨hl, S, T, own_grown h1 hg hr, fun j hj => ?_⟩
  obtain ⟨a1, a2, a3, a4, a5, a6⟩ := h2 j hj
  exact ⟨a1.grown hg (fun b off hn e hh => by have := a3 b off hn e; have := hr b hh.symm; omega), a2.grown hg (fun b off hn e hh => by have := a4 b off hn e; have := hr b hh.symm; omega), a3, a4, a5, a6⟩
theorem VOwn.all {w w' : World} {base k : Nat} {v : Value} {vs : List V} (h : VOwn w base v k vs) (hb : Below w.heap.size w w') : VOwn w' base v k vs := h.grown (only_of_below hb none) (fun _ e => by cases e)
theorem flat5 (F : Nat → Array Value) (hF : ∀ j, (F j).size = 5) : ∀ (k j i : Nat), j < k → i < 5 → ((List.range k).flatMap fun j => (F j).toList)[j * 5 + i]? = (F j)[i]?
  | 0, j, i, hj, _ => absurd hj (by omega)
  | k + 1, j, i, hj, hi => by
    have hlen : ∀ m, ((List.range m).flatMap fun j => (F j).toList).length = m * 5 := by
      intro m
      induction m with
      | zero => rfl
      | succ m ih => rw [List.range_succ, List.flatMap_append, List.length_append, ih]; simp [hF]; omega
    rw [List.range_succ, List.flatMap_append]
    by_cases h : j < k
    · rw [List.getElem?_append_left (by rw [hlen]; omega), flat5 F hF k j i h hi]
    · obtain rfl : j = k := by omega
      rw [List.getElem?_append_right (by rw [hlen]; omega), hlen]
      simp
theorem VOwn.row {w : World} {base k m c : Nat} {A : Option Addr} {vs : List V} (h : VOwn w base (.slice A m c) k vs) : m = k ∧ k ≤ c ∧ c ≤ 9223372036854775807 ∧ VRow w w.heap.size A k vs := by
  obtain ⟨hl, S, T, h1, h2⟩ := h
  have hcap := own_cap h1
  have hmk : m = k ∧ k ≤ c := by
    rcases h1.2 with ⟨e, rfl⟩ | ⟨g, cap, cur, e, _, _, hnc, _⟩
    · injection e with _ e2 e3; omega
    · injection e with _ e2 e3; omega
  refine ⟨hmk.1, hmk.2, hcap, hl, S, T, fun hn => ?_, fun j hj => ⟨(h2 j hj).1, (h2 j hj).2.1⟩⟩
  obtain ⟨hm, _⟩ := hmk
  subst hm
  obtain ⟨g, rfl, _, hg⟩ := own_some h1 hn
  refine ⟨g, 0, rfl, hg, fun j hj i hi => ?_⟩
  rw [Nat.zero_add, h1.cellAt (j * 5 + i) (by omega)]
  exact flat5 (fun j => vCells (vs[j]?.getD V0) (S j) (T j)) (fun _ => rfl) m j i hj hi
theorem VOwn.slice {w : World} {base k : Nat} {v : Value} {vs : List V} (h : VOwn w base v k vs) : ∃ A c, v = .slice A k c := by
  obtain ⟨_, S, T, h1, _⟩ := h
  rcases h1.2 with ⟨rfl, rfl⟩ | ⟨g, cap, _, rfl, _⟩
  · exact ⟨_, _, rfl⟩
  · exact ⟨_, _, rfl⟩
theorem info_val : (Try.prog.info? 47).map (fun i => (i.zero, i.size, i.bytes)) = some (some (.agg #[.int .i64 0, .int .u64 0, .int .i64 0, .slice none 0 0, .slice none 0 0]), 5, 72) := by kernel_rfl
/-- One value more. -/
theorem VOwn.snoc {w : World} {base k : Nat} {v : Value} {vs : List V} (h : VOwn w base v k vs) (x : V) (s t : Sl) (hs : BIn w w.heap.size s x.b) (ht : NIn w w.heap.size t x.l) (fs : Far base s) (ft : Far base t)
    (hsa : ∀ b off, 0 < s.2.1 → s.1 = some ⟨b, off, none⟩ → some b ≠ v.ownBlock) (hta : ∀ b off, 0 < t.2.1 → t.1 = some ⟨b, off, none⟩ → some b ≠ v.ownBlock) (hk : k ≤ 1000000) (hbase : base ≤ w.heap.size) :
    ∃ g cap w', Hid ((Builtin.append_ #[35, 35] 35 #[v, .slice (some ⟨w.heap.size, 0, none⟩) 1 1]).run Try.prog (w.alloc (.cells (vCells x s t) 47)) = .ok (.slice (some ⟨g, 0, none⟩) (k + 1) cap) w') ∧
      VOwn w' base (.slice (some ⟨g, 0, none⟩) (k + 1) cap) (k + 1) (vs ++ [x]) ∧ w.grownBy w' v.ownBlock ∧ Below base w w' := by
  obtain ⟨hl, S, T, h1, h2⟩ := h
  obtain ⟨i0, hi, hz0, hz1, hz2⟩ := info_parts info_val
  obtain ⟨g, cap, w', hrun, hown, hg, hgg, hsz⟩ := run_append_elem (P := Try.prog) w base 35 35 47 i0 _ 5 72 Try.underlying35 hi hz0 hz1 hz2 rfl (by decide) v k _ h1 (vCells x s t) rfl (by simp [vCells, Value.oneCell']) (by unfold maxLen; omega) (by omega) hbase
  refine ⟨g, cap, w', Lib.hid hrun, ⟨by simp [hl], fun j => if j < k then S j else s, fun j => if j < k then T j else t, ?_, ?_⟩, hg, (Below.refl base w).grown hg hbase (fun r e => (h1.lt r e).1)⟩
  · rw [List.range_succ, List.flatMap_append]
    have e1 : ((List.range k).flatMap fun j => (vCells ((vs ++ [x])[j]?.getD V0) (if j < k then S j else s) (if j < k then T j else t)).toList) = (List.range k).flatMap fun j => (vCells (vs[j]?.getD V0) (S j) (T j)).toList := by
      rw [List.flatMap_def, List.flatMap_def]
      congr 1
      refine List.map_congr_left fun j hj => ?_
      have hj' := List.mem_range.1 hj
      rw [if_pos hj', if_pos hj', List.getElem?_append_left (by omega)]
    rw [e1]
    have e2 : (vs ++ [x])[k]?.getD V0 = x := by rw [List.getElem?_append_right (by omega), hl]; simp
    simp only [List.flatMap_cons, List.flatMap_nil, List.append_nil, Nat.lt_irrefl, if_false, e2]
    exact hown
  · have hne : ∀ b : Nat, some b ≠ v.ownBlock → b < w.heap.size → some b ≠ (Value.slice (some ⟨g, 0, none⟩) (k + 1) cap).ownBlock := by
      intro b hb hlt e
      have e' : b = g := by simpa [Value.ownBlock] using e
      subst e'
      rcases hgg with hgg | hgg
      · exact hb hgg
      · omega
    intro j hj
    simp only
    rcases (show j < k ∨ j = k by omega) with h | rfl
    · rw [if_pos h, if_pos h, List.getElem?_append_left (by omega)]
      obtain ⟨a1, a2, a3, a4, a5, a6⟩ := h2 j h
      exact ⟨a1.grown hg a5, a2.grown hg a6, a3, a4, fun b off hn e => hne b (a5 b off hn e) (a1.lt b off hn e), fun b off hn e => hne b (a6 b off hn e) (a2.lt b off hn e)⟩
    · rw [if_neg (by omega), if_neg (by omega)]
      have e2 : (vs ++ [x])[j]?.getD V0 = x := by rw [List.getElem?_append_right (by omega), hl]; simp
      rw [e2]
      exact ⟨hs.grown hg hsa, ht.grown hg hta, fs, ft, fun b off hn e => hne b (hsa b off hn e) (hs.lt b off hn e), fun b off hn e => hne b (hta b off hn e) (ht.lt b off hn e)⟩
end Go.Proofs.Ytahajgmmoefpjaa
