/- Part 3 of the texts that JournalFull needs: WireVal2 WireVals WireVals2 WireLaws WireAppend WireCut WireRefW HashWords HashSum HashBytes HashRef JrnFrame. -/
import Derived.Deep.RegionLaw
import Derived.Deep.RegionHeld3
import Derived.Deep.AppendLies
import Derived.RangeFuncNested
import Derived.RangeFuncBound
import Derived.RangeFuncCalls
import Derived.RangeFuncLeaves
import Derived.RangeFuncBox
import Derived.Shelf.Abstract
import Derived.Shelf.RegionOpen
import Derived.WalkKit
import Derived.OwnWalkIn
import Derived.TacticsInMore
import Derived.LoopNIn
import Derived.LoopIn
import Derived.Lib.Hide
import Derived.Test.YtldmokjpfnakkaaProg
import Derived.Maps.AppendAt
import Derived.Test.YtldmokjpfnakkaaGJournalFull2

/- The walk of worldmintlaw02.read. -/
namespace Go.Proofs.Ytldmokjpfnakkaa
open Go.RowKit

/-- Reading a value of a kind: the error, the value, the rest. -/
def readV (kind : Int) (rest : List UInt8) (err : Int) : Int × V × List UInt8 :=
  if kind = 0 then ((readU rest err).1, ⟨kind, (readU rest err).2.1, 0, [], []⟩, (readU rest err).2.2)
  else if kind = 1 then ((readU rest err).1, ⟨kind, 0, unzigI (readU rest err).2.1, [], []⟩, (readU rest err).2.2)
  else if kind = 2 then ((readB rest err).1, ⟨kind, 0, if (readB rest err).2.1 then 1 else 0, [], []⟩, (readB rest err).2.2)
  else if kind = 3 ∨ kind = 4 then ((readRaw rest err).1, ⟨kind, 0, 0, (readRaw rest err).2.1, []⟩, (readRaw rest err).2.2)
  else ((readInts rest err).1, ⟨kind, 0, 0, [], (readInts rest err).2.1⟩, (readInts rest err).2.2)
/-- The slice lies in blocks from lo on. -/
def Far (lo : Nat) (s : Sl) : Prop := ∀ b off, 0 < s.2.1 → s.1 = some ⟨b, off, none⟩ → lo ≤ b
theorem Far.nil (lo : Nat) : Far lo (none, 0, 0) := fun _ _ h => absurd h (by simp)
theorem Far.own {w : World} {base e size n c : Nat} {A : Option Addr} {xs : List Value} (h : w.ownsRow base e size (.slice A n c) n xs) : Far base (A, n, c) := by
  intro b off hn he
  obtain ⟨g, e1, e2, _⟩ := own_some h hn
  simp only at he
  rw [e1] at he
  cases he
  exact e2

/-- Only the blocks b1 and b2 have turned, and nothing is new. -/
structure Keep2 (b1 b2 : Nat) (w w' : World) : Prop where
  os : w'.os = w.os
  tape : w'.tape = w.tape
  output : w'.output = w.output
  size : w'.heap.size = w.heap.size
  block : ∀ b, b ≠ b1 → b ≠ b2 → w'.heap[b]? = w.heap[b]?
theorem Keep2.refl (b1 b2 : Nat) (w : World) : Keep2 b1 b2 w w := ⟨rfl, rfl, rfl, rfl, fun _ _ _ => rfl⟩
theorem Keep2.set {b1 b2 : Nat} {w w' : World} {p : Addr} {v : Value} (h : Keep2 b1 b2 w w') (hp : p.block = b1 ∨ p.block = b2) : Keep2 b1 b2 w (w'.setCell p v) :=
  ⟨h.os, h.tape, h.output, by simpa [World.setCell] using h.size, fun b h1 h2 => (Below.heap_setCell w' p v b (by rcases hp with hp | hp <;> omega)).trans (h.block b h1 h2)⟩
theorem Keep2.grown {b1 b2 gd : Nat} {w w1 w' : World} (h : Keep2 b1 b2 w1 w') (hg : w.grownBy w1 (some gd)) (h1 : w.heap.size ≤ b1) (h2 : w.heap.size ≤ b2) : w.grownBy w' (some gd) :=
  ⟨h.os.trans hg.os, h.tape.trans hg.tape, h.output.trans hg.output, by rw [h.size]; exact hg.size, fun i hi hne => (h.block i (by omega) (by omega)).trans (hg.block i hi hne)⟩
theorem Keep2.rdr {b1 b2 B gd : Nat} {rest : List UInt8} {err : Int} {w1 w' : World} (h : Keep2 b1 b2 w1 w') (hR : Rdr w1 B gd rest err) (h1 : B ≤ b1) (h2 : B ≤ b2) : Rdr w' B gd rest err := by
  obtain ⟨k1, k2, A, n, c, p1, p2, p3, p4⟩ := hR
  exact ⟨k1, by rw [h.size]; exact k2, A, n, c, (h.block gd (by omega) (by omega)).trans p1, p2, p3, fun e => ⟨(p4 e).1, (p4 e).2.1, (p4 e).2.2.keep fun b hb => h.block b (by omega) (by omega)⟩⟩
theorem Keep2.bin {b1 b2 lo : Nat} {s : Sl} {bs : List UInt8} {w1 w' : World} (h : Keep2 b1 b2 w1 w') (hB : BIn w1 w1.heap.size s bs) (hF : Far lo s) (h1 : b1 < lo) (h2 : b2 < lo) : BIn w' w'.heap.size s bs := by
  refine ⟨hB.len, hB.cap, hB.max, fun hn => ?_⟩
  obtain ⟨b, off, e, hb, hc⟩ := hB.rd hn
  have := hF b off hn e
  exact ⟨b, off, e, by rw [h.size]; exact hb, fun j hj => (World.cell?_of_block (w := w1) (h.block b (by omega) (by omega))).trans (hc j hj)⟩
theorem Keep2.nin {b1 b2 lo : Nat} {s : Sl} {bs : List Int} {w1 w' : World} (h : Keep2 b1 b2 w1 w') (hB : NIn w1 w1.heap.size s bs) (hF : Far lo s) (h1 : b1 < lo) (h2 : b2 < lo) : NIn w' w'.heap.size s bs := by
  refine ⟨hB.len, hB.cap, hB.max, fun hn => ?_⟩
  obtain ⟨b, off, e, hb, hc⟩ := hB.rd hn
  have := hF b off hn e
  exact ⟨b, off, e, by rw [h.size]; exact hb, fun j hj => (World.cell?_of_block (w := w1) (h.block b (by omega) (by omega))).trans (hc j hj)⟩
theorem Far.more {lo lo' : Nat} {s : Sl} (h : Far lo s) (hl : lo' ≤ lo) : Far lo' s := fun b off hn e => Nat.le_trans hl (h b off hn e)

theorem blk5 {w : World} {g : Nat} {T : TypeId} {a b c d e : Value} (h : Blk w g T #[a, b, c, d, e]) :
    w.cell? ⟨g, 0, none⟩ = some a ∧ w.cell? ⟨g, 1, none⟩ = some b ∧ w.cell? ⟨g, 2, none⟩ = some c ∧ w.cell? ⟨g, 3, none⟩ = some d ∧ w.cell? ⟨g, 4, none⟩ = some e ∧
    w.frozen? ⟨g, 0, none⟩ = false ∧ w.frozen? ⟨g, 1, none⟩ = false ∧ w.frozen? ⟨g, 2, none⟩ = false ∧ w.frozen? ⟨g, 3, none⟩ = false ∧ w.frozen? ⟨g, 4, none⟩ = false :=
  ⟨by simpa using h.cell 0, by simpa using h.cell 1, by simpa using h.cell 2, by simpa using h.cell 3, by simpa using h.cell 4, h.frozen 0, h.frozen 1, h.frozen 2, h.frozen 3, h.frozen 4⟩
end Go.Proofs.Ytldmokjpfnakkaa

/- The walks of worldmintref02.Same and Vals. -/
namespace Go.Proofs.Ytldmokjpfnakkaa
open Go.RowKit

/-- append of one element of several cells: the walk lays it into a block of its own first. -/
theorem run_append_elem {P : Program} (w : World) (base : Nat) (t ty e : TypeId) (i : TypeInfo) (z : Value) (size bytes : Nat) (ht : P.underlying t = some (.slice e)) (hi : P.info? e = some i) (hz : i.zero = some z)
    (hsize : i.size = size) (hby : i.bytes = bytes) (hzs : z.cells.size = size) (hsz : 0 < size)
    (v : Value) (n : Nat) (xs : List Value) (hown : w.ownsRow base e size v n xs) (cs : Array Value) (hcs : cs.size = size) (h1 : ∀ u ∈ cs.toList, u.oneCell' = true)
    (h63 : n + 1 ≤ maxLen) (hbytes : (n + 1) * bytes ≤ 140737488355328) (hbase : base ≤ w.heap.size) :
    ∃ g cap w', (Builtin.append_ #[t, t] ty #[v, .slice (some ⟨w.heap.size, 0, none⟩) 1 1]).run P (w.alloc (.cells cs e)) = .ok (.slice (some ⟨g, 0, none⟩) (n + 1) cap) w' ∧ w'.ownsRow base e size (.slice (some ⟨g, 0, none⟩) (n + 1) cap) (n + 1) (xs ++ cs.toList) ∧
      w.grownBy w' v.ownBlock ∧ (some g = v.ownBlock ∨ g = w.heap.size + 1) ∧ w.heap.size < w'.heap.size := by
  obtain ⟨v', w', hrun, h2, h3, _, h5⟩ := run_append_own_at (P := P) (w.alloc (.cells cs e)) base t ty e i z size bytes ht hi hz hsize hby hzs hsz v n xs (hown.alloc _) ⟨w.heap.size, 0, none⟩ 1 1 cs.toList (by simp [hcs]) (World.news_of_block (World.alloc_heap_new w _)) h1 h63 hbytes (by simp; omega)
  obtain ⟨g, cap, rfl⟩ := ownsRow_succ h2
  refine ⟨g, cap, w', hrun, h2, (World.grownBy_alloc w _ _).trans h3, ?_, ?_⟩
  · rcases h5 with h5 | h5
    · exact .inl (by simpa [Value.ownBlock] using h5)
    · exact .inr (by simpa [Value.ownBlock] using h5)
  · have := h3.size
    simp at this
    omega

theorem BIn.grown {w w' : World} {s : Sl} {bs : List UInt8} {row : Option Nat} (h : BIn w w.heap.size s bs) (hg : w.grownBy w' row) (hne : ∀ b off, 0 < s.2.1 → s.1 = some ⟨b, off, none⟩ → some b ≠ row) : BIn w' w'.heap.size s bs := by
  refine ⟨h.len, h.cap, h.max, fun hn => ?_⟩
  obtain ⟨b, off, e, hb, hc⟩ := h.rd hn
  exact ⟨b, off, e, Nat.lt_of_lt_of_le hb hg.size, fun j hj => (World.cell?_of_block (w := w) (hg.block b hb (hne b off hn e))).trans (hc j hj)⟩
theorem NIn.grown {w w' : World} {s : Sl} {bs : List Int} {row : Option Nat} (h : NIn w w.heap.size s bs) (hg : w.grownBy w' row) (hne : ∀ b off, 0 < s.2.1 → s.1 = some ⟨b, off, none⟩ → some b ≠ row) : NIn w' w'.heap.size s bs := by
  refine ⟨h.len, h.cap, h.max, fun hn => ?_⟩
  obtain ⟨b, off, e, hb, hc⟩ := h.rd hn
  exact ⟨b, off, e, Nat.lt_of_lt_of_le hb hg.size, fun j hj => (World.cell?_of_block (w := w) (hg.block b hb (hne b off hn e))).trans (hc j hj)⟩
theorem BIn.all {w w' : World} {s : Sl} {bs : List UInt8} (h : BIn w w.heap.size s bs) (hb : Below w.heap.size w w') : BIn w' w'.heap.size s bs := h.grown (only_of_below hb none) (fun _ _ _ _ e => by cases e)
theorem NIn.all {w w' : World} {s : Sl} {bs : List Int} (h : NIn w w.heap.size s bs) (hb : Below w.heap.size w w') : NIn w' w'.heap.size s bs := h.grown (only_of_below hb none) (fun _ _ _ _ e => by cases e)
theorem BIn.lt {w : World} {s : Sl} {bs : List UInt8} (h : BIn w w.heap.size s bs) : ∀ b off, 0 < s.2.1 → s.1 = some ⟨b, off, none⟩ → b < w.heap.size := by
  intro b off hn e
  obtain ⟨b', off', e', hb, _⟩ := h.rd hn
  rw [e] at e'; cases e'; exact hb
theorem NIn.lt {w : World} {s : Sl} {bs : List Int} (h : NIn w w.heap.size s bs) : ∀ b off, 0 < s.2.1 → s.1 = some ⟨b, off, none⟩ → b < w.heap.size := by
  intro b off hn e
  obtain ⟨b', off', e', hb, _⟩ := h.rd hn
  rw [e] at e'; cases e'; exact hb
theorem flat5 (F : Nat → Array Value) (hF : ∀ j, (F j).size = 5) : ∀ (k j i : Nat), j < k → i < 5 → ((List.range k).flatMap fun j => (F j).toList)[j * 5 + i]? = (F j)[i]?
  | 0, j, i, hj, _ => absurd hj (by omega)
  | k + 1, j, i, hj, hi => by
    have hlen : ∀ m, ((List.range m).flatMap fun j => (F j).toList).length = m * 5 := by
      intro m
      induction m with
      | zero => rfl
      | succ m ih => rw [List.range_succ, List.flatMap_append, List.length_append, ih]; simp [hF]; omega
    rw [List.range_succ, List.flatMap_append]
    by_cases h : j < k
    · rw [List.getElem?_append_left (by rw [hlen]; omega), flat5 F hF k j i h hi]
    · obtain rfl : j = k := by omega
      rw [List.getElem?_append_right (by rw [hlen]; omega), hlen]
      simp
end Go.Proofs.Ytldmokjpfnakkaa

/- The walk of worldmintref02.Vals. -/
namespace Go.Proofs.Ytldmokjpfnakkaa
open Go.RowKit

/-- A value as Vals makes them. -/
structure GoodV (v : V) : Prop where
  fit : FitV v
  small : v.b.length ≤ 9 ∧ v.l.length ≤ 4
  norm : v = ⟨0, v.u, 0, [], []⟩ ∨ v = ⟨1, 0, v.n, [], []⟩ ∨ v = ⟨2, 0, 0, [], []⟩ ∨ v = ⟨2, 0, 1, [], []⟩ ∨ v = ⟨3, 0, 0, v.b, []⟩ ∨ v = ⟨4, 0, 0, v.b, []⟩ ∨ v = ⟨5, 0, 0, [], v.l⟩

theorem tdiv6 {x : Int} (h1 : -9223372036854775808 ≤ x) (h2 : x ≤ 9223372036854775807) : -9223372036854775808 ≤ x.tdiv 6 ∧ x.tdiv 6 ≤ 9223372036854775807 := by
  by_cases h : 0 ≤ x
  · rw [Int.tdiv_eq_ediv_of_nonneg h]; omega
  · obtain ⟨y, rfl⟩ : ∃ y, x = -y := ⟨-x, by omega⟩
    rw [Int.neg_tdiv, Int.tdiv_eq_ediv_of_nonneg (by omega)]; omega
theorem byte_of_wf8 (z : Int) : ∃ y : UInt8, IntKind.u8.wrap z = ((y.toNat : Nat) : Int) := by
  have h : 0 ≤ IntKind.u8.wrap z ∧ IntKind.u8.wrap z < 256 := by
    simp [IntKind.wrap, IntKind.bits, IntKind.signed]
    omega
  exact ⟨UInt8.ofNat (IntKind.u8.wrap z).toNat, by rw [UInt8.toNat_ofNat']; omega⟩
theorem good_snoc {vs : List V} {v : V} (h : ∀ y ∈ vs, GoodV y) (hv : GoodV v) : ∀ y ∈ vs ++ [v], GoodV y := by
  intro y hy
  rcases List.mem_append.1 hy with h1 | h1
  · exact h y h1
  · rw [List.mem_singleton] at h1; subst h1; exact hv
theorem inI0 : InI 0 := ⟨by decide, by decide⟩
theorem inI1 : InI 1 := ⟨by decide, by decide⟩
theorem wrap_byte (z : Int) : ∃ y : UInt8, IntKind.u8.wrap z = ((y.toNat : Nat) : Int) := byte_of_wf8 z
theorem good0 {u : Nat} (h : u ≤ 18446744073709551615) : GoodV ⟨0, u, 0, [], []⟩ := ⟨⟨h, inI0, by simp, by simp, by simp⟩, by simp, .inl rfl⟩
theorem good1 {n : Int} (h : InI n) : GoodV ⟨1, 0, n, [], []⟩ := ⟨⟨by simp, h, by simp, by simp, by simp⟩, by simp, .inr (.inl rfl)⟩
theorem good2 {n : Int} (h1 : 0 ≤ n) (h2 : n ≤ 1) : GoodV ⟨2, 0, n, [], []⟩ := by
  rcases (show n = 0 ∨ n = 1 by omega) with rfl | rfl
  · exact ⟨⟨by simp, inI0, by simp, by simp, by simp⟩, by simp, .inr (.inr (.inl rfl))⟩
  · exact ⟨⟨by simp, inI1, by simp, by simp, by simp⟩, by simp, .inr (.inr (.inr (.inl rfl)))⟩
theorem good34 {k : Int} {b : List UInt8} (hk : k = 3 ∨ k = 4) (hb : b.length ≤ 9) : GoodV ⟨k, 0, 0, b, []⟩ := by
  refine ⟨⟨by simp, inI0, by simp only; omega, by simp, by simp⟩, ⟨hb, by simp⟩, ?_⟩
  rcases hk with rfl | rfl
  · exact .inr (.inr (.inr (.inr (.inl rfl))))
  · exact .inr (.inr (.inr (.inr (.inr (.inl rfl)))))
theorem good5 {l : List Int} (hl : l.length ≤ 4) (hr : ∀ j : Nat, -9223372036854775808 ≤ l[j]?.getD 0 ∧ l[j]?.getD 0 ≤ 9223372036854775807) : GoodV ⟨5, 0, 0, [], l⟩ :=
  ⟨⟨by simp, inI0, by simp, by simp only; omega, hr⟩, ⟨by simp, hl⟩, .inr (.inr (.inr (.inr (.inr (.inr rfl)))))⟩
theorem shr_u64 (x : Int) (m : Nat) : ∃ u : Nat, (u : Int) = IntKind.u64.wrap x / 2 ^ m ∧ u ≤ 18446744073709551615 := by
  have h0 : 0 ≤ IntKind.u64.wrap x ∧ IntKind.u64.wrap x ≤ 18446744073709551615 := by rw [wrap_u64]; omega
  obtain ⟨y, hy⟩ := Int.eq_ofNat_of_zero_le h0.1
  rw [hy] at h0 ⊢
  exact ⟨y / 2 ^ m, by rw [Int.natCast_ediv, Int.natCast_pow]; rfl, Nat.le_trans (Nat.div_le_self _ _) (by omega)⟩
theorem shr_i64 {x : Int} (m : Nat) (h : InI x) : InI (x / 2 ^ m) := by
  obtain ⟨h1, h2⟩ := h
  have hp : (0 : Int) < 2 ^ m := Int.pow_pos (by decide)
  constructor
  · rw [Int.le_ediv_iff_mul_le hp]
    have : (-9223372036854775808 : Int) * 2 ^ m ≤ -9223372036854775808 * 1 := Int.mul_le_mul_of_nonpos_left (by decide) (by omega)
    omega
  · have : x / 2 ^ m ≤ 9223372036854775807 / 2 ^ m := Int.ediv_le_ediv hp h2
    have h3 : (9223372036854775807 : Int) / 2 ^ m ≤ 9223372036854775807 := Int.ediv_le_self _ (by decide)
    omega
theorem range_snoc {bs : List Int} {x : Int} (h : ∀ i : Nat, -9223372036854775808 ≤ bs[i]?.getD 0 ∧ bs[i]?.getD 0 ≤ 9223372036854775807) (hx : InI x) : ∀ i : Nat, -9223372036854775808 ≤ (bs ++ [x])[i]?.getD 0 ∧ (bs ++ [x])[i]?.getD 0 ≤ 9223372036854775807 := by
  intro i
  by_cases hi : i < bs.length
  · rw [List.getElem?_append_left hi]; exact h i
  · rw [List.getElem?_append_right (by omega)]
    by_cases h2 : i = bs.length
    · subst h2; simp only [Nat.sub_self, List.getElem?_cons_zero, Option.getD_some]; exact hx
    · rw [List.getElem?_eq_none (by simp; omega)]; simp
end Go.Proofs.Ytldmokjpfnakkaa

/- Plain Lean: values that are written and read. -/
namespace Go.Proofs.Ytldmokjpfnakkaa
open Go.RowKit

theorem inI_mem {l : List Int} (h : ∀ j : Nat, -9223372036854775808 ≤ l[j]?.getD 0 ∧ l[j]?.getD 0 ≤ 9223372036854775807) : ∀ n ∈ l, InI n := by
  intro n hn
  obtain ⟨j, hj, rfl⟩ := List.getElem_of_mem hn
  have := h j
  rw [List.getElem?_eq_getElem hj] at this
  exact this
theorem unzigI_zero : unzigI 0 = 0 := by decide
theorem readV_err {kind : Int} {rest : List UInt8} {err : Int} (he : err ≠ 0) : readV kind rest err = (err, ⟨kind, 0, 0, [], []⟩, []) := by
  have hu : readU rest err = (err, 0, []) := if_neg he
  have hb : readB rest err = (err, false, []) := if_neg he
  have hr : readRaw rest err = (err, [], []) := if_neg he
  have hi : readInts rest err = (err, [], []) := if_neg he
  unfold readV
  rw [hu, hb, hr, hi]
  simp only [unzigI_zero]
  split
  · rfl
  · split
    · rfl
    · split
      · rfl
      · split <;> rfl
/-- Round trip of a value. -/
theorem readV_enc {v : V} (h : GoodV v) (r : List UInt8) : readV v.kind (encV v ++ r) 0 = (0, v, r) := by
  have hf := h.fit
  have hu : ∀ n, n ≤ 18446744073709551615 → readU (varint n ++ r) 0 = (0, n, r) := fun n hn => decU_enc hn r
  rcases h.norm with e | e | e | e | e | e | e
  all_goals
    generalize v.u = u at *
    generalize v.n = n at *
    generalize v.b = b at *
    generalize v.l = l at *
    subst e
  · show ((readU (varint u ++ r) 0).1, (⟨0, (readU (varint u ++ r) 0).2.1, 0, [], []⟩ : V), (readU (varint u ++ r) 0).2.2) = _
    rw [hu u hf.u]
  · show ((readU (encInt n ++ r) 0).1, (⟨1, 0, unzigI (readU (encInt n ++ r) 0).2.1, [], []⟩ : V), (readU (encInt n ++ r) 0).2.2) = _
    rw [show readU (encInt n ++ r) 0 = (0, zigI n, r) from decU_int hf.n r, unzig_zig]
  · rfl
  · rfl
  · show ((readRaw (encRaw b ++ r) 0).1, (⟨3, 0, 0, (readRaw (encRaw b ++ r) 0).2.1, []⟩ : V), (readRaw (encRaw b ++ r) 0).2.2) = _
    rw [show readRaw (encRaw b ++ r) 0 = (0, b, r) from decRaw_enc (show b.length ≤ 18446744073709551615 from by have := hf.b; simp only at this; omega) r]
  · show ((readRaw (encRaw b ++ r) 0).1, (⟨4, 0, 0, (readRaw (encRaw b ++ r) 0).2.1, []⟩ : V), (readRaw (encRaw b ++ r) 0).2.2) = _
    rw [show readRaw (encRaw b ++ r) 0 = (0, b, r) from decRaw_enc (show b.length ≤ 18446744073709551615 from by have := hf.b; simp only at this; omega) r]
  · show ((readInts (encInts l ++ r) 0).1, (⟨5, 0, 0, [], (readInts (encInts l ++ r) 0).2.1⟩ : V), (readInts (encInts l ++ r) 0).2.2) = _
    rw [show readInts (encInts l ++ r) 0 = (0, l, r) from decInts_enc (show l.length ≤ 18446744073709551615 from by have := hf.l; simp only at this; omega) (inI_mem hf.li) r]
end Go.Proofs.Ytldmokjpfnakkaa

/- Several values appended at once. -/
namespace Go.Proofs.Ytldmokjpfnakkaa
open Go.RowKit

/-- append of several elements of several cells: the walk lays them into a block of its own first. -/
theorem run_append_elems {P : Program} (w : World) (base : Nat) (t ty e : TypeId) (i : TypeInfo) (z : Value) (size bytes : Nat) (ht : P.underlying t = some (.slice e)) (hi : P.info? e = some i) (hz : i.zero = some z)
    (hsize : i.size = size) (hby : i.bytes = bytes) (hzs : z.cells.size = size) (hsz : 0 < size)
    (v : Value) (n m : Nat) (hm : 0 < m) (xs : List Value) (hown : w.ownsRow base e size v n xs) (cs : Array Value) (hcs : cs.size = m * size) (h1 : ∀ u ∈ cs.toList, u.oneCell' = true)
    (h63 : n + m ≤ maxLen) (hbytes : (n + m) * bytes ≤ 140737488355328) (hbase : base ≤ w.heap.size) :
    ∃ g cap w', (Builtin.append_ #[t, t] ty #[v, .slice (some ⟨w.heap.size, 0, none⟩) m m]).run P (w.alloc (.cells cs e)) = .ok (.slice (some ⟨g, 0, none⟩) (n + m) cap) w' ∧ w'.ownsRow base e size (.slice (some ⟨g, 0, none⟩) (n + m) cap) (n + m) (xs ++ cs.toList) ∧
      w.grownBy w' v.ownBlock ∧ (some g = v.ownBlock ∨ g = w.heap.size + 1) ∧ w.heap.size < w'.heap.size := by
  obtain ⟨v', w', hrun, h2, h3, _, h5⟩ := run_append_own_at (P := P) (w.alloc (.cells cs e)) base t ty e i z size bytes ht hi hz hsize hby hzs hsz v n xs (hown.alloc _) ⟨w.heap.size, 0, none⟩ m m cs.toList (by simp [hcs]) (World.news_of_block (World.alloc_heap_new w _)) h1 h63 hbytes (by simp; omega)
  obtain ⟨m', rfl⟩ : ∃ m', m = m' + 1 := ⟨m - 1, by omega⟩
  obtain ⟨g, cap, rfl⟩ := ownsRow_succ (k := n + m') h2
  refine ⟨g, cap, w', hrun, h2, (World.grownBy_alloc w _ _).trans h3, ?_, ?_⟩
  · rcases h5 with h5 | h5
    · exact .inl (by simpa [Value.ownBlock] using h5)
    · exact .inr (by simpa [Value.ownBlock] using h5)
  · have := h3.size
    simp at this
    omega
theorem Rdr.drew {w : World} {B gd : Nat} {rest : List UInt8} {err : Int} (h : Rdr w B gd rest err) : Rdr w.drew B gd rest err := h
theorem only_undrew {w w' : World} {row : Option Nat} (h : w.drew.grownBy w' row) : w.grownBy w' row := ⟨h.os, h.tape, h.output, h.size, h.block⟩
/-- The values' kinds and what is left of their encoding. -/
def encFrom (vs : List V) (k : Nat) : List UInt8 := (vs.drop k).flatMap encV
theorem encFrom_zero (vs : List V) : encFrom vs 0 = vs.flatMap encV := rfl
theorem encTo_all (vs : List V) (n : Nat) (h : vs.length ≤ n) : encTo vs n = vs.flatMap encV := by unfold encTo; rw [List.take_of_length_le h]
theorem encFrom_succ (vs : List V) (k : Nat) (hk : k < vs.length) : encFrom vs k = encV (vs[k]?.getD V0) ++ encFrom vs (k + 1) := by
  unfold encFrom
  rw [List.drop_eq_getElem_cons hk, List.flatMap_cons]
  simp [hk]
theorem encFrom_end (vs : List V) (k : Nat) (h : vs.length ≤ k) : encFrom vs k = [] := by unfold encFrom; rw [List.drop_eq_nil_of_le h]; rfl
theorem fit_of_good {vs : List V} (h : ∀ y ∈ vs, GoodV y) : ∀ j : Nat, FitV (vs[j]?.getD V0) := by
  intro j
  by_cases hj : j < vs.length
  · rw [List.getElem?_eq_getElem hj]; exact (h _ (List.getElem_mem _)).fit
  · rw [List.getElem?_eq_none (by omega)]
    exact ⟨by simp [V0], inI0, by simp [V0], by simp [V0], by simp [V0]⟩
theorem good_at {vs : List V} (h : ∀ y ∈ vs, GoodV y) {j : Nat} (hj : j < vs.length) : GoodV (vs[j]?.getD V0) := by
  rw [List.getElem?_eq_getElem hj]; exact h _ (List.getElem_mem _)
end Go.Proofs.Ytldmokjpfnakkaa

/- Plain Lean: prefixes of encodings; what is read was written. -/
namespace Go.Proofs.Ytldmokjpfnakkaa
open Go.RowKit

theorem take_lt {a r : List UInt8} {c : Nat} (h : c ≤ a.length) : (a ++ r).take c = a.take c := List.take_append_of_le_length h
theorem take_ge {a r : List UInt8} {c : Nat} (h : a.length ≤ c) : (a ++ r).take c = a ++ r.take (c - a.length) := by
  rw [List.take_append, List.take_of_length_le h]
theorem decK_cut : ∀ (l : List Int) (_ : ∀ n ∈ l, InI n) (r : List UInt8) (c : Nat), c < (l.flatMap encInt).length → decK l.length ((l.flatMap encInt ++ r).take c) = (3, [], [])
  | [], _, r, c, h => absurd h (by simp)
  | n :: l, hl, r, c, h => by
    have hn := hl n (by simp)
    rw [List.flatMap_cons, List.length_append] at h
    rw [List.flatMap_cons, List.append_assoc, List.length_cons]
    by_cases hc : c < (encInt n).length
    · rw [take_lt (by omega), decK, show decU 0 0 ((encInt n).take c) = (3, 0, []) from decU_prefix (zigI_lt hn.1 hn.2) hc]
      simp
    · rw [take_ge (by omega), decK, decU_int hn, if_neg (by simp), decK_cut l (fun m hm => hl m (by simp [hm])) r _ (by omega)]
      simp
theorem decU_take {n : Nat} (h : n ≤ 18446744073709551615) (r : List UInt8) (c : Nat) : decU 0 0 ((varint n ++ r).take c) = if c < (varint n).length then (3, 0, []) else (0, n, r.take (c - (varint n).length)) := by
  by_cases hc : c < (varint n).length
  · rw [if_pos hc, take_lt (by omega)]; exact decU_prefix h hc
  · rw [if_neg hc, take_ge (by omega)]; exact decU_enc h _
theorem decRaw_cut {bs r : List UInt8} (h : bs.length ≤ 18446744073709551615) {c : Nat} (hc : c < (encRaw bs).length) : (decRaw ((encRaw bs ++ r).take c)).1 = 3 := by
  unfold encRaw at hc ⊢
  rw [List.length_append] at hc
  rw [List.append_assoc]
  unfold decRaw
  rw [decU_take h]
  by_cases h1 : c < (varint bs.length).length
  · rw [if_pos h1]; simp
  · rw [if_neg h1, if_neg (by simp), if_pos (by simp; omega)]
theorem decInts_cut {l : List Int} {r : List UInt8} (h : l.length ≤ 18446744073709551615) (hl : ∀ n ∈ l, InI n) {c : Nat} (hc : c < (encInts l).length) : (decInts ((encInts l ++ r).take c)).1 = 3 := by
  unfold encInts at hc ⊢
  rw [List.length_append] at hc
  rw [List.append_assoc]
  unfold decInts
  rw [decU_take h]
  by_cases h1 : c < (varint l.length).length
  · rw [if_pos h1]; simp
  · rw [if_neg h1, if_neg (by simp)]
    split
    · rfl
    · simp only
      rw [decK_cut l hl r _ (by omega)]
/-- A value cut off. -/
theorem readV_cut {v : V} (h : GoodV v) (r : List UInt8) {c : Nat} (hc : c < (encV v).length) : (readV v.kind ((encV v ++ r).take c) 0).1 = 3 := by
  have hf := h.fit
  rcases h.norm with e | e | e | e | e | e | e
  all_goals
    generalize v.u = u at *
    generalize v.n = n at *
    generalize v.b = b at *
    generalize v.l = l at *
    subst e
  · show (decU 0 0 ((varint u ++ r).take c)).1 = 3
    rw [decU_take (n := u) hf.u, if_pos (show c < (varint u).length from hc)]
  · show (decU 0 0 ((varint (zigI n) ++ r).take c)).1 = 3
    rw [decU_take (n := zigI n) (zigI_lt hf.n.1 hf.n.2), if_pos (show c < (varint (zigI n)).length from hc)]
  · obtain rfl : c = 0 := by
      have : (encV ⟨2, 0, 0, [], []⟩).length = 1 := rfl
      omega
    rfl
  · obtain rfl : c = 0 := by
      have : (encV ⟨2, 0, 1, [], []⟩).length = 1 := rfl
      omega
    rfl
  · exact decRaw_cut (show b.length ≤ 18446744073709551615 from by have := hf.b; simp only at this; omega) hc
  · exact decRaw_cut (show b.length ≤ 18446744073709551615 from by have := hf.b; simp only at this; omega) hc
  · exact decInts_cut (show l.length ≤ 18446744073709551615 from by have := hf.l; simp only at this; omega) (inI_mem hf.li) hc
/-- The state of a reader of a prefix: cut off, or a proper prefix of what is still to come. -/
def CutAt (vs : List V) (i : Nat) (rest : List UInt8) (err : Int) : Prop := err = 3 ∨ (err = 0 ∧ ∃ c, c < (encFrom vs i).length ∧ rest = (encFrom vs i).take c)
theorem CutAt.step {vs : List V} {i : Nat} {rest : List UInt8} {err : Int} (h : CutAt vs i rest err) (hg : ∀ y ∈ vs, GoodV y) (hi : i < vs.length) :
    CutAt vs (i + 1) (readV (vs[i]?.getD V0).kind rest err).2.2 (readV (vs[i]?.getD V0).kind rest err).1 := by
  rcases h with rfl | ⟨rfl, c, hc, rfl⟩
  · rw [readV_err (by decide)]; exact .inl rfl
  · have hgv := good_at hg hi
    rw [encFrom_succ vs i hi] at hc ⊢
    by_cases h1 : c < (encV (vs[i]?.getD V0)).length
    · exact .inl (readV_cut hgv _ h1)
    · rw [take_ge (by omega), readV_enc hgv]
      rw [List.length_append] at hc
      exact .inr ⟨rfl, _, by omega, rfl⟩
theorem CutAt.done {vs : List V} {i : Nat} {rest : List UInt8} {err : Int} (h : CutAt vs i rest err) (hi : vs.length ≤ i) : err = 3 := by
  rcases h with rfl | ⟨_, c, hc, _⟩
  · rfl
  · rw [encFrom_end vs i hi] at hc; simp at hc

/-- One encoding: what is read was written. -/
theorem decK_inv : ∀ (k : Nat) (bs : List UInt8) (l : List Int) (r : List UInt8), decK k bs = (0, l, r) → bs = l.flatMap encInt ++ r ∧ l.length = k ∧ ∀ n ∈ l, InI n
  | 0, bs, l, r, h => by
    simp only [decK, Prod.mk.injEq] at h
    obtain ⟨_, rfl, rfl⟩ := h
    exact ⟨rfl, rfl, by simp⟩
  | k + 1, bs, l, r, h => by
    rw [decK] at h
    split at h
    · rename_i he
      simp only [Prod.mk.injEq] at h
      exact absurd h.1 he
    · rename_i he
      have he' : (decU 0 0 bs).1 = 0 := by simpa using he
      split at h
      · rename_i h2
        simp only [Prod.mk.injEq] at h
        exact absurd h.1 h2
      · rename_i h2
        have h2' : (decK k (decU 0 0 bs).2.2).1 = 0 := by simpa using h2
        simp only [Prod.mk.injEq, true_and] at h
        obtain ⟨h3, h4⟩ := h
        obtain ⟨e1, e2, e3⟩ := decK_inv k (decU 0 0 bs).2.2 (decK k (decU 0 0 bs).2.2).2.1 r (by rw [← h4, ← h2'])
        have hd : bs = varint (decU 0 0 bs).2.1 ++ (decU 0 0 bs).2.2 := decU_inv (by rw [← he'])
        have hlt := (decU_lt bs 0 0 (by decide) (by decide)).1
        rw [← h3]
        refine ⟨?_, by simp [e2], fun n hn => ?_⟩
        · rw [List.flatMap_cons, List.append_assoc, ← e1]
          unfold encInt
          rw [zig_unzig]
          exact hd
        · rcases List.mem_cons.1 hn with rfl | hn
          · exact unzigI_range hlt
          · exact e3 n hn
theorem getD_range {l : List Int} (h : ∀ n ∈ l, InI n) : ∀ j : Nat, -9223372036854775808 ≤ l[j]?.getD 0 ∧ l[j]?.getD 0 ≤ 9223372036854775807 := by
  intro j
  by_cases hj : j < l.length
  · rw [List.getElem?_eq_getElem hj]; exact h _ (List.getElem_mem _)
  · rw [List.getElem?_eq_none (by omega)]; simp
theorem flat_len' (l : List Int) : l.length ≤ (l.flatMap encInt).length := flat_len l
theorem decU_eta {bs : List UInt8} (h : (decU 0 0 bs).1 = 0) : bs = varint (decU 0 0 bs).2.1 ++ (decU 0 0 bs).2.2 := decU_inv (Prod.ext h rfl)
theorem decRaw_inv {bs b r : List UInt8} (h : decRaw bs = (0, b, r)) : bs = encRaw b ++ r := by
  unfold decRaw at h
  split at h
  · rename_i he
    simp only [Prod.mk.injEq] at h
    exact absurd h.1 he
  · rename_i he
    have he' : (decU 0 0 bs).1 = 0 := by simpa using he
    split at h
    · simp at h
    · rename_i h2
      simp only [Prod.mk.injEq, true_and] at h
      obtain ⟨rfl, rfl⟩ := h
      have hd := decU_eta he'
      unfold encRaw
      rw [List.length_take, Nat.min_eq_left (by omega), List.append_assoc, List.take_append_drop]
      exact hd
theorem decInts_inv {bs : List UInt8} {l : List Int} {r : List UInt8} (h : decInts bs = (0, l, r)) : bs = encInts l ++ r ∧ ∀ n ∈ l, InI n := by
  unfold decInts at h
  split at h
  · rename_i he
    simp only [Prod.mk.injEq] at h
    exact absurd h.1 he
  · rename_i he
    have he' : (decU 0 0 bs).1 = 0 := by simpa using he
    split at h
    · simp at h
    · obtain ⟨e1, e2, e3⟩ := decK_inv _ _ _ _ h
      refine ⟨?_, e3⟩
      have hd := decU_eta he'
      unfold encInts
      rw [e2, List.append_assoc, ← e1]
      exact hd
theorem decBool_inv {bs : List UInt8} {b : Bool} {r : List UInt8} (h : decBool bs = (0, b, r)) : bs = encBool b ++ r := by
  unfold decBool at h
  cases bs with
  | nil => simp at h
  | cons c s =>
    simp only at h
    split at h
    · simp at h
    · rename_i hc
      simp only [Prod.mk.injEq, true_and] at h
      obtain ⟨rfl, rfl⟩ := h
      rcases (show c.toNat = 0 ∨ c.toNat = 1 by omega) with h0 | h0
      · have : c = 0 := UInt8.toNat_inj.1 (by rw [h0]; rfl)
        subst this; rfl
      · have : c = 1 := UInt8.toNat_inj.1 (by rw [h0]; rfl)
        subst this; rfl
/-- A value that was read fits and is encoded as it was. -/
theorem readV_inv {kind : Int} {rest : List UInt8} (h : (readV kind rest 0).1 = 0) (hl : rest.length ≤ 1000) : rest = encV (readV kind rest 0).2.1 ++ (readV kind rest 0).2.2 ∧ FitV (readV kind rest 0).2.1 ∧ (readV kind rest 0).2.1.kind = kind := by
  have hlt := (decU_lt rest 0 0 (by decide) (by decide)).1
  unfold readV at h ⊢
  by_cases h0 : kind = 0
  · rw [if_pos h0] at h ⊢
    subst h0
    exact ⟨decU_eta h, ⟨hlt, inI0, by simp, by simp, by simp⟩, rfl⟩
  rw [if_neg h0] at h ⊢
  by_cases h1 : kind = 1
  · rw [if_pos h1] at h ⊢
    subst h1
    refine ⟨?_, ⟨by simp, unzigI_range hlt, by simp, by simp, by simp⟩, rfl⟩
    have hd := decU_eta h
    show rest = encInt (unzigI (decU 0 0 rest).2.1) ++ (decU 0 0 rest).2.2
    unfold encInt
    rw [zig_unzig]
    exact hd
  rw [if_neg h1] at h ⊢
  by_cases h2 : kind = 2
  · rw [if_pos h2] at h ⊢
    subst h2
    have hd : rest = encBool (decBool rest).2.1 ++ (decBool rest).2.2 := decBool_inv (Prod.ext h rfl)
    have hs : readB rest 0 = decBool rest := rfl
    rw [hs]
    generalize (decBool rest).2.1 = b at *
    generalize (decBool rest).2.2 = r at *
    cases b
    · exact ⟨hd, ⟨by simp, inI0, by simp, by simp, by simp⟩, rfl⟩
    · exact ⟨hd, ⟨by simp, inI1, by simp, by simp, by simp⟩, rfl⟩
  rw [if_neg h2] at h ⊢
  by_cases h3 : kind = 3 ∨ kind = 4
  · rw [if_pos h3] at h ⊢
    have hd : rest = encRaw (decRaw rest).2.1 ++ (decRaw rest).2.2 := decRaw_inv (Prod.ext h rfl)
    have hs : readRaw rest 0 = decRaw rest := rfl
    rw [hs]
    generalize (decRaw rest).2.1 = b at *
    generalize (decRaw rest).2.2 = r at *
    have hbl : b.length ≤ 1000 := by
      have := congrArg List.length hd
      unfold encRaw at this
      simp only [List.length_append] at this
      omega
    refine ⟨?_, ⟨by simp, inI0, hbl, by simp, by simp⟩, rfl⟩
    unfold encV
    simp only
    rw [if_neg h0, if_neg h1, if_neg h2, if_pos h3]
    exact hd
  · rw [if_neg h3] at h ⊢
    obtain ⟨hd, hi⟩ : rest = encInts (decInts rest).2.1 ++ (decInts rest).2.2 ∧ ∀ n ∈ (decInts rest).2.1, InI n := decInts_inv (Prod.ext h rfl)
    have hs : readInts rest 0 = decInts rest := rfl
    rw [hs]
    generalize (decInts rest).2.1 = l at *
    generalize (decInts rest).2.2 = r at *
    have hbl : l.length ≤ 1000 := by
      have := congrArg List.length hd
      unfold encInts at this
      simp only [List.length_append] at this
      have := flat_len l
      omega
    refine ⟨?_, ⟨by simp, inI0, by simp, hbl, getD_range hi⟩, rfl⟩
    unfold encV
    simp only
    rw [if_neg h0, if_neg h1, if_neg h2, if_neg h3]
    exact hd
theorem encV_small {v : V} (h : GoodV v) : (encV v).length ≤ 60 := by
  have hf := h.fit
  obtain ⟨hb, hl⟩ := h.small
  unfold encV
  have h1 := varint_len10 hf.u
  have h2 := encInt_len hf.n.1 hf.n.2
  have h3 : (encBool (v.n == 1)).length = 1 := by unfold encBool; split <;> rfl
  have h4 : (encRaw v.b).length ≤ 19 := by
    unfold encRaw; rw [List.length_append]
    have := varint_len10 (n := v.b.length) (by omega)
    omega
  have h5 : (encInts v.l).length ≤ 50 := by
    rw [← encIntsTo_all v.l v.l.length (Nat.le_refl _)]
    have := encIntsTo_len v.l (by omega) hf.li v.l.length (Nat.le_refl _)
    omega
  split
  · omega
  · split
    · omega
    · split
      · omega
      · split
        · omega
        · omega
theorem flatV_small : ∀ {vs : List V} (_ : ∀ y ∈ vs, GoodV y), (vs.flatMap encV).length ≤ 60 * vs.length
  | [], _ => by simp
  | v :: vs, h => by
    rw [List.flatMap_cons, List.length_append, List.length_cons]
    have := encV_small (h v (by simp))
    have := flatV_small (vs := vs) (fun y hy => h y (by simp [hy]))
    omega
/-- A value that was not read is empty. -/
theorem readV_fail {kind : Int} {rest : List UInt8} (h : (readV kind rest 0).1 ≠ 0) : (readV kind rest 0).2 = (⟨kind, 0, 0, [], []⟩, []) := by
  have hu : (readU rest 0).1 ≠ 0 → (readU rest 0).2 = (0, []) := by
    intro hh
    rcases decU_out rest 0 0 with h1 | ⟨_, h1⟩
    · exact absurd h1 hh
    · exact h1
  have hb : (readB rest 0).1 ≠ 0 → (readB rest 0).2 = (false, []) := by
    show (decBool rest).1 ≠ 0 → (decBool rest).2 = (false, [])
    intro hh
    unfold decBool at hh ⊢
    cases rest with
    | nil => rfl
    | cons c r =>
      simp only at hh ⊢
      split
      · rfl
      · rename_i hc
        rw [if_neg hc] at hh
        exact absurd rfl hh
  have hr : (readRaw rest 0).1 ≠ 0 → (readRaw rest 0).2 = ([], []) := by
    show (decRaw rest).1 ≠ 0 → (decRaw rest).2 = ([], [])
    intro hh
    unfold decRaw at hh ⊢
    split
    · rfl
    · rename_i h1
      rw [if_neg h1] at hh
      split
      · rfl
      · rename_i h2
        rw [if_neg h2] at hh
        exact absurd rfl hh
  have hi : (readInts rest 0).1 ≠ 0 → (readInts rest 0).2 = ([], []) := by
    show (decInts rest).1 ≠ 0 → (decInts rest).2 = ([], [])
    intro hh
    unfold decInts at hh ⊢
    split
    · rfl
    · rename_i h1
      rw [if_neg h1] at hh
      split
      · rfl
      · rename_i h2
        rw [if_neg h2] at hh
        rcases decK_out (decU 0 0 rest).2.1 (decU 0 0 rest).2.2 with h3 | h3
        · exact absurd h3 hh
        · exact h3
  unfold readV at h ⊢
  by_cases h0 : kind = 0
  · rw [if_pos h0] at h ⊢
    simp only
    rw [hu h]
  rw [if_neg h0] at h ⊢
  by_cases h1 : kind = 1
  · rw [if_pos h1] at h ⊢
    simp only
    rw [hu h, unzigI_zero]
  rw [if_neg h1] at h ⊢
  by_cases h2 : kind = 2
  · rw [if_pos h2] at h ⊢
    simp only
    rw [hb h]
    rfl
  rw [if_neg h2] at h ⊢
  by_cases h3 : kind = 3 ∨ kind = 4
  · rw [if_pos h3] at h ⊢
    simp only
    rw [hr h]
  · rw [if_neg h3] at h ⊢
    simp only
    rw [hi h]
theorem fit0 (kind : Int) : FitV ⟨kind, 0, 0, [], []⟩ := ⟨by simp, inI0, by simp, by simp, by simp⟩
/-- The values that were read, and what is left: so far the bytes are theirs. -/
structure OneAt (T : List UInt8) (got : List V) (rest : List UInt8) (err : Int) : Prop where
  fit : ∀ j : Nat, FitV (got[j]?.getD V0)
  len : rest.length ≤ 1000
  eq : err = 0 → T = got.flatMap encV ++ rest
theorem fit_snoc {got : List V} {v : V} (h : ∀ j : Nat, FitV (got[j]?.getD V0)) (hv : FitV v) : ∀ j : Nat, FitV ((got ++ [v])[j]?.getD V0) := by
  intro j
  by_cases hj : j < got.length
  · rw [List.getElem?_append_left hj]; exact h j
  · rw [List.getElem?_append_right (by omega)]
    by_cases h2 : j = got.length
    · subst h2; simp only [Nat.sub_self, List.getElem?_cons_zero, Option.getD_some]; exact hv
    · rw [List.getElem?_eq_none (by simp; omega)]; exact fit0 0
theorem OneAt.start {T : List UInt8} (h : T.length ≤ 1000) : OneAt T [] T 0 := ⟨fun j => by simp; exact fit0 0, h, fun _ => rfl⟩
theorem OneAt.step {T : List UInt8} {got : List V} {rest : List UInt8} {err : Int} (h : OneAt T got rest err) (kind : Int) : OneAt T (got ++ [(readV kind rest err).2.1]) (readV kind rest err).2.2 (readV kind rest err).1 := by
  by_cases he : err = 0
  · subst he
    by_cases h1 : (readV kind rest 0).1 = 0
    · obtain ⟨e1, e2, _⟩ := readV_inv h1 h.len
      refine ⟨fit_snoc h.fit e2, ?_, fun _ => ?_⟩
      · have := congrArg List.length e1
        rw [List.length_append] at this
        have := h.len
        omega
      · rw [List.flatMap_append, List.append_assoc]
        simp only [List.flatMap_cons, List.flatMap_nil, List.append_nil]
        rw [← e1]
        exact h.eq rfl
    · have e := readV_fail h1
      refine ⟨fit_snoc h.fit ?_, ?_, fun h2 => absurd h2 h1⟩
      · rw [show (readV kind rest 0).2.1 = ⟨kind, 0, 0, [], []⟩ from congrArg Prod.fst e]; exact fit0 _
      · rw [show (readV kind rest 0).2.2 = [] from congrArg Prod.snd e]; simp
  · rw [readV_err he]
    exact ⟨fit_snoc h.fit (fit0 _), by simp, fun h2 => absurd h2 he⟩
theorem OneAt.done {T : List UInt8} {got : List V} {rest : List UInt8} {err : Int} (h : OneAt T got rest err) (he : endI rest err = 0) : T = got.flatMap encV := by
  unfold endI at he
  split at he
  · rename_i h0
    split at he
    · rename_i h1
      rw [h.eq h0, List.eq_nil_of_length_eq_zero h1, List.append_nil]
    · omega
  · rename_i h0
    exact absurd he h0
end Go.Proofs.Ytldmokjpfnakkaa

/- The walks of worldmintref02's encodings. -/
namespace Go.Proofs.Ytldmokjpfnakkaa
open Go.RowKit

/-- A row of bytes of the call's own is returned. -/
def RetB (bs : List UInt8) (w : World) (e : Ending) (w' : World) : Prop :=
  ∃ (A : Option Addr) (n c : Nat), e = .returned (.slice A n c) ∧ Hid (bs.length = n) ∧ w'.ownsRow w.heap.size 5 1 (.slice A n c) n (bs.map fun b => Value.int .u8 ((b.toNat : Nat) : Int)) ∧ Below w.heap.size w w'
theorem fit_of_mem {vs : List V} (h : ∀ y ∈ vs, FitV y) : ∀ j : Nat, FitV (vs[j]?.getD V0) := by
  intro j
  by_cases hj : j < vs.length
  · rw [List.getElem?_eq_getElem hj]; exact h _ (List.getElem_mem _)
  · rw [List.getElem?_eq_none (by omega)]; exact fit0 0
theorem VRow.take {w : World} {B n m : Nat} {A : Option Addr} {vs : List V} (h : VRow w B A n vs) (hm : m ≤ n) : VRow w B A m (vs.take m) := by
  obtain ⟨hl, S, T, h1, h2⟩ := h
  have e : ∀ j, j < m → (vs.take m)[j]?.getD V0 = vs[j]?.getD V0 := fun j hj => by rw [List.getElem?_take, if_pos hj]
  refine ⟨by rw [List.length_take, hl]; omega, S, T, fun hn => ?_, fun j hj => ?_⟩
  · obtain ⟨b, off, e1, hb, hc⟩ := h1 (by omega)
    exact ⟨b, off, e1, hb, fun j hj i hi => by rw [e j hj]; exact hc j (by omega) i hi⟩
  · rw [e j hj]; exact h2 j (by omega)
theorem Wr.drew {w : World} {B gd : Nat} {bs : List UInt8} (h : Wr w B gd bs) : Wr w.drew B gd bs := h
/-- append of one byte. -/
theorem own_one {w : World} {base k : Nat} {v : Value} {bs : List UInt8} (h : w.ownsRow base 5 1 v k (bs.map fun b => Value.int .u8 ((b.toNat : Nat) : Int))) (x : UInt8) (xi : Int) (hx : xi = ((x.toNat : Nat) : Int)) (hk : k ≤ 35184372088832) (hbase : base ≤ w.heap.size) :
    ∃ g c w', Hid ((Builtin.append_ #[23, 23] 23 #[v, .slice (some ⟨w.heap.size, 0, none⟩) 1 1]).run Try.prog (w.alloc (.cells #[.int .u8 xi] 5)) = .ok (.slice (some ⟨g, 0, none⟩) (k + 1) c) w') ∧
      w'.ownsRow base 5 1 (.slice (some ⟨g, 0, none⟩) (k + 1) c) (k + 1) ((bs ++ [x]).map fun b => Value.int .u8 ((b.toNat : Nat) : Int)) ∧ Below base w w' := by
  subst hx
  obtain ⟨i0, hi, hz0, hz1, hz2⟩ := info_parts info_u8
  obtain ⟨g, c, w', hap, hown, hg, _, _⟩ := run_append_one (P := Try.prog) w base 23 23 5 i0 _ 1 Try.underlying23 hi hz0 hz1 hz2 rfl v k _ h (.int .u8 ((x.toNat : Nat) : Int)) rfl (by unfold maxLen; omega) (by omega) hbase
  exact ⟨g, c, w', Lib.hid hap, by rw [List.map_append]; exact hown, (Below.refl base w).grown hg hbase (fun r e => (h.lt r e).1)⟩
/-- append of many bytes. -/
theorem own_many {w : World} {base k m c : Nat} {v : Value} {bs xs : List UInt8} {A : Option Addr} (h : w.ownsRow base 5 1 v k (bs.map fun b => Value.int .u8 ((b.toNat : Nat) : Int))) (hx : xs.length = m) (hR : Rd w w.heap.size A m (vByte xs)) (hk : k + m ≤ 35184372088832) (hbase : base ≤ w.heap.size) :
    ∃ A' n' c' w', Hid ((Builtin.append_ #[23, 23] 23 #[v, .slice A m c]).run Try.prog w = .ok (.slice A' n' c') w') ∧ Hid (n' = k + m) ∧
      w'.ownsRow base 5 1 (.slice A' n' c') n' ((bs ++ xs).map fun b => Value.int .u8 ((b.toNat : Nat) : Int)) ∧ Below base w w' := by
  obtain ⟨i0, hi, hz0, hz1, hz2⟩ := info_parts info_u8
  obtain ⟨v', w', hap, hown, hg, _⟩ := run_append_rd (P := Try.prog) w base 23 23 5 i0 _ 1 Try.underlying23 hi hz0 hz1 hz2 rfl v k _ h w.heap.size A m c (vByte xs) hR hR.none_ (fun _ _ => rfl) (by unfold maxLen; omega) (by omega) hbase
  obtain ⟨A', c', rfl⟩ := own_slice hown
  have e : (List.range m).map (vByte xs) = xs.map fun b => Value.int .u8 ((b.toNat : Nat) : Int) := by
    subst hx
    refine List.ext_getElem (by simp) fun i h1 h2 => ?_
    have hi : i < xs.length := by simpa using h2
    simp [vByte, hi]
  rw [e, ← List.map_append] at hown
  exact ⟨A', k + m, c', w', Lib.hid hap, Lib.hid rfl, hown, (Below.refl base w).grown hg hbase (fun r e => (h.lt r e).1)⟩

set_option maxRecDepth 100000 in
set_option maxHeartbeats 1000000 in
theorem euint_any (n : Nat) (ni : Int) (hni : ni = (n : Int)) (w : World) (hn : n ≤ 18446744073709551615) :
    Calls Try.prog 40 #[.int .u64 ni] w (RetB (varint n) w) := by
  subst hni
  have HV := Lib.hid (varint_len10 hn)
  go_enter Try.func40, Try.ntmps40
  go_wp2
  go_loopw [0, 3] (fun v o wr => ∃ m k : Nat, ∃ pre : List UInt8, v = .int .u64 (m : Int) ∧ m ≤ 18446744073709551615 ∧ k ≤ 10 ∧ Hid (pre.length = k) ∧ Hid (pre ++ varint m = varint n) ∧ wr.ownsRow w.heap.size 5 1 o k (pre.map fun b => Value.int .u8 ((b.toNat : Nat) : Int)) ∧ Below w.heap.size w wr) (fun v _ _ => (intOf v).toNat)
  case atStart => exact ⟨n, 0, [], rfl, hn, by omega, Lib.hid rfl, Lib.hid rfl, World.ownsRow_nil _ _ _ _, Below.refl _ _⟩
  case round =>
    obtain ⟨m, k, pre, rfl, hm, hk, HK, HE, hown, hb⟩ := hrel
    obtain ⟨v3, rfl⟩ : ∃ x, x = u3 := ⟨_, rfl⟩
    by_cases hge : 128 ≤ m
    · have hk9 : k + 1 ≤ 10 := by
        have h1 := congrArg List.length HE.out
        rw [List.length_append, varint_ge hge, List.length_cons] at h1
        have := HV.out
        have := HK.out
        omega
      obtain ⟨g, c, w3, HA, hown3, hb3⟩ := own_one hown (UInt8.ofNat (m % 128 + 128)) (128 + (m : Int) % 128) (by rw [ofNat_toNat (by omega)]; omega) (by omega) hb.size
      have hge' : 127 < (m : Int) := by omega
      go_wp2_with (at_builtin; refine wpList_append_run HA.out rfl rfl rfl rfl ?_)
      exact ⟨⟨m / 128, k + 1, _, by go_num, by omega, by omega, Lib.hid (by rw [List.length_append, HK.out]; rfl), Lib.hid (by rw [← HE.out, varint_ge hge, List.append_assoc]; rfl), hown3, hb.trans hb3⟩, by simp [intOf]; omega⟩
    · obtain ⟨g, c, w3, HA, hown3, hb3⟩ := own_one hown (UInt8.ofNat m) (m : Int) (by rw [ofNat_toNat (by omega)]) (by omega) hb.size
      have hge' : (m : Int) ≤ 127 := by omega
      go_wp2_with (at_builtin; refine wpList_append_run HA.out rfl rfl rfl rfl ?_)
      go_ret
      have he : pre ++ [UInt8.ofNat m] = varint n := by rw [← HE.out, varint_lt (by omega)]
      exact ⟨_, _, _, rfl, Lib.hid (by rw [← he, List.length_append, HK.out]; rfl), by rw [← he]; exact hown3, hb.trans hb3⟩

set_option maxRecDepth 100000 in
set_option maxHeartbeats 400000 in
theorem ezig_any (n : Int) (w : World) (h1 : -9223372036854775808 ≤ n) (h2 : n ≤ 9223372036854775807) :
    Calls Try.prog 71 #[.int .i64 n] w fun e w' => e = .returned (.int .u64 ((zigI n : Nat) : Int)) ∧ w = w' := by
  by_cases h : n < 0
  · have HZ := Lib.hid (show ((zigI n : Nat) : Int) = 2 * (-(n + 1)) + 1 by unfold zigI; rw [if_pos h]; omega)
    go_enter Try.func71, Try.ntmps71
    go_wp2
    go_ret
    rw [HZ.out]
    exact ⟨rfl, rfl⟩
  · have HZ := Lib.hid (show ((zigI n : Nat) : Int) = 2 * n by unfold zigI; rw [if_neg h]; omega)
    go_enter Try.func71, Try.ntmps71
    go_wp2
    go_ret
    rw [HZ.out]
    exact ⟨rfl, rfl⟩

set_option maxRecDepth 100000 in
set_option maxHeartbeats 400000 in
theorem eint_any (n : Int) (w : World) (h1 : -9223372036854775808 ≤ n) (h2 : n ≤ 9223372036854775807) :
    Calls Try.prog 60 #[.int .i64 n] w (RetB (encInt n) w) := by
  go_enter Try.func60, Try.ntmps60
  go_wp2_with (first
    | (go_at_call 71; ((with_reducible refine (ezig_any _ _ h1 h2).mono ?_); rintro e w1 ⟨rfl, rfl⟩))
    | (go_at_call 40; ((with_reducible refine (euint_any _ _ rfl _ (zigI_lt h1 h2)).mono ?_); rintro e w1 ⟨A, m, c, rfl, q1, q2, q3⟩)))
  go_ret
  exact ⟨A, m, c, rfl, q1, q2, q3⟩

set_option maxRecDepth 100000 in
set_option maxHeartbeats 400000 in
theorem eraw_any (A : Option Addr) (m c : Nat) (bs : List UInt8) (w : World) (HX : Hid (bs.length = m)) (hm : m ≤ 17592186044416) (hR : Rd w w.heap.size A m (vByte bs)) :
    Calls Try.prog 39 #[.slice A m c] w (RetB (encRaw bs) w) := by
  go_enter Try.func39, Try.ntmps39
  go_wp2_with fail
  refine (euint_any m _ rfl _ (by omega)).mono ?_
  rintro e w1 ⟨A1, n1, c1, rfl, HX1, hown1, hb1⟩
  have hn1 : n1 ≤ 10 := by rw [← HX1.out]; exact varint_len10 (by omega)
  obtain ⟨A2, n2, c2, w2, HA, HN, hown2, hb2⟩ := own_many (c := c) hown1 HX.out (hR.all hb1) (by omega) hb1.size
  go_wp2_with (at_builtin; refine wpList_append_run HA.out rfl rfl rfl rfl ?_)
  go_ret
  have he : varint m ++ bs = encRaw bs := by unfold encRaw; rw [HX.out]
  rw [he] at hown2
  exact ⟨A2, n2, c2, rfl, Lib.hid (by have := hown2.1; simpa using this), hown2, hb1.trans hb2⟩

end Go.Proofs.Ytldmokjpfnakkaa

/- The walks of hash.mix, worldmintref01.mix, hash.wordsOf and its iterator. -/
namespace Go.Proofs.Ytldmokjpfnakkaa
open Go.RowKit Go.Shelf
attribute [local go_sem] Oper.semAt_some

set_option maxHeartbeats 400000 in
theorem mix_any (a b : Int) (w : World) :
    Calls Try.prog 68 #[.int .u64 a, .int .u64 b] w fun e w' => e = .returned (.int .u64 (mixI a b)) ∧ w = w' := by
  go_enter Try.func68, Try.ntmps68
  go_wp2
  go_ret
  exact ⟨rfl, rfl⟩

set_option maxHeartbeats 400000 in
theorem rmix_any (a b : Int) (w : World) :
    Calls Try.prog 72 #[.int .u64 a, .int .u64 b] w fun e w' => e = .returned (.int .u64 (mixI a b)) ∧ w = w' := by
  go_enter Try.func72, Try.ntmps72
  go_wp2
  go_ret
  refine ⟨?_, rfl⟩
  rw [mixI_alt]; rfl

set_option maxHeartbeats 400000 in
theorem wordsOf_in (F : Fence) (n : Nat) (h25 : F.fn 48) (hro : F.round = none) (A : Option Addr) (len cap : Nat) (w : World) :
    CallsIn F n Try.prog 48 #[.slice A len cap] w fun e w' => e = .returned (.func (.func 67) #[] #[.pointer (some ⟨w.heap.size, 0, none⟩)]) ∧ w.alloc (.cells #[.slice A len cap] 23) = w' := by
  refine callsIn_of_wp Try.func48 rfl h25 ?_ hro
  simp only [Try.ntmps48, List.size_toArray, List.length_cons, List.length_nil, Nat.reduceAdd, Nat.reduceSub, Array.replicate_succ, Array.replicate_zero, List.push_toArray, List.append_toArray, List.nil_append, List.cons_append]
  gi_wp2
  go_ret
  exact ⟨rfl, rfl⟩

/-- The blocks that the iterator reads. -/
def WordsKept (A : Option Addr) (len Bs : Nat) (k : Nat) : Prop := k = Bs ∨ (0 < len ∧ ∃ ad, A = some ad ∧ k = ad.block)

set_option maxRecDepth 100000 in
set_option maxHeartbeats 1000000 in
theorem words1_in (F : Fence) (n : Nat) (h28 : F.fn 67) (hro : F.round = none) (hn : 1 ≤ n) (l Bs B len cap : Nat) (A : Option Addr) (bs : List UInt8) (HL : Hid (bs.length = len)) (hlc : len ≤ cap) (hmax : len ≤ 140737488351232)
    (J Jx : List Int → World → Prop)
    (hY : Hid (∀ pre x W, J pre W → pre.length < nwords bs → YieldAt F (n - 1) Try.prog l #[.int .u64 x] W fun e W' =>
      (e = .returned (.bool true) ∧ J (pre ++ [x]) W' ∧ Keeps (WordsKept A len Bs) W W') ∨ (e = .returned (.bool false) ∧ Jx (pre ++ [x]) W')))
    (W : World) (HB : Hid (W.cell? ⟨Bs, 0, none⟩ = some (.slice A len cap))) (hR : Rd W B A len (vByte bs)) (h0 : J [] W) :
    CallsIn F n Try.prog 67 #[.func (.yield l) #[] #[], .pointer (some ⟨Bs, 0, none⟩)] W fun e W' => (∃ v, e = .returned v) ∧
      ((∃ ys, ys = wordsI bs ∧ J ys W') ∨ (∃ pre, True ∧ Jx pre W')) := by
  refine callsIn_of_wp Try.func67 rfl h28 ?_ hro
  simp only [Try.ntmps67, List.size_toArray, List.length_cons, List.length_nil, Nat.reduceAdd, Nat.reduceSub, Array.replicate_succ, Array.replicate_zero, List.push_toArray, List.append_toArray, List.nil_append, List.cons_append]
  gi_wp2
  gi_loopw [3] (fun v wr => ∃ k s : Nat, Hid (s = 8 * k) ∧ s < len + 8 ∧ v = .int .i64 (s : Int) ∧ J (wordsTo bs k) wr ∧ Keeps (WordsKept A len Bs) W wr)
    (fun v _ => len + 8 - (intOf v).toNat)
  case atStart => exact ⟨0, 0, rfl, by omega, rfl, h0, Keeps.refl _ _⟩
  case round =>
    obtain ⟨k, s, hs, hk, rfl, hJs, hnx⟩ := hrel
    have hBs : wr.cell? ⟨Bs, 0, none⟩ = some (.slice A len cap) := (hnx.cell (p := ⟨Bs, 0, none⟩) (.inl rfl)).trans HB.out
    by_cases hlt : s < len
    · obtain ⟨b, off, rfl, hb, hc0⟩ := hR (by omega)
      have Hc : Hid (∀ j, j < (group bs k).length → wr.cell? ⟨b, off + s + j, none⟩ = some (.int .u8 (((group bs k)[j]?.getD 0).toNat : Nat))) := by
        intro j hj
        rw [group_length] at hj
        rw [hnx.cell (p := ⟨b, off + s + j, none⟩) (.inr ⟨by omega, _, rfl, rfl⟩), Nat.add_assoc, hc0 (s + j) (by have := HL.out; have := hs.out; omega)]
        simp only [vByte, group, hs.out, List.getElem?_take, List.getElem?_drop]
        rw [if_pos (by omega)]
      have Hl : Hid ((group bs k).length = min 8 (len - s)) := by show _ = _; rw [group_length, HL.out, hs.out]
      clear hc0
      by_cases h8 : s + 8 ≤ len
      · gi_wp2
        gi_loop [4, 22] (fun v i => ∃ j : Nat, j ≤ 8 ∧ i = .int .i64 (j : Int) ∧ v = .int .u64 ((wordN ((group bs k).take j) : Nat) : Int))
          (fun _ i => 8 - (intOf i).toNat)
        case atStart => exact ⟨0, by omega, rfl, by simp [wordN]⟩
        case round =>
          obtain ⟨j, hj, rfl, rfl⟩ := hrel
          by_cases hj8 : j < 8
          · have hcj := Hc.out j (by have := Hl.out; omega)
            have HS := Lib.hid (word_step (group bs k) j (by omega) (by have := Hl.out; omega))
            gi_wp2
            exact ⟨⟨j + 1, by omega, by go_num, congrArg (Value.int .u64) HS.out⟩, by simp [intOf]; omega⟩
          · obtain rfl : j = 8 := by omega
            obtain ⟨fn, tmps, assign, body, hy, hR3⟩ := hY.out _ ((wordN ((group bs k).take (8)) : Nat) : Int) wr hJs (by rw [wordsTo_length]; unfold nwords; have := HL.out; have := hs.out; omega)
            gi_wp2
            refine hR3.mono ?_
            rintro e W3 (⟨rfl, hJ3, hk3⟩ | ⟨rfl, hJx3⟩)
            · gi_wp2
              exact ⟨⟨k + 1, s + 8, by show _ = _; rw [hs.out]; omega, by omega, by go_num, by rw [wordsTo_succ]; rw [group_take _ _ _ (by have := Hl.out; omega)] at hJ3; exact hJ3, hnx.trans hk3⟩, by simp [intOf]; omega⟩
            · gi_wp2
              refine bodyPost_ret (results_none rfl _ _ _) rfl ?_
              exact ⟨⟨_, rfl⟩, .inr ⟨_, trivial, hJx3⟩⟩
      · gi_wp2
        gi_loop [4, 22] (fun v i => ∃ j : Nat, j ≤ len - s ∧ i = .int .i64 (j : Int) ∧ v = .int .u64 ((wordN ((group bs k).take j) : Nat) : Int))
          (fun _ i => len - s - (intOf i).toNat)
        case atStart => exact ⟨0, by omega, rfl, by simp [wordN]⟩
        case round =>
          obtain ⟨j, hj, rfl, rfl⟩ := hrel
          by_cases hj8 : j < len - s
          · have hcj := Hc.out j (by have := Hl.out; omega)
            have HS := Lib.hid (word_step (group bs k) j (by omega) (by have := Hl.out; omega))
            gi_wp2
            exact ⟨⟨j + 1, by omega, by go_num, congrArg (Value.int .u64) HS.out⟩, by simp [intOf]; omega⟩
          · obtain rfl : j = len - s := by omega
            obtain ⟨fn, tmps, assign, body, hy, hR3⟩ := hY.out _ ((wordN ((group bs k).take (len - s)) : Nat) : Int) wr hJs (by rw [wordsTo_length]; unfold nwords; have := HL.out; have := hs.out; omega)
            gi_wp2
            refine hR3.mono ?_
            rintro e W3 (⟨rfl, hJ3, hk3⟩ | ⟨rfl, hJx3⟩)
            · gi_wp2
              exact ⟨⟨k + 1, s + 8, by show _ = _; rw [hs.out]; omega, by omega, by go_num, by rw [wordsTo_succ]; rw [group_take _ _ _ (by have := Hl.out; omega)] at hJ3; exact hJ3, hnx.trans hk3⟩, by simp [intOf]; omega⟩
            · gi_wp2
              refine bodyPost_ret (results_none rfl _ _ _) rfl ?_
              exact ⟨⟨_, rfl⟩, .inr ⟨_, trivial, hJx3⟩⟩
    · gi_wp2
      go_end0
      exact ⟨⟨_, rfl⟩, .inl ⟨_, by unfold wordsI nwords; congr 1; have := HL.out; have := hs.out; omega, hJs⟩⟩

theorem words_stops (F : Fence) (n : Nat) (h28 : F.fn 67) (hro : F.round = none) (hn : 1 ≤ n) (Bs B len cap : Nat) (A : Option Addr) (bs : List UInt8) (hl : bs.length = len) (hlc : len ≤ cap) (hmax : len ≤ 140737488351232)
    (w : World) (hBs : Bs < w.heap.size) (hB : B ≤ w.heap.size) (hc : w.cell? ⟨Bs, 0, none⟩ = some (.slice A len cap)) (hR : Rd w B A len (vByte bs)) :
    SeqStopsK F n Try.prog 67 #[.pointer (some ⟨Bs, 0, none⟩)] (fun x : Int => #[Value.int .u64 x]) (Keeps (WordsKept A len Bs)) (fun ys => ys = wordsI bs) (fun _ => True) (nwords bs) w := fun l J Jx W hW _ _ hY h0 =>
  words1_in F n h28 hro hn l Bs B len cap A bs hl hlc hmax J Jx hY W ((hW.cell (p := ⟨Bs, 0, none⟩) hBs).trans hc) (hR.below hW hB) h0

end Go.Proofs.Ytldmokjpfnakkaa

/- The walk of hash.Sum. -/
namespace Go.Proofs.Ytldmokjpfnakkaa
open Go.RowKit Go.Shelf
attribute [local go_sem] Oper.semAt_some

set_option maxRecDepth 100000 in
set_option maxHeartbeats 1000000 in
theorem hsum_any (label : ByteArray) (A : Option Addr) (len cap B : Nat) (ws : List Int) (w : World) (HL : Hid (ws.length = len)) (hlab : label.size ≤ 140737488351232) (hmax : len ≤ 140737488351232)
    (hB : B ≤ w.heap.size) (hR : Rd w B A len (vInt ws)) :
    Calls Try.prog 49 #[.string label, .slice A len cap] w fun e w' => e = .returned (.int .u64 (sumI label.data.toList ws)) ∧ Below w.heap.size w w' := by
  obtain ⟨c1, w1, hconv, hc1, hz1, hb1, hr1⟩ := conv_bytes (P := Try.prog) (w.alloc (.cells #[.int .u64 0] 42)) 9 23 5 label Try.underlying9 Try.underlying23 Try.underlying5
  rw [World.size_alloc] at hconv hz1 hb1 hr1
  have HZ := Lib.hid hz1; clear hz1
  refine (callsIn_wide (n := 5)).1 ?_
  refine callsIn_of_wp_marks Try.func49 rfl trivial ?_ rfl
  simp only [Try.ntmps49, List.size_toArray, List.length_cons, List.length_nil, Nat.reduceAdd, Nat.reduceSub, Array.replicate_succ, Array.replicate_zero, List.push_toArray, List.append_toArray, List.nil_append, List.cons_append]
  gi_wp2_with (refine ⟨trivial, ?_⟩; gi_at_call 48; refine (wordsOf_in Fence.wide _ trivial rfl _ _ _ _).mono ?_; rintro e w' ⟨rfl, rfl⟩)
  have bS1 : Boxed w1 w.heap.size 42 (.int .u64 0) := (hb1.block _ (by omega)).trans (Boxed.new w 42 (.int .u64 0))
  have bN := Boxed.new w1 23 (.slice (some ⟨w.heap.size + 1, 0, none⟩) label.size c1)
  have hB1 : Below w.heap.size w w1 := ((Below.refl _ w).alloc (Nat.le_refl _) (.cells #[.int .u64 0] 42)).trans (hb1.mono (by omega))
  have hB2 := hB1.alloc (by have := HZ.out; omega) (.cells #[.slice (some ⟨w.heap.size + 1, 0, none⟩) label.size c1] 23)
  refine wpIn_rangeFunc_ownG rfl (by decide) (gf := 67) (lb := #[.pointer (some ⟨w1.heap.size, 0, none⟩)]) rfl trivial (enters_of Try.func67 (by kernel_rfl) rfl)
    (words_stops Fence.wide _ trivial rfl (by decide) w1.heap.size (w.heap.size + 1 + 1) label.size c1 _ label.data.toList (by simp) hc1 hlab _ (by simp) (by have := HZ.out; simp; omega) bN.cell (hr1.alloc (by have := HZ.out; omega) _))
    (fun h k => h.trans k) ?hKb (Below.refl _ _) (fun _ => rfl)
    (fun pre W => Boxed W w.heap.size 42 (.int .u64 (mixAll 0 pre)) ∧ Below w.heap.size w W)
    (fun _ _ _ => False)
    (OwnFrom.and (Own.from (boxed_own _ _ _) _) (ownFrom_below (Nat.le_refl _) (by have := HZ.out; simp; omega)))
    (fun _ _ _ _ _ hs _ _ => hs)
    ⟨bS1.alloc _, hB2⟩
    (fun x => { tmps := #[.string label, .slice A len cap, undef, undef, .int .u64 0, .pointer (some ⟨w.heap.size, 0, none⟩), .int .u64 x, undef, undef, .string label, .slice (some ⟨w.heap.size + 1, 0, none⟩) label.size c1, .func (.func 67) #[] #[.pointer (some ⟨w1.heap.size, 0, none⟩)], .int .u64 x, undef, undef, undef, undef, undef, undef, undef, undef, undef, undef, undef, undef, undef, undef, undef, undef, undef, undef, undef, undef, undef, undef, undef, undef, undef, undef], defers := [] }) ?assign ?body ?done ?stop
  case hKb =>
    intro W l o o' hl hW _ _ k hk
    have hz := HZ.out
    rw [World.size_alloc] at hl
    refine World.putObj_heap_other ?_
    rcases hk with rfl | ⟨_, ad, h, rfl⟩
    · omega
    · injection h with h; subst h; simp; omega
  case assign =>
    intro l x W K hK
    gi_wp2
    exact hK
  case body =>
    rintro l pre x W ⟨hS, hB'⟩ _
    have hc := hS.cell
    have hf := hS.frozen
    gi_wp2_with (refine ⟨trivial, ?_⟩; gi_at_call 68; refine (CallsIn.inRound l (callsIn_wide.2 (mix_any _ _ _))).mono ?_; rintro e w' ⟨rfl, rfl⟩)
    refine ⟨(KeepsOthers.setCell _ _ _).from _, fun k hk => Below.heap_setCell _ _ _ _ ?_, by rw [mixAll_snoc]; exact hS.set _, hB'.setCell (p := ⟨w.heap.size, 0, none⟩) (Nat.le_refl _) _⟩
    have hz := HZ.out
    rcases hk with rfl | ⟨_, ad, h, rfl⟩
    · simp; omega
    · injection h with h; subst h; simp
  case done =>
    rintro D ys W hD rfl ⟨hS, hB'⟩ hK
    have hc := hS.cell
    have hf := hS.frozen
    gi_wp2_with (refine ⟨trivial, ?_⟩; gi_at_call 68; refine (callsIn_wide.2 (mix_any _ _ _)).mono ?_; rintro e w' ⟨rfl, rfl⟩)
    gi_loopw [8, 28] (fun _ i wr => ∃ j : Nat, j ≤ len ∧ i = .int .i64 (j : Int) ∧ Boxed wr w.heap.size 42 (.int .u64 (sumTo label.data.toList len ws j)) ∧ Below w.heap.size w wr ∧ Hid (wr.heap[D]? = some (.deferred (some []))))
      (fun _ i _ => len - (intOf i).toNat)
    case atStart =>
      exact ⟨0, by omega, rfl, by rw [sumTo_zero]; exact (hS.set _).set _, (hB'.setCell (p := ⟨w.heap.size, 0, none⟩) (Nat.le_refl _) _).setCell (p := ⟨w.heap.size, 0, none⟩) (Nat.le_refl _) _, (KeepsOthers.setCell _ _ _).same D _ ((KeepsOthers.setCell _ _ _).same D _ hK rfl) rfl⟩
    case round =>
      obtain ⟨j, hj, rfl, hS3, hB3, hK3⟩ := hrel
      have hc3 := hS3.cell
      have hf3 := hS3.frozen
      by_cases hlt : j < len
      · obtain ⟨b, off, rfl, hb, hcl⟩ := (hR.below hB3 hB).at_ hlt
        have hcl' : wr.cell? ⟨b, off + j, none⟩ = some (.int .i64 (ws[j]?.getD 0)) := hcl
        have HT := Lib.hid (sumTo_succ label.data.toList len ws j (by have := HL.out; omega))
        clear hcl
        gi_wp2_with (refine ⟨trivial, ?_⟩; gi_at_call 68; refine (callsIn_wide.2 (mix_any _ _ _)).mono ?_; rintro e w' ⟨rfl, rfl⟩)
        exact ⟨⟨j + 1, by omega, by go_num, by rw [HT.out]; exact hS3.set _, hB3.setCell (p := ⟨w.heap.size, 0, none⟩) (Nat.le_refl _) _, (KeepsOthers.setCell _ _ _).same D _ hK3.out rfl⟩, by simp [intOf]; omega⟩
      · obtain rfl : j = len := by omega
        gi_wp2_with (refine ⟨trivial, ?_⟩; gi_at_call 68; refine (callsIn_wide.2 (mix_any _ _ _)).mono ?_; rintro e w' ⟨rfl, rfl⟩)
        refine ⟨by simp, .inl ⟨_, _, rfl, run_takeDeferred hK3.out, ?_⟩⟩
        refine ⟨_, results_tmp rfl _ _ _, ?_, hB3.trans (belowK_b (w := w) (Nat.le_refl _) wr D _ _ (by have := HZ.out; simp at hD; omega) hK3.out rfl rfl)⟩
        rw [← sumTo_all _ _ _ HL.out]
        rfl
  case stop =>
    rintro D c pre W _ _ h _
    exact h.elim

end Go.Proofs.Ytldmokjpfnakkaa

/- The walks of hash.Bytes and hash.Pair. -/
namespace Go.Proofs.Ytldmokjpfnakkaa
open Go.RowKit Go.Shelf
attribute [local go_sem] Oper.semAt_some

theorem infoInt : (Try.prog.info? 3).map (fun i => (i.zero, i.size, i.bytes)) = some (some (.int .i64 0), 1, 8) := by kernel_rfl

theorem bytes_snoc_get (l : List UInt8) (x : UInt8) (j : Nat) (hj : j < l.length + 1) :
    (l.map (fun b => Value.int .u8 ((b.toNat : Nat) : Int)) ++ [Value.int .u8 ((x.toNat : Nat) : Int)])[j]? = some (vByte (l ++ [x]) j) := by
  simp only [vByte]
  rcases Nat.lt_or_ge j l.length with h | h
  · rw [List.getElem?_append_left (by simpa using h), List.getElem?_append_left (by simpa using h)]
    simp [h]
  · obtain rfl : j = l.length := by omega
    simp
theorem map_snoc_get (g : Int → Int) (l : List Int) (x : Int) (j : Nat) (hj : j < l.length + 1) :
    (l.map (fun y => Value.int .i64 (g y)) ++ [Value.int .i64 x])[j]? = some (vInt (l.map g ++ [x]) j) := by
  simp only [vInt]
  rcases Nat.lt_or_ge j l.length with h | h
  · rw [List.getElem?_append_left (by simpa using h), List.getElem?_append_left (by simpa using h)]
    simp [h]
  · obtain rfl : j = l.length := by omega
    simp

set_option maxRecDepth 100000 in
set_option maxHeartbeats 1000000 in
theorem hbytes_any (label : ByteArray) (A : Option Addr) (len cap B : Nat) (bs : List UInt8) (w : World) (HL : Hid (bs.length = len)) (hlab : label.size ≤ 140737488351232) (hlc : len ≤ cap) (hmax : len ≤ 35184372088832)
    (hB : B ≤ w.heap.size) (hR : Rd w B A len (vByte bs)) :
    Calls Try.prog 28 #[.string label, .slice A len cap] w fun e w' => e = .returned (.int .u64 (bytesI label.data.toList bs)) ∧ Below w.heap.size w w' := by
  obtain ⟨i0, hi, hz0, hz1, hz2⟩ := info_parts infoInt
  obtain ⟨w1, hmk, hown1, hb1, hz⟩ := make_rd (P := Try.prog) w 22 3 i0 _ 8 Try.underlying22 hi hz0 hz1 hz2 .i64 .i64 (len / 8 + 2) (by omega) (by unfold maxLen; omega)
  rw [show ((len / 8 + 2 : Nat) : Int) = (len : Int) / 8 + 2 from by omega] at hmk
  have HZ := Lib.hid hz; clear hz
  refine (callsIn_wide (n := 5)).1 ?_
  refine callsIn_of_wp_marks Try.func28 rfl trivial ?_ rfl
  simp only [Try.ntmps28, List.size_toArray, List.length_cons, List.length_nil, Nat.reduceAdd, Nat.reduceSub, Array.replicate_succ, Array.replicate_zero, List.push_toArray, List.append_toArray, List.nil_append, List.cons_append]
  gi_wp2_with (refine ⟨trivial, ?_⟩; gi_at_call 48; refine (wordsOf_in Fence.wide _ trivial rfl _ _ _ _).mono ?_; rintro e w' ⟨rfl, rfl⟩)
  have bX := Boxed.new w1 22 (.slice (some ⟨w.heap.size, 0, none⟩) 0 (len / 8 + 2))
  have bN := Boxed.new (w1.alloc (.cells #[.slice (some ⟨w.heap.size, 0, none⟩) 0 (len / 8 + 2)] 22)) 23 (.slice A len cap)
  rw [World.size_alloc] at bN
  have hB2 := (hb1.alloc (by have := HZ.out; omega) (.cells #[.slice (some ⟨w.heap.size, 0, none⟩) 0 (len / 8 + 2)] 22)).alloc (by have := HZ.out; simp; omega) (.cells #[.slice A len cap] 23)
  refine wpIn_rangeFunc_ownG rfl (by decide) (gf := 67) (lb := #[.pointer (some ⟨w1.heap.size + 1, 0, none⟩)]) rfl trivial (enters_of Try.func67 (by kernel_rfl) rfl)
    (words_stops Fence.wide _ trivial rfl (by decide) (w1.heap.size + 1) B len cap A bs HL.out hlc (by omega) _ (by simp) (by have := HZ.out; simp; omega) bN.cell (hR.below hB2 hB))
    (fun h k => h.trans k) ?hKb (Below.refl _ _) (fun _ => rfl)
    (fun (pre : List Int) W => (∃ v, Boxed W w1.heap.size 22 v ∧ W.ownsRow w.heap.size 3 1 v pre.length (pre.map fun x => Value.int .i64 (toI x)) ∧ True) ∧ Boxed W (w1.heap.size + 1) 23 (.slice A len cap) ∧ Below w.heap.size w W)
    (fun _ _ _ => False)
    (OwnFrom.and (Own.from (holdsRow_own w.heap.size w1.heap.size 22 3 1 (fun pre : List Int => pre.length) (fun pre : List Int => pre.map fun x => Value.int .i64 (toI x)) (fun _ _ => True)) _) (OwnFrom.and (Own.from (boxed_own _ _ _) _) (ownFrom_below (Nat.le_refl _) (by have := HZ.out; simp; omega))))
    (fun _ _ _ _ _ hs _ _ => hs)
    ⟨⟨_, bX.alloc _, (hown1.alloc _).alloc _, trivial⟩, bN, hB2⟩
    (fun x => { tmps := #[.string label, .slice A len cap, undef, undef, .int .u64 0, .pointer (some ⟨w1.heap.size, 0, none⟩), .int .u64 x, .slice A len cap, .int .i64 ↑len, .int .i64 (↑len / 8), .int .i64 (↑len / 8 + 2), .slice (some ⟨w.heap.size, 0, none⟩) 0 (len / 8 + 2), .slice A len cap, .func (.func 67) #[] #[.pointer (some ⟨w1.heap.size + 1, 0, none⟩)], .int .u64 x, undef, undef, undef, undef, undef, undef, undef, undef, undef, undef, undef, undef], defers := [] }) ?assign ?body ?done ?stop
  case hKb =>
    intro W l o o' hl hW _ _ k hk
    have hz := HZ.out
    simp only [World.size_alloc] at hl
    refine World.putObj_heap_other ?_
    rcases hk with rfl | ⟨h0, ad, h, rfl⟩
    · omega
    · obtain ⟨b, off, h', hb, _⟩ := hR h0
      rw [h] at h'
      injection h' with h'; subst h'; simp; omega
  case assign =>
    intro l x W K hK
    gi_wp2
    exact hK
  case body =>
    rintro l pre x W ⟨⟨v, hv, hrow, _⟩, hN, hB'⟩ hlt
    have hc := hv.cell
    have hnw : 8 * nwords bs ≤ len + 7 := by unfold nwords; have := HL.out; omega
    obtain ⟨g, c', w3, hap, hown3, hg3, hat3, hs3⟩ := run_append_one (P := Try.prog) W w.heap.size 22 22 3 i0 _ 8 Try.underlying22 hi hz0 hz1 hz2 rfl v pre.length _ hrow (.int .i64 (wrap64 x)) rfl (by unfold maxLen; omega) (by omega) hB'.size
    have hv3 : Boxed w3 w1.heap.size 22 v := hv.kept hg3 (hv.not_row (by decide) hrow)
    have hc3 := hv3.cell
    have hf3 := hv3.frozen
    have HA := Lib.hid hap; clear hap
    have hlt3 := hv.lt
    gi_wp2_with (gi_at_builtin; refine wpListIn_append_run HA.out rfl rfl rfl rfl ?_)
    have hne : ∀ k, v.ownBlock = some k → w.heap.size ≤ k ∧ k < W.heap.size := hrow.lt
    have hz := HZ.out
    refine ⟨((KeepsOthers.of_grownBy hg3 (own_cells hrow)).trans (KeepsOthers.setCell _ _ _)).from _, ?_, ⟨_, hv3.set _, ?_, trivial⟩, (hN.kept hg3 (hN.not_row (by decide) hrow)).other (by omega) _, (hB'.grown hg3 hB'.size (fun k e => (hne k e).1)).setCell (p := ⟨w1.heap.size, 0, none⟩) (by simp; omega) _⟩
    · intro k hk
      have hkW : k < W.heap.size ∧ k ≠ w1.heap.size ∧ some k ≠ v.ownBlock := by
        rcases hk with rfl | ⟨h0, ad, h, rfl⟩
        · exact ⟨hN.lt, by omega, hN.not_row (by decide) hrow⟩
        · obtain ⟨b, off, h', hb, _⟩ := hR h0
          rw [h] at h'
          injection h' with h'; subst h'
          refine ⟨by have := hB'.size; simp; omega, by simp; omega, fun e => ?_⟩
          have := (hne _ e.symm).1
          simp at this; omega
      exact (Below.heap_setCell _ _ _ _ (by simpa using hkW.2.1)).trans (hg3.block k hkW.1 hkW.2.2)
    · have := hown3.kept (grownBy_setCell' w3 w1.heap.size (.slice (some ⟨g, 0, none⟩) (pre.length + 1) c')) (.inr (hv3.not_row (by decide) hown3).symm)
      simpa [toI] using this
  case done =>
    rintro D ys W hD rfl ⟨⟨v, hv, hrow, _⟩, hN, hB'⟩ hK
    have hc := hv.cell
    have hnw : 8 * nwords bs ≤ len + 7 := by unfold nwords; have := HL.out; omega
    have hwl : (wordsI bs).length = nwords bs := wordsTo_length _ _
    have HW := Lib.hid hwl; clear hwl
    obtain ⟨g, c', w3, hap, hown3, hg3, hat3, hs3⟩ := run_append_one (P := Try.prog) W w.heap.size 22 22 3 i0 _ 8 Try.underlying22 hi hz0 hz1 hz2 rfl v _ _ hrow (.int .i64 len) rfl (by have := HW.out; unfold maxLen; omega) (by have := HW.out; omega) hB'.size
    have HA := Lib.hid hap; clear hap
    have hne : ∀ k, v.ownBlock = some k → w.heap.size ≤ k ∧ k < W.heap.size := hrow.lt
    have hB3 : Below w.heap.size w w3 := hB'.grown hg3 hB'.size (fun k e => (hne k e).1)
    have hR3 : Rd w3 w3.heap.size (some ⟨g, 0, none⟩) ((wordsI bs).length + 1) (vInt ((wordsI bs).map toI ++ [((bs.length : Nat) : Int)])) := (Rd.of_own hown3 (f := vInt ((wordsI bs).map toI ++ [((bs.length : Nat) : Int)])) (by
      intro j hj
      rw [← HL.out]
      exact map_snoc_get toI (wordsI bs) _ j hj)).2.2
    gi_wp2_with (first
      | (gi_at_builtin; refine wpListIn_append_run HA.out rfl rfl rfl rfl ?_)
      | (refine ⟨trivial, ?_⟩; gi_at_call 49; refine (callsIn_wide.2 (hsum_any _ _ _ _ w3.heap.size ((wordsI bs).map toI ++ [((bs.length : Nat) : Int)]) _ (by show _ = _; simp) hlab (by have := HW.out; omega) (Nat.le_refl _) hR3)).mono ?_; rintro e w4 ⟨rfl, hb4⟩))
    have hK4 : w4.heap[D]? = some (.deferred (some [])) := by
      have hlD := (Array.getElem?_eq_some_iff.1 hK).1
      refine (hb4.block D (by omega)).trans ((hg3.block D hlD (fun e => ?_)).trans hK)
      have := own_cells hrow D _ e.symm hK
      simp [Obj.isCells] at this
    refine ⟨by simp, .inl ⟨_, _, rfl, run_takeDeferred hK4, ?_⟩⟩
    have hz := HZ.out
    refine ⟨_, results_tmp rfl _ _ _, rfl, (hB3.trans (hb4.mono hB3.size)).trans (belowK_b (w := w) (Nat.le_refl _) w4 D _ _ (by simp at hD; omega) hK4 rfl rfl)⟩
  case stop =>
    rintro D c pre W _ _ h _
    exact h.elim


end Go.Proofs.Ytldmokjpfnakkaa

/- The walks of worldmintref01.Words, Sum, Bytes and Pair. -/
namespace Go.Proofs.Ytldmokjpfnakkaa
open Go.RowKit

theorem infoU64 : (Try.prog.info? 42).map (fun i => (i.zero, i.size, i.bytes)) = some (some (.int .u64 0), 1, 8) := by kernel_rfl

set_option maxRecDepth 100000 in
set_option maxHeartbeats 1000000 in
theorem rwords_any (A : Option Addr) (len cap B : Nat) (bs : List UInt8) (w : World) (HL : Hid (bs.length = len)) (_hlc : len ≤ cap) (hmax : len ≤ 35184372088832) (hB : B ≤ w.heap.size) (hR : Rd w B A len (vByte bs)) :
    Calls Try.prog 61 #[.slice A len cap] w fun e w' => ∃ A' c', e = .returned (.slice A' (nwords bs) c') ∧ w'.ownsRow w.heap.size 42 1 (.slice A' (nwords bs) c') (nwords bs) ((wordsI bs).map (Value.int .u64)) ∧ Below w.heap.size w w' := by
  obtain ⟨i0, hi, hz0, hz1, hz2⟩ := info_parts infoU64
  go_enter Try.func61, Try.ntmps61
  go_wp2
  go_loopw [3, 4] (fun v i wr => ∃ k s : Nat, Hid (s = 8 * k) ∧ s < len + 8 ∧ i = .int .i64 (s : Int) ∧ wr.ownsRow w.heap.size 42 1 v k ((wordsTo bs k).map (Value.int .u64)) ∧ Below w.heap.size w wr) (fun _ i _ => len + 8 - (intOf i).toNat)
  case atStart => exact ⟨0, 0, rfl, by omega, rfl, World.ownsRow_nil _ _ _ _, Below.refl _ _⟩
  case round =>
    obtain ⟨k, s, hs, hk, rfl, hown, hb⟩ := hrel
    obtain ⟨v3, rfl⟩ : ∃ x, x = u3 := ⟨_, rfl⟩
    by_cases hlt : s < len
    · obtain ⟨b, off, rfl, hbB, hc0⟩ := (hR.below hb hB) (by omega)
      have Hc : Hid (∀ r, r < (group bs k).length → wr.cell? ⟨b, off + (s + r), none⟩ = some (.int .u8 (((group bs k)[r]?.getD 0).toNat : Nat))) := by
        intro j hj
        rw [group_length] at hj
        rw [hc0 (s + j) (by have := HL.out; have := hs.out; omega)]
        simp only [vByte, group, hs.out, List.getElem?_take, List.getElem?_drop]
        rw [if_pos (by omega)]
      have Hl : Hid ((group bs k).length = min 8 (len - s)) := by show _ = _; rw [group_length, HL.out, hs.out]
      clear hc0
      by_cases h8 : s + 8 ≤ len
      · go_wp2
        go_loop [5, 6] (fun v i => ∃ r : Nat, r ≤ 8 ∧ i = .int .i64 ((s : Int) + r - 1) ∧ v = .int .u64 ((wordN ((group bs k).drop r) : Nat) : Int)) (fun _ i => (intOf i - s + 1).toNat)
        case atStart => exact ⟨8, by omega, by go_num, by rw [List.drop_eq_nil_of_le (by have := Hl.out; omega)]; rfl⟩
        case round =>
          obtain ⟨r, hr, rfl, rfl⟩ := hrel
          cases r with
          | zero =>
            obtain ⟨g, c', w3, hap, hown3, hg3, hat3, hs3⟩ := run_append_one (P := Try.prog) wr w.heap.size 98 98 42 i0 _ 8 Try.underlying98 hi hz0 hz1 hz2 rfl v3 k _ hown (.int .u64 ((wordN (group bs k) : Nat) : Int)) rfl (by have := hs.out; unfold maxLen; omega) (by have := hs.out; omega) hb.size
            have HA := Lib.hid hap; clear hap
            go_wp2_with (at_builtin; refine wpList_append_run HA.out rfl rfl rfl rfl ?_)
            refine ⟨⟨k + 1, s + 8, by show _ = _; rw [hs.out]; omega, by omega, by go_num, ?_, hb.grown hg3 hb.size (fun k e => (hown.lt k e).1)⟩, by simp [intOf]; omega⟩
            rw [wordsTo_succ, List.map_append]
            exact hown3
          | succ r =>
            have hcj := Hc.out r (by have := Hl.out; omega)
            have HS := Lib.hid (word_back (group bs k) r (by have := Hl.out; omega) (by have := Hl.out; omega))
            have e1 : (s : Int) + ((r + 1 : Nat) : Int) - 1 = ((s + r : Nat) : Int) := by omega
            rw [e1]
            go_wp2
            refine ⟨⟨r, by omega, by go_num, congrArg (Value.int .u64) HS.out⟩, by simp [intOf]; omega⟩
      · go_wp2
        go_loop [5, 6] (fun v i => ∃ r : Nat, r ≤ len - s ∧ i = .int .i64 ((s : Int) + r - 1) ∧ v = .int .u64 ((wordN ((group bs k).drop r) : Nat) : Int)) (fun _ i => (intOf i - s + 1).toNat)
        case atStart => exact ⟨len - s, by omega, by go_num, by rw [List.drop_eq_nil_of_le (by have := Hl.out; omega)]; rfl⟩
        case round =>
          obtain ⟨r, hr, rfl, rfl⟩ := hrel
          cases r with
          | zero =>
            obtain ⟨g, c', w3, hap, hown3, hg3, hat3, hs3⟩ := run_append_one (P := Try.prog) wr w.heap.size 98 98 42 i0 _ 8 Try.underlying98 hi hz0 hz1 hz2 rfl v3 k _ hown (.int .u64 ((wordN (group bs k) : Nat) : Int)) rfl (by have := hs.out; unfold maxLen; omega) (by have := hs.out; omega) hb.size
            have HA := Lib.hid hap; clear hap
            go_wp2_with (at_builtin; refine wpList_append_run HA.out rfl rfl rfl rfl ?_)
            refine ⟨⟨k + 1, s + 8, by show _ = _; rw [hs.out]; omega, by omega, by go_num, ?_, hb.grown hg3 hb.size (fun k e => (hown.lt k e).1)⟩, by simp [intOf]; omega⟩
            rw [wordsTo_succ, List.map_append]
            exact hown3
          | succ r =>
            have hcj := Hc.out r (by have := Hl.out; omega)
            have HS := Lib.hid (word_back (group bs k) r (by have := Hl.out; omega) (by have := Hl.out; omega))
            have e1 : (s : Int) + ((r + 1 : Nat) : Int) - 1 = ((s + r : Nat) : Int) := by omega
            rw [e1]
            go_wp2
            refine ⟨⟨r, by omega, by go_num, congrArg (Value.int .u64) HS.out⟩, by simp [intOf]; omega⟩
    · obtain ⟨A', c', rfl⟩ := own_slice hown
      have HN := Lib.hid (show nwords bs = k by unfold nwords; have := HL.out; have := hs.out; omega)
      go_wp2
      go_ret
      unfold wordsI
      rw [HN.out]
      exact ⟨A', c', rfl, hown, hb⟩

/-- The state behind the first j words of the label. -/
def labTo (label : List UInt8) (j : Nat) : Int := mixAll 0 (wordsTo label j)
theorem labTo_succ (label : List UInt8) (j : Nat) : labTo label (j + 1) = mixI (labTo label j) (wordAt label j) := by unfold labTo; rw [wordsTo_succ, mixAll_snoc]
theorem labTo_all (label : List UInt8) (n : Nat) (ws : List Int) : sumTo label n ws 0 = mixI (mixI (labTo label (nwords label)) (label.length : Nat)) (n : Nat) := rfl

set_option maxRecDepth 100000 in
set_option maxHeartbeats 1000000 in
theorem rsum_any (label : ByteArray) (A : Option Addr) (len cap B : Nat) (ws : List Int) (w : World) (HL : Hid (ws.length = len)) (hlab : label.size ≤ 35184372088832) (hmax : len ≤ 140737488351232)
    (hB : B ≤ w.heap.size) (hR : Rd w B A len (vInt ws)) :
    Calls Try.prog 62 #[.string label, .slice A len cap] w fun e w' => e = .returned (.int .u64 (sumI label.data.toList ws)) ∧ Below w.heap.size w w' := by
  obtain ⟨c1, w1, hconv, hc1, hz1, hb1, hr1⟩ := conv_bytes (P := Try.prog) w 9 23 5 label Try.underlying9 Try.underlying23 Try.underlying5
  have HZ := Lib.hid hz1; clear hz1
  go_enter Try.func62, Try.ntmps62
  go_wp2_with (go_at_call 61; refine (rwords_any _ _ _ (w.heap.size + 1) label.data.toList _ (by show _ = _; simp) hc1 hlab (by have := HZ.out; omega) hr1).mono ?_; rintro e w2 ⟨A', c', rfl, hown2, hb2⟩)
  have hb12 : Below w.heap.size w w2 := hb1.trans (hb2.mono hb1.size)
  have hr2 : Rd w2 w2.heap.size A' (nwords label.data.toList) (fun j => .int .u64 (wordAt label.data.toList j)) := (Rd.of_own hown2 (f := fun j => .int .u64 (wordAt label.data.toList j)) (by
    intro j hj
    simp [wordsI, wordsTo, hj])).2.2
  have hnw : nwords label.data.toList ≤ label.size := by unfold nwords; simp; omega
  generalize hN : nwords label.data.toList = nw at *
  have HN := Lib.hid hN; clear hN
  go_loop [5, 7] (fun v i => ∃ k : Nat, k ≤ nw ∧ i = .int .i64 (k : Int) ∧ v = .int .u64 (labTo label.data.toList k)) (fun _ i => nw - (intOf i).toNat)
  case atStart => exact ⟨0, by omega, rfl, rfl⟩
  case round =>
    obtain ⟨k, hk, rfl, rfl⟩ := hrel
    by_cases hlt : k < nw
    · obtain ⟨b, off, rfl, hbB, hc⟩ := hr2.at_ hlt
      have HS := Lib.hid (labTo_succ label.data.toList k)
      go_wp2_with (go_at_call 72; refine (rmix_any _ _ _).mono ?_; rintro e w' ⟨rfl, rfl⟩)
      exact ⟨⟨k + 1, by omega, by go_num, congrArg (Value.int .u64) HS.out.symm⟩, by simp [intOf]; omega⟩
    · obtain rfl : k = nw := by omega
      have HT := Lib.hid (labTo_all label.data.toList len ws)
      go_wp2_with (go_at_call 72; refine (rmix_any _ _ _).mono ?_; rintro e w' ⟨rfl, rfl⟩)
      go_loop [5, 8] (fun v i => ∃ j : Nat, j ≤ len ∧ i = .int .i64 (j : Int) ∧ v = .int .u64 (sumTo label.data.toList len ws j)) (fun _ i => len - (intOf i).toNat)
      case atStart => exact ⟨0, by omega, rfl, congrArg (Value.int .u64) (by rw [HT.out, HN.out]; simp)⟩
      case round =>
        obtain ⟨j, hj, rfl, rfl⟩ := hrel
        by_cases hlt : j < len
        · obtain ⟨b, off, rfl, hbB, hc⟩ := (hR.below hb12 hB).at_ hlt
          have hc' : w2.cell? ⟨b, off + j, none⟩ = some (.int .i64 (ws[j]?.getD 0)) := hc
          clear hc
          have HS := Lib.hid (sumTo_succ label.data.toList len ws j (by have := HL.out; omega))
          go_wp2_with (go_at_call 72; refine (rmix_any _ _ _).mono ?_; rintro e w' ⟨rfl, rfl⟩)
          exact ⟨⟨j + 1, by omega, by go_num, congrArg (Value.int .u64) HS.out.symm⟩, by simp [intOf]; omega⟩
        · obtain rfl : j = len := by omega
          have HE := Lib.hid (sumTo_all label.data.toList j ws HL.out)
          go_wp2_with (go_at_call 72; refine (rmix_any _ _ _).mono ?_; rintro e w' ⟨rfl, rfl⟩)
          go_ret
          rw [← HE.out]
          exact ⟨rfl, hb12⟩

set_option maxRecDepth 100000 in
set_option maxHeartbeats 1000000 in
theorem rbytes_any (label : ByteArray) (A : Option Addr) (len cap B : Nat) (bs : List UInt8) (w : World) (HL : Hid (bs.length = len)) (hlab : label.size ≤ 35184372088832) (hlc : len ≤ cap) (hmax : len ≤ 35184372088832)
    (hB : B ≤ w.heap.size) (hR : Rd w B A len (vByte bs)) :
    Calls Try.prog 41 #[.string label, .slice A len cap] w fun e w' => e = .returned (.int .u64 (bytesI label.data.toList bs)) ∧ Below w.heap.size w w' := by
  obtain ⟨i0, hi, hz0, hz1, hz2⟩ := info_parts infoInt
  go_enter Try.func41, Try.ntmps41
  go_wp2_with (go_at_call 61; refine (rwords_any _ _ _ B bs _ HL hlc hmax hB hR).mono ?_; rintro e w2 ⟨A', c', rfl, hown2, hb2⟩)
  have hr2 : Rd w2 w2.heap.size A' (nwords bs) (fun j => .int .u64 (wordAt bs j)) := (Rd.of_own hown2 (f := fun j => .int .u64 (wordAt bs j)) (by
    intro j hj
    simp [wordsI, wordsTo, hj])).2.2
  have hnw : 8 * nwords bs ≤ len + 7 := by unfold nwords; have := HL.out; omega
  clear hown2
  generalize hN : nwords bs = nw at *
  have HN := Lib.hid hN; clear hN
  go_loopw [6, 7] (fun v i wr => ∃ k : Nat, k ≤ nw ∧ i = .int .i64 (k : Int) ∧ wr.ownsRow w2.heap.size 3 1 v k ((wordsTo bs k).map fun x => Value.int .i64 (toI x)) ∧ Below w2.heap.size w2 wr) (fun _ i _ => nw - (intOf i).toNat)
  case atStart => exact ⟨0, by omega, rfl, World.ownsRow_nil _ _ _ _, Below.refl _ _⟩
  case round =>
    obtain ⟨k, hk, rfl, hown, hb⟩ := hrel
    obtain ⟨v6, rfl⟩ : ∃ x, x = u6 := ⟨_, rfl⟩
    by_cases hlt : k < nw
    · obtain ⟨b, off, rfl, hbB, hc⟩ := (hr2.below hb (Nat.le_refl _)).at_ hlt
      obtain ⟨g, c3, w3, hap, hown3, hg3, hat3, hs3⟩ := run_append_one (P := Try.prog) wr w2.heap.size 22 22 3 i0 _ 8 Try.underlying22 hi hz0 hz1 hz2 rfl v6 k _ hown (.int .i64 (wrap64 (wordAt bs k))) rfl (by unfold maxLen; omega) (by omega) hb.size
      have HA := Lib.hid hap; clear hap
      go_wp2_with (at_builtin; refine wpList_append_run HA.out rfl rfl rfl rfl ?_)
      refine ⟨⟨k + 1, by omega, by go_num, ?_, hb.grown hg3 hb.size (fun k e => (hown.lt k e).1)⟩, by simp [intOf]; omega⟩
      rw [wordsTo_succ, List.map_append]
      exact hown3
    · obtain rfl : k = nw := by omega
      obtain ⟨g, c3, w3, hap, hown3, hg3, hat3, hs3⟩ := run_append_one (P := Try.prog) wr w2.heap.size 22 22 3 i0 _ 8 Try.underlying22 hi hz0 hz1 hz2 rfl v6 k _ hown (.int .i64 len) rfl (by unfold maxLen; omega) (by omega) hb.size
      have HA := Lib.hid hap; clear hap
      have hb3 : Below w2.heap.size w2 w3 := hb.grown hg3 hb.size (fun k e => (hown.lt k e).1)
      have hw : wordsTo bs k = wordsI bs := by unfold wordsI; rw [HN.out]
      have hl : (wordsI bs).length = k := by rw [← hw]; exact wordsTo_length _ _
      have hR3 : Rd w3 w3.heap.size (some ⟨g, 0, none⟩) (k + 1) (vInt ((wordsI bs).map toI ++ [((bs.length : Nat) : Int)])) := (Rd.of_own hown3 (f := vInt ((wordsI bs).map toI ++ [((bs.length : Nat) : Int)])) (by
        intro j hj
        rw [← HL.out, hw]
        exact map_snoc_get toI (wordsI bs) _ j (by omega))).2.2
      have HW := Lib.hid hl
      clear hw hl
      go_wp2_with (first
        | (at_builtin; refine wpList_append_run HA.out rfl rfl rfl rfl ?_)
        | (go_at_call 62; refine (rsum_any _ _ _ _ w3.heap.size ((wordsI bs).map toI ++ [((bs.length : Nat) : Int)]) _ (by show _ = _; have := HW.out; simp; omega) hlab (by omega) (Nat.le_refl _) hR3).mono ?_; rintro e w4 ⟨rfl, hb4⟩))
      go_ret
      exact ⟨rfl, (hb2.trans (hb3.mono hb2.size)).trans (hb4.mono (Nat.le_trans hb2.size hb3.size))⟩

end Go.Proofs.Ytldmokjpfnakkaa

/- journal: the walk of Frame; the reference's Core and Frame. -/
namespace Go.Proofs.Ytldmokjpfnakkaa
open Go.RowKit

theorem Wr.mod {w w' : World} {B gd : Nat} {bs : List UInt8} {F : Nat → Prop} (h : Wr w B gd bs) (m : Mod F w w') (hF : ∀ b, b < w.heap.size → ¬ F b) : Wr w' B gd bs := by
  obtain ⟨h0, A, n, c, h1, h2, h3⟩ := h
  exact ⟨h0, A, n, c, h1, m.blk h2 (hF _ h2.lt), m.own h3 (fun g e => hF g (h3.lt g e).2)⟩
set_option maxRecDepth 100000 in
set_option maxHeartbeats 1000000 in
theorem frame_any (k : Int) (A : Option Addr) (n c : Nat) (bs : List UInt8) (w : World) (HL : Hid (bs.length = n)) (hk1 : -9223372036854775808 ≤ k) (hk2 : k ≤ 9223372036854775807) (hn : n ≤ 1099511627776) (hR : Rd w w.heap.size A n (vByte bs)) :
    Calls Try.prog 12 #[.int .i64 k, .slice A n c] w (RetB (frameB k bs) w) := by
  have HR := Lib.hid hR
  clear hR
  have HK := Lib.hid (coreB_len (k := k) (bs := bs) ⟨hk1, hk2⟩ (by rw [HL.out]; omega))
  have hl1 : (encInt k).length ≤ 10 := encInt_len hk1 hk2
  have HW1 := Lib.hid (Wr.new w)
  have HB1 := Lib.hid ((Below.refl w.heap.size w).alloc (Nat.le_refl _) (.cells #[.slice none 0 0] 37))
  have hsz : (w.alloc (.cells #[.slice none 0 0] 37)).heap.size = w.heap.size + 1 := World.size_alloc _ _
  have HSZ := Lib.hid hsz
  clear hsz
  go_enter Try.func12, Try.ntmps12
  go_wp2_with fail
  refine (wint_any w.heap.size w.heap.size [] k _ HW1 hk1 hk2 (by simp)).mono ?_
  rintro e w2 ⟨rfl, hW2, hb2⟩
  have hB2 := HB1.out.trans hb2
  have hz2 := hW2.lt.2
  clear hb2
  go_wp2_with fail
  refine (wraw_any w.heap.size w.heap.size _ bs _ n _ w.heap.size _ (Lib.hid hW2) HL (by omega) (HR.out.below hB2 (Nat.le_refl _)) (Nat.le_refl _) (by simp only [List.nil_append]; omega)).mono ?_
  rintro e w3 ⟨rfl, hW3, hb3⟩
  have hB3 := hB2.trans hb3
  have hz3 := hW3.lt.2
  replace hW3 : Wr w3 w.heap.size w.heap.size (coreB k bs) := by simpa [coreB] using hW3
  clear hb3 hB2 hz2 hW2 HW1 HB1 HSZ
  have hb4 := (Below.refl w3.heap.size w3).alloc (Nat.le_refl _) (.cells #[.slice none 0 0] 37)
  have hV4 := WrV.new w3
  have hW4 := hW3.all hb4
  have hB4 := hB3.trans (hb4.mono (by omega))
  have hsz4 : (w3.alloc (.cells #[.slice none 0 0] 37)).heap.size = w3.heap.size + 1 := World.size_alloc _ _
  have HSZ4 := Lib.hid hsz4
  clear hb4 hsz4
  go_wp2_with fail
  generalize w3.alloc (.cells #[.slice none 0 0] 37) = w4 at *
  refine (wdone_any w.heap.size w.heap.size (coreB k bs) _ (Lib.hid hW4) (by have := HK.out; have := HL.out; omega)).mono ?_
  rintro e w5 ⟨A5, n5, c5, rfl, hnc5, hc5, HN5, hown5, hR5, hb5⟩
  have hn5 : n5 ≤ n + 20 := by have := HK.out; have := HL.out; have := HN5.out; omega
  have hV5 := hV4.all hb5
  have hW5 := hW4.all hb5
  have hB5 := hB4.trans (hb5.mono (by have := HSZ4.out; omega))
  have hF5 : ∀ b off, A5 = some ⟨b, off, none⟩ → 0 < n5 → ¬ WF w3.heap.size (.slice none 0 0) b := by
    intro b off e hp hf
    obtain ⟨g, eg, hg, _⟩ := own_some hown5 hp
    rw [e] at eg
    injection eg with eg
    injection eg with eg _ _
    rcases hf with rfl | hf
    · have := HSZ4.out
      omega
    · cases hf
  have HF5 := Lib.hid hF5
  clear hF5 hown5 hb5 hV4 hW4 hB4
  go_wp2_with fail
  refine (wrawV_any w3.heap.size _ [] (coreB k bs) _ n5 _ _ (Lib.hid hV5) HN5 (by omega) hR5 HF5.out (by simp)).mono ?_
  rintro e w6 ⟨rfl, v6, hV6, m6, o6⟩
  have hW6 : Wr w6 w.heap.size w.heap.size (coreB k bs) := by
    obtain ⟨h0, A, n, c, h1, h2, h3⟩ := hW3
    obtain ⟨g0, A', n', c', g1, g2, g3⟩ := hW5
    exact ⟨g0, A', n', c', g1, m6.blk g2 (by
      rintro (e | e)
      · have := h2.lt
        omega
      · cases e), m6.own g3 (by
      rintro g e (e2 | e2)
      · exact absurd (Ty.of_own g3 e) (fun ht => by rw [e2] at ht; exact absurd (Ty.unique hV5.1.ty ht) (by decide))
      · cases e2)⟩
  have hB6 := m6.below hB5 hB5.size (by
    rintro b (rfl | e)
    · have := hB3.size; exact this
    · cases e)
  have hV6' : WrV w6 w3.heap.size v6 (encRaw (coreB k bs)) := by simpa using hV6
  have HO6 : Hid (∀ b, v6.ownBlock = some b → w.heap.size ≤ b) := Lib.hid (fun b e => by
    rcases o6 with o | o
    · rw [o] at e
      cases e
    · have := o b e
      have := hB5.size
      omega)
  clear hV6 m6 hV5 hW5 hB5 hR5 HF5 HN5 o6
  go_wp2_with fail
  refine (wdone_any w.heap.size w.heap.size (coreB k bs) _ (Lib.hid hW6) (by have := HK.out; have := HL.out; omega)).mono ?_
  rintro e w7 ⟨A7, n7, c7, rfl, hnc7, hc7, HN7, hown7, hR7, hb7⟩
  have hn7 : n7 ≤ n + 20 := by have := HK.out; have := HL.out; have := HN7.out; omega
  have hV7 := hV6'.all hb7
  have hB7 := hB6.trans (hb7.mono hB6.size)
  clear hown7 hb7 hV6' hB6 hW6
  go_wp2_with fail
  refine (hbytes_any _ _ n7 _ _ (coreB k bs) _ HN7 (by decide) (by omega) (by omega) (Nat.le_refl _) hR7).mono ?_
  rintro e w8 ⟨rfl, hb8⟩
  have hV8 := hV7.all hb8
  have hB8 := hB7.trans (hb8.mono hB7.size)
  clear hb8 hV7 hB7 hR7
  go_wp2_with fail
  refine (wuintV_any w3.heap.size v6 (encRaw (coreB k bs)) (recN (coreB k bs)) _ (recN_eq _) _ (Lib.hid hV8) (recN_lt _) (by have := (encRaw_len (bs := coreB k bs) (by have := HN7.out; omega)).2; have := HN7.out; omega)).mono ?_
  rintro e w9 ⟨rfl, v9, hV9, m9, o9⟩
  have hB9 := m9.below hB8 hB8.size (by
    rintro b (rfl | e)
    · have := hB3.size; exact this
    · exact HO6.out b e)
  go_wp2_with fail
  refine (wdone_any 0 w3.heap.size (frameB k bs) _ (Lib.hid hV9.wr) (by have := frameB_len (k := k) (bs := bs) ⟨hk1, hk2⟩ (by rw [HL.out]; omega); have := HL.out; omega)).mono ?_
  rintro e w10 ⟨A10, n10, c10, rfl, hnc10, hc10, HN10, hown10, hR10, hb10⟩
  go_wp2
  go_ret
  exact ⟨A10, n10, c10, rfl, HN10, own_lower hown10 hB9.size, hB9.trans (hb10.mono hB9.size)⟩
end Go.Proofs.Ytldmokjpfnakkaa
