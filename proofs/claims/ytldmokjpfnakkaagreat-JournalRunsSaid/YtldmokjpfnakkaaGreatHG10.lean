/- The walk of worldmintref02.Vals. -/
import Derived.Test.YtldmokjpfnakkaaGreatHG9

namespace Go.Proofs.YtldmokjpfnakkaaGreat
open Go.RowKit

/-- A value as Vals makes them. -/
structure GoodV (v : V) : Prop where
  fit : FitV v
  small : v.b.length ≤ 9 ∧ v.l.length ≤ 4
  norm : v = ⟨0, v.u, 0, [], []⟩ ∨ v = ⟨1, 0, v.n, [], []⟩ ∨ v = ⟨2, 0, 0, [], []⟩ ∨ v = ⟨2, 0, 1, [], []⟩ ∨ v = ⟨3, 0, 0, v.b, []⟩ ∨ v = ⟨4, 0, 0, v.b, []⟩ ∨ v = ⟨5, 0, 0, [], v.l⟩

theorem tdiv6 {x : Int} (h1 : -9223372036854775808 ≤ x) (h2 : x ≤ 9223372036854775807) : -9223372036854775808 ≤ x.tdiv 6 ∧ x.tdiv 6 ≤ 9223372036854775807 := by
  by_cases h : 0 ≤ x
  · rw [Int.tdiv_eq_ediv_of_nonneg h]; omega
  · obtain ⟨y, rfl⟩ : ∃ y, x = -y := ⟨-x, by omega⟩
    rw [Int.neg_tdiv, Int.tdiv_eq_ediv_of_nonneg (by omega)]; omega
theorem byte_of_wf8 (z : Int) : ∃ y : UInt8, IntKind.u8.wrap z = ((y.toNat : Nat) : Int) := by
  have h : 0 ≤ IntKind.u8.wrap z ∧ IntKind.u8.wrap z < 256 := by
    simp [IntKind.wrap, IntKind.bits, IntKind.signed]
    omega
  exact ⟨UInt8.ofNat (IntKind.u8.wrap z).toNat, by rw [UInt8.toNat_ofNat']; omega⟩
theorem good_snoc {vs : List V} {v : V} (h : ∀ y ∈ vs, GoodV y) (hv : GoodV v) : ∀ y ∈ vs ++ [v], GoodV y := by
  intro y hy
  rcases List.mem_append.1 hy with h1 | h1
  · exact h y h1
  · rw [List.mem_singleton] at h1; subst h1; exact hv
theorem inI0 : InI 0 := ⟨by decide, by decide⟩
theorem inI1 : InI 1 := ⟨by decide, by decide⟩
theorem wrap_byte (z : Int) : ∃ y : UInt8, IntKind.u8.wrap z = ((y.toNat : Nat) : Int) := byte_of_wf8 z
theorem good0 {u : Nat} (h : u ≤ 18446744073709551615) : GoodV ⟨0, u, 0, [], []⟩ := ⟨⟨h, inI0, by simp, by simp, by simp⟩, by simp, .inl rfl⟩
theorem good1 {n : Int} (h : InI n) : GoodV ⟨1, 0, n, [], []⟩ := ⟨⟨by simp, h, by simp, by simp, by simp⟩, by simp, .inr (.inl rfl)⟩
theorem good2 {n : Int} (h1 : 0 ≤ n) (h2 : n ≤ 1) : GoodV ⟨2, 0, n, [], []⟩ := by
  rcases (show n = 0 ∨ n = 1 by omega) with rfl | rfl
  · exact ⟨⟨by simp, inI0, by simp, by simp, by simp⟩, by simp, .inr (.inr (.inl rfl))⟩
  · exact ⟨⟨by simp, inI1, by simp, by simp, by simp⟩, by simp, .inr (.inr (.inr (.inl rfl)))⟩
theorem good34 {k : Int} {b : List UInt8} (hk : k = 3 ∨ k = 4) (hb : b.length ≤ 9) : GoodV ⟨k, 0, 0, b, []⟩ := by
  refine ⟨⟨by simp, inI0, by simp only; omega, by simp, by simp⟩, ⟨hb, by simp⟩, ?_⟩
  rcases hk with rfl | rfl
  · exact .inr (.inr (.inr (.inr (.inl rfl))))
  · exact .inr (.inr (.inr (.inr (.inr (.inl rfl)))))
theorem good5 {l : List Int} (hl : l.length ≤ 4) (hr : ∀ j : Nat, -9223372036854775808 ≤ l[j]?.getD 0 ∧ l[j]?.getD 0 ≤ 9223372036854775807) : GoodV ⟨5, 0, 0, [], l⟩ :=
  ⟨⟨by simp, inI0, by simp, by simp only; omega, hr⟩, ⟨by simp, hl⟩, .inr (.inr (.inr (.inr (.inr (.inr rfl)))))⟩
theorem shr_u64 (x : Int) (m : Nat) : ∃ u : Nat, (u : Int) = IntKind.u64.wrap x / 2 ^ m ∧ u ≤ 18446744073709551615 := by
  have h0 : 0 ≤ IntKind.u64.wrap x ∧ IntKind.u64.wrap x ≤ 18446744073709551615 := by rw [wrap_u64]; omega
  obtain ⟨y, hy⟩ := Int.eq_ofNat_of_zero_le h0.1
  rw [hy] at h0 ⊢
  exact ⟨y / 2 ^ m, by rw [Int.natCast_ediv, Int.natCast_pow]; rfl, Nat.le_trans (Nat.div_le_self _ _) (by omega)⟩
theorem shr_i64 {x : Int} (m : Nat) (h : InI x) : InI (x / 2 ^ m) := by
  obtain ⟨h1, h2⟩ := h
  have hp : (0 : Int) < 2 ^ m := Int.pow_pos (by decide)
  constructor
  · rw [Int.le_ediv_iff_mul_le hp]
    have : (-9223372036854775808 : Int) * 2 ^ m ≤ -9223372036854775808 * 1 := Int.mul_le_mul_of_nonpos_left (by decide) (by omega)
    omega
  · have : x / 2 ^ m ≤ 9223372036854775807 / 2 ^ m := Int.ediv_le_ediv hp h2
    have h3 : (9223372036854775807 : Int) / 2 ^ m ≤ 9223372036854775807 := Int.ediv_le_self _ (by decide)
    omega
theorem range_snoc {bs : List Int} {x : Int} (h : ∀ i : Nat, -9223372036854775808 ≤ bs[i]?.getD 0 ∧ bs[i]?.getD 0 ≤ 9223372036854775807) (hx : InI x) : ∀ i : Nat, -9223372036854775808 ≤ (bs ++ [x])[i]?.getD 0 ∧ (bs ++ [x])[i]?.getD 0 ≤ 9223372036854775807 := by
  intro i
  by_cases hi : i < bs.length
  · rw [List.getElem?_append_left hi]; exact h i
  · rw [List.getElem?_append_right (by omega)]
    by_cases h2 : i = bs.length
    · subst h2; simp only [Nat.sub_self, List.getElem?_cons_zero, Option.getD_some]; exact hx
    · rw [List.getElem?_eq_none (by simp; omega)]; simp
end Go.Proofs.YtldmokjpfnakkaaGreat

/- Plain Lean: values that are written and read. -/
namespace Go.Proofs.YtldmokjpfnakkaaGreat
open Go.RowKit

theorem inI_mem {l : List Int} (h : ∀ j : Nat, -9223372036854775808 ≤ l[j]?.getD 0 ∧ l[j]?.getD 0 ≤ 9223372036854775807) : ∀ n ∈ l, InI n := by
  intro n hn
  obtain ⟨j, hj, rfl⟩ := List.getElem_of_mem hn
  have := h j
  rw [List.getElem?_eq_getElem hj] at this
  exact this
theorem unzigI_zero : unzigI 0 = 0 := by decide
theorem readV_err {kind : Int} {rest : List UInt8} {err : Int} (he : err ≠ 0) : readV kind rest err = (err, ⟨kind, 0, 0, [], []⟩, []) := by
  have hu : readU rest err = (err, 0, []) := if_neg he
  have hb : readB rest err = (err, false, []) := if_neg he
  have hr : readRaw rest err = (err, [], []) := if_neg he
  have hi : readInts rest err = (err, [], []) := if_neg he
  unfold readV
  rw [hu, hb, hr, hi]
  simp only [unzigI_zero]
  split
  · rfl
  · split
    · rfl
    · split
      · rfl
      · split <;> rfl
/-- Round trip of a value. -/
theorem readV_enc {v : V} (h : GoodV v) (r : List UInt8) : readV v.kind (encV v ++ r) 0 = (0, v, r) := by
  have hf := h.fit
  have hu : ∀ n, n ≤ 18446744073709551615 → readU (varint n ++ r) 0 = (0, n, r) := fun n hn => decU_enc hn r
  rcases h.norm with e | e | e | e | e | e | e
  all_goals
    generalize v.u = u at *
    generalize v.n = n at *
    generalize v.b = b at *
    generalize v.l = l at *
    subst e
  · show ((readU (varint u ++ r) 0).1, (⟨0, (readU (varint u ++ r) 0).2.1, 0, [], []⟩ : V), (readU (varint u ++ r) 0).2.2) = _
    rw [hu u hf.u]
  · show ((readU (encInt n ++ r) 0).1, (⟨1, 0, unzigI (readU (encInt n ++ r) 0).2.1, [], []⟩ : V), (readU (encInt n ++ r) 0).2.2) = _
    rw [show readU (encInt n ++ r) 0 = (0, zigI n, r) from decU_int hf.n r, unzig_zig]
  · rfl
  · rfl
  · show ((readRaw (encRaw b ++ r) 0).1, (⟨3, 0, 0, (readRaw (encRaw b ++ r) 0).2.1, []⟩ : V), (readRaw (encRaw b ++ r) 0).2.2) = _
    rw [show readRaw (encRaw b ++ r) 0 = (0, b, r) from decRaw_enc (show b.length ≤ 18446744073709551615 from by have := hf.b; simp only at this; omega) r]
  · show ((readRaw (encRaw b ++ r) 0).1, (⟨4, 0, 0, (readRaw (encRaw b ++ r) 0).2.1, []⟩ : V), (readRaw (encRaw b ++ r) 0).2.2) = _
    rw [show readRaw (encRaw b ++ r) 0 = (0, b, r) from decRaw_enc (show b.length ≤ 18446744073709551615 from by have := hf.b; simp only at this; omega) r]
  · show ((readInts (encInts l ++ r) 0).1, (⟨5, 0, 0, [], (readInts (encInts l ++ r) 0).2.1⟩ : V), (readInts (encInts l ++ r) 0).2.2) = _
    rw [show readInts (encInts l ++ r) 0 = (0, l, r) from decInts_enc (show l.length ≤ 18446744073709551615 from by have := hf.l; simp only at this; omega) (inI_mem hf.li) r]
end Go.Proofs.YtldmokjpfnakkaaGreat

/- Several values appended at once. -/
namespace Go.Proofs.YtldmokjpfnakkaaGreat
open Go.RowKit

/-- append of several elements of several cells: the walk lays them into a block of its own first. -/
theorem run_append_elems {P : Program} (w : World) (base : Nat) (t ty e : TypeId) (i : TypeInfo) (z : Value) (size bytes : Nat) (ht : P.underlying t = some (.slice e)) (hi : P.info? e = some i) (hz : i.zero = some z)
    (hsize : i.size = size) (hby : i.bytes = bytes) (hzs : z.cells.size = size) (hsz : 0 < size)
    (v : Value) (n m : Nat) (hm : 0 < m) (xs : List Value) (hown : w.ownsRow base e size v n xs) (cs : Array Value) (hcs : cs.size = m * size) (h1 : ∀ u ∈ cs.toList, u.oneCell' = true)
    (h63 : n + m ≤ maxLen) (hbytes : (n + m) * bytes ≤ 140737488355328) (hbase : base ≤ w.heap.size) :
    ∃ g cap w', (Builtin.append_ #[t, t] ty #[v, .slice (some ⟨w.heap.size, 0, none⟩) m m]).run P (w.alloc (.cells cs e)) = .ok (.slice (some ⟨g, 0, none⟩) (n + m) cap) w' ∧ w'.ownsRow base e size (.slice (some ⟨g, 0, none⟩) (n + m) cap) (n + m) (xs ++ cs.toList) ∧
      w.grownBy w' v.ownBlock ∧ (some g = v.ownBlock ∨ g = w.heap.size + 1) ∧ w.heap.size < w'.heap.size := by
  obtain ⟨v', w', hrun, h2, h3, _, h5⟩ := run_append_own_at (P := P) (w.alloc (.cells cs e)) base t ty e i z size bytes ht hi hz hsize hby hzs hsz v n xs (hown.alloc _) ⟨w.heap.size, 0, none⟩ m m cs.toList (by simp [hcs]) (World.news_of_block (World.alloc_heap_new w _)) h1 h63 hbytes (by simp; omega)
  obtain ⟨m', rfl⟩ : ∃ m', m = m' + 1 := ⟨m - 1, by omega⟩
  obtain ⟨g, cap, rfl⟩ := ownsRow_succ (k := n + m') h2
  refine ⟨g, cap, w', hrun, h2, (World.grownBy_alloc w _ _).trans h3, ?_, ?_⟩
  · rcases h5 with h5 | h5
    · exact .inl (by simpa [Value.ownBlock] using h5)
    · exact .inr (by simpa [Value.ownBlock] using h5)
  · have := h3.size
    simp at this
    omega
theorem Rdr.drew {w : World} {B gd : Nat} {rest : List UInt8} {err : Int} (h : Rdr w B gd rest err) : Rdr w.drew B gd rest err := h
theorem only_undrew {w w' : World} {row : Option Nat} (h : w.drew.grownBy w' row) : w.grownBy w' row := ⟨h.os, h.tape, h.output, h.size, h.block⟩
/-- The values' kinds and what is left of their encoding. -/
def encFrom (vs : List V) (k : Nat) : List UInt8 := (vs.drop k).flatMap encV
theorem encFrom_zero (vs : List V) : encFrom vs 0 = vs.flatMap encV := rfl
theorem encTo_all (vs : List V) (n : Nat) (h : vs.length ≤ n) : encTo vs n = vs.flatMap encV := by unfold encTo; rw [List.take_of_length_le h]
theorem encFrom_succ (vs : List V) (k : Nat) (hk : k < vs.length) : encFrom vs k = encV (vs[k]?.getD V0) ++ encFrom vs (k + 1) := by
  unfold encFrom
  rw [List.drop_eq_getElem_cons hk, List.flatMap_cons]
  simp [hk]
theorem encFrom_end (vs : List V) (k : Nat) (h : vs.length ≤ k) : encFrom vs k = [] := by unfold encFrom; rw [List.drop_eq_nil_of_le h]; rfl
theorem fit_of_good {vs : List V} (h : ∀ y ∈ vs, GoodV y) : ∀ j : Nat, FitV (vs[j]?.getD V0) := by
  intro j
  by_cases hj : j < vs.length
  · rw [List.getElem?_eq_getElem hj]; exact (h _ (List.getElem_mem _)).fit
  · rw [List.getElem?_eq_none (by omega)]
    exact ⟨by simp [V0], inI0, by simp [V0], by simp [V0], by simp [V0]⟩
theorem good_at {vs : List V} (h : ∀ y ∈ vs, GoodV y) {j : Nat} (hj : j < vs.length) : GoodV (vs[j]?.getD V0) := by
  rw [List.getElem?_eq_getElem hj]; exact h _ (List.getElem_mem _)
end Go.Proofs.YtldmokjpfnakkaaGreat
