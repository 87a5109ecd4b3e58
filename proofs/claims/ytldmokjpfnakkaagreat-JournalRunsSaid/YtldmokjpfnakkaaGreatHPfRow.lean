/- proof: rows of structs that are read; sets of ints. -/
import Derived.Test.YtldmokjpfnakkaaGreatHG1
import Derived.Test.YtldmokjpfnakkaaGreatHG2

namespace Go.Proofs.YtldmokjpfnakkaaGreat
open Go.RowKit

/-- A slice of structs of some cells each, that is read. -/
structure Rows {α : Type} (f : α → List Value) (size : Nat) (w : World) (s : Sl) (L : List α) : Prop where
  len : L.length = s.2.1
  cap : s.2.1 ≤ s.2.2
  max : s.2.2 ≤ 9223372036854775807
  rd : Rd w w.heap.size s.1 (L.length * size) (fun j => ((L.flatMap f)[j]?).getD undef)
section
variable {α : Type} {f : α → List Value} {size : Nat} {w w' : World} {s : Sl} {L : List α}
theorem Rows.all (h : Rows f size w s L) (hb : Below w.heap.size w w') : Rows f size w' s L := ⟨h.len, h.cap, h.max, h.rd.all hb⟩
theorem Rows.nil : Rows f size w (none, 0, 0) [] := ⟨rfl, Nat.le_refl _, by simp, by simpa using Rd.nil⟩
theorem flat_len (hf : ∀ x, (f x).length = size) (L : List α) : (L.flatMap f).length = L.length * size := by
  induction L with
  | nil => simp
  | cons x L ih => rw [List.flatMap_cons, List.length_append, ih, hf, List.length_cons, Nat.add_mul]; omega
theorem flat_at (hf : ∀ x, (f x).length = size) : ∀ (L : List α) (k i : Nat) (hk : k < L.length), i < size → (L.flatMap f)[k * size + i]? = (f L[k])[i]?
  | [], k, i, hk, _ => absurd hk (by simp)
  | x :: L, 0, i, hk, hi => by
    rw [List.flatMap_cons, Nat.zero_mul, Nat.zero_add, List.getElem?_append_left (by rw [hf]; exact hi)]
    rfl
  | x :: L, k + 1, i, hk, hi => by
    rw [List.flatMap_cons, Nat.add_mul, Nat.one_mul, List.getElem?_append_right (by rw [hf]; omega), hf]
    have e : k * size + size + i - size = k * size + i := by omega
    rw [e, flat_at hf L k i (by simpa using hk) hi]
    rfl
theorem Rows.cells (hf : ∀ x, (f x).length = size) (h : Rows f size w s L) {k : Nat} (hk : k < L.length) (hs : 0 < size) : ∃ b off, s.1 = some ⟨b, off, none⟩ ∧ b < w.heap.size ∧ ∀ i v, (f L[k])[i]? = some v → w.cell? ⟨b, off + (k * size + i), none⟩ = some v := by
  obtain ⟨b, off, e, hb, hc⟩ := h.rd (Nat.mul_pos (by omega) hs)
  refine ⟨b, off, e, hb, fun i v hv => ?_⟩
  have hi : i < size := by
    have := (List.getElem?_eq_some_iff.1 hv).1
    rw [hf] at this
    exact this
  have hlt : k * size + i < L.length * size := by
    have h1 : (k + 1) * size ≤ L.length * size := Nat.mul_le_mul_right _ hk
    rw [Nat.add_mul, Nat.one_mul] at h1
    omega
  rw [hc _ hlt]
  dsimp only
  rw [flat_at hf L k i hk hi, hv]
  rfl
theorem Rows.of_own {base e n c : Nat} {A : Option Addr} (hf : ∀ x, (f x).length = size) (h : w.ownsRow base e size (.slice A n c) n (L.flatMap f)) (hs : 0 < size) : Rows f size w (A, n, c) L := by
  have hl : L.length = n := by
    have := h.1
    rw [flat_len hf] at this
    exact Nat.eq_of_mul_eq_mul_right hs this
  rcases h.2 with ⟨h2, h0⟩ | ⟨g, cap, cur, h2, hbg, hh, hnc, hcm, hcs, htk⟩
  · injection h2 with h2 h3 h4
    subst h2 h3 h4
    refine ⟨hl, Nat.le_refl _, by simp, ?_⟩
    rw [hl, Nat.zero_mul]
    exact Rd.nil
  · injection h2 with h2 _ h3
    subst h2 h3
    refine ⟨hl, hnc, hcm, fun _ => ⟨g, 0, rfl, (Array.getElem?_eq_some_iff.1 hh).1, fun j hj => ?_⟩⟩
    rw [hl] at hj
    have hmul : n * size ≤ c * size := Nat.mul_le_mul_right _ hnc
    have hj2 : j < cur.size := by rw [hcs]; omega
    dsimp only
    rw [Nat.zero_add, ← htk, List.getElem?_take_of_lt hj]
    simp [World.cell?, hh, hj2]
end
/-- A bid, and its slice of lots. -/
structure Bd where
  bidder : Int
  price : Int
  s : Sl
  lots : List Int
def Bd.cells (b : Bd) : List Value := [.int .i64 b.bidder, .int .i64 b.price, slV b.s]
theorem Bd.cells_length (b : Bd) : b.cells.length = 3 := rfl
def Bd.val (b : Bd) : Value := .agg #[.int .i64 b.bidder, .int .i64 b.price, slV b.s]
def Bd.ok (w : World) (b : Bd) : Prop := NIn w w.heap.size b.s b.lots
theorem NIn.all {w w' : World} {s : Sl} {xs : List Int} (h : NIn w w.heap.size s xs) (hb : Below w.heap.size w w') : NIn w' w'.heap.size s xs := (h.keep (fun b hlt => hb.block b hlt)).more hb.size
theorem Bd.ok.all {w w' : World} {b : Bd} (h : b.ok w) (hb : Below w.heap.size w w') : b.ok w' := NIn.all h hb
/-- A list of bids. -/
structure Bds (w : World) (s : Sl) (L : List Bd) : Prop where
  rows : Rows Bd.cells 3 w s L
  ok : ∀ b ∈ L, b.ok w
theorem Bds.all {w w' : World} {s : Sl} {L : List Bd} (h : Bds w s L) (hb : Below w.heap.size w w') : Bds w' s L := ⟨h.rows.all hb, fun b hb' => (h.ok b hb').all hb⟩
theorem Bds.cell {w : World} {s : Sl} {L : List Bd} (h : Bds w s L) {k : Nat} (hk : k < L.length) : ∃ b off, s.1 = some ⟨b, off, none⟩ ∧ b < w.heap.size ∧ w.cell? ⟨b, off + k * 3, none⟩ = some (.int .i64 L[k].bidder) ∧ w.cell? ⟨b, off + k * 3 + 1, none⟩ = some (.int .i64 L[k].price) ∧ w.cell? ⟨b, off + k * 3 + 2, none⟩ = some (slV L[k].s) ∧ L[k].ok w := by
  obtain ⟨b, off, e, hb, hc⟩ := h.rows.cells Bd.cells_length hk (by decide)
  exact ⟨b, off, e, hb, hc 0 _ rfl, hc 1 _ rfl, hc 2 _ rfl, h.ok _ (List.getElem_mem hk)⟩
/-- A node of a certificate, and its slice of prices. -/
structure Nd where
  bid : Int
  inn : Int
  out : Int
  s : Sl
  prices : List Int
def Nd.cells (x : Nd) : List Value := [.int .i64 x.bid, .int .i64 x.inn, .int .i64 x.out, slV x.s]
theorem Nd.cells_length (x : Nd) : x.cells.length = 4 := rfl
def Nd.ok (w : World) (x : Nd) : Prop := NIn w w.heap.size x.s x.prices
theorem Nd.ok.all {w w' : World} {x : Nd} (h : x.ok w) (hb : Below w.heap.size w w') : x.ok w' := NIn.all h hb
structure Nds (w : World) (s : Sl) (L : List Nd) : Prop where
  rows : Rows Nd.cells 4 w s L
  ok : ∀ b ∈ L, b.ok w
theorem Nds.all {w w' : World} {s : Sl} {L : List Nd} (h : Nds w s L) (hb : Below w.heap.size w w') : Nds w' s L := ⟨h.rows.all hb, fun b hb' => (h.ok b hb').all hb⟩
theorem Nds.cell {w : World} {s : Sl} {L : List Nd} (h : Nds w s L) {k : Nat} (hk : k < L.length) : ∃ b off, s.1 = some ⟨b, off, none⟩ ∧ b < w.heap.size ∧ w.cell? ⟨b, off + k * 4, none⟩ = some (.int .i64 L[k].bid) ∧ w.cell? ⟨b, off + k * 4 + 1, none⟩ = some (.int .i64 L[k].inn) ∧ w.cell? ⟨b, off + k * 4 + 2, none⟩ = some (.int .i64 L[k].out) ∧ w.cell? ⟨b, off + k * 4 + 3, none⟩ = some (slV L[k].s) ∧ L[k].ok w := by
  obtain ⟨b, off, e, hb, hc⟩ := h.rows.cells Nd.cells_length hk (by decide)
  exact ⟨b, off, e, hb, hc 0 _ rfl, hc 1 _ rfl, hc 2 _ rfl, hc 3 _ rfl, h.ok _ (List.getElem_mem hk)⟩
/-- A cell of a slice of ints. -/
theorem NIn.cell {w : World} {B : Nat} {s : Sl} {xs : List Int} (h : NIn w B s xs) {k : Nat} (hk : k < s.2.1) : ∃ b off, s.1 = some ⟨b, off, none⟩ ∧ b < B ∧ w.cell? ⟨b, off + k, none⟩ = some (.int .i64 (xs[k]?.getD 0)) := h.rd.at_ hk
/-- A map[int]bool that holds the set S. -/
def SetAt (w : World) (mb : Nat) (S : List Int) : Prop := ∃ es, IMap w mb es ∧ (∀ p ∈ es, p.2 = .bool true) ∧ ∀ x, x ∈ es.map Prod.fst ↔ x ∈ S
theorem SetAt.all {w w' : World} {mb : Nat} {S : List Int} (h : SetAt w mb S) (hb : Below w.heap.size w w') : SetAt w' mb S := by
  obtain ⟨es, h1, h2, h3⟩ := h
  exact ⟨es, h1.all hb, h2, h3⟩
theorem SetAt.grown {w w' : World} {mb : Nat} {S : List Int} {r : Option Nat} (h : SetAt w mb S) (hg : w.grownBy w' r) (hne : r ≠ some mb) : SetAt w' mb S := by
  obtain ⟨es, h1, h2, h3⟩ := h
  exact ⟨es, h1.keep (hg.block mb h1.lt (fun e => hne e.symm)), h2, h3⟩
theorem SetAt.lt {w : World} {mb : Nat} {S : List Int} (h : SetAt w mb S) : mb < w.heap.size := by
  obtain ⟨es, h1, -⟩ := h
  exact h1.lt
theorem SetAt.new (w : World) : SetAt (w.alloc (.map #[] 0)) w.heap.size [] := ⟨[], IMap.new w, fun _ h => absurd h (by simp), by simp⟩
theorem SetAt.congr {w : World} {mb : Nat} {S T : List Int} (h : SetAt w mb S) (he : ∀ x, x ∈ S ↔ x ∈ T) : SetAt w mb T := by
  obtain ⟨es, h1, h2, h3⟩ := h
  exact ⟨es, h1, h2, fun x => (h3 x).trans (he x)⟩
theorem infoBool : ∃ i, Tryz.prog.info? 4 = some i ∧ i.zero = some (.bool false) := by
  have h : (Tryz.prog.info? 4).map (fun i => i.zero) = some (some (.bool false)) := by kernel_rfl
  obtain ⟨i, hi, hz⟩ := Option.map_eq_some_iff.1 h
  exact ⟨i, hi, hz⟩
theorem put_mem {es : List (Int × Value)} {k : Int} {v : Value} {p : Int × Value} (h : p ∈ put es k v) : p = (k, v) ∨ p ∈ es := by
  induction es with
  | nil => simp [put] at h; exact .inl h
  | cons q es ih =>
    unfold put at h
    split at h
    · rcases List.mem_cons.1 h with h | h
      · exact .inl h
      · exact .inr (List.mem_cons_of_mem _ h)
    · rcases List.mem_cons.1 h with h | h
      · exact .inr (by rw [h]; exact List.mem_cons_self)
      · exact (ih h).imp id (List.mem_cons_of_mem _)
end Go.Proofs.YtldmokjpfnakkaaGreat
