/- Words for a slice of byte slices: read, owned, appended to. -/
import Derived.Test.YtklkppmmnlachaaLaw
import Derived.Test.YtklkppmmnlachaaRowIs
import Derived.Deep.Matrix
import Derived.Lib.Hide
namespace Go.Proofs.Ytklkppmmnlachaa
open Go.RowKit Go.ChangeShapes Go.WideShapes Go.ChangeAt

/-- The slice '.slice A n c' holds slices that read as L. -/
def RdRows (w : World) (A : Option Addr) (n : Nat) (L : List (List UInt8)) : Prop :=
  L.length = n ∧ ∃ S : Nat → Sl, Rd w w.heap.size A n (fun j => slV (S j)) ∧ ∀ j, j < n → RowIs w (S j) (L[j]?.getD [])
theorem RdRows.all {w w' : World} {A : Option Addr} {n : Nat} {L : List (List UInt8)} (h : RdRows w A n L) (hb : Below w.heap.size w w') : RdRows w' A n L := by
  obtain ⟨hl, S, h1, h2⟩ := h
  exact ⟨hl, S, h1.all hb, fun j hj => (h2 j hj).all hb⟩
theorem RdRows.at_ {w : World} {A : Option Addr} {n k : Nat} {L : List (List UInt8)} (h : RdRows w A n L) (hk : k < n) :
    ∃ b off A' m c' bs, A = some ⟨b, off, none⟩ ∧ b < w.heap.size ∧ w.cell? ⟨b, off + k, none⟩ = some (.slice A' m c') ∧ Hid (bs = L[k]?.getD []) ∧ Hid (bs.length = m) ∧ m ≤ c' ∧ c' ≤ 9223372036854775807 ∧ Rd w w.heap.size A' m (vByte bs) := by
  obtain ⟨_, S, h1, h2⟩ := h
  obtain ⟨b, off, e, hb, hc⟩ := h1.at_ hk
  have h := h2 k hk
  exact ⟨b, off, (S k).1, (S k).2.1, (S k).2.2, _, e, hb, hc, Lib.hid rfl, Lib.hid h.len, h.cap, h.max, h.rd⟩

/-- The slice v owns its row of slices, which read as L and lie outside of it. -/
def OwnRows (w : World) (base : Nat) (e : TypeId) (v : Value) (k : Nat) (L : List (List UInt8)) : Prop :=
  L.length = k ∧ ∃ S : Nat → Sl, w.ownsRow base e 1 v k ((List.range k).map fun j => slV (S j)) ∧ ∀ j, j < k → RowIs w (S j) (L[j]?.getD []) ∧ ∀ b off, 0 < (S j).2.1 → (S j).1 = some ⟨b, off, none⟩ → some b ≠ v.ownBlock
theorem OwnRows.nil (w : World) (base : Nat) (e : TypeId) : OwnRows w base e (.slice none 0 0) 0 [] := ⟨rfl, fun _ => (none, 0, 0), World.ownsRow_nil _ _ _ _, fun j hj => absurd hj (by omega)⟩
theorem OwnRows.all {w w' : World} {base k : Nat} {e : TypeId} {v : Value} {L : List (List UInt8)} (h : OwnRows w base e v k L) (hb : Below w.heap.size w w') : OwnRows w' base e v k L := by
  obtain ⟨hl, S, h1, h2⟩ := h
  exact ⟨hl, S, own_keep h1 hb, fun j hj => ⟨(h2 j hj).1.all hb, (h2 j hj).2⟩⟩
theorem OwnRows.rd {w : World} {base k m c : Nat} {e : TypeId} {A : Option Addr} {L : List (List UInt8)} (h : OwnRows w base e (.slice A m c) k L) : m = k ∧ k ≤ c ∧ c ≤ 9223372036854775807 ∧ RdRows w A m L := by
  obtain ⟨hl, S, h1, h2⟩ := h
  obtain ⟨rfl, h3, h4⟩ := Rd.of_own h1 (f := fun j => slV (S j)) (fun j hj => by simp [hj])
  exact ⟨rfl, h3, own_cap h1, hl, S, h4, fun j hj => (h2 j hj).1⟩
theorem OwnRows.slice {w : World} {base k : Nat} {e : TypeId} {v : Value} {L : List (List UInt8)} (h : OwnRows w base e v k L) : ∃ A c, v = .slice A k c := by
  obtain ⟨_, S, h1, _⟩ := h
  exact own_slice h1

/-- One row more: the append's run and what it leaves. -/
theorem OwnRows.snoc {P : Program} {w w1 : World} {base k : Nat} {t e : TypeId} {i : TypeInfo} {z : Value} (ht : P.underlying t = some (.slice e)) (hi : P.info? e = some i) (hz : i.zero = some z)
    (hsize : i.size = 1) (hby : i.bytes = 24) (hzs : z.cells.size = 1) {v : Value} {L : List (List UInt8)} (h : OwnRows w base e v k L) (hb : Below w.heap.size w w1) (s : Sl) (bs : List UInt8) (hs : RowIs w1 s bs)
    (hnew : ∀ b off, 0 < s.2.1 → s.1 = some ⟨b, off, none⟩ → w.heap.size ≤ b) (hk : k ≤ 1000000) (hbase : base ≤ w.heap.size) :
    ∃ g cap w', (Builtin.append_ #[t, t] t #[v, .slice (some ⟨w1.heap.size, 0, none⟩) 1 1]).run P (w1.alloc (.cells #[slV s] e)) = .ok (.slice (some ⟨g, 0, none⟩) (k + 1) cap) w' ∧
      OwnRows w' base e (.slice (some ⟨g, 0, none⟩) (k + 1) cap) (k + 1) (L ++ [bs]) ∧ Below base w w' := by
  obtain ⟨hl, S, h1, h2⟩ := h
  have hbs := hb.size
  obtain ⟨g, cap, w', hrun, hown, hg, hgg, hsz⟩ := run_append_one (P := P) w1 base t t e i z 24 ht hi hz hsize hby hzs v k _ (own_keep h1 hb) (slV s) rfl (by unfold maxLen; omega) (by omega) (by omega)
  have hvb : ∀ r, v.ownBlock = some r → base ≤ r ∧ r < w.heap.size := by
    intro r hr
    rcases h1.2 with ⟨rfl, _⟩ | ⟨g', cap', cur, rfl, hg', hh, _⟩
    · simp [Value.ownBlock] at hr
    · obtain rfl : g' = r := by simpa [Value.ownBlock] using hr
      exact ⟨hg', (Array.getElem?_eq_some_iff.1 hh).1⟩
  have hlt : ∀ (w : World) (s : Sl) (bs : List UInt8), RowIs w s bs → ∀ b off, 0 < s.2.1 → s.1 = some ⟨b, off, none⟩ → b < w.heap.size := by
    intro w s bs hr b off hp e0
    obtain ⟨b', off', e', hlt, _⟩ := hr.rd hp
    rw [e0] at e'; cases e'; exact hlt
  have happ : ∀ (s : Sl) (bs : List UInt8), RowIs w1 s bs → (∀ b off, 0 < s.2.1 → s.1 = some ⟨b, off, none⟩ → some b ≠ v.ownBlock) → RowIs w' s bs ∧ ∀ b off, 0 < s.2.1 → s.1 = some ⟨b, off, none⟩ → some b ≠ some g := by
    intro s bs hr ha
    refine ⟨hr.grown hg ha, fun b off hp e0 => ?_⟩
    rcases hgg with hgg | hgg
    · rw [hgg]; exact ha b off hp e0
    · have := hlt w1 s bs hr b off hp e0
      intro h; injection h; omega
  refine ⟨g, cap, w', hrun, ⟨by simp [hl], fun j => if j < k then S j else s, ?_, ?_⟩, ?_⟩
  · rw [List.range_succ, List.map_append]
    have e1 : (List.range k).map (fun j => slV (if j < k then S j else s)) = (List.range k).map fun j => slV (S j) := List.map_congr_left fun j hj => by rw [if_pos (List.mem_range.1 hj)]
    rw [e1]
    simpa using hown
  · intro j hj
    simp only
    rcases (show j < k ∨ j = k by omega) with h | rfl
    · rw [if_pos h, List.getElem?_append_left (by omega)]
      exact happ _ _ ((h2 j h).1.all hb) (h2 j h).2
    · rw [if_neg (by omega)]
      have e2 : (L ++ [bs])[j]?.getD [] = bs := by rw [List.getElem?_append_right (by omega), hl]; simp
      rw [e2]
      refine happ _ _ hs fun b off hp e0 h => ?_
      have := hnew b off hp e0
      have := (hvb b h.symm).2
      omega
  · exact (hb.mono hbase).grown hg (by omega) (fun r hr => (hvb r hr).1)

section
variable {H : Type} {enc : TypeId × Value → H} {P : Program}
/-- A slice of byte slices that came in. -/
theorem open_rows {t e q : TypeId} {W : World} {v : Value} {d : DataW H} {ps : List MemPlace} {r : Reach} {b0 : Nat} (ht : P.underlying t = some (.slice e)) (he : P.underlying e = some (.slice q)) (hq : P.underlying q = some (.int .u8))
    (ce : P.cellsOf e = 1) (cq : P.cellsOf q = 1) (hval : Value.okWide P W r b0 t v) (h : DataW.Trod enc P W 0 (fun _ => true) true t v d ps) :
    ∃ (A : Option Addr) (n c : Nat) (L : List (List UInt8)), v = .slice A n c ∧ n ≤ c ∧ c ≤ 9223372036854775807 ∧ RdRows W A n L := by
  obtain ⟨a0, len, cap, rfl⟩ := okWide_slice ht hval
  obtain ⟨fuel, hf⟩ := h
  have addE : ∀ (a : Addr) (v : Value), W.cell? (a.add 0) = some v → ∃ b off, a = ⟨b, off, none⟩ ∧ b < W.heap.size ∧ ∀ j, a.add j = ⟨b, off + j, none⟩ := by
    intro a v h0
    have hs := cell_spot h0
    have ea : a.add 0 = a := by simp [Addr.add]
    rw [ea] at hs
    refine ⟨a.block, a.off, by cases a; simp_all, hs.2, fun j => ?_⟩
    unfold Addr.add
    split
    · rename_i h; subst h; cases a; simp_all
    · cases a; simp_all
  rcases Deep.open_int_rows ht he hq ce cq hf with ⟨hcs, hx⟩ | ⟨a, len', cap', A, L, C, Z, hcs, _, hl, hm, hx, hrow⟩
  · simp [Value.cells] at hcs
    obtain ⟨rfl, rfl, rfl⟩ := hcs
    exact ⟨none, 0, 0, [], rfl, by omega, by omega, rfl, fun _ => (none, 0, 0), Rd.nil, fun j hj => absurd hj (by omega)⟩
  · simp [Value.cells] at hcs
    obtain ⟨rfl, rfl, rfl⟩ := hcs
    refine ⟨some a, len, cap, (List.range len).map fun r => (List.range (L r)).map fun i => UInt8.ofNat ((Z r).getD i 0).toNat, rfl, hl, (by simpa [maxLen] using hm), by simp, fun r => (A r, L r, C r), ?_, ?_⟩
    · intro hn
      obtain ⟨b, off, rfl, hb, ha⟩ := addE a _ (hrow 0 (by omega)).1
      exact ⟨b, off, rfl, hb, fun j hj => by rw [← ha j]; exact (hrow j (by omega)).1⟩
    · intro j hj
      obtain ⟨_, h1, h2, h3, h4, h5, h6⟩ := hrow j (by omega)
      have e1 : ((List.range len).map fun r => (List.range (L r)).map fun i => UInt8.ofNat ((Z r).getD i 0).toNat)[j]?.getD [] = (List.range (L j)).map fun i => UInt8.ofNat ((Z j).getD i 0).toNat := by simp [hj]
      rw [e1]
      refine ⟨by simp, h1, by simpa [maxLen] using h2, fun hn => ?_⟩
      simp only at hn
      cases hA : A j with
      | none => have := h5 hA; omega
      | some a' =>
        obtain ⟨_, h7⟩ := h6 a' hA
        obtain ⟨b, off, rfl, hb, ha⟩ := addE a' _ (h7 0 (by omega))
        refine ⟨b, off, by simp [hA], hb, fun i hi => ?_⟩
        simp only at hi
        rw [← ha i, h7 i (by omega)]
        have hz : (Z j).getD i 0 ∈ Z j := by
          have : (Z j).getD i 0 = (Z j)[i]'(by omega) := by simp [List.getD, show i < (Z j).length by omega]
          rw [this]; exact List.getElem_mem _
        have hw := wf_u8 (h4 _ hz)
        simp only [List.getD_eq_getElem?_getD] at hw
        simp only [vByte]
        congr 2
        simp [hi]
        omega
end

end Go.Proofs.Ytklkppmmnlachaa
