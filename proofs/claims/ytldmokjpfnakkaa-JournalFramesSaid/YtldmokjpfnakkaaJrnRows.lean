/- Lists of slices of bytes (a [][]byte), by their blocks' types. -/
import Derived.Test.YtldmokjpfnakkaaFrame2
import Derived.Test.YtldmokjpfnakkaaRefHelp
import Derived.Test.YtldmokjpfnakkaaRowIs
namespace Go.Proofs.Ytldmokjpfnakkaa
open Go.RowKit

structure Bz where
  A : Option Addr
  n : Nat
  c : Nat
  bs : List UInt8
def Bz.val (z : Bz) : Value := .slice z.A z.n z.c
def Bz.ok (w : World) (z : Bz) : Prop := Bts w z.A z.n z.c z.bs
/-- A [][]byte that is read. -/
def LsAt (w : World) (A : Option Addr) (n c : Nat) (L : List Bz) : Prop :=
  L.length = n ∧ n ≤ c ∧ c ≤ 9223372036854775807 ∧ (0 < n → ∃ b off cs fr, A = some ⟨b, off, none⟩ ∧ w.heap[b]? = some (.cells cs 23 fr) ∧ ∀ (j : Nat) (hj : j < L.length), cs[off + j]? = some L[j].val) ∧ ∀ z ∈ L, z.ok w
/-- A [][]byte of the call's own. -/
def LsOwn (w : World) (base : Nat) (v : Value) (L : List Bz) : Prop := w.ownsRow base 23 1 v L.length (L.map Bz.val) ∧ ∀ z ∈ L, z.ok w
theorem slT_rows : SlT Try.prog 27 23 1 24 := SlT.of Try.underlying27 (by kernel_rfl) (by decide)
section
variable {w w' : World} {base : Nat} {v : Value} {L : List Bz} {F : Nat → Prop} {A : Option Addr} {n c : Nat}
theorem Bz.ok.mod {z : Bz} (h : z.ok w) (m : Mod F w w') (hF : ∀ b, F b → ¬ Ty w b 5) : z.ok w' := Bts.mod h m hF
theorem Bz.ok.all {z : Bz} (h : z.ok w) (hb : Below w.heap.size w w') : z.ok w' := Bts.all h hb
theorem LsOwn.nil (w : World) (base : Nat) : LsOwn w base (.slice none 0 0) [] := ⟨World.ownsRow_nil _ _ _ _, fun _ h => absurd h (by simp)⟩
theorem LsOwn.mod (h : LsOwn w base v L) (m : Mod F w w') (hv : ∀ g, v.ownBlock = some g → ¬ F g) (hF : ∀ b, F b → ¬ Ty w b 5) : LsOwn w' base v L := ⟨m.own h.1 hv, fun z hz => (h.2 z hz).mod m hF⟩
theorem LsOwn.all (h : LsOwn w base v L) (hb : Below w.heap.size w w') : LsOwn w' base v L := ⟨own_keep h.1 hb, fun z hz => (h.2 z hz).all hb⟩
theorem LsOwn.lower {base' : Nat} (h : LsOwn w base v L) (hb : base' ≤ base) : LsOwn w base' v L := ⟨own_lower h.1 hb, h.2⟩
theorem LsOwn.slice (h : LsOwn w base v L) : ∃ A c, v = .slice A L.length c := own_slice h.1
theorem LsOwn.at_ {m : Nat} (h : LsOwn w base (.slice A m c) L) : m = L.length ∧ LsAt w A m c L := by
  have hc := own_cap h.1
  obtain ⟨h1, h2⟩ := h
  rcases h1.2 with ⟨h3, h0⟩ | ⟨g, cap, cur, h3, _, hh, hnc, hm, hcs, htk⟩
  · injection h3 with h4 h5 h6
    subst h5 h6
    exact ⟨h0.symm, h0, by omega, by omega, fun h => absurd h (by omega), h2⟩
  · injection h3 with h4 h5 h6
    subst h5 h6 h4
    refine ⟨rfl, rfl, hnc, hc, fun hn => ⟨g, 0, cur, _, rfl, hh, fun j hj => ?_⟩, h2⟩
    have : (cur.toList.take (L.length * 1))[j]? = (L.map Bz.val)[j]? := by rw [htk]
    rw [List.getElem?_take, if_pos (by omega)] at this
    simpa [hj] using this
theorem LsAt.mod (h : LsAt w A n c L) (m : Mod F w w') (hR : ∀ b off, A = some ⟨b, off, none⟩ → Ty w b 23 → ¬ F b) (hF : ∀ b, F b → ¬ Ty w b 5) : LsAt w' A n c L := by
  obtain ⟨h1, h2, h3, h4, h5⟩ := h
  refine ⟨h1, h2, h3, fun hn => ?_, fun z hz => (h5 z hz).mod m hF⟩
  obtain ⟨b, off, cs, fr, e, hh, hc⟩ := h4 hn
  exact ⟨b, off, cs, fr, e, (m.block b (Array.getElem?_eq_some_iff.1 hh).1 (hR b off e ⟨_, _, hh⟩)).trans hh, hc⟩
theorem LsAt.all (h : LsAt w A n c L) (hb : Below w.heap.size w w') : LsAt w' A n c L := h.mod (F := fun _ => False) (Mod.of_below _ hb) (fun _ _ _ _ hf => hf) (fun _ hf => hf.elim)
theorem LsAt.cell (h : LsAt w A n c L) {k : Nat} (hk : k < n) : ∃ b off z, A = some ⟨b, off, none⟩ ∧ w.cell? ⟨b, off + k, none⟩ = some (.slice z.A z.n z.c) ∧ L[k]? = some z ∧ z.ok w := by
  obtain ⟨h1, h2, h3, h4, h5⟩ := h
  obtain ⟨b, off, cs, fr, e, hh, hc⟩ := h4 (by omega)
  have hk' : k < L.length := by omega
  refine ⟨b, off, L[k], e, ?_, by simp [hk'], h5 _ (List.getElem_mem _)⟩
  have := hc k hk'
  simp only [World.cell?, hh]
  simpa [Bz.val] using this
/-- append of one slice of bytes. -/
theorem LsOwn.snoc {ty : TypeId} (h : LsOwn w base v L) (z : Bz) (hz : z.ok w) (hL : L.length < 1099511627776) (hbase : base ≤ w.heap.size) :
    ∃ g cap w', (Builtin.append_ #[27, 27] ty #[v, .slice (some ⟨w.heap.size, 0, none⟩) 1 1]).run Try.prog (w.alloc (.cells #[.slice z.A z.n z.c] 23)) = .ok (.slice (some ⟨g, 0, none⟩) (L.length + 1) cap) w' ∧
      LsOwn w' base (.slice (some ⟨g, 0, none⟩) (L.length + 1) cap) (L ++ [z]) ∧ w.grownBy w' v.ownBlock ∧ (some g = v.ownBlock ∨ w.heap.size ≤ g) := by
  obtain ⟨g, cap, w', hrun, h2, h3, h4⟩ := run_append1 (ty := ty) (w := w.alloc (.cells #[.slice z.A z.n z.c] 23)) slT_rows (h.1.alloc _) (Blk.new w 23 #[.slice z.A z.n z.c]) rfl (by intro u hu; simp at hu; subst hu; rfl) (by omega) (by decide) (by simp; omega)
  have hg := (World.grownBy_alloc w (.cells #[.slice z.A z.n z.c] 23) v.ownBlock).trans h3
  refine ⟨g, cap, w', hrun, ⟨?_, ?_⟩, hg, h4.imp id (fun e => by rw [e]; simp)⟩
  · rw [List.map_append, List.length_append]
    exact h2
  · have m : Mod (fun b => v.ownBlock = some b) w w' := Mod.of_grown hg (fun g e => .inl e)
    intro y hy
    rcases List.mem_append.1 hy with hy | hy
    · exact (h.2 y hy).mod m (fun b e ht => absurd (Ty.unique (Ty.of_own h.1 e) ht) (by decide))
    · simp at hy
      subst hy
      exact hz.mod m (fun b e ht => absurd (Ty.unique (Ty.of_own h.1 e) ht) (by decide))
end
/-- Slices of bytes that are read, whatever their blocks. -/
def Bz.rd (w : World) (z : Bz) : Prop := BIn w w.heap.size (z.A, z.n, z.c) z.bs
theorem Bz.rd.len {w : World} {z : Bz} (h : z.rd w) : z.bs.length = z.n := BIn.len h
theorem Bz.rd.cap {w : World} {z : Bz} (h : z.rd w) : z.n ≤ z.c := BIn.cap h
theorem Bz.rd.max {w : World} {z : Bz} (h : z.rd w) : z.c ≤ 9223372036854775807 := BIn.max h
theorem Bz.rd.rd {w : World} {z : Bz} (h : z.rd w) : Rd w w.heap.size z.A z.n (vByte z.bs) := BIn.rd h
theorem Bz.ok.rd {w : World} {z : Bz} (h : z.ok w) : z.rd w := ⟨h.1, h.2.1, h.2.2.1, Bts.rd h⟩
theorem Bz.rd.all {w w' : World} {z : Bz} (h : z.rd w) (hb : Below w.heap.size w w') : z.rd w' := (BIn.keep h (fun b hlt => hb.block b hlt)).more hb.size
def LsOwnR (w : World) (base : Nat) (v : Value) (L : List Bz) : Prop := w.ownsRow base 23 1 v L.length (L.map Bz.val) ∧ ∀ z ∈ L, z.rd w
def valAt (L : List Bz) (j : Nat) : Value := (L[j]?).elim undef Bz.val
/-- A [][]byte that is read, whatever its blocks. -/
def LsRd (w : World) (A : Option Addr) (n c : Nat) (L : List Bz) : Prop := L.length = n ∧ n ≤ c ∧ c ≤ 9223372036854775807 ∧ Rd w w.heap.size A n (valAt L) ∧ ∀ z ∈ L, z.rd w
section
variable {w w' : World} {base : Nat} {v : Value} {L : List Bz} {A : Option Addr} {n c : Nat}
theorem LsOwn.r (h : LsOwn w base v L) : LsOwnR w base v L := ⟨h.1, fun z hz => (h.2 z hz).rd⟩
theorem LsOwnR.nil (w : World) (base : Nat) : LsOwnR w base (.slice none 0 0) [] := ⟨World.ownsRow_nil _ _ _ _, fun _ h => absurd h (by simp)⟩
theorem LsOwnR.all (h : LsOwnR w base v L) (hb : Below w.heap.size w w') : LsOwnR w' base v L := ⟨own_keep h.1 hb, fun z hz => (h.2 z hz).all hb⟩
theorem LsOwnR.slice (h : LsOwnR w base v L) : ∃ A c, v = .slice A L.length c := own_slice h.1
theorem LsOwnR.rd {m : Nat} (h : LsOwnR w base (.slice A m c) L) : LsRd w A m c L := by
  have hc := own_cap h.1
  obtain ⟨e, hnc, hr⟩ := Rd.of_own (f := valAt L) h.1 (fun j hj => by simp [valAt, hj])
  exact ⟨e.symm, by omega, hc, hr, h.2⟩
theorem LsRd.all (h : LsRd w A n c L) (hb : Below w.heap.size w w') : LsRd w' A n c L := ⟨h.1, h.2.1, h.2.2.1, h.2.2.2.1.all hb, fun z hz => (h.2.2.2.2 z hz).all hb⟩
theorem LsRd.take {m : Nat} (h : LsRd w A n c L) (hm : m ≤ n) : LsRd w A m c (L.take m) := by
  obtain ⟨h1, h2, h3, h4, h5⟩ := h
  refine ⟨by rw [List.length_take, h1]; omega, by omega, h3, (h4.less hm).congr (fun j hj => by simp [valAt, hj]), fun z hz => h5 z (List.mem_of_mem_take hz)⟩
theorem LsRd.cell (h : LsRd w A n c L) {k : Nat} (hk : k < n) : ∃ b off z, A = some ⟨b, off, none⟩ ∧ b < w.heap.size ∧ w.cell? ⟨b, off + k, none⟩ = some (.slice z.A z.n z.c) ∧ L[k]? = some z ∧ z.rd w := by
  obtain ⟨h1, h2, h3, h4, h5⟩ := h
  obtain ⟨b, off, e, hb, hc⟩ := h4.at_ hk
  have hk' : k < L.length := by omega
  refine ⟨b, off, L[k], e, hb, ?_, by simp [hk'], h5 _ (List.getElem_mem _)⟩
  rw [hc]
  simp [valAt, hk', Bz.val]
theorem LsOwnR.snoc {ty : TypeId} (h : LsOwnR w base v L) (z : Bz) (hz : z.rd w) (hne : ∀ y ∈ L ++ [z], ∀ b off, y.A = some ⟨b, off, none⟩ → 0 < y.n → v.ownBlock ≠ some b) (hL : L.length < 1099511627776) (hbase : base ≤ w.heap.size) :
    ∃ g cap w', (Builtin.append_ #[27, 27] ty #[v, .slice (some ⟨w.heap.size, 0, none⟩) 1 1]).run Try.prog (w.alloc (.cells #[.slice z.A z.n z.c] 23)) = .ok (.slice (some ⟨g, 0, none⟩) (L.length + 1) cap) w' ∧
      LsOwnR w' base (.slice (some ⟨g, 0, none⟩) (L.length + 1) cap) (L ++ [z]) ∧ w.grownBy w' v.ownBlock ∧ (some g = v.ownBlock ∨ w.heap.size ≤ g) := by
  obtain ⟨g, cap, w', hrun, h2, h3, h4⟩ := run_append1 (ty := ty) (w := w.alloc (.cells #[.slice z.A z.n z.c] 23)) slT_rows (h.1.alloc _) (Blk.new w 23 #[.slice z.A z.n z.c]) rfl (by intro u hu; simp at hu; subst hu; rfl) (by omega) (by decide) (by simp; omega)
  have hg := (World.grownBy_alloc w (.cells #[.slice z.A z.n z.c] 23) v.ownBlock).trans h3
  refine ⟨g, cap, w', hrun, ⟨?_, ?_⟩, hg, h4.imp id (fun e => by rw [e]; simp)⟩
  · rw [List.map_append, List.length_append]
    exact h2
  · have m : Mod (fun b => v.ownBlock = some b) w w' := Mod.of_grown hg (fun g e => .inl e)
    intro y hy
    have hy' : y.rd w := by
      rcases List.mem_append.1 hy with hy | hy
      · exact h.2 y hy
      · simp at hy
        subst hy
        exact hz
    exact ⟨hy'.len, hy'.cap, hy'.max, (m.rd hy'.rd (Nat.le_refl _) (fun b off e hn => hne y hy b off e hn)).more hg.size⟩
end
end Go.Proofs.Ytldmokjpfnakkaa
