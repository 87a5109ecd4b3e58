/- Lists of slices of bytes (a [][]byte), by their blocks' types. -/
import Derived.Test.YtgjbbobphfejoaaGreatDoorHG1
import Derived.Test.YtgjbbobphfejoaaGreatDoorHG37
import Derived.Test.YtgjbbobphfejoaaGreatDoorHG35
import Derived.Test.YtgjbbobphfejoaaGreatDoorHG0

namespace Go.Proofs.YtgjbbobphfejoaaGreatDoor
open Go.RowKit

structure Bz where
  A : Option Addr
  n : Nat
  c : Nat
  bs : List UInt8
def Bz.val (z : Bz) : Value := .slice z.A z.n z.c
def Bz.ok (w : World) (z : Bz) : Prop := Bts w z.A z.n z.c z.bs
/-- A [][]byte that is read. -/
def LsAt (w : World) (A : Option Addr) (n c : Nat) (L : List Bz) : Prop :=
  L.length = n ∧ n ≤ c ∧ c ≤ 9223372036854775807 ∧ (0 < n → ∃ b off cs fr, A = some ⟨b, off, none⟩ ∧ w.heap[b]? = some (.cells cs 55 fr) ∧ ∀ (j : Nat) (hj : j < L.length), cs[off + j]? = some L[j].val) ∧ ∀ z ∈ L, z.ok w
/-- A [][]byte of the call's own. -/
def LsOwn (w : World) (base : Nat) (v : Value) (L : List Bz) : Prop := w.ownsRow base 55 1 v L.length (L.map Bz.val) ∧ ∀ z ∈ L, z.ok w
theorem slT_rows : SlT Tryz.prog 26 55 1 24 := SlT.of Tryz.underlying26 (by kernel_rfl) (by decide)
section
variable {w w' : World} {base : Nat} {v : Value} {L : List Bz} {F : Nat → Prop} {A : Option Addr} {n c : Nat}
theorem Bz.ok.mod {z : Bz} (h : z.ok w) (m : Mod F w w') (hF : ∀ b, F b → ¬ Ty w b 5) : z.ok w' := Bts.mod h m hF
theorem Bz.ok.all {z : Bz} (h : z.ok w) (hb : Below w.heap.size w w') : z.ok w' := Bts.all h hb
theorem LsOwn.nil (w : World) (base : Nat) : LsOwn w base (.slice none 0 0) [] := ⟨World.ownsRow_nil _ _ _ _, fun _ h => absurd h (by simp)⟩
theorem LsOwn.mod (h : LsOwn w base v L) (m : Mod F w w') (hv : ∀ g, v.ownBlock = some g → ¬ F g) (hF : ∀ b, F b → ¬ Ty w b 5) : LsOwn w' base v L := ⟨m.own h.1 hv, fun z hz => (h.2 z hz).mod m hF⟩
theorem LsOwn.all (h : LsOwn w base v L) (hb : Below w.heap.size w w') : LsOwn w' base v L := ⟨own_keep h.1 hb, fun z hz => (h.2 z hz).all hb⟩
theorem LsOwn.lower {base' : Nat} (h : LsOwn w base v L) (hb : base' ≤ base) : LsOwn w base' v L := ⟨own_lower h.1 hb, h.2⟩
theorem LsOwn.slice (h : LsOwn w base v L) : ∃ A c, v = .slice A L.length c := own_slice h.1
theorem LsOwn.at_ {m : Nat} (h : LsOwn w base (.slice A m c) L) : m = L.length ∧ LsAt w A m c L := by
  have hc := own_cap h.1
  obtain ⟨h1, h2⟩ := h
  rcases h1.2 with ⟨h3, h0⟩ | ⟨g, cap, cur, h3, _, hh, hnc, hm, hcs, htk⟩
  · injection h3 with h4 h5 h6
    subst h5 h6
    exact ⟨h0.symm, h0, by omega, by omega, fun h => absurd h (by omega), h2⟩
  · injection h3 with h4 h5 h6
    subst h5 h6 h4
    refine ⟨rfl, rfl, hnc, hc, fun hn => ⟨g, 0, cur, _, rfl, hh, fun j hj => ?_⟩, h2⟩
    have : (cur.toList.take (L.length * 1))[j]? = (L.map Bz.val)[j]? := by rw [htk]
    rw [List.getElem?_take, if_pos (by omega)] at this
    simpa [hj] using this
theorem LsAt.mod (h : LsAt w A n c L) (m : Mod F w w') (hR : ∀ b off, A = some ⟨b, off, none⟩ → Ty w b 55 → ¬ F b) (hF : ∀ b, F b → ¬ Ty w b 5) : LsAt w' A n c L := by
  obtain ⟨h1, h2, h3, h4, h5⟩ := h
  refine ⟨h1, h2, h3, fun hn => ?_, fun z hz => (h5 z hz).mod m hF⟩
  obtain ⟨b, off, cs, fr, e, hh, hc⟩ := h4 hn
  exact ⟨b, off, cs, fr, e, (m.block b (Array.getElem?_eq_some_iff.1 hh).1 (hR b off e ⟨_, _, hh⟩)).trans hh, hc⟩
theorem LsAt.all (h : LsAt w A n c L) (hb : Below w.heap.size w w') : LsAt w' A n c L := h.mod (F := fun _ => False) (Mod.of_below _ hb) (fun _ _ _ _ hf => hf) (fun _ hf => hf.elim)
theorem LsAt.cell (h : LsAt w A n c L) {k : Nat} (hk : k < n) : ∃ b off z, A = some ⟨b, off, none⟩ ∧ w.cell? ⟨b, off + k, none⟩ = some (.slice z.A z.n z.c) ∧ L[k]? = some z ∧ z.ok w := by
  obtain ⟨h1, h2, h3, h4, h5⟩ := h
  obtain ⟨b, off, cs, fr, e, hh, hc⟩ := h4 (by omega)
  have hk' : k < L.length := by omega
  refine ⟨b, off, L[k], e, ?_, by simp [hk'], h5 _ (List.getElem_mem _)⟩
  have := hc k hk'
  simp only [World.cell?, hh]
  simpa [Bz.val] using this
/-- append of one slice of bytes. -/
theorem LsOwn.snoc {ty : TypeId} (h : LsOwn w base v L) (z : Bz) (hz : z.ok w) (hL : L.length < 1099511627776) (hbase : base ≤ w.heap.size) :
    ∃ g cap w', (Builtin.append_ #[26, 26] ty #[v, .slice (some ⟨w.heap.size, 0, none⟩) 1 1]).run Tryz.prog (w.alloc (.cells #[.slice z.A z.n z.c] 55)) = .ok (.slice (some ⟨g, 0, none⟩) (L.length + 1) cap) w' ∧
      LsOwn w' base (.slice (some ⟨g, 0, none⟩) (L.length + 1) cap) (L ++ [z]) ∧ w.grownBy w' v.ownBlock ∧ (some g = v.ownBlock ∨ w.heap.size ≤ g) := by
  obtain ⟨g, cap, w', hrun, h2, h3, h4⟩ := run_append1 (ty := ty) (w := w.alloc (.cells #[.slice z.A z.n z.c] 55)) slT_rows (h.1.alloc _) (Blk.new w 55 #[.slice z.A z.n z.c]) rfl (by intro u hu; simp at hu; subst hu; rfl) (by omega) (by decide) (by simp; omega)
  have hg := (World.grownBy_alloc w (.cells #[.slice z.A z.n z.c] 55) v.ownBlock).trans h3
  refine ⟨g, cap, w', hrun, ⟨?_, ?_⟩, hg, h4.imp id (fun e => by rw [e]; simp)⟩
  · rw [List.map_append, List.length_append]
    exact h2
  · have m : Mod (fun b => v.ownBlock = some b) w w' := Mod.of_grown hg (fun g e => .inl e)
    intro y hy
    rcases List.mem_append.1 hy with hy | hy
    · exact (h.2 y hy).mod m (fun b e ht => absurd (Ty.unique (Ty.of_own h.1 e) ht) (by decide))
    · simp at hy
      subst hy
      exact hz.mod m (fun b e ht => absurd (Ty.unique (Ty.of_own h.1 e) ht) (by decide))
end
/-- The bytes lie in a block from B on. -/
def Bz.low (B : Nat) (z : Bz) : Prop := ∀ b off, z.A = some ⟨b, off, none⟩ → 0 < z.n → B ≤ b
theorem Bz.low_own {w : World} {base e n c : Nat} {A : Option Addr} {xs : List Value} {bs : List UInt8} (h : w.ownsRow base e 1 (.slice A n c) n xs) : Bz.low base ⟨A, n, c, bs⟩ := by
  intro b off e hn
  obtain ⟨g, hg, h1, -⟩ := own_some h hn
  simp only at e
  rw [hg] at e
  injection e with e
  injection e with e _ _
  omega
theorem Bz.low.mono {B B' : Nat} {z : Bz} (h : z.low B) (hB : B' ≤ B) : z.low B' := fun b off e hn => Nat.le_trans hB (h b off e hn)
theorem Bz.ok.modL {w w' : World} {F : Nat → Prop} {B : Nat} {z : Bz} (h : z.ok w) (hl : z.low B) (m : Mod F w w') (hF : ∀ b, B ≤ b → ¬ F b) : z.ok w' := by
  refine ⟨h.1, h.2.1, h.2.2.1, fun hn => ?_⟩
  obtain ⟨b, off, cs, fr, e, hh, hc⟩ := h.2.2.2 hn
  exact ⟨b, off, cs, fr, e, (m.block b (Array.getElem?_eq_some_iff.1 hh).1 (hF b (hl b off e hn))).trans hh, hc⟩
theorem LsOwn.modL {w w' : World} {base B : Nat} {v : Value} {L : List Bz} {F : Nat → Prop} (h : LsOwn w base v L) (hl : ∀ z ∈ L, z.low B) (m : Mod F w w') (hF : ∀ b, B ≤ b → ¬ F b) (hB : B ≤ base) : LsOwn w' base v L :=
  ⟨m.own h.1 (fun g e => hF g (by have := (h.1.lt g e).1; omega)), fun z hz => (h.2 z hz).modL (hl z hz) m hF⟩
/-- Slices of bytes that are read, whatever their blocks. -/
def Bz.rd (w : World) (z : Bz) : Prop := BIn w w.heap.size (z.A, z.n, z.c) z.bs
theorem Bz.rd.len {w : World} {z : Bz} (h : z.rd w) : z.bs.length = z.n := BIn.len h
theorem Bz.rd.cap {w : World} {z : Bz} (h : z.rd w) : z.n ≤ z.c := BIn.cap h
theorem Bz.rd.max {w : World} {z : Bz} (h : z.rd w) : z.c ≤ 9223372036854775807 := BIn.max h
theorem Bz.rd.rd {w : World} {z : Bz} (h : z.rd w) : Rd w w.heap.size z.A z.n (vByte z.bs) := BIn.rd h
theorem Bz.ok.rd {w : World} {z : Bz} (h : z.ok w) : z.rd w := ⟨h.1, h.2.1, h.2.2.1, Bts.rd h⟩
theorem Bz.rd.all {w w' : World} {z : Bz} (h : z.rd w) (hb : Below w.heap.size w w') : z.rd w' := (BIn.keep h (fun b hlt => hb.block b hlt)).more hb.size
def LsOwnR (w : World) (base : Nat) (v : Value) (L : List Bz) : Prop := w.ownsRow base 55 1 v L.length (L.map Bz.val) ∧ ∀ z ∈ L, z.rd w
def valAt (L : List Bz) (j : Nat) : Value := (L[j]?).elim undef Bz.val
/-- A [][]byte that is read, whatever its blocks. -/
def LsRd (w : World) (A : Option Addr) (n c : Nat) (L : List Bz) : Prop := L.length = n ∧ n ≤ c ∧ c ≤ 9223372036854775807 ∧ Rd w w.heap.size A n (valAt L) ∧ ∀ z ∈ L, z.rd w
section
variable {w w' : World} {base : Nat} {v : Value} {L : List Bz} {A : Option Addr} {n c : Nat}
theorem LsOwn.r (h : LsOwn w base v L) : LsOwnR w base v L := ⟨h.1, fun z hz => (h.2 z hz).rd⟩
theorem LsOwnR.nil (w : World) (base : Nat) : LsOwnR w base (.slice none 0 0) [] := ⟨World.ownsRow_nil _ _ _ _, fun _ h => absurd h (by simp)⟩
theorem LsOwnR.all (h : LsOwnR w base v L) (hb : Below w.heap.size w w') : LsOwnR w' base v L := ⟨own_keep h.1 hb, fun z hz => (h.2 z hz).all hb⟩
theorem LsOwnR.slice (h : LsOwnR w base v L) : ∃ A c, v = .slice A L.length c := own_slice h.1
theorem LsOwnR.rd {m : Nat} (h : LsOwnR w base (.slice A m c) L) : LsRd w A m c L := by
  have hc := own_cap h.1
  obtain ⟨e, hnc, hr⟩ := Rd.of_own (f := valAt L) h.1 (fun j hj => by simp [valAt, hj])
  exact ⟨e.symm, by omega, hc, hr, h.2⟩
theorem LsRd.all (h : LsRd w A n c L) (hb : Below w.heap.size w w') : LsRd w' A n c L := ⟨h.1, h.2.1, h.2.2.1, h.2.2.2.1.all hb, fun z hz => (h.2.2.2.2 z hz).all hb⟩
theorem LsRd.take {m : Nat} (h : LsRd w A n c L) (hm : m ≤ n) : LsRd w A m c (L.take m) := by
  obtain ⟨h1, h2, h3, h4, h5⟩ := h
  refine ⟨by rw [List.length_take, h1]; omega, by omega, h3, (h4.less hm).congr (fun j hj => by simp [valAt, hj]), fun z hz => h5 z (List.mem_of_mem_take hz)⟩
theorem LsRd.cell (h : LsRd w A n c L) {k : Nat} (hk : k < n) : ∃ b off z, A = some ⟨b, off, none⟩ ∧ b < w.heap.size ∧ w.cell? ⟨b, off + k, none⟩ = some (.slice z.A z.n z.c) ∧ L[k]? = some z ∧ z.rd w := by
  obtain ⟨h1, h2, h3, h4, h5⟩ := h
  obtain ⟨b, off, e, hb, hc⟩ := h4.at_ hk
  have hk' : k < L.length := by omega
  refine ⟨b, off, L[k], e, hb, ?_, by simp [hk'], h5 _ (List.getElem_mem _)⟩
  rw [hc]
  simp [valAt, hk', Bz.val]
theorem LsOwnR.snoc {ty : TypeId} (h : LsOwnR w base v L) (z : Bz) (hz : z.rd w) (hne : ∀ y ∈ L ++ [z], ∀ b off, y.A = some ⟨b, off, none⟩ → 0 < y.n → v.ownBlock ≠ some b) (hL : L.length < 1099511627776) (hbase : base ≤ w.heap.size) :
    ∃ g cap w', (Builtin.append_ #[26, 26] ty #[v, .slice (some ⟨w.heap.size, 0, none⟩) 1 1]).run Tryz.prog (w.alloc (.cells #[.slice z.A z.n z.c] 55)) = .ok (.slice (some ⟨g, 0, none⟩) (L.length + 1) cap) w' ∧
      LsOwnR w' base (.slice (some ⟨g, 0, none⟩) (L.length + 1) cap) (L ++ [z]) ∧ w.grownBy w' v.ownBlock ∧ (some g = v.ownBlock ∨ w.heap.size ≤ g) := by
  obtain ⟨g, cap, w', hrun, h2, h3, h4⟩ := run_append1 (ty := ty) (w := w.alloc (.cells #[.slice z.A z.n z.c] 55)) slT_rows (h.1.alloc _) (Blk.new w 55 #[.slice z.A z.n z.c]) rfl (by intro u hu; simp at hu; subst hu; rfl) (by omega) (by decide) (by simp; omega)
  have hg := (World.grownBy_alloc w (.cells #[.slice z.A z.n z.c] 55) v.ownBlock).trans h3
  refine ⟨g, cap, w', hrun, ⟨?_, ?_⟩, hg, h4.imp id (fun e => by rw [e]; simp)⟩
  · rw [List.map_append, List.length_append]
    exact h2
  · have m : Mod (fun b => v.ownBlock = some b) w w' := Mod.of_grown hg (fun g e => .inl e)
    intro y hy
    have hy' : y.rd w := by
      rcases List.mem_append.1 hy with hy | hy
      · exact h.2 y hy
      · simp at hy
        subst hy
        exact hz
    exact ⟨hy'.len, hy'.cap, hy'.max, (m.rd hy'.rd (Nat.le_refl _) (fun b off e hn => hne y hy b off e hn)).more hg.size⟩
end
end Go.Proofs.YtgjbbobphfejoaaGreatDoor

/- journal, plain Lean: frames, what stands at the beginning of bytes, what a scan finds; a bit that is turned. -/
namespace Go.Proofs.YtgjbbobphfejoaaGreatDoor
open Go.RowKit

def recB : List UInt8 := [114, 101, 99, 111, 114, 100]
def coreB (k : Int) (bs : List UInt8) : List UInt8 := encInt k ++ encRaw bs
def recN (c : List UInt8) : Nat := (bytesI recB c).toNat
def frameB (k : Int) (bs : List UInt8) : List UInt8 := encRaw (coreB k bs) ++ varint (recN (coreB k bs))
theorem bytesI_in (l bs : List UInt8) : InU (bytesI l bs) := mixI_in _ _
theorem recN_eq (c : List UInt8) : bytesI recB c = ((recN c : Nat) : Int) := by unfold recN; have := (bytesI_in recB c).1; omega
theorem recN_lt (c : List UInt8) : recN c ≤ 18446744073709551615 := by unfold recN; have := bytesI_in recB c; unfold InU at this; omega
theorem encRaw_len {bs : List UInt8} (h : bs.length ≤ 18446744073709551615) : bs.length < (encRaw bs).length ∧ (encRaw bs).length ≤ bs.length + 10 := by
  unfold encRaw
  rw [List.length_append]
  have := varint_pos bs.length
  have := varint_len10 h
  omega
theorem encRaw_lt (bs : List UInt8) : bs.length < (encRaw bs).length := by
  unfold encRaw
  rw [List.length_append]
  have := varint_pos bs.length
  omega
theorem coreB_len {k : Int} {bs : List UInt8} (hk : InI k) (h : bs.length ≤ 18446744073709551615) : (coreB k bs).length ≤ bs.length + 20 := by
  unfold coreB
  rw [List.length_append]
  have h1 := varint_len10 (zigI_lt hk.1 hk.2)
  have h2 := (encRaw_len h).2
  unfold encInt
  omega
theorem coreB_gt (k : Int) (bs : List UInt8) : bs.length < (coreB k bs).length := by
  unfold coreB
  rw [List.length_append]
  have := encRaw_lt bs
  omega
theorem frameB_gt (k : Int) (bs : List UInt8) : (coreB k bs).length + 1 < (frameB k bs).length := by
  unfold frameB
  rw [List.length_append]
  have := encRaw_lt (coreB k bs)
  have := varint_pos (recN (coreB k bs))
  omega
theorem frameB_len {k : Int} {bs : List UInt8} (hk : InI k) (h : bs.length ≤ 1152921504606846976) : (frameB k bs).length ≤ bs.length + 40 := by
  unfold frameB
  rw [List.length_append]
  have h1 := coreB_len hk (bs := bs) (by omega)
  have h2 := (encRaw_len (bs := coreB k bs) (by omega)).2
  have h3 := varint_len10 (recN_lt (coreB k bs))
  omega
theorem frameB_pos (k : Int) (bs : List UInt8) : 0 < (frameB k bs).length := by have := frameB_gt k bs; omega

theorem encRaw_split {a b : List UInt8} (ha : a.length ≤ 18446744073709551615) (hb : b.length ≤ 18446744073709551615) {r s : List UInt8} (h : encRaw a ++ r = encRaw b ++ s) : a = b ∧ r = s := by
  have h1 := decRaw_enc ha r
  rw [h, decRaw_enc hb s] at h1
  simp only [Prod.mk.injEq, true_and] at h1
  exact ⟨h1.1.symm, h1.2.symm⟩
theorem core_inj {k : Int} {a b : List UInt8} (ha : a.length ≤ 18446744073709551615) (hb : b.length ≤ 18446744073709551615) (h : coreB k a = coreB k b) : a = b := by
  have h1 := List.append_cancel_left h
  exact (encRaw_split (r := []) (s := []) ha hb (by simpa using h1)).1
theorem frame_split {k : Int} {a b : List UInt8} {r s : List UInt8} (ha : (frameB k a).length ≤ 18446744073709551615) (hb : (frameB k b).length ≤ 18446744073709551615) (h : frameB k a ++ r = frameB k b ++ s) : a = b ∧ r = s := by
  have l1 := frameB_gt k a
  have l2 := frameB_gt k b
  have l3 := coreB_gt k a
  have l4 := coreB_gt k b
  have h0 := h
  unfold frameB at h
  rw [List.append_assoc, List.append_assoc] at h
  obtain ⟨h1, -⟩ := encRaw_split (by omega) (by omega) h
  have e := core_inj (by omega) (by omega) h1
  subst e
  exact ⟨rfl, List.append_cancel_left h0⟩

/-- The record (if any) whose frame with the number k stands at the beginning. -/
def FirstIs (k : Int) (bs : List UInt8) : Option (List UInt8) → Prop
  | some x => ∃ r, bs = frameB k x ++ r
  | none => ∀ x r, bs ≠ frameB k x ++ r
/-- What first of the package looks at. -/
def szB (bs : List UInt8) : Nat := (readU (bs.take 10) 0).2.1
def innerB (bs : List UInt8) : List UInt8 := (bs.drop (varint (szB bs)).length).take (szB bs)
def inRec (c : List UInt8) : Int × List UInt8 × List UInt8 := readRaw (readU c 0).2.2 (readU c 0).1
theorem inRec_core {k : Int} (hk : InI k) {x r : List UInt8} (hx : x.length ≤ 18446744073709551615) : inRec (coreB k x ++ r) = (0, x, r) := by
  have e : readU (coreB k x ++ r) 0 = (0, zigI k, encRaw x ++ r) := by
    unfold readU coreB
    rw [if_pos rfl, List.append_assoc]
    exact decU_int hk _
  unfold inRec
  rw [e]
  unfold readRaw
  rw [if_pos rfl]
  exact decRaw_enc hx r
theorem first_parts {k : Int} (hk : InI k) {x r bs : List UInt8} (h : bs = frameB k x ++ r) (hb : bs.length ≤ 9223372036854775807) :
    szB bs = (coreB k x).length ∧ (varint (szB bs)).length + szB bs ≤ bs.length ∧ innerB bs = coreB k x ∧ (inRec (innerB bs)) = (0, x, []) ∧ readRaw bs 0 = (0, coreB k x, varint (recN (coreB k x)) ++ r) := by
  have l1 := frameB_gt k x
  have l2 := coreB_gt k x
  have l3 : bs.length = (frameB k x).length + r.length := by rw [h, List.length_append]
  have hc : (coreB k x).length ≤ 18446744073709551615 := by omega
  have e0 : bs = varint (coreB k x).length ++ (coreB k x ++ (varint (recN (coreB k x)) ++ r)) := by rw [h]; unfold frameB encRaw; simp only [List.append_assoc]
  have h10 := varint_len10 hc
  have e1 : szB bs = (coreB k x).length := by
    unfold szB readU
    rw [if_pos rfl]
    have : bs.take 10 = varint (coreB k x).length ++ (coreB k x ++ (varint (recN (coreB k x)) ++ r)).take (10 - (varint (coreB k x).length).length) := by
      conv => lhs; rw [e0]
      rw [List.take_append, List.take_of_length_le h10]
    rw [this, decU_enc hc]
  have l4 : bs.length = (varint (coreB k x).length).length + ((coreB k x).length + ((varint (recN (coreB k x))).length + r.length)) := by
    conv => lhs; rw [e0]
    simp only [List.length_append]
  have e2 : innerB bs = coreB k x := by
    unfold innerB
    rw [e1]
    conv => lhs; rw [e0]
    rw [List.drop_left, List.take_left]
  refine ⟨e1, by rw [e1]; omega, e2, ?_, ?_⟩
  · rw [e2]
    have := inRec_core hk (x := x) (r := []) (by omega)
    simpa using this
  · unfold readRaw
    rw [if_pos rfl, h]
    unfold frameB
    rw [List.append_assoc]
    exact decRaw_enc hc _
theorem FirstIs.unique {k : Int} {bs : List UInt8} {a b : Option (List UInt8)} (hl : bs.length ≤ 9223372036854775807) (ha : FirstIs k bs a) (hb : FirstIs k bs b) : a = b := by
  cases a with
  | none =>
    cases b with
    | none => rfl
    | some y => obtain ⟨r, hr⟩ := hb; exact absurd hr (ha y r)
  | some x =>
    obtain ⟨r, hr⟩ := ha
    cases b with
    | none => exact absurd hr (hb x r)
    | some y =>
      obtain ⟨s, hs⟩ := hb
      have l1 : bs.length = (frameB k x).length + r.length := by rw [hr, List.length_append]
      have l2 : bs.length = (frameB k y).length + s.length := by rw [hs, List.length_append]
      rw [(frame_split (by omega) (by omega) (hr.symm.trans hs)).1]

/-- Frames one after another, numbered from k on. -/
def framesB : Nat → List (List UInt8) → List UInt8
  | _, [] => []
  | k, x :: l => frameB (k : Int) x ++ framesB (k + 1) l
theorem framesB_nil (k : Nat) : framesB k [] = [] := rfl
theorem framesB_cons (k : Nat) (x : List UInt8) (l : List (List UInt8)) : framesB k (x :: l) = frameB (k : Int) x ++ framesB (k + 1) l := rfl
theorem framesB_append (x t : List (List UInt8)) : ∀ k : Nat, framesB k (x ++ t) = framesB k x ++ framesB (k + x.length) t := by
  induction x with
  | nil => intro k; rw [List.nil_append, framesB_nil, List.nil_append, List.length_nil, Nat.add_zero]
  | cons a x ih =>
    intro k
    have e : k + 1 + x.length = k + (a :: x).length := by rw [List.length_cons]; omega
    rw [List.cons_append, framesB_cons, framesB_cons, ih (k + 1), List.append_assoc, e]
theorem framesB_snoc (l : List (List UInt8)) (k : Nat) (x : List UInt8) : framesB k (l ++ [x]) = framesB k l ++ frameB ((k + l.length : Nat) : Int) x := by
  rw [framesB_append, framesB_cons, framesB_nil, List.append_nil]
theorem framesB_len (l : List (List UInt8)) : ∀ k : Nat, 2 * l.length ≤ (framesB k l).length := by
  induction l with
  | nil => intro k; exact Nat.zero_le _
  | cons x l ih =>
    intro k
    rw [framesB_cons, List.length_append, List.length_cons]
    have := ih (k + 1)
    have := frameB_gt (k : Int) x
    omega
def ScanIs (bs : List UInt8) (l : List (List UInt8)) (n : Nat) : Prop :=
  n = (framesB 0 l).length ∧ ∃ r, bs = framesB 0 l ++ r ∧ FirstIs (l.length : Nat) r none
theorem scan_ahead (x : List (List UInt8)) : ∀ (l : List (List UInt8)) (k : Nat) (rest r : List UInt8), (framesB k x ++ rest).length ≤ 9223372036854775807 → framesB k x ++ rest = framesB k l ++ r → FirstIs ((k + l.length : Nat) : Int) r none → x <+: l := by
  induction x with
  | nil => intros; exact List.nil_prefix
  | cons a x ih =>
    intro l k rest r hl h hn
    cases l with
    | nil =>
      exfalso
      rw [framesB_cons, framesB_nil, List.nil_append, List.append_assoc] at h
      rw [List.length_nil, Nat.add_zero] at hn
      exact hn a (framesB (k + 1) x ++ rest) h.symm
    | cons b l =>
      rw [framesB_cons, framesB_cons, List.append_assoc, List.append_assoc] at h
      rw [framesB_cons, List.append_assoc] at hl
      have l2 := hl
      rw [h] at l2
      rw [List.length_append] at hl l2
      obtain ⟨e, h2⟩ := frame_split (by omega) (by omega) h
      subst e
      obtain ⟨t, ht⟩ := ih l (k + 1) rest r (by omega) h2 (by
        have e : k + 1 + l.length = k + (a :: l).length := by rw [List.length_cons]; omega
        rw [e]
        exact hn)
      exact ⟨t, by rw [List.cons_append, ht]⟩
/-- A scan finds the frames that stand ahead. -/
theorem ScanIs.ahead {bs : List UInt8} {x l : List (List UInt8)} {rest : List UInt8} {n : Nat} (hl : bs.length ≤ 9223372036854775807) (h : ScanIs bs l n) (hx : bs = framesB 0 x ++ rest) : x <+: l ∧ (framesB 0 x).length ≤ n := by
  obtain ⟨rfl, r, hr, hn⟩ := h
  have hp := scan_ahead x l 0 rest r (by rw [← hx]; exact hl) (by rw [← hx]; exact hr) (by simpa using hn)
  refine ⟨hp, ?_⟩
  obtain ⟨t, rfl⟩ := hp
  rw [framesB_append, List.length_append]
  omega
theorem ScanIs.unique {bs : List UInt8} {l l' : List (List UInt8)} {n n' : Nat} (hl : bs.length ≤ 9223372036854775807) (h : ScanIs bs l n) (h' : ScanIs bs l' n') : l = l' ∧ n = n' := by
  obtain ⟨r, hr, -⟩ := h.2
  obtain ⟨r', hr', -⟩ := h'.2
  have p1 := (h.ahead hl hr').1
  have p2 := (h'.ahead hl hr).1
  have e : l = l' := (p2.eq_of_length (Nat.le_antisymm p2.length_le p1.length_le))
  subst e
  exact ⟨rfl, h.1.trans h'.1.symm⟩
theorem ScanIs.nil : ScanIs [] [] 0 := ⟨rfl, [], rfl, fun x r h => by
  have := congrArg List.length h
  rw [List.length_append] at this
  have := frameB_pos ((([] : List (List UInt8)).length : Nat) : Int) x
  simp at *
  omega⟩

end Go.Proofs.YtgjbbobphfejoaaGreatDoor

/- wire's Writer known by its own blocks: contracts that say which blocks turn. -/
namespace Go.Proofs.YtgjbbobphfejoaaGreatDoor
open Go.RowKit

/-- A Writer at block gd whose slice is v, with the bytes bs. -/
def WrV (w : World) (gd : Nat) (v : Value) (bs : List UInt8) : Prop :=
  Blk w gd 57 #[v] ∧ w.ownsRow 0 5 1 v bs.length (bs.map fun b => Value.int .u8 ((b.toNat : Nat) : Int))
def WF (gd : Nat) (v : Value) (b : Nat) : Prop := b = gd ∨ v.ownBlock = some b
def WrNext (gd : Nat) (v : Value) (bs : List UInt8) (w w' : World) : Prop :=
  ∃ v', WrV w' gd v' bs ∧ Mod (WF gd v) w w' ∧ (v'.ownBlock = v.ownBlock ∨ ∀ b, v'.ownBlock = some b → w.heap.size ≤ b)
section
variable {w w' w'' : World} {gd : Nat} {v : Value} {bs bs' : List UInt8} {F : Nat → Prop}
theorem WrV.new (w : World) : WrV (w.alloc (.cells #[.slice none 0 0] 57)) w.heap.size (.slice none 0 0) [] := ⟨Blk.new _ _ _, World.ownsRow_nil _ _ _ _⟩
theorem WrV.mod (h : WrV w gd v bs) (m : Mod F w w') (hF : ∀ b, WF gd v b → ¬ F b) : WrV w' gd v bs := ⟨m.blk h.1 (hF _ (.inl rfl)), m.own h.2 (fun g e => hF g (.inr e))⟩
theorem WrV.all (h : WrV w gd v bs) (hb : Below w.heap.size w w') : WrV w' gd v bs := h.mod (F := fun _ => False) (Mod.of_below _ hb) (fun _ _ hf => hf)
theorem WrV.lt (h : WrV w gd v bs) : ∀ b, WF gd v b → b < w.heap.size := by
  rintro b (rfl | e)
  · exact h.1.lt
  · exact (h.2.lt b e).2
theorem WrV.slice (h : WrV w gd v bs) : ∃ A c, v = .slice A bs.length c := own_slice h.2
theorem WrNext.refl (h : WrV w gd v bs) : WrNext gd v bs w w := ⟨v, h, Mod.refl _ _, .inl rfl⟩
theorem WrNext.trans (h : WrNext gd v bs w w') (k : ∀ v', WrV w' gd v' bs → WrNext gd v' bs' w' w'') : WrNext gd v bs' w w'' := by
  obtain ⟨v1, h1, m1, o1⟩ := h
  obtain ⟨v2, h2, m2, o2⟩ := k v1 h1
  refine ⟨v2, h2, m1.trans m2 ?_, ?_⟩
  · rintro b (rfl | e)
    · exact .inl (.inl rfl)
    · rcases o1 with o | o
      · exact .inl (.inr (by rw [← o]; exact e))
      · exact .inr (o b e)
  · rcases o2 with o | o
    · rw [o]; exact o1
    · exact .inr (fun b e => Nat.le_trans m1.size (o b e))
theorem WrNext.step {v1 : Value} (h : WrV w' gd v1 bs) (m1 : Mod (WF gd v) w w') (o1 : v1.ownBlock = v.ownBlock ∨ ∀ b, v1.ownBlock = some b → w.heap.size ≤ b) (k : WrNext gd v1 bs' w' w'') : WrNext gd v bs' w w'' := by
  obtain ⟨v2, h2, m2, o2⟩ := k
  refine ⟨v2, h2, m1.trans m2 ?_, ?_⟩
  · rintro b (rfl | e)
    · exact .inl (.inl rfl)
    · rcases o1 with o | o
      · exact .inl (.inr (by rw [← o]; exact e))
      · exact .inr (o b e)
  · rcases o2 with o | o
    · rw [o]; exact o1
    · exact .inr (fun b e => Nat.le_trans m1.size (o b e))
theorem WrV.wr (h : WrV w gd v bs) : Wr w 0 gd bs := by
  obtain ⟨A, c, rfl⟩ := h.slice
  exact ⟨Nat.zero_le _, A, _, c, rfl, h.1, h.2⟩
theorem wrv_put {w3 : World} {v' : Value} (h : WrV w gd v bs) (hg : w.grownBy w3 v.ownBlock) (hown : w3.ownsRow 0 5 1 v' bs'.length (bs'.map fun b => Value.int .u8 ((b.toNat : Nat) : Int))) (ho : v'.ownBlock = v.ownBlock ∨ ∀ b, v'.ownBlock = some b → w.heap.size ≤ b) :
    w3.cell? ⟨gd, 0, none⟩ = some v ∧ w3.frozen? ⟨gd, 0, none⟩ = false ∧ WrNext gd v bs' w (w3.setCell ⟨gd, 0, none⟩ v') := by
  obtain ⟨k1, k2, k3, k4, -⟩ := own_put (by decide) (Nat.zero_le _) h.1 h.2 hg hown
  exact ⟨k1, k2, v', ⟨k3, k4⟩, (Mod.of_grown hg (fun g e => .inl (.inr e))).set (.inl (.inl rfl)) _, ho⟩
end
theorem WrV.one {w : World} {gd : Nat} {v : Value} {bs : List UInt8} (h : WrV w gd v bs) (hl : bs.length ≤ 35184372088832) (x : UInt8) (xi : Int) (hx : xi = ((x.toNat : Nat) : Int)) :
    ∃ A n c g cap w3, w.cell? ⟨gd, 0, none⟩ = some (.slice A n c) ∧
      Hid ((Builtin.append_ #[55, 55] 55 #[.slice A n c, .slice (some ⟨w.heap.size, 0, none⟩) 1 1]).run Tryz.prog (w.alloc (.cells #[.int .u8 xi] 5)) = .ok (.slice (some ⟨g, 0, none⟩) (n + 1) cap) w3) ∧
      w3.cell? ⟨gd, 0, none⟩ = some (.slice A n c) ∧ w3.frozen? ⟨gd, 0, none⟩ = false ∧ Hid (WrNext gd v (bs ++ [x]) w (w3.setCell ⟨gd, 0, none⟩ (.slice (some ⟨g, 0, none⟩) (n + 1) cap))) := by
  subst hx
  obtain ⟨A, c, rfl⟩ := h.slice
  obtain ⟨i0, hi, hz0, hz1, hz2⟩ := info_parts info_u8
  obtain ⟨g, cap, w3, hap, hown, hg, ho, _⟩ := run_append_one (P := Tryz.prog) w 0 55 55 5 i0 _ 1 Tryz.underlying55 hi hz0 hz1 hz2 rfl _ _ _ h.2 (.int .u8 ((x.toNat : Nat) : Int)) rfl (by unfold maxLen; omega) (by omega) (Nat.zero_le _)
  obtain ⟨k1, k2, k3⟩ := wrv_put (bs' := bs ++ [x]) h hg (by rw [List.map_append, List.length_append]; exact hown) (v' := .slice (some ⟨g, 0, none⟩) (bs.length + 1) cap) (ho.imp (fun e => by simpa [Value.ownBlock] using e) (fun e b eb => by simp [Value.ownBlock] at eb; omega))
  exact ⟨A, _, c, g, cap, w3, by simpa using h.1.cell 0, Lib.hid hap, k1, k2, Lib.hid k3⟩
theorem WrV.more {w : World} {gd : Nat} {v : Value} {bs : List UInt8} (h : WrV w gd v bs) (A' : Option Addr) (m c' : Nat) (xs : List UInt8) (hx : xs.length = m) (hR : Rd w w.heap.size A' m (vByte xs)) (hl : bs.length + m ≤ 70368744177664) :
    ∃ A n c A3 n3 c3 w3, w.cell? ⟨gd, 0, none⟩ = some (.slice A n c) ∧
      Hid ((Builtin.append_ #[55, 55] 55 #[.slice A n c, .slice A' m c']).run Tryz.prog w = .ok (.slice A3 n3 c3) w3) ∧
      w3.cell? ⟨gd, 0, none⟩ = some (.slice A n c) ∧ w3.frozen? ⟨gd, 0, none⟩ = false ∧ Hid (WrNext gd v (bs ++ xs) w (w3.setCell ⟨gd, 0, none⟩ (.slice A3 n3 c3))) := by
  obtain ⟨A, c, rfl⟩ := h.slice
  obtain ⟨i0, hi, hz0, hz1, hz2⟩ := info_parts info_u8
  obtain ⟨v', w3, hap, hown, hg, ho⟩ := run_append_rd (P := Tryz.prog) w 0 55 55 5 i0 _ 1 Tryz.underlying55 hi hz0 hz1 hz2 rfl _ _ _ h.2 w.heap.size A' m c' (vByte xs) hR hR.none_ (fun _ _ => rfl) (by unfold maxLen; omega) (by omega) (Nat.zero_le _)
  have e : (List.range m).map (vByte xs) = xs.map fun b => Value.int .u8 ((b.toNat : Nat) : Int) := by
    subst hx
    refine List.ext_getElem (by simp) fun i h1 h2 => ?_
    have hi : i < xs.length := by simpa using h2
    simp [vByte, hi]
  rw [e, ← hx] at hown
  obtain ⟨A3, c3, rfl⟩ := own_slice hown
  obtain ⟨k1, k2, k3⟩ := wrv_put (bs' := bs ++ xs) h hg (by rw [List.map_append, List.length_append]; exact hown) (ho.imp (fun e => e) (fun e b eb => by rw [e] at eb; injection eb with eb; omega))
  exact ⟨A, _, c, _, _, _, w3, by simpa using h.1.cell 0, Lib.hid hap, k1, k2, Lib.hid k3⟩

set_option maxRecDepth 100000 in
theorem wuintV_any (gd : Nat) (v : Value) (bs : List UInt8) (n : Nat) (ni : Int) (hni : ni = (n : Int)) (w : World) (HW : Hid (WrV w gd v bs)) (hn : n ≤ 18446744073709551615) (hl : bs.length ≤ 17592186044416) :
    Calls Tryz.prog 36 #[.pointer (some ⟨gd, 0, none⟩), .int .u64 ni] w fun e w' => e = .returned (.tuple #[]) ∧ WrNext gd v (bs ++ varint n) w w' := by
  subst hni
  have HV := Lib.hid (varint_len10 hn)
  go_enter Tryz.func36, Tryz.ntmps36
  go_wp2
  go_loopw [1] (fun u wr => ∃ m : Nat, ∃ pre : List UInt8, u = .int .u64 (m : Int) ∧ m ≤ 18446744073709551615 ∧ Hid (pre ++ varint m = bs ++ varint n) ∧ Hid (WrNext gd v pre w wr)) (fun u _ => (intOf u).toNat)
  case atStart => exact ⟨n, bs, rfl, hn, Lib.hid rfl, Lib.hid (WrNext.refl HW.out)⟩
  case round =>
    obtain ⟨m, pre, rfl, hm, HE, HWr⟩ := hrel
    have hpl : pre.length ≤ 35184372088832 := by
      have h1 := congrArg List.length HE.out
      simp only [List.length_append] at h1
      have := HV.out
      omega
    obtain ⟨v1, h1, m1, o1⟩ := HWr.out
    by_cases hge : 128 ≤ m
    · obtain ⟨A, k, c, g, cap, w3, hc, HA, hc3, hf3, HW3⟩ := h1.one hpl (UInt8.ofNat (m % 128 + 128)) (bits BinOp.or IntKind.u8 ((m : Int) % 256) 128) (or128 m)
      have HZ := Lib.hid (WrNext.step h1 m1 o1 HW3.out)
      clear h1 m1 o1 HWr HW3
      go_wp2_with (at_builtin; refine wpList_append_run HA.out rfl rfl rfl rfl ?_)
      exact ⟨⟨m / 128, _, by go_num, by omega, Lib.hid (by rw [← HE.out, varint_ge hge, List.append_assoc]; rfl), HZ⟩, by simp [intOf]; omega⟩
    · obtain ⟨A, k, c, g, cap, w3, hc, HA, hc3, hf3, HW3⟩ := h1.one hpl (UInt8.ofNat m) (m : Int) (by rw [ofNat_toNat (by omega)])
      have HZ := Lib.hid (WrNext.step h1 m1 o1 HW3.out)
      clear h1 m1 o1 HWr HW3
      go_wp2_with (at_builtin; refine wpList_append_run HA.out rfl rfl rfl rfl ?_)
      go_end0
      exact ⟨rfl, by rw [← HE.out, varint_lt (by omega)]; exact HZ.out⟩

set_option maxRecDepth 100000 in
theorem wrawV_any (gd : Nat) (v : Value) (bs xs : List UInt8) (A : Option Addr) (m c : Nat) (w : World) (HW : Hid (WrV w gd v bs)) (HX : Hid (xs.length = m)) (hm : m ≤ 17592186044416) (hR : Rd w w.heap.size A m (vByte xs)) (hF : ∀ b off, A = some ⟨b, off, none⟩ → 0 < m → ¬ WF gd v b) (hl : bs.length ≤ 17592186044416) :
    Calls Tryz.prog 49 #[.pointer (some ⟨gd, 0, none⟩), .slice A m c] w fun e w' => e = .returned (.tuple #[]) ∧ WrNext gd v (bs ++ encRaw xs) w w' := by
  have HV := Lib.hid (varint_len10 (n := m) (by omega))
  have HR := Lib.hid hR
  have HF := Lib.hid hF
  clear hR hF
  go_enter Tryz.func49, Tryz.ntmps49
  go_wp2_with fail
  refine (wuintV_any gd v bs m _ rfl _ HW (by omega) hl).mono ?_
  rintro e w1 ⟨rfl, v1, h1, m1, o1⟩
  obtain ⟨A1, k, c1, A3, n3, c3, w3, hc, HA, hc3, hf3, HW3⟩ := h1.more A m c xs HX.out ((m1.rd HR.out (Nat.le_refl _) HF.out).more m1.size) (by have := HV.out; simp only [List.length_append]; omega)
  have HZ := Lib.hid (WrNext.step h1 m1 o1 HW3.out)
  clear h1 m1 o1 HW3
  go_wp2_with (at_builtin; refine wpList_append_run HA.out rfl rfl rfl rfl ?_)
  go_end0
  exact ⟨rfl, by unfold encRaw; rw [HX.out, ← List.append_assoc]; exact HZ.out⟩
end Go.Proofs.YtgjbbobphfejoaaGreatDoor

/- The documented examples (worldmintlaw02.lives). -/
namespace Go.Proofs.YtgjbbobphfejoaaGreatDoor
open Go.RowKit

theorem Rdr.other {w w' : World} {B gd B1 g1 : Nat} {rest rest1 : List UInt8} {err err1 : Int} (h : Rdr w B gd rest err) (h1 : Rdr w B1 g1 rest1 err1) (hne : gd ≠ g1) (hg : w.grownBy w' (some g1)) : Rdr w' B gd rest err := by
  obtain ⟨k1, k2, A, n, c, p1, p2, p3, p4⟩ := h
  obtain ⟨_, _, A1, n1, c1, q1, _⟩ := h1
  refine ⟨k1, Nat.le_trans k2 hg.size, A, n, c, p1.grown hg (by simpa using hne), p2, p3, fun e => ⟨(p4 e).1, (p4 e).2.1, ?_⟩⟩
  intro hn
  obtain ⟨b, off, e', hb, hc⟩ := (p4 e).2.2 hn
  have hne' : b ≠ g1 := by
    rintro rfl
    have h0 := hc 0 hn
    rw [Nat.add_zero, Blk.cell q1 off] at h0
    rcases off with _ | _ | off <;> simp [vByte] at h0
  exact ⟨b, off, e', hb, fun j hj => (World.cell?_of_block (w := w) (hg.block b (by omega) (by simpa using hne'))).trans (hc j hj)⟩
end Go.Proofs.YtgjbbobphfejoaaGreatDoor

/- Writers and rows beside other memory that turns. -/
namespace Go.Proofs.YtgjbbobphfejoaaGreatDoor
open Go.RowKit

/-- A Writer whose blocks all lie below M. -/
def WrIn (w : World) (B M gd : Nat) (bs : List UInt8) : Prop :=
  B ≤ gd ∧ gd < M ∧ ∃ A n c, bs.length = n ∧ Blk w gd 57 #[.slice A n c] ∧ w.ownsRow B 5 1 (.slice A n c) n (bs.map fun b => Value.int .u8 ((b.toNat : Nat) : Int)) ∧ ∀ k, (Value.slice A n c).ownBlock = some k → k < M
theorem WrIn.wr {w : World} {B M gd : Nat} {bs : List UInt8} (h : WrIn w B M gd bs) : Wr w B gd bs := by
  obtain ⟨h0, _, A, n, c, h1, h2, h3, _⟩ := h
  exact ⟨h0, A, n, c, h1, h2, h3⟩
theorem WrIn.grown {w w' : World} {B M gd : Nat} {bs : List UInt8} {row : Option Nat} (h : WrIn w B M gd bs) (hg : w.grownBy w' row) (hr : ∀ r, row = some r → r < B ∨ M ≤ r) : WrIn w' B M gd bs := by
  obtain ⟨h0, h0', A, n, c, h1, h2, h3, h4⟩ := h
  refine ⟨h0, h0', A, n, c, h1, h2.grown hg (fun e => by have := hr gd e.symm; omega), h3.kept hg ?_, h4⟩
  cases hv : (Value.slice A n c).ownBlock with
  | none => exact .inl rfl
  | some k => exact .inr (fun e => by
      have := hr k e.symm
      have := h4 k hv
      have := (h3.lt k hv).1
      omega)
theorem WrIn.below {w w' : World} {B M gd : Nat} {bs : List UInt8} (h : WrIn w B M gd bs) (hb : Below w.heap.size w w') : WrIn w' B M gd bs := h.grown (only_of_below hb none) (fun _ e => by cases e)
end Go.Proofs.YtgjbbobphfejoaaGreatDoor
