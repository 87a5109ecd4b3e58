/- Lists of slices of bytes (a [][]byte), by their blocks' types. -/
import Derived.Test.YtldmokjpfnakkaaGreatHG2
import Derived.WalkKit
import GoSem.Claim

namespace Go.Proofs.YtldmokjpfnakkaaGreat
open Go.RowKit

structure Bz where
  A : Option Addr
  n : Nat
  c : Nat
  bs : List UInt8
def Bz.val (z : Bz) : Value := .slice z.A z.n z.c
def Bz.ok (w : World) (z : Bz) : Prop := Bts w z.A z.n z.c z.bs
/-- A [][]byte that is read. -/
def LsAt (w : World) (A : Option Addr) (n c : Nat) (L : List Bz) : Prop :=
  L.length = n ∧ n ≤ c ∧ c ≤ 9223372036854775807 ∧ (0 < n → ∃ b off cs fr, A = some ⟨b, off, none⟩ ∧ w.heap[b]? = some (.cells cs 39 fr) ∧ ∀ (j : Nat) (hj : j < L.length), cs[off + j]? = some L[j].val) ∧ ∀ z ∈ L, z.ok w
/-- A [][]byte of the call's own. -/
def LsOwn (w : World) (base : Nat) (v : Value) (L : List Bz) : Prop := w.ownsRow base 39 1 v L.length (L.map Bz.val) ∧ ∀ z ∈ L, z.ok w
theorem slT_rows : SlT Tryz.prog 29 39 1 24 := SlT.of Tryz.underlying29 (by kernel_rfl) (by decide)
section
variable {w w' : World} {base : Nat} {v : Value} {L : List Bz} {F : Nat → Prop} {A : Option Addr} {n c : Nat}
theorem Bz.ok.mod {z : Bz} (h : z.ok w) (m : Mod F w w') (hF : ∀ b, F b → ¬ Ty w b 5) : z.ok w' := Bts.mod h m hF
theorem Bz.ok.all {z : Bz} (h : z.ok w) (hb : Below w.heap.size w w') : z.ok w' := Bts.all h hb
theorem LsOwn.nil (w : World) (base : Nat) : LsOwn w base (.slice none 0 0) [] := ⟨World.ownsRow_nil _ _ _ _, fun _ h => absurd h (by simp)⟩
theorem LsOwn.mod (h : LsOwn w base v L) (m : Mod F w w') (hv : ∀ g, v.ownBlock = some g → ¬ F g) (hF : ∀ b, F b → ¬ Ty w b 5) : LsOwn w' base v L := ⟨m.own h.1 hv, fun z hz => (h.2 z hz).mod m hF⟩
theorem LsOwn.all (h : LsOwn w base v L) (hb : Below w.heap.size w w') : LsOwn w' base v L := ⟨own_keep h.1 hb, fun z hz => (h.2 z hz).all hb⟩
theorem LsOwn.lower {base' : Nat} (h : LsOwn w base v L) (hb : base' ≤ base) : LsOwn w base' v L := ⟨own_lower h.1 hb, h.2⟩
theorem LsOwn.slice (h : LsOwn w base v L) : ∃ A c, v = .slice A L.length c := own_slice h.1
theorem LsOwn.at_ {m : Nat} (h : LsOwn w base (.slice A m c) L) : m = L.length ∧ LsAt w A m c L := by
  have hc := own_cap h.1
  obtain ⟨h1, h2⟩ := h
  rcases h1.2 with ⟨h3, h0⟩ | ⟨g, cap, cur, h3, _, hh, hnc, hm, hcs, htk⟩
  · injection h3 with h4 h5 h6
    subst h5 h6
    exact ⟨h0.symm, h0, by omega, by omega, fun h => absurd h (by omega), h2⟩
  · injection h3 with h4 h5 h6
    subst h5 h6 h4
    refine ⟨rfl, rfl, hnc, hc, fun hn => ⟨g, 0, cur, _, rfl, hh, fun j hj => ?_⟩, h2⟩
    have : (cur.toList.take (L.length * 1))[j]? = (L.map Bz.val)[j]? := by rw [htk]
    rw [List.getElem?_take, if_pos (by omega)] at this
    simpa [hj] using this
theorem LsAt.mod (h : LsAt w A n c L) (m : Mod F w w') (hR : ∀ b off, A = some ⟨b, off, none⟩ → Ty w b 39 → ¬ F b) (hF : ∀ b, F b → ¬ Ty w b 5) : LsAt w' A n c L := by
  obtain ⟨h1, h2, h3, h4, h5⟩ := h
  refine ⟨h1, h2, h3, fun hn => ?_, fun z hz => (h5 z hz).mod m hF⟩
  obtain ⟨b, off, cs, fr, e, hh, hc⟩ := h4 hn
  exact ⟨b, off, cs, fr, e, (m.block b (Array.getElem?_eq_some_iff.1 hh).1 (hR b off e ⟨_, _, hh⟩)).trans hh, hc⟩
theorem LsAt.all (h : LsAt w A n c L) (hb : Below w.heap.size w w') : LsAt w' A n c L := h.mod (F := fun _ => False) (Mod.of_below _ hb) (fun _ _ _ _ hf => hf) (fun _ hf => hf.elim)
theorem LsAt.cell (h : LsAt w A n c L) {k : Nat} (hk : k < n) : ∃ b off z, A = some ⟨b, off, none⟩ ∧ w.cell? ⟨b, off + k, none⟩ = some (.slice z.A z.n z.c) ∧ L[k]? = some z ∧ z.ok w := by
  obtain ⟨h1, h2, h3, h4, h5⟩ := h
  obtain ⟨b, off, cs, fr, e, hh, hc⟩ := h4 (by omega)
  have hk' : k < L.length := by omega
  refine ⟨b, off, L[k], e, ?_, by simp [hk'], h5 _ (List.getElem_mem _)⟩
  have := hc k hk'
  simp only [World.cell?, hh]
  simpa [Bz.val] using this
/-- append of one slice of bytes. -/
theorem LsOwn.snoc {ty : TypeId} (h : LsOwn w base v L) (z : Bz) (hz : z.ok w) (hL : L.length < 1099511627776) (hbase : base ≤ w.heap.size) :
    ∃ g cap w', (Builtin.append_ #[29, 29] ty #[v, .slice (some ⟨w.heap.size, 0, none⟩) 1 1]).run Tryz.prog (w.alloc (.cells #[.slice z.A z.n z.c] 39)) = .ok (.slice (some ⟨g, 0, none⟩) (L.length + 1) cap) w' ∧
      LsOwn w' base (.slice (some ⟨g, 0, none⟩) (L.length + 1) cap) (L ++ [z]) ∧ w.grownBy w' v.ownBlock ∧ (some g = v.ownBlock ∨ w.heap.size ≤ g) := by
  obtain ⟨g, cap, w', hrun, h2, h3, h4⟩ := run_append1 (ty := ty) (w := w.alloc (.cells #[.slice z.A z.n z.c] 39)) slT_rows (h.1.alloc _) (Blk.new w 39 #[.slice z.A z.n z.c]) rfl (by intro u hu; simp at hu; subst hu; rfl) (by omega) (by decide) (by simp; omega)
  have hg := (World.grownBy_alloc w (.cells #[.slice z.A z.n z.c] 39) v.ownBlock).trans h3
  refine ⟨g, cap, w', hrun, ⟨?_, ?_⟩, hg, h4.imp id (fun e => by rw [e]; simp)⟩
  · rw [List.map_append, List.length_append]
    exact h2
  · have m : Mod (fun b => v.ownBlock = some b) w w' := Mod.of_grown hg (fun g e => .inl e)
    intro y hy
    rcases List.mem_append.1 hy with hy | hy
    · exact (h.2 y hy).mod m (fun b e ht => absurd (Ty.unique (Ty.of_own h.1 e) ht) (by decide))
    · simp at hy
      subst hy
      exact hz.mod m (fun b e ht => absurd (Ty.unique (Ty.of_own h.1 e) ht) (by decide))
end
/-- The bytes lie in a block from B on. -/
def Bz.low (B : Nat) (z : Bz) : Prop := ∀ b off, z.A = some ⟨b, off, none⟩ → 0 < z.n → B ≤ b
theorem Bz.low_own {w : World} {base e n c : Nat} {A : Option Addr} {xs : List Value} {bs : List UInt8} (h : w.ownsRow base e 1 (.slice A n c) n xs) : Bz.low base ⟨A, n, c, bs⟩ := by
  intro b off e hn
  obtain ⟨g, hg, h1, -⟩ := own_some h hn
  simp only at e
  rw [hg] at e
  injection e with e
  injection e with e _ _
  omega
theorem Bz.low.mono {B B' : Nat} {z : Bz} (h : z.low B) (hB : B' ≤ B) : z.low B' := fun b off e hn => Nat.le_trans hB (h b off e hn)
theorem Bz.ok.modL {w w' : World} {F : Nat → Prop} {B : Nat} {z : Bz} (h : z.ok w) (hl : z.low B) (m : Mod F w w') (hF : ∀ b, B ≤ b → ¬ F b) : z.ok w' := by
  refine ⟨h.1, h.2.1, h.2.2.1, fun hn => ?_⟩
  obtain ⟨b, off, cs, fr, e, hh, hc⟩ := h.2.2.2 hn
  exact ⟨b, off, cs, fr, e, (m.block b (Array.getElem?_eq_some_iff.1 hh).1 (hF b (hl b off e hn))).trans hh, hc⟩
theorem LsOwn.modL {w w' : World} {base B : Nat} {v : Value} {L : List Bz} {F : Nat → Prop} (h : LsOwn w base v L) (hl : ∀ z ∈ L, z.low B) (m : Mod F w w') (hF : ∀ b, B ≤ b → ¬ F b) (hB : B ≤ base) : LsOwn w' base v L :=
  ⟨m.own h.1 (fun g e => hF g (by have := (h.1.lt g e).1; omega)), fun z hz => (h.2 z hz).modL (hl z hz) m hF⟩
/-- Slices of bytes that are read, whatever their blocks. -/
def Bz.rd (w : World) (z : Bz) : Prop := BIn w w.heap.size (z.A, z.n, z.c) z.bs
theorem Bz.rd.len {w : World} {z : Bz} (h : z.rd w) : z.bs.length = z.n := BIn.len h
theorem Bz.rd.cap {w : World} {z : Bz} (h : z.rd w) : z.n ≤ z.c := BIn.cap h
theorem Bz.rd.max {w : World} {z : Bz} (h : z.rd w) : z.c ≤ 9223372036854775807 := BIn.max h
theorem Bz.rd.rd {w : World} {z : Bz} (h : z.rd w) : Rd w w.heap.size z.A z.n (vByte z.bs) := BIn.rd h
theorem Bz.ok.rd {w : World} {z : Bz} (h : z.ok w) : z.rd w := ⟨h.1, h.2.1, h.2.2.1, Bts.rd h⟩
theorem Bz.rd.all {w w' : World} {z : Bz} (h : z.rd w) (hb : Below w.heap.size w w') : z.rd w' := (BIn.keep h (fun b hlt => hb.block b hlt)).more hb.size
def LsOwnR (w : World) (base : Nat) (v : Value) (L : List Bz) : Prop := w.ownsRow base 39 1 v L.length (L.map Bz.val) ∧ ∀ z ∈ L, z.rd w
def valAt (L : List Bz) (j : Nat) : Value := (L[j]?).elim undef Bz.val
/-- A [][]byte that is read, whatever its blocks. -/
def LsRd (w : World) (A : Option Addr) (n c : Nat) (L : List Bz) : Prop := L.length = n ∧ n ≤ c ∧ c ≤ 9223372036854775807 ∧ Rd w w.heap.size A n (valAt L) ∧ ∀ z ∈ L, z.rd w
section
variable {w w' : World} {base : Nat} {v : Value} {L : List Bz} {A : Option Addr} {n c : Nat}
theorem LsOwn.r (h : LsOwn w base v L) : LsOwnR w base v L := ⟨h.1, fun z hz => (h.2 z hz).rd⟩
theorem LsOwnR.nil (w : World) (base : Nat) : LsOwnR w base (.slice none 0 0) [] := ⟨World.ownsRow_nil _ _ _ _, fun _ h => absurd h (by simp)⟩
theorem LsOwnR.all (h : LsOwnR w base v L) (hb : Below w.heap.size w w') : LsOwnR w' base v L := ⟨own_keep h.1 hb, fun z hz => (h.2 z hz).all hb⟩
theorem LsOwnR.slice (h : LsOwnR w base v L) : ∃ A c, v = .slice A L.length c := own_slice h.1
theorem LsOwnR.rd {m : Nat} (h : LsOwnR w base (.slice A m c) L) : LsRd w A m c L := by
  have hc := own_cap h.1
  obtain ⟨e, hnc, hr⟩ := Rd.of_own (f := valAt L) h.1 (fun j hj => by simp [valAt, hj])
  exact ⟨e.symm, by omega, hc, hr, h.2⟩
theorem LsRd.all (h : LsRd w A n c L) (hb : Below w.heap.size w w') : LsRd w' A n c L := ⟨h.1, h.2.1, h.2.2.1, h.2.2.2.1.all hb, fun z hz => (h.2.2.2.2 z hz).all hb⟩
theorem LsRd.take {m : Nat} (h : LsRd w A n c L) (hm : m ≤ n) : LsRd w A m c (L.take m) := by
  obtain ⟨h1, h2, h3, h4, h5⟩ := h
  refine ⟨by rw [List.length_take, h1]; omega, by omega, h3, (h4.less hm).congr (fun j hj => by simp [valAt, hj]), fun z hz => h5 z (List.mem_of_mem_take hz)⟩
theorem LsRd.cell (h : LsRd w A n c L) {k : Nat} (hk : k < n) : ∃ b off z, A = some ⟨b, off, none⟩ ∧ b < w.heap.size ∧ w.cell? ⟨b, off + k, none⟩ = some (.slice z.A z.n z.c) ∧ L[k]? = some z ∧ z.rd w := by
  obtain ⟨h1, h2, h3, h4, h5⟩ := h
  obtain ⟨b, off, e, hb, hc⟩ := h4.at_ hk
  have hk' : k < L.length := by omega
  refine ⟨b, off, L[k], e, hb, ?_, by simp [hk'], h5 _ (List.getElem_mem _)⟩
  rw [hc]
  simp [valAt, hk', Bz.val]
theorem LsOwnR.snoc {ty : TypeId} (h : LsOwnR w base v L) (z : Bz) (hz : z.rd w) (hne : ∀ y ∈ L ++ [z], ∀ b off, y.A = some ⟨b, off, none⟩ → 0 < y.n → v.ownBlock ≠ some b) (hL : L.length < 1099511627776) (hbase : base ≤ w.heap.size) :
    ∃ g cap w', (Builtin.append_ #[29, 29] ty #[v, .slice (some ⟨w.heap.size, 0, none⟩) 1 1]).run Tryz.prog (w.alloc (.cells #[.slice z.A z.n z.c] 39)) = .ok (.slice (some ⟨g, 0, none⟩) (L.length + 1) cap) w' ∧
      LsOwnR w' base (.slice (some ⟨g, 0, none⟩) (L.length + 1) cap) (L ++ [z]) ∧ w.grownBy w' v.ownBlock ∧ (some g = v.ownBlock ∨ w.heap.size ≤ g) := by
  obtain ⟨g, cap, w', hrun, h2, h3, h4⟩ := run_append1 (ty := ty) (w := w.alloc (.cells #[.slice z.A z.n z.c] 39)) slT_rows (h.1.alloc _) (Blk.new w 39 #[.slice z.A z.n z.c]) rfl (by intro u hu; simp at hu; subst hu; rfl) (by omega) (by decide) (by simp; omega)
  have hg := (World.grownBy_alloc w (.cells #[.slice z.A z.n z.c] 39) v.ownBlock).trans h3
  refine ⟨g, cap, w', hrun, ⟨?_, ?_⟩, hg, h4.imp id (fun e => by rw [e]; simp)⟩
  · rw [List.map_append, List.length_append]
    exact h2
  · have m : Mod (fun b => v.ownBlock = some b) w w' := Mod.of_grown hg (fun g e => .inl e)
    intro y hy
    have hy' : y.rd w := by
      rcases List.mem_append.1 hy with hy | hy
      · exact h.2 y hy
      · simp at hy
        subst hy
        exact hz
    exact ⟨hy'.len, hy'.cap, hy'.max, (m.rd hy'.rd (Nat.le_refl _) (fun b off e hn => hne y hy b off e hn)).more hg.size⟩
end
end Go.Proofs.YtldmokjpfnakkaaGreat

/- Plain Lean: varints, zigzag, and reading them. -/
namespace Go.Proofs.YtldmokjpfnakkaaGreat
open Go.RowKit

/-- The varint of a number. -/
def varint (n : Nat) : List UInt8 := if _h : n < 128 then [UInt8.ofNat n] else UInt8.ofNat (n % 128 + 128) :: varint (n / 128)
termination_by n
decreasing_by omega
theorem varint_lt {n : Nat} (h : n < 128) : varint n = [UInt8.ofNat n] := by rw [varint, dif_pos h]
theorem varint_ge {n : Nat} (h : 128 ≤ n) : varint n = UInt8.ofNat (n % 128 + 128) :: varint (n / 128) := by rw [varint, dif_neg (by omega)]
theorem varint_len (k : Nat) : ∀ {n : Nat}, n < 128 ^ (k + 1) → (varint n).length ≤ k + 1 := by
  induction k with
  | zero => intro n h; rw [varint_lt (by simpa using h)]; simp
  | succ k ih =>
    intro n h
    by_cases h1 : n < 128
    · rw [varint_lt h1]; simp
    · rw [varint_ge (by omega)]
      have : n / 128 < 128 ^ (k + 1) := Nat.div_lt_of_lt_mul (by rw [Nat.pow_succ] at h; omega)
      have := ih this
      simp only [List.length_cons]; omega
theorem varint_len10 {n : Nat} (h : n ≤ 18446744073709551615) : (varint n).length ≤ 10 := varint_len 9 (by omega)
theorem varint_pos (n : Nat) : 0 < (varint n).length := by
  by_cases h : n < 128
  · rw [varint_lt h]; simp
  · rw [varint_ge (by omega)]; simp
/-- The zigzag form. -/
def zigI (n : Int) : Nat := if n < 0 then (2 * (-(n + 1)) + 1).toNat else (2 * n).toNat
def unzigI (z : Nat) : Int := if z % 2 = 1 then -((z / 2 : Nat) : Int) - 1 else ((z / 2 : Nat) : Int)
theorem zigI_lt {n : Int} (h1 : -9223372036854775808 ≤ n) (h2 : n ≤ 9223372036854775807) : zigI n ≤ 18446744073709551615 := by unfold zigI; split <;> omega
theorem unzig_zig (n : Int) : unzigI (zigI n) = n := by unfold unzigI zigI; split <;> split <;> omega
theorem zig_unzig (z : Nat) : zigI (unzigI z) = z := by unfold unzigI zigI; split <;> split <;> omega
theorem unzigI_range {z : Nat} (h : z ≤ 18446744073709551615) : -9223372036854775808 ≤ unzigI z ∧ unzigI z ≤ 9223372036854775807 := by unfold unzigI; split <;> omega

/-- The encodings. -/
def encInt (n : Int) : List UInt8 := varint (zigI n)
def encBool (b : Bool) : List UInt8 := if b then [1] else [0]
def encRaw (bs : List UInt8) : List UInt8 := varint bs.length ++ bs
def encInts (l : List Int) : List UInt8 := varint l.length ++ l.flatMap encInt
def encIntsTo (l : List Int) (k : Nat) : List UInt8 := varint l.length ++ (l.take k).flatMap encInt
theorem encIntsTo_zero (l : List Int) : encIntsTo l 0 = varint l.length := by simp [encIntsTo]
theorem encIntsTo_succ (l : List Int) (k : Nat) (hk : k < l.length) : encIntsTo l (k + 1) = encIntsTo l k ++ encInt (l[k]?.getD 0) := by
  unfold encIntsTo
  rw [List.take_succ_eq_append_getElem hk, List.flatMap_append, List.append_assoc]
  simp [hk]
theorem encIntsTo_all (l : List Int) (n : Nat) (h : l.length ≤ n) : encIntsTo l n = encInts l := by unfold encIntsTo encInts; rw [List.take_of_length_le h]

theorem ofNat_toNat {n : Nat} (h : n < 256) : (((UInt8.ofNat n).toNat : Nat) : Int) = (n : Int) := by rw [UInt8.toNat_ofNat']; omega
end Go.Proofs.YtldmokjpfnakkaaGreat

/- Plain facts on the 64-bit hash of package hash: no program in sight. -/
namespace Go.Proofs.YtldmokjpfnakkaaGreat
open Go.RowKit

/-- One step of the hash, as the walk spells it. -/
def mixI (a b : Int) : Int :=
  bits BinOp.xor IntKind.u64 (IntKind.u64.wrap (bits BinOp.xor IntKind.u64 a b * 11400714819323198485))
    (IntKind.u64.wrap (bits BinOp.xor IntKind.u64 a b * 11400714819323198485) / 4294967296)

theorem wrap_u64 (n : Int) : IntKind.u64.wrap n = n % 18446744073709551616 := by
  simp [IntKind.wrap, IntKind.bits, IntKind.signed]
theorem mixI_alt (a b : Int) : mixI a b = bits BinOp.xor IntKind.u64 (IntKind.u64.wrap (bits BinOp.xor IntKind.u64 a b * 11400714819323198485))
    (IntKind.u64.wrap ((IntKind.u64.wrap (bits BinOp.xor IntKind.u64 a b * 11400714819323198485)).tdiv 4294967296)) := by
  unfold mixI
  congr 1
  generalize bits BinOp.xor IntKind.u64 a b * 11400714819323198485 = x
  rw [wrap_u64, wrap_u64]
  have h0 : 0 ≤ x % 18446744073709551616 := Int.emod_nonneg _ (by decide)
  have h1 : x % 18446744073709551616 < 18446744073709551616 := Int.emod_lt_of_pos _ (by decide)
  rw [Int.tdiv_eq_ediv_of_nonneg h0]
  omega

/-- The little-endian number of a list of bytes. -/
def wordN : List UInt8 → Nat
  | [] => 0
  | b :: bs => b.toNat + 256 * wordN bs

theorem wordN_lt (bs : List UInt8) : wordN bs < 256 ^ bs.length := by
  induction bs with
  | nil => simp [wordN]
  | cons b bs ih =>
    have hb : b.toNat < 256 := b.toNat_lt
    simp only [wordN, List.length_cons, Nat.pow_succ]
    omega

theorem wordN_snoc (bs : List UInt8) (b : UInt8) : wordN (bs ++ [b]) = wordN bs + 256 ^ bs.length * b.toNat := by
  induction bs with
  | nil => simp [wordN]
  | cons c bs ih =>
    simp only [List.cons_append, wordN, ih, List.length_cons, Nat.pow_succ, Nat.mul_add]
    have : 256 * (256 ^ bs.length * b.toNat) = 256 ^ bs.length * 256 * b.toNat := by
      rw [← Nat.mul_assoc, Nat.mul_comm 256]
    omega

/-- Group number k of 8 bytes. -/
def group (bs : List UInt8) (k : Nat) : List UInt8 := (bs.drop (8 * k)).take 8

def nwords (bs : List UInt8) : Nat := (bs.length + 7) / 8

def wordAt (bs : List UInt8) (k : Nat) : Int := (wordN (group bs k) : Nat)

/-- The words of a list of bytes, the first k of them. -/
def wordsTo (bs : List UInt8) (k : Nat) : List Int := (List.range k).map (wordAt bs)
def wordsI (bs : List UInt8) : List Int := wordsTo bs (nwords bs)

theorem wordsTo_succ (bs : List UInt8) (k : Nat) : wordsTo bs (k + 1) = wordsTo bs k ++ [wordAt bs k] := by simp [wordsTo, List.range_succ]
theorem wordsTo_zero (bs : List UInt8) : wordsTo bs 0 = [] := rfl
theorem wordsTo_length (bs : List UInt8) (k : Nat) : (wordsTo bs k).length = k := by simp [wordsTo]

theorem group_length (bs : List UInt8) (k : Nat) : (group bs k).length = min 8 (bs.length - 8 * k) := by simp [group]

/-- One round of the program's loop over a group. -/
theorem word_step (g : List UInt8) (j : Nat) (h8 : j < 8) (hj : j < g.length) :
    bits BinOp.or IntKind.u64 ((wordN (g.take j) : Nat) : Int) (IntKind.u64.wrap (IntKind.u64.wrap (((g[j]?.getD 0).toNat : Nat) : Int) * 2 ^ (8 * j))) = ((wordN (g.take (j + 1)) : Nat) : Int) := by
  have hb : (g[j]?.getD 0).toNat < 256 := UInt8.toNat_lt _
  have hlt := wordN_lt (g.take j)
  have hl : (g.take j).length = j := by simp; omega
  rw [hl] at hlt
  have hp : (256 : Nat) ^ j = 2 ^ (8 * j) := by rw [show (256 : Nat) = 2 ^ 8 from rfl, ← Nat.pow_mul]
  have hpw : 2 ^ (8 * j) ≤ 2 ^ 56 := Nat.pow_le_pow_right (by decide) (by omega)
  have e1 : wordN (g.take (j + 1)) = wordN (g.take j) + 2 ^ (8 * j) * (g[j]?.getD 0).toNat := by
    rw [List.take_succ_eq_append_getElem hj, wordN_snoc, hl, hp]
    simp [hj]
  generalize (g[j]?.getD 0).toNat = c at *
  generalize wordN (g.take j) = x at *
  have hcm : 2 ^ (8 * j) * c ≤ 2 ^ 56 * 255 := Nat.mul_le_mul hpw (by omega)
  rw [wrap_u64, wrap_u64]
  have e2 : ((c : Int) % 18446744073709551616 * 2 ^ (8 * j)) % 18446744073709551616 = ((2 ^ (8 * j) * c : Nat) : Int) := by
    rw [Int.emod_eq_of_lt (a := (c : Int)) (by omega) (by omega)]
    rw [show ((c : Int) * 2 ^ (8 * j)) = ((2 ^ (8 * j) * c : Nat) : Int) from by push_cast; exact Int.mul_comm _ _]
    exact Int.emod_eq_of_lt (by omega) (by omega)
  rw [e2, u64_or_nat _ _ (by omega) (by omega), e1]
  congr 1
  rw [Nat.or_comm, ← Nat.two_pow_add_eq_or_of_lt (by omega)]
  omega

/-- One round of the reference's loop over a group. -/
theorem word_back (g : List UInt8) (r : Nat) (hr : r < g.length) (h8 : g.length ≤ 8) :
    IntKind.u64.wrap (IntKind.u64.wrap (256 * ((wordN (g.drop (r + 1)) : Nat) : Int)) + IntKind.u64.wrap (((g[r]?.getD 0).toNat : Nat) : Int)) = ((wordN (g.drop r) : Nat) : Int) := by
  have e : wordN (g.drop r) = (g[r]?.getD 0).toNat + 256 * wordN (g.drop (r + 1)) := by
    rw [List.drop_eq_getElem_cons hr, wordN]
    simp [hr]
  have h1 := wordN_lt (g.drop r)
  have h2 : 256 ^ (g.drop r).length ≤ 256 ^ 8 := Nat.pow_le_pow_right (by decide) (by simp; omega)
  rw [wrap_u64, wrap_u64, wrap_u64]
  omega

theorem group_take (bs : List UInt8) (k m : Nat) (h : (group bs k).length ≤ m) : (group bs k).take m = group bs k := List.take_of_length_le h

/-- All the steps of a list of words. -/
def mixAll (s : Int) (ws : List Int) : Int := ws.foldl mixI s
theorem mixAll_snoc (s : Int) (ws : List Int) (x : Int) : mixAll s (ws ++ [x]) = mixI (mixAll s ws) x := by simp [mixAll]
theorem mixAll_nil (s : Int) : mixAll s [] = s := rfl

/-- An int as a word. -/
def toU (n : Int) : Int := IntKind.u64.wrap n
/-- A word as an int. -/
def toI (n : Int) : Int := wrap64 n

/-- The hash of a label and integers. -/
def sumI (label : List UInt8) (ws : List Int) : Int :=
  mixI (mixAll (mixI (mixI (mixAll 0 (wordsI label)) (label.length : Nat)) (ws.length : Nat)) (ws.map toU)) 0

/-- The state behind the first j integers. -/
def sumTo (label : List UInt8) (n : Nat) (ws : List Int) (j : Nat) : Int :=
  mixAll (mixI (mixI (mixAll 0 (wordsI label)) (label.length : Nat)) (n : Nat)) ((ws.take j).map toU)
theorem sumTo_zero (label : List UInt8) (n : Nat) (ws : List Int) : sumTo label n ws 0 = mixI (mixI (mixAll 0 (wordsI label)) (label.length : Nat)) (n : Nat) := rfl
theorem sumTo_succ (label : List UInt8) (n : Nat) (ws : List Int) (j : Nat) (hj : j < ws.length) : sumTo label n ws (j + 1) = mixI (sumTo label n ws j) (IntKind.u64.wrap (ws[j]?.getD 0)) := by
  unfold sumTo
  rw [List.take_succ_eq_append_getElem hj, List.map_append, List.map_cons, List.map_nil, mixAll_snoc]
  simp [hj, toU]
theorem sumTo_all (label : List UInt8) (n : Nat) (ws : List Int) (hn : ws.length = n) : mixI (sumTo label n ws n) 0 = sumI label ws := by
  unfold sumTo sumI
  rw [List.take_of_length_le (by omega), hn]

def bytesI (label bs : List UInt8) : Int := sumI label ((wordsI bs).map toI ++ [((bs.length : Nat) : Int)])

def pairBytes : List UInt8 := [112, 97, 105, 114]
def pairI (a b : Int) : Int := sumI pairBytes [toI a, toI b]

end Go.Proofs.YtldmokjpfnakkaaGreat
