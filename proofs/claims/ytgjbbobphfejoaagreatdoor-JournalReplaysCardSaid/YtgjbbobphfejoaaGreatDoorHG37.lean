/- Plain Lean: what is written is read; what is read was written; prefixes. -/
import Derived.Test.YtgjbbobphfejoaaGreatDoorHG36
import Derived.Test.YtgjbbobphfejoaaGreatDoorHG26
import Derived.Test.YtgjbbobphfejoaaGreatDoorHG31
import Derived.Test.YtgjbbobphfejoaaGreatDoorHLdHold
import Derived.Test.YtgjbbobphfejoaaGreatDoorHG1
import Derived.Test.YtgjbbobphfejoaaGreatDoorHG35

namespace Go.Proofs.YtgjbbobphfejoaaGreatDoor
open Go.RowKit

def InI (n : Int) : Prop := -9223372036854775808 ≤ n ∧ n ≤ 9223372036854775807
theorem decU_int {n : Int} (h : InI n) (r : List UInt8) : decU 0 0 (encInt n ++ r) = (0, zigI n, r) := decU_enc (zigI_lt h.1 h.2) r
theorem encInt_pos (n : Int) : 0 < (encInt n).length := varint_pos _
theorem decRaw_enc {bs : List UInt8} (h : bs.length ≤ 18446744073709551615) (r : List UInt8) : decRaw (encRaw bs ++ r) = (0, bs, r) := by
  have e : decU 0 0 (encRaw bs ++ r) = (0, bs.length, bs ++ r) := by unfold encRaw; rw [List.append_assoc]; exact decU_enc h _
  unfold decRaw
  rw [e]
  simp
theorem decK_enc : ∀ (l : List Int) (_ : ∀ n ∈ l, InI n) (r : List UInt8), decK l.length (l.flatMap encInt ++ r) = (0, l, r)
  | [], _, r => rfl
  | n :: l, h, r => by
    have hn := h n (by simp)
    have ih := decK_enc l (fun m hm => h m (by simp [hm])) r
    rw [List.flatMap_cons, List.append_assoc, List.length_cons, decK, decU_int hn, if_neg (by simp), ih, if_neg (by simp), unzig_zig]
theorem flatI_len (l : List Int) : l.length ≤ (l.flatMap encInt).length := by
  induction l with
  | nil => simp
  | cons n l ih => rw [List.flatMap_cons, List.length_append, List.length_cons]; have := encInt_pos n; omega
theorem decInts_enc {l : List Int} (hl : l.length ≤ 18446744073709551615) (h : ∀ n ∈ l, InI n) (r : List UInt8) : decInts (encInts l ++ r) = (0, l, r) := by
  have e : decU 0 0 (encInts l ++ r) = (0, l.length, l.flatMap encInt ++ r) := by unfold encInts; rw [List.append_assoc]; exact decU_enc hl _
  have := flatI_len l
  unfold decInts
  rw [e, if_neg (by simp), if_neg (by simp only [List.length_append]; omega)]
  exact decK_enc l h r
end Go.Proofs.YtgjbbobphfejoaaGreatDoor

/- JournalReplays, in plain words: sequences of steps, what holds along them. -/
namespace Go.Proofs.YtgjbbobphfejoaaGreatDoor
open Go.RowKit

abbrev Qs := List (Bool × Mv)
def smallK (k : LK) : Prop := k.1.1 ≤ 4 ∧ k.2.1 ≤ 3
structure QOk (q : Bool × Mv) : Prop where
  n : 1 ≤ q.2.n ∧ q.2.n ≤ 39
  frm : if q.1 = true then q.2.frm = 0 else 1 ≤ q.2.frm
  f : 0 ≤ q.2.frm ∧ q.2.frm ≤ 3
  d : 1 ≤ q.2.dst ∧ q.2.dst ≤ 4
  i : 0 ≤ q.2.item ∧ q.2.item ≤ 3
  ne : q.2.frm ≠ q.2.dst
def stepS (mx : Int → Bool) (S : LSt) (q : Bool × Mv) : Except Int LSt :=
  match mvsP mx S [q.2] with
  | .error e => .error e
  | .ok S' => .ok { S' with ns := S.ns + 1, now := 0 }
def runQ (mx : Int → Bool) : LSt → Qs → Option LSt
  | S, [] => some S
  | S, q :: qs => match stepS mx S q with
    | .error _ => none
    | .ok S' => runQ mx S' qs
theorem runQ_snoc {mx : Int → Bool} : ∀ (qs : Qs) {S S1 S2 : LSt} {q : Bool × Mv}, runQ mx S qs = some S1 → stepS mx S1 q = .ok S2 → runQ mx S (qs ++ [q]) = some S2
  | [], S, S1, S2, q, h, h2 => by
    injection h with h
    subst h
    simp only [List.nil_append, runQ, h2]
  | x :: qs, S, S1, S2, q, h, h2 => by
    unfold runQ at h
    simp only [List.cons_append, runQ]
    cases hx : stepS mx S x with
    | error e => rw [hx] at h; cases h
    | ok S' => rw [hx] at h; exact runQ_snoc qs h h2
structure SInv (mx : Int → Bool) (j : Nat) (S : LSt) : Prop where
  ok : LOk mx ((40 * j : Nat) : Int) S
  ns : S.ns = j
  nf : S.nf = j
  now : S.now = 0
  sh : S.sh = 0
  sm : ∀ k, S.st k ≠ [] → smallK k
theorem SInv.zero (mx : Int → Bool) : SInv mx 0 (lst0 0) where
  ok := ⟨fun k l hl => (nomatch hl), fun k => (by show 0 ≤ 4096; decide), fun k _ => (by show totL [] ≤ ((40 * 0 : Nat) : Int); exact Int.le_refl _), fun i => ⟨Int.le_refl _, (by show (0 : Int) ≤ MaxU; decide)⟩, (by show 0 ≤ 1000; decide), (by show 0 ≤ 1000000; decide), (by show 0 ≤ 60000; decide)⟩
  ns := rfl
  nf := rfl
  now := rfl
  sh := rfl
  sm := fun k hk => absurd rfl hk
theorem kOf_small {a i : Int} (ha : 0 ≤ a ∧ a ≤ 4) (hi : 0 ≤ i ∧ i ≤ 3) : smallK (kOf a i) := by
  unfold smallK kOf
  dsimp only
  omega
theorem moveP_small {mx : Int → Bool} {S S' : LSt} {m : Mv} (hs : ∀ k, S.st k ≠ [] → smallK k) (h1 : smallK m.src) (h2 : smallK m.tgt) (h : moveP mx S m = .ok S') : ∀ k, S'.st k ≠ [] → smallK k := by
  unfold moveP at h
  cases hw : wdP mx S m with
  | none => rw [hw] at h; cases h
  | some S1 =>
    rw [hw] at h
    dsimp only at h
    have hs1 : ∀ k, S1.st k ≠ [] → smallK k := by
      unfold wdP at hw
      split at hw
      · injection hw with hw
        subst hw
        exact hs
      · split at hw
        · cases hw
        · injection hw with hw
          subst hw
          intro k hk
          unfold LSt.put at hk
          dsimp only at hk
          split at hk
          · rename_i e; rw [e]; exact h1
          · exact hs k hk
    split at h
    · cases h
    · split at h
      · cases h
      · injection h with h
        subst h
        intro k hk
        unfold landP LSt.put at hk
        dsimp only at hk
        split at hk
        · rename_i e; rw [e]; exact h2
        · exact hs1 k hk
theorem SInv.step {mx : Int → Bool} {j : Nat} {S S' : LSt} {q : Bool × Mv} (h : SInv mx j S) (hq : QOk q) (hj : j ≤ 1000) (hs : stepS mx S q = .ok S') : SInv mx (j + 1) S' := by
  unfold stepS at hs
  cases hm : mvsP mx S [q.2] with
  | error e => rw [hm] at hs; cases hs
  | ok S1 =>
    rw [hm] at hs
    dsimp only at hs
    injection hs with hs
    subst hs
    have hn := h.nf
    have hns := h.ns
    obtain ⟨k1, k2, k3, k4, k5⟩ := mvsP_ok [q.2] h.ok (fun m hm => by rw [List.mem_singleton] at hm; subst hm; exact ⟨hq.n.1, Int.le_trans hq.n.2 (by decide)⟩) (by show S.nf + 1 ≤ 1000000; omega) hm
    have hsm : sumN [q.2] = q.2.n := by simp [sumN]
    rw [hsm] at k1
    have k1' := k1.more (K' := ((40 * (j + 1) : Nat) : Int)) (by have := hq.n.2; omega)
    have e1 : moveP mx S q.2 = .ok S1 := by
      have := hm
      unfold mvsP at this
      cases hx : moveP mx S q.2 with
      | error e => rw [hx] at this; cases this
      | ok S2 => rw [hx] at this; exact this
    refine ⟨⟨k1'.ok, k1'.len, k1'.mix, k1'.tot, k1'.sh, k1'.nf, by show S.ns + 1 ≤ 60000; omega⟩, by show S.ns + 1 = j + 1; omega, by show S1.nf = j + 1; rw [k2]; show S.nf + 1 = j + 1; omega, rfl, by show S1.sh = 0; rw [k3]; exact h.sh, fun k hk => moveP_small (S' := S1) h.sm (kOf_small ⟨hq.f.1, by have := hq.f.2; omega⟩ hq.i) (kOf_small ⟨by have := hq.d.1; omega, hq.d.2⟩ hq.i) e1 k hk⟩
theorem SInv.run {mx : Int → Bool} : ∀ (qs : Qs) {j : Nat} {S S' : LSt}, SInv mx j S → (∀ q ∈ qs, QOk q) → j + qs.length ≤ 1000 → runQ mx S qs = some S' → SInv mx (j + qs.length) S'
  | [], j, S, S', h, _, _, hr => by
    injection hr with hr
    subst hr
    exact h
  | q :: qs, j, S, S', h, hq, hl, hr => by
    unfold runQ at hr
    rw [List.length_cons] at hl ⊢
    cases hx : stepS mx S q with
    | error e => rw [hx] at hr; cases hr
    | ok S1 =>
      rw [hx] at hr
      have h1 := h.step (hq q (by simp)) (by omega) hx
      have := SInv.run qs h1 (fun x hx => hq x (by simp [hx])) (by omega) hr
      rw [show j + (qs.length + 1) = j + 1 + qs.length by omega]
      exact this
def allK : List LK := (List.range 5).flatMap fun (a : Nat) => (List.range 4).map fun (i : Nat) => kOf (a : Int) (i : Int)
theorem smallK.mem {k : LK} (h : smallK k) : k ∈ allK := by
  obtain ⟨⟨a, ha⟩, ⟨i, hi⟩⟩ := k
  unfold smallK at h
  dsimp only at h
  unfold allK
  rw [List.mem_flatMap]
  refine ⟨a, List.mem_range.2 (by omega), List.mem_map.2 ⟨i, List.mem_range.2 (by omega), ?_⟩⟩
  unfold kOf
  simp only [Int.toNat_natCast, Prod.mk.injEq, Fin.mk.injEq]
  exact ⟨Nat.mod_eq_of_lt ha, Nat.mod_eq_of_lt hi⟩
theorem LedAt.few {mx : Int → Bool} {w : World} {L : Led} {S : LSt} (h : LedAt mx w L S) (hs : ∀ k, S.st k ≠ [] → smallK k) : L.es.length ≤ 100000 := by
  have h1 := nodup_len (a := L.es.map Prod.fst) (b := allK) h.s.nodup (fun k hk => by
    obtain ⟨p, hp, rfl⟩ := List.mem_map.1 hk
    refine (hs p.1 (fun e => ?_)).mem
    have h2 := h.ne p.1 e
    exact glk_none.1 h2 p hp rfl)
  rw [List.length_map] at h1
  have h2 : allK.length = 20 := rfl
  omega
def recI (q : Bool × Mv) : List Int := [kindZ q.1, q.2.frm, q.2.dst, q.2.item, q.2.n]
def recQ (q : Bool × Mv) : List UInt8 := encInts (recI q)
theorem QOk.inI {q : Bool × Mv} (h : QOk q) : ∀ n ∈ recI q, InI n := by
  intro n hn
  obtain ⟨h1, _, h3, h4, h5, _⟩ := h
  simp only [recI, List.mem_cons, List.not_mem_nil, or_false] at hn
  unfold InI
  rcases hn with rfl | rfl | rfl | rfl | rfl
  · cases q.1 <;> decide
  all_goals omega
theorem recQ_dec {q : Bool × Mv} (h : QOk q) : decInts (recQ q) = (0, recI q, []) := by
  have := decInts_enc (l := recI q) (by show 5 ≤ 18446744073709551615; decide) h.inI []
  rw [List.append_nil] at this
  exact this
end Go.Proofs.YtgjbbobphfejoaaGreatDoor

/- JournalReplays: the row of the states' holdings. -/
namespace Go.Proofs.YtgjbbobphfejoaaGreatDoor
open Go.RowKit

def HoldV (w : World) (val : Value) (S : LSt) : Prop := ∃ (A : Option Addr) (ks : List LK) (c : Nat), val = .slice A ks.length c ∧ HoldIs S ks ∧ ks.length ≤ c ∧ c ≤ 9223372036854775807 ∧ RowT w 69 A (ks.flatMap (hcells S))
def StatesAt (B : Nat) (mx : Int → Bool) (w : World) (v : Value) (qs : Qs) : Prop :=
  ∃ vals : List Value, vals.length = qs.length + 1 ∧ w.ownsRow B 51 1 v (qs.length + 1) vals ∧ ∀ k, k ≤ qs.length → ∃ S val, runQ mx (lst0 0) (qs.take k) = some S ∧ vals[k]? = some val ∧ HoldV w val S
theorem HoldV.mod {w w' : World} {val : Value} {S : LSt} {F : Nat → Prop} (h : HoldV w val S) (m : Mod F w w') (hF : ∀ b, F b → ¬ Ty w b 69) : HoldV w' val S := by
  obtain ⟨A, ks, c, h1, h2, h3, h4, h5⟩ := h
  exact ⟨A, ks, c, h1, h2, h3, h4, h5.mod m hF⟩
theorem StatesAt.mod {B : Nat} {mx : Int → Bool} {w w' : World} {v : Value} {qs : Qs} {F : Nat → Prop} (h : StatesAt B mx w v qs) (m : Mod F w w') (hF : ∀ b, F b → v.ownBlock ≠ some b ∧ ¬ Ty w b 69) : StatesAt B mx w' v qs := by
  obtain ⟨vals, h1, h2, h3⟩ := h
  refine ⟨vals, h1, m.own h2 (fun b hb hf => (hF b hf).1 hb), fun k hk => ?_⟩
  obtain ⟨S, val, a1, a2, a3⟩ := h3 k hk
  exact ⟨S, val, a1, a2, a3.mod m (fun b hb => (hF b hb).2)⟩
theorem StatesAt.all {B : Nat} {mx : Int → Bool} {w w' : World} {v : Value} {qs : Qs} (h : StatesAt B mx w v qs) (hb : Below w.heap.size w w') : StatesAt B mx w' v qs := h.mod (F := fun _ => False) (Mod.of_below _ hb) (fun _ hf => hf.elim)
theorem slT_states : SlT Tryz.prog 53 51 1 24 := SlT.of Tryz.underlying53 (by kernel_rfl) (by decide)
/-- The states behind the append of the holdings of the state that a step leads to. -/
theorem StatesAt.push {B : Nat} {mx : Int → Bool} {w : World} {v : Value} {qs : Qs} (h : StatesAt B mx w v qs) (hB : B ≤ w.heap.size) (hn : qs.length < 1000) {q : Bool × Mv} {S S' : LSt} (hr : runQ mx (lst0 0) qs = some S) (hs : stepS mx S q = .ok S') {A : Option Addr} {m c : Nat} (hv : HoldV w (.slice A m c) S') (ty : TypeId) :
    ∃ g cc w', (Builtin.append_ #[53, 53] ty #[v, .slice (some ⟨w.heap.size, 0, none⟩) 1 1]).run Tryz.prog (w.alloc (.cells #[.slice A m c] 51)) = .ok (.slice (some ⟨g, 0, none⟩) (qs.length + 1 + 1) cc) w' ∧
      StatesAt B mx w' (.slice (some ⟨g, 0, none⟩) (qs.length + 1 + 1) cc) (qs ++ [q]) ∧ Mod (fun b => v.ownBlock = some b) w w' ∧ Below B w w' ∧ (v.ownBlock = some g ∨ w.heap.size ≤ g) := by
  have hb1 := (Below.refl w.heap.size w).alloc (Nat.le_refl _) (.cells #[.slice A m c] 51)
  have h2 := h.all hb1
  have hv2 : HoldV (w.alloc (.cells #[.slice A m c] 51)) (.slice A m c) S' := hv.mod (F := fun _ => False) (Mod.of_below _ hb1) (fun _ hf => hf.elim)
  have k1 := Blk.new w 51 #[.slice A m c]
  obtain ⟨W, hW⟩ : ∃ W, w.alloc (.cells #[.slice A m c] 51) = W := ⟨_, rfl⟩
  rw [hW] at hb1 h2 hv2 k1 ⊢
  obtain ⟨vals, a1, a2, a3⟩ := h2
  obtain ⟨g, cc, w', hrun, hown, hg, hnew⟩ := run_append1b (ty := ty) slT_states a2 k1 rfl (by
    intro u hu
    simp only [List.mem_cons, List.not_mem_nil, or_false] at hu
    subst hu
    rfl) (by omega) (by decide) (Nat.le_trans hB hb1.size)
  have m1 : Mod (fun b => v.ownBlock = some b) W w' := Mod.of_grown hg (fun g e => .inl e)
  have mm : Mod (fun b => v.ownBlock = some b) w w' := (Mod.of_below _ hb1).trans m1 (fun b hb => .inl hb)
  have hty : ∀ b, v.ownBlock = some b → ¬ Ty W b 69 := fun b hb ht => absurd (ht.unique (Ty.of_own a2 hb)) (by decide)
  refine ⟨g, cc, w', hrun, ⟨vals ++ [.slice A m c], ?_, ?_, ?_⟩, mm, ?_, ?_⟩
  · simp [a1]
  · rw [List.length_append]
    exact hown
  · intro k hk
    rw [List.length_append, List.length_singleton] at hk
    rcases Nat.lt_or_ge k (qs.length + 1) with hlt | hge
    · obtain ⟨S0, val, b1, b2, b3⟩ := a3 k (by omega)
      exact ⟨S0, val, by rw [List.take_append_of_le_length (by omega)]; exact b1, by rw [List.getElem?_append_left (by omega)]; exact b2, b3.mod m1 hty⟩
    · obtain rfl : k = qs.length + 1 := by omega
      refine ⟨S', .slice A m c, ?_, ?_, hv2.mod m1 hty⟩
      · rw [List.take_of_length_le (by rw [List.length_append]; exact Nat.le_refl _)]
        exact runQ_snoc qs hr hs
      · rw [List.getElem?_append_right (by omega), a1]
        simp
  · obtain ⟨vals', b1, b2, b3⟩ := h
    exact mm.below (Below.refl _ _) hB (fun b hb => (b2.lt b hb).1)
  · rcases hnew with e | e
    · exact .inl e.symm
    · exact .inr (by have := hb1.size; omega)
end Go.Proofs.YtgjbbobphfejoaaGreatDoor

/- Lists of slices of bytes (a [][]byte), by their blocks' types. -/
namespace Go.Proofs.YtgjbbobphfejoaaGreatDoor
open Go.RowKit

structure Bz where
  A : Option Addr
  n : Nat
  c : Nat
  bs : List UInt8
def Bz.val (z : Bz) : Value := .slice z.A z.n z.c
def Bz.ok (w : World) (z : Bz) : Prop := Bts w z.A z.n z.c z.bs
/-- A [][]byte that is read. -/
def LsAt (w : World) (A : Option Addr) (n c : Nat) (L : List Bz) : Prop :=
  L.length = n ∧ n ≤ c ∧ c ≤ 9223372036854775807 ∧ (0 < n → ∃ b off cs fr, A = some ⟨b, off, none⟩ ∧ w.heap[b]? = some (.cells cs 55 fr) ∧ ∀ (j : Nat) (hj : j < L.length), cs[off + j]? = some L[j].val) ∧ ∀ z ∈ L, z.ok w
/-- A [][]byte of the call's own. -/
def LsOwn (w : World) (base : Nat) (v : Value) (L : List Bz) : Prop := w.ownsRow base 55 1 v L.length (L.map Bz.val) ∧ ∀ z ∈ L, z.ok w
theorem slT_rows : SlT Tryz.prog 26 55 1 24 := SlT.of Tryz.underlying26 (by kernel_rfl) (by decide)
section
variable {w w' : World} {base : Nat} {v : Value} {L : List Bz} {F : Nat → Prop} {A : Option Addr} {n c : Nat}
theorem Bz.ok.mod {z : Bz} (h : z.ok w) (m : Mod F w w') (hF : ∀ b, F b → ¬ Ty w b 5) : z.ok w' := Bts.mod h m hF
theorem Bz.ok.all {z : Bz} (h : z.ok w) (hb : Below w.heap.size w w') : z.ok w' := Bts.all h hb
theorem LsOwn.nil (w : World) (base : Nat) : LsOwn w base (.slice none 0 0) [] := ⟨World.ownsRow_nil _ _ _ _, fun _ h => absurd h (by simp)⟩
theorem LsOwn.mod (h : LsOwn w base v L) (m : Mod F w w') (hv : ∀ g, v.ownBlock = some g → ¬ F g) (hF : ∀ b, F b → ¬ Ty w b 5) : LsOwn w' base v L := ⟨m.own h.1 hv, fun z hz => (h.2 z hz).mod m hF⟩
theorem LsOwn.all (h : LsOwn w base v L) (hb : Below w.heap.size w w') : LsOwn w' base v L := ⟨own_keep h.1 hb, fun z hz => (h.2 z hz).all hb⟩
theorem LsOwn.lower {base' : Nat} (h : LsOwn w base v L) (hb : base' ≤ base) : LsOwn w base' v L := ⟨own_lower h.1 hb, h.2⟩
theorem LsOwn.slice (h : LsOwn w base v L) : ∃ A c, v = .slice A L.length c := own_slice h.1
theorem LsOwn.at_ {m : Nat} (h : LsOwn w base (.slice A m c) L) : m = L.length ∧ LsAt w A m c L := by
  have hc := own_cap h.1
  obtain ⟨h1, h2⟩ := h
  rcases h1.2 with ⟨h3, h0⟩ | ⟨g, cap, cur, h3, _, hh, hnc, hm, hcs, htk⟩
  · injection h3 with h4 h5 h6
    subst h5 h6
    exact ⟨h0.symm, h0, by omega, by omega, fun h => absurd h (by omega), h2⟩
  · injection h3 with h4 h5 h6
    subst h5 h6 h4
    refine ⟨rfl, rfl, hnc, hc, fun hn => ⟨g, 0, cur, _, rfl, hh, fun j hj => ?_⟩, h2⟩
    have : (cur.toList.take (L.length * 1))[j]? = (L.map Bz.val)[j]? := by rw [htk]
    rw [List.getElem?_take, if_pos (by omega)] at this
    simpa [hj] using this
theorem LsAt.mod (h : LsAt w A n c L) (m : Mod F w w') (hR : ∀ b off, A = some ⟨b, off, none⟩ → Ty w b 55 → ¬ F b) (hF : ∀ b, F b → ¬ Ty w b 5) : LsAt w' A n c L := by
  obtain ⟨h1, h2, h3, h4, h5⟩ := h
  refine ⟨h1, h2, h3, fun hn => ?_, fun z hz => (h5 z hz).mod m hF⟩
  obtain ⟨b, off, cs, fr, e, hh, hc⟩ := h4 hn
  exact ⟨b, off, cs, fr, e, (m.block b (Array.getElem?_eq_some_iff.1 hh).1 (hR b off e ⟨_, _, hh⟩)).trans hh, hc⟩
theorem LsAt.all (h : LsAt w A n c L) (hb : Below w.heap.size w w') : LsAt w' A n c L := h.mod (F := fun _ => False) (Mod.of_below _ hb) (fun _ _ _ _ hf => hf) (fun _ hf => hf.elim)
theorem LsAt.cell (h : LsAt w A n c L) {k : Nat} (hk : k < n) : ∃ b off z, A = some ⟨b, off, none⟩ ∧ w.cell? ⟨b, off + k, none⟩ = some (.slice z.A z.n z.c) ∧ L[k]? = some z ∧ z.ok w := by
  obtain ⟨h1, h2, h3, h4, h5⟩ := h
  obtain ⟨b, off, cs, fr, e, hh, hc⟩ := h4 (by omega)
  have hk' : k < L.length := by omega
  refine ⟨b, off, L[k], e, ?_, by simp [hk'], h5 _ (List.getElem_mem _)⟩
  have := hc k hk'
  simp only [World.cell?, hh]
  simpa [Bz.val] using this
/-- append of one slice of bytes. -/
theorem LsOwn.snoc {ty : TypeId} (h : LsOwn w base v L) (z : Bz) (hz : z.ok w) (hL : L.length < 1099511627776) (hbase : base ≤ w.heap.size) :
    ∃ g cap w', (Builtin.append_ #[26, 26] ty #[v, .slice (some ⟨w.heap.size, 0, none⟩) 1 1]).run Tryz.prog (w.alloc (.cells #[.slice z.A z.n z.c] 55)) = .ok (.slice (some ⟨g, 0, none⟩) (L.length + 1) cap) w' ∧
      LsOwn w' base (.slice (some ⟨g, 0, none⟩) (L.length + 1) cap) (L ++ [z]) ∧ w.grownBy w' v.ownBlock ∧ (some g = v.ownBlock ∨ w.heap.size ≤ g) := by
  obtain ⟨g, cap, w', hrun, h2, h3, h4⟩ := run_append1 (ty := ty) (w := w.alloc (.cells #[.slice z.A z.n z.c] 55)) slT_rows (h.1.alloc _) (Blk.new w 55 #[.slice z.A z.n z.c]) rfl (by intro u hu; simp at hu; subst hu; rfl) (by omega) (by decide) (by simp; omega)
  have hg := (World.grownBy_alloc w (.cells #[.slice z.A z.n z.c] 55) v.ownBlock).trans h3
  refine ⟨g, cap, w', hrun, ⟨?_, ?_⟩, hg, h4.imp id (fun e => by rw [e]; simp)⟩
  · rw [List.map_append, List.length_append]
    exact h2
  · have m : Mod (fun b => v.ownBlock = some b) w w' := Mod.of_grown hg (fun g e => .inl e)
    intro y hy
    rcases List.mem_append.1 hy with hy | hy
    · exact (h.2 y hy).mod m (fun b e ht => absurd (Ty.unique (Ty.of_own h.1 e) ht) (by decide))
    · simp at hy
      subst hy
      exact hz.mod m (fun b e ht => absurd (Ty.unique (Ty.of_own h.1 e) ht) (by decide))
end
/-- The bytes lie in a block from B on. -/
def Bz.low (B : Nat) (z : Bz) : Prop := ∀ b off, z.A = some ⟨b, off, none⟩ → 0 < z.n → B ≤ b
theorem Bz.low_own {w : World} {base e n c : Nat} {A : Option Addr} {xs : List Value} {bs : List UInt8} (h : w.ownsRow base e 1 (.slice A n c) n xs) : Bz.low base ⟨A, n, c, bs⟩ := by
  intro b off e hn
  obtain ⟨g, hg, h1, -⟩ := own_some h hn
  simp only at e
  rw [hg] at e
  injection e with e
  injection e with e _ _
  omega
theorem Bz.low.mono {B B' : Nat} {z : Bz} (h : z.low B) (hB : B' ≤ B) : z.low B' := fun b off e hn => Nat.le_trans hB (h b off e hn)
theorem Bz.ok.modL {w w' : World} {F : Nat → Prop} {B : Nat} {z : Bz} (h : z.ok w) (hl : z.low B) (m : Mod F w w') (hF : ∀ b, B ≤ b → ¬ F b) : z.ok w' := by
  refine ⟨h.1, h.2.1, h.2.2.1, fun hn => ?_⟩
  obtain ⟨b, off, cs, fr, e, hh, hc⟩ := h.2.2.2 hn
  exact ⟨b, off, cs, fr, e, (m.block b (Array.getElem?_eq_some_iff.1 hh).1 (hF b (hl b off e hn))).trans hh, hc⟩
theorem LsOwn.modL {w w' : World} {base B : Nat} {v : Value} {L : List Bz} {F : Nat → Prop} (h : LsOwn w base v L) (hl : ∀ z ∈ L, z.low B) (m : Mod F w w') (hF : ∀ b, B ≤ b → ¬ F b) (hB : B ≤ base) : LsOwn w' base v L :=
  ⟨m.own h.1 (fun g e => hF g (by have := (h.1.lt g e).1; omega)), fun z hz => (h.2 z hz).modL (hl z hz) m hF⟩
/-- Slices of bytes that are read, whatever their blocks. -/
def Bz.rd (w : World) (z : Bz) : Prop := BIn w w.heap.size (z.A, z.n, z.c) z.bs
theorem Bz.rd.len {w : World} {z : Bz} (h : z.rd w) : z.bs.length = z.n := BIn.len h
theorem Bz.rd.cap {w : World} {z : Bz} (h : z.rd w) : z.n ≤ z.c := BIn.cap h
theorem Bz.rd.max {w : World} {z : Bz} (h : z.rd w) : z.c ≤ 9223372036854775807 := BIn.max h
theorem Bz.rd.rd {w : World} {z : Bz} (h : z.rd w) : Rd w w.heap.size z.A z.n (vByte z.bs) := BIn.rd h
theorem Bz.ok.rd {w : World} {z : Bz} (h : z.ok w) : z.rd w := ⟨h.1, h.2.1, h.2.2.1, Bts.rd h⟩
theorem Bz.rd.all {w w' : World} {z : Bz} (h : z.rd w) (hb : Below w.heap.size w w') : z.rd w' := (BIn.keep h (fun b hlt => hb.block b hlt)).more hb.size
def LsOwnR (w : World) (base : Nat) (v : Value) (L : List Bz) : Prop := w.ownsRow base 55 1 v L.length (L.map Bz.val) ∧ ∀ z ∈ L, z.rd w
def valAt (L : List Bz) (j : Nat) : Value := (L[j]?).elim undef Bz.val
/-- A [][]byte that is read, whatever its blocks. -/
def LsRd (w : World) (A : Option Addr) (n c : Nat) (L : List Bz) : Prop := L.length = n ∧ n ≤ c ∧ c ≤ 9223372036854775807 ∧ Rd w w.heap.size A n (valAt L) ∧ ∀ z ∈ L, z.rd w
section
variable {w w' : World} {base : Nat} {v : Value} {L : List Bz} {A : Option Addr} {n c : Nat}
theorem LsOwn.r (h : LsOwn w base v L) : LsOwnR w base v L := ⟨h.1, fun z hz => (h.2 z hz).rd⟩
theorem LsOwnR.nil (w : World) (base : Nat) : LsOwnR w base (.slice none 0 0) [] := ⟨World.ownsRow_nil _ _ _ _, fun _ h => absurd h (by simp)⟩
theorem LsOwnR.all (h : LsOwnR w base v L) (hb : Below w.heap.size w w') : LsOwnR w' base v L := ⟨own_keep h.1 hb, fun z hz => (h.2 z hz).all hb⟩
theorem LsOwnR.slice (h : LsOwnR w base v L) : ∃ A c, v = .slice A L.length c := own_slice h.1
theorem LsOwnR.rd {m : Nat} (h : LsOwnR w base (.slice A m c) L) : LsRd w A m c L := by
  have hc := own_cap h.1
  obtain ⟨e, hnc, hr⟩ := Rd.of_own (f := valAt L) h.1 (fun j hj => by simp [valAt, hj])
  exact ⟨e.symm, by omega, hc, hr, h.2⟩
theorem LsRd.all (h : LsRd w A n c L) (hb : Below w.heap.size w w') : LsRd w' A n c L := ⟨h.1, h.2.1, h.2.2.1, h.2.2.2.1.all hb, fun z hz => (h.2.2.2.2 z hz).all hb⟩
theorem LsRd.take {m : Nat} (h : LsRd w A n c L) (hm : m ≤ n) : LsRd w A m c (L.take m) := by
  obtain ⟨h1, h2, h3, h4, h5⟩ := h
  refine ⟨by rw [List.length_take, h1]; omega, by omega, h3, (h4.less hm).congr (fun j hj => by simp [valAt, hj]), fun z hz => h5 z (List.mem_of_mem_take hz)⟩
theorem LsRd.cell (h : LsRd w A n c L) {k : Nat} (hk : k < n) : ∃ b off z, A = some ⟨b, off, none⟩ ∧ b < w.heap.size ∧ w.cell? ⟨b, off + k, none⟩ = some (.slice z.A z.n z.c) ∧ L[k]? = some z ∧ z.rd w := by
  obtain ⟨h1, h2, h3, h4, h5⟩ := h
  obtain ⟨b, off, e, hb, hc⟩ := h4.at_ hk
  have hk' : k < L.length := by omega
  refine ⟨b, off, L[k], e, hb, ?_, by simp [hk'], h5 _ (List.getElem_mem _)⟩
  rw [hc]
  simp [valAt, hk', Bz.val]
theorem LsOwnR.snoc {ty : TypeId} (h : LsOwnR w base v L) (z : Bz) (hz : z.rd w) (hne : ∀ y ∈ L ++ [z], ∀ b off, y.A = some ⟨b, off, none⟩ → 0 < y.n → v.ownBlock ≠ some b) (hL : L.length < 1099511627776) (hbase : base ≤ w.heap.size) :
    ∃ g cap w', (Builtin.append_ #[26, 26] ty #[v, .slice (some ⟨w.heap.size, 0, none⟩) 1 1]).run Tryz.prog (w.alloc (.cells #[.slice z.A z.n z.c] 55)) = .ok (.slice (some ⟨g, 0, none⟩) (L.length + 1) cap) w' ∧
      LsOwnR w' base (.slice (some ⟨g, 0, none⟩) (L.length + 1) cap) (L ++ [z]) ∧ w.grownBy w' v.ownBlock ∧ (some g = v.ownBlock ∨ w.heap.size ≤ g) := by
  obtain ⟨g, cap, w', hrun, h2, h3, h4⟩ := run_append1 (ty := ty) (w := w.alloc (.cells #[.slice z.A z.n z.c] 55)) slT_rows (h.1.alloc _) (Blk.new w 55 #[.slice z.A z.n z.c]) rfl (by intro u hu; simp at hu; subst hu; rfl) (by omega) (by decide) (by simp; omega)
  have hg := (World.grownBy_alloc w (.cells #[.slice z.A z.n z.c] 55) v.ownBlock).trans h3
  refine ⟨g, cap, w', hrun, ⟨?_, ?_⟩, hg, h4.imp id (fun e => by rw [e]; simp)⟩
  · rw [List.map_append, List.length_append]
    exact h2
  · have m : Mod (fun b => v.ownBlock = some b) w w' := Mod.of_grown hg (fun g e => .inl e)
    intro y hy
    have hy' : y.rd w := by
      rcases List.mem_append.1 hy with hy | hy
      · exact h.2 y hy
      · simp at hy
        subst hy
        exact hz
    exact ⟨hy'.len, hy'.cap, hy'.max, (m.rd hy'.rd (Nat.le_refl _) (fun b off e hn => hne y hy b off e hn)).more hg.size⟩
end
end Go.Proofs.YtgjbbobphfejoaaGreatDoor

/- journal, plain Lean: frames, what stands at the beginning of bytes, what a scan finds; a bit that is turned. -/
namespace Go.Proofs.YtgjbbobphfejoaaGreatDoor
open Go.RowKit

def recB : List UInt8 := [114, 101, 99, 111, 114, 100]
def coreB (k : Int) (bs : List UInt8) : List UInt8 := encInt k ++ encRaw bs
def recN (c : List UInt8) : Nat := (bytesI recB c).toNat
def frameB (k : Int) (bs : List UInt8) : List UInt8 := encRaw (coreB k bs) ++ varint (recN (coreB k bs))
theorem bytesI_in (l bs : List UInt8) : InU (bytesI l bs) := mixI_in _ _
theorem recN_eq (c : List UInt8) : bytesI recB c = ((recN c : Nat) : Int) := by unfold recN; have := (bytesI_in recB c).1; omega
theorem recN_lt (c : List UInt8) : recN c ≤ 18446744073709551615 := by unfold recN; have := bytesI_in recB c; unfold InU at this; omega
theorem encRaw_len {bs : List UInt8} (h : bs.length ≤ 18446744073709551615) : bs.length < (encRaw bs).length ∧ (encRaw bs).length ≤ bs.length + 10 := by
  unfold encRaw
  rw [List.length_append]
  have := varint_pos bs.length
  have := varint_len10 h
  omega
theorem encRaw_lt (bs : List UInt8) : bs.length < (encRaw bs).length := by
  unfold encRaw
  rw [List.length_append]
  have := varint_pos bs.length
  omega
theorem coreB_len {k : Int} {bs : List UInt8} (hk : InI k) (h : bs.length ≤ 18446744073709551615) : (coreB k bs).length ≤ bs.length + 20 := by
  unfold coreB
  rw [List.length_append]
  have h1 := varint_len10 (zigI_lt hk.1 hk.2)
  have h2 := (encRaw_len h).2
  unfold encInt
  omega
theorem coreB_gt (k : Int) (bs : List UInt8) : bs.length < (coreB k bs).length := by
  unfold coreB
  rw [List.length_append]
  have := encRaw_lt bs
  omega
theorem frameB_gt (k : Int) (bs : List UInt8) : (coreB k bs).length + 1 < (frameB k bs).length := by
  unfold frameB
  rw [List.length_append]
  have := encRaw_lt (coreB k bs)
  have := varint_pos (recN (coreB k bs))
  omega
theorem frameB_len {k : Int} {bs : List UInt8} (hk : InI k) (h : bs.length ≤ 1152921504606846976) : (frameB k bs).length ≤ bs.length + 40 := by
  unfold frameB
  rw [List.length_append]
  have h1 := coreB_len hk (bs := bs) (by omega)
  have h2 := (encRaw_len (bs := coreB k bs) (by omega)).2
  have h3 := varint_len10 (recN_lt (coreB k bs))
  omega
theorem frameB_pos (k : Int) (bs : List UInt8) : 0 < (frameB k bs).length := by have := frameB_gt k bs; omega

theorem encRaw_split {a b : List UInt8} (ha : a.length ≤ 18446744073709551615) (hb : b.length ≤ 18446744073709551615) {r s : List UInt8} (h : encRaw a ++ r = encRaw b ++ s) : a = b ∧ r = s := by
  have h1 := decRaw_enc ha r
  rw [h, decRaw_enc hb s] at h1
  simp only [Prod.mk.injEq, true_and] at h1
  exact ⟨h1.1.symm, h1.2.symm⟩
theorem core_inj {k : Int} {a b : List UInt8} (ha : a.length ≤ 18446744073709551615) (hb : b.length ≤ 18446744073709551615) (h : coreB k a = coreB k b) : a = b := by
  have h1 := List.append_cancel_left h
  exact (encRaw_split (r := []) (s := []) ha hb (by simpa using h1)).1
theorem frame_split {k : Int} {a b : List UInt8} {r s : List UInt8} (ha : (frameB k a).length ≤ 18446744073709551615) (hb : (frameB k b).length ≤ 18446744073709551615) (h : frameB k a ++ r = frameB k b ++ s) : a = b ∧ r = s := by
  have l1 := frameB_gt k a
  have l2 := frameB_gt k b
  have l3 := coreB_gt k a
  have l4 := coreB_gt k b
  have h0 := h
  unfold frameB at h
  rw [List.append_assoc, List.append_assoc] at h
  obtain ⟨h1, -⟩ := encRaw_split (by omega) (by omega) h
  have e := core_inj (by omega) (by omega) h1
  subst e
  exact ⟨rfl, List.append_cancel_left h0⟩

/-- The record (if any) whose frame with the number k stands at the beginning. -/
def FirstIs (k : Int) (bs : List UInt8) : Option (List UInt8) → Prop
  | some x => ∃ r, bs = frameB k x ++ r
  | none => ∀ x r, bs ≠ frameB k x ++ r
/-- What first of the package looks at. -/
def szB (bs : List UInt8) : Nat := (readU (bs.take 10) 0).2.1
def innerB (bs : List UInt8) : List UInt8 := (bs.drop (varint (szB bs)).length).take (szB bs)
def inRec (c : List UInt8) : Int × List UInt8 × List UInt8 := readRaw (readU c 0).2.2 (readU c 0).1
theorem inRec_core {k : Int} (hk : InI k) {x r : List UInt8} (hx : x.length ≤ 18446744073709551615) : inRec (coreB k x ++ r) = (0, x, r) := by
  have e : readU (coreB k x ++ r) 0 = (0, zigI k, encRaw x ++ r) := by
    unfold readU coreB
    rw [if_pos rfl, List.append_assoc]
    exact decU_int hk _
  unfold inRec
  rw [e]
  unfold readRaw
  rw [if_pos rfl]
  exact decRaw_enc hx r
theorem first_parts {k : Int} (hk : InI k) {x r bs : List UInt8} (h : bs = frameB k x ++ r) (hb : bs.length ≤ 9223372036854775807) :
    szB bs = (coreB k x).length ∧ (varint (szB bs)).length + szB bs ≤ bs.length ∧ innerB bs = coreB k x ∧ (inRec (innerB bs)) = (0, x, []) ∧ readRaw bs 0 = (0, coreB k x, varint (recN (coreB k x)) ++ r) := by
  have l1 := frameB_gt k x
  have l2 := coreB_gt k x
  have l3 : bs.length = (frameB k x).length + r.length := by rw [h, List.length_append]
  have hc : (coreB k x).length ≤ 18446744073709551615 := by omega
  have e0 : bs = varint (coreB k x).length ++ (coreB k x ++ (varint (recN (coreB k x)) ++ r)) := by rw [h]; unfold frameB encRaw; simp only [List.append_assoc]
  have h10 := varint_len10 hc
  have e1 : szB bs = (coreB k x).length := by
    unfold szB readU
    rw [if_pos rfl]
    have : bs.take 10 = varint (coreB k x).length ++ (coreB k x ++ (varint (recN (coreB k x)) ++ r)).take (10 - (varint (coreB k x).length).length) := by
      conv => lhs; rw [e0]
      rw [List.take_append, List.take_of_length_le h10]
    rw [this, decU_enc hc]
  have l4 : bs.length = (varint (coreB k x).length).length + ((coreB k x).length + ((varint (recN (coreB k x))).length + r.length)) := by
    conv => lhs; rw [e0]
    simp only [List.length_append]
  have e2 : innerB bs = coreB k x := by
    unfold innerB
    rw [e1]
    conv => lhs; rw [e0]
    rw [List.drop_left, List.take_left]
  refine ⟨e1, by rw [e1]; omega, e2, ?_, ?_⟩
  · rw [e2]
    have := inRec_core hk (x := x) (r := []) (by omega)
    simpa using this
  · unfold readRaw
    rw [if_pos rfl, h]
    unfold frameB
    rw [List.append_assoc]
    exact decRaw_enc hc _
theorem FirstIs.unique {k : Int} {bs : List UInt8} {a b : Option (List UInt8)} (hl : bs.length ≤ 9223372036854775807) (ha : FirstIs k bs a) (hb : FirstIs k bs b) : a = b := by
  cases a with
  | none =>
    cases b with
    | none => rfl
    | some y => obtain ⟨r, hr⟩ := hb; exact absurd hr (ha y r)
  | some x =>
    obtain ⟨r, hr⟩ := ha
    cases b with
    | none => exact absurd hr (hb x r)
    | some y =>
      obtain ⟨s, hs⟩ := hb
      have l1 : bs.length = (frameB k x).length + r.length := by rw [hr, List.length_append]
      have l2 : bs.length = (frameB k y).length + s.length := by rw [hs, List.length_append]
      rw [(frame_split (by omega) (by omega) (hr.symm.trans hs)).1]

/-- Frames one after another, numbered from k on. -/
def framesB : Nat → List (List UInt8) → List UInt8
  | _, [] => []
  | k, x :: l => frameB (k : Int) x ++ framesB (k + 1) l
theorem framesB_nil (k : Nat) : framesB k [] = [] := rfl
theorem framesB_cons (k : Nat) (x : List UInt8) (l : List (List UInt8)) : framesB k (x :: l) = frameB (k : Int) x ++ framesB (k + 1) l := rfl
theorem framesB_append (x t : List (List UInt8)) : ∀ k : Nat, framesB k (x ++ t) = framesB k x ++ framesB (k + x.length) t := by
  induction x with
  | nil => intro k; rw [List.nil_append, framesB_nil, List.nil_append, List.length_nil, Nat.add_zero]
  | cons a x ih =>
    intro k
    have e : k + 1 + x.length = k + (a :: x).length := by rw [List.length_cons]; omega
    rw [List.cons_append, framesB_cons, framesB_cons, ih (k + 1), List.append_assoc, e]
theorem framesB_snoc (l : List (List UInt8)) (k : Nat) (x : List UInt8) : framesB k (l ++ [x]) = framesB k l ++ frameB ((k + l.length : Nat) : Int) x := by
  rw [framesB_append, framesB_cons, framesB_nil, List.append_nil]
theorem framesB_len (l : List (List UInt8)) : ∀ k : Nat, 2 * l.length ≤ (framesB k l).length := by
  induction l with
  | nil => intro k; exact Nat.zero_le _
  | cons x l ih =>
    intro k
    rw [framesB_cons, List.length_append, List.length_cons]
    have := ih (k + 1)
    have := frameB_gt (k : Int) x
    omega
def ScanIs (bs : List UInt8) (l : List (List UInt8)) (n : Nat) : Prop :=
  n = (framesB 0 l).length ∧ ∃ r, bs = framesB 0 l ++ r ∧ FirstIs (l.length : Nat) r none
theorem scan_ahead (x : List (List UInt8)) : ∀ (l : List (List UInt8)) (k : Nat) (rest r : List UInt8), (framesB k x ++ rest).length ≤ 9223372036854775807 → framesB k x ++ rest = framesB k l ++ r → FirstIs ((k + l.length : Nat) : Int) r none → x <+: l := by
  induction x with
  | nil => intros; exact List.nil_prefix
  | cons a x ih =>
    intro l k rest r hl h hn
    cases l with
    | nil =>
      exfalso
      rw [framesB_cons, framesB_nil, List.nil_append, List.append_assoc] at h
      rw [List.length_nil, Nat.add_zero] at hn
      exact hn a (framesB (k + 1) x ++ rest) h.symm
    | cons b l =>
      rw [framesB_cons, framesB_cons, List.append_assoc, List.append_assoc] at h
      rw [framesB_cons, List.append_assoc] at hl
      have l2 := hl
      rw [h] at l2
      rw [List.length_append] at hl l2
      obtain ⟨e, h2⟩ := frame_split (by omega) (by omega) h
      subst e
      obtain ⟨t, ht⟩ := ih l (k + 1) rest r (by omega) h2 (by
        have e : k + 1 + l.length = k + (a :: l).length := by rw [List.length_cons]; omega
        rw [e]
        exact hn)
      exact ⟨t, by rw [List.cons_append, ht]⟩
/-- A scan finds the frames that stand ahead. -/
theorem ScanIs.ahead {bs : List UInt8} {x l : List (List UInt8)} {rest : List UInt8} {n : Nat} (hl : bs.length ≤ 9223372036854775807) (h : ScanIs bs l n) (hx : bs = framesB 0 x ++ rest) : x <+: l ∧ (framesB 0 x).length ≤ n := by
  obtain ⟨rfl, r, hr, hn⟩ := h
  have hp := scan_ahead x l 0 rest r (by rw [← hx]; exact hl) (by rw [← hx]; exact hr) (by simpa using hn)
  refine ⟨hp, ?_⟩
  obtain ⟨t, rfl⟩ := hp
  rw [framesB_append, List.length_append]
  omega
theorem ScanIs.unique {bs : List UInt8} {l l' : List (List UInt8)} {n n' : Nat} (hl : bs.length ≤ 9223372036854775807) (h : ScanIs bs l n) (h' : ScanIs bs l' n') : l = l' ∧ n = n' := by
  obtain ⟨r, hr, -⟩ := h.2
  obtain ⟨r', hr', -⟩ := h'.2
  have p1 := (h.ahead hl hr').1
  have p2 := (h'.ahead hl hr).1
  have e : l = l' := (p2.eq_of_length (Nat.le_antisymm p2.length_le p1.length_le))
  subst e
  exact ⟨rfl, h.1.trans h'.1.symm⟩
theorem ScanIs.nil : ScanIs [] [] 0 := ⟨rfl, [], rfl, fun x r h => by
  have := congrArg List.length h
  rw [List.length_append] at this
  have := frameB_pos ((([] : List (List UInt8)).length : Nat) : Int) x
  simp at *
  omega⟩

end Go.Proofs.YtgjbbobphfejoaaGreatDoor
