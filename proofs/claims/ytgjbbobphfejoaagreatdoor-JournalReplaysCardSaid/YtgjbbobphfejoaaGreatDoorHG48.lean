/- JournalReplays: what stands at the heads of the loop that posts the steps of the records. -/
import Derived.Test.YtgjbbobphfejoaaGreatDoorHG47
import Derived.Test.YtgjbbobphfejoaaGreatDoorHLaw
import Derived.Test.YtgjbbobphfejoaaGreatDoorHG15
import Derived.LaidMore
import Derived.OpenShut
import Derived.Stop.Joined

namespace Go.Proofs.YtgjbbobphfejoaaGreatDoor
open Go.RowKit

/-- The second ledger, the states and the records that Open returned. -/
structure R3 (B gA : Nat) (mx : Int → Bool) (v18 : Value) (qs : Qs) (vg : Value) (L : List Bz) (S : LSt) (w : World) : Prop where
  led : ∃ L2, LedAt mx w L2 S ∧ L2.gl = gA ∧ L2.it.2.1 = 4 ∧ ∀ b, LedF L2 b → B ≤ b
  sts : StatesAt B mx w v18 qs
  got : LsOwn w B vg L
  size : B ≤ w.heap.size
section
variable {B gA : Nat} {mx : Int → Bool} {v18 vg : Value} {L : List Bz} {qs : Qs} {S : LSt} {w w' : World}
theorem R3.all (h : R3 B gA mx v18 qs vg L S w) (hb : Below w.heap.size w w') : R3 B gA mx v18 qs vg L S w' := by
  obtain ⟨L2, h1, h2⟩ := h.led
  exact ⟨⟨L2, h1.all hb, h2⟩, h.sts.all hb, h.got.all hb, Nat.le_trans h.size hb.size⟩
theorem LsOwn.ty {base : Nat} (h : LsOwn w base vg L) {b : Nat} (hb : vg.ownBlock = some b) : Ty w b 55 := Ty.of_own h.1 hb
theorem r3_post (b : Nat) (z : Bool) (m : Mv) (j : Nat) (S' : LSt) (HJ : Hid (R3 B gA mx v18 qs vg L S w)) (hq : Hid (QOk (z, m))) (hb : Hid (Blk w b 47 (mvV m).toArray)) (hi : Hid (SInv mx j S)) (hj : j ≤ 1000) (hs : Hid (stepS mx S (z, m) = .ok S')) :
    Calls Tryz.prog 17 #[.pointer (some ⟨gA, 0, none⟩), stA 0 (kindZ z) 0 0 (-1) 0 (.slice (some ⟨b, 0, none⟩) 1 1)] w fun e w' => ∃ k : Int, e = .returned (.tuple #[.int .i64 k, .int .i64 0]) ∧ R3 B gA mx v18 qs vg L S' w' ∧ Below B w w' ∧ ∀ p u, Ty w p.block 3 → w.cell? p = some u → w'.cell? p = some u := by
  obtain ⟨L2, h1, h2, h3, h4⟩ := HJ.out.led
  have HP := post_any mx _ L2 S z 0 0 0 _ 1 1 [m] w (Lib.hid h1) (Lib.hid hi.out.ok) (Lib.hid (stepOk_of hq.out hb.out hi.out hj h3))
  rw [h2] at HP
  refine HP.mono ?_
  intro e w' hp
  have hs' := hs.out
  unfold PostPost at hp
  unfold stepS at hs'
  cases hm : mvsP mx S [m] with
  | error er => rw [hm] at hs'; cases hs'
  | ok S1 =>
    rw [hm] at hp hs'
    dsimp only at hp hs'
    injection hs' with hs'
    subst hs'
    obtain ⟨L', rfl, k1, k2, k3, k4⟩ := hp
    have hsz := HJ.out.size
    have hst := HJ.out.sts
    have hgt := HJ.out.got
    refine ⟨_, rfl, ⟨⟨L', k1, by rw [k2.1]; exact h2, by rw [k2.2.2.2.2.2]; exact h3, fun b hb => ?_⟩, hst.mod k3 (fun b hb => ⟨fun e => h1.not_ty hb (hst.ty e) (by decide) (by decide) (by decide), fun ht => h1.not_ty hb ht (by decide) (by decide) (by decide)⟩), hgt.mod k3 (fun b e hb => h1.not_ty hb (hgt.ty e) (by decide) (by decide) (by decide)) (fun b hb ht => h1.not_ty hb ht (by decide) (by decide) (by decide)), Nat.le_trans hsz k3.size⟩, k3.below (Below.refl _ _) hsz h4, fun p u ht hc => ?_⟩
    · rcases k4 b hb with hl | hl
      · exact h4 b hl
      · omega
    · have hlt : p.block < w.heap.size := by
        obtain ⟨cs, fr, h⟩ := ht
        exact (Array.getElem?_eq_some_iff.1 h).1
      have e := k3.block p.block hlt (fun hf => h1.not_ty hf ht (by decide) (by decide) (by decide))
      unfold World.cell? at hc ⊢
      rw [e]
      exact hc
theorem r3_hold (j : Nat) (HJ : Hid (R3 B gA mx v18 qs vg L S w)) (hi : Hid (SInv mx j S)) :
    Calls Tryz.prog 12 #[.pointer (some ⟨gA, 0, none⟩)] w fun e w' => ∃ (A : Option Addr) (m c : Nat), e = .returned (.slice A m c) ∧ HoldV w' (.slice A m c) S ∧ Below w.heap.size w w' := by
  obtain ⟨L2, h1, h2, h3, h4⟩ := HJ.out.led
  rw [← h2]
  refine (holdings_any L2 S w (Lib.hid h1) (Lib.hid (fun k => ⟨hi.out.ok.ok k, hi.out.ok.len k⟩)) (h1.few hi.out.sm)).mono ?_
  rintro e w' ⟨A, ks, c, rfl, q1, q2, q3, q4, q5⟩
  exact ⟨A, ks.length, c, rfl, ⟨A, ks, c, rfl, q1, q2, q3, q4⟩, q5⟩
end
theorem rd_lit5 (W : World) (t : TypeId) (x y z u v : Int) : Rd (W.alloc (.cells #[.int .i64 x, .int .i64 y, .int .i64 z, .int .i64 u, .int .i64 v] t)) (W.heap.size + 1) (some ⟨W.heap.size, 0, none⟩) 5 (vInt [x, y, z, u, v]) := fun _ => ⟨_, _, rfl, by omega, by
  intro j hj
  have h := Blk.new W t #[.int .i64 x, .int .i64 y, .int .i64 z, .int .i64 u, .int .i64 v]
  rw [Nat.zero_add, h.cell j]
  match j, hj with
  | 0, _ => rfl
  | 1, _ => rfl
  | 2, _ => rfl
  | 3, _ => rfl
  | 4, _ => rfl⟩
theorem in_range {q : Bool × Mv} (h : QOk q) (j : Nat) : -9223372036854775808 ≤ (recI q)[j]?.getD 0 ∧ (recI q)[j]?.getD 0 ≤ 9223372036854775807 := by
  by_cases hj : j < (recI q).length
  · rw [List.getElem?_eq_getElem hj]
    exact h.inI _ (List.getElem_mem hj)
  · rw [List.getElem?_eq_none (by omega)]
    decide
theorem runQ_one {mx : Int → Bool} : ∀ {qs : Qs} {S S' S1 : LSt}, runQ mx S qs = some S' → ∀ {k : Nat} (hk : k < qs.length), runQ mx S (qs.take k) = some S1 → ∃ S2, stepS mx S1 qs[k] = .ok S2 ∧ runQ mx S (qs.take (k + 1)) = some S2
  | [], S, S', S1, h, k, hk, _ => absurd hk (by simp)
  | q :: qs, S, S', S1, h, 0, hk, h1 => by
    injection h1 with h1
    subst h1
    unfold runQ at h
    cases hx : stepS mx S q with
    | error e => rw [hx] at h; cases h
    | ok S2 => exact ⟨S2, hx, by rw [List.take_succ_cons, List.take_zero]; unfold runQ; rw [hx]; rfl⟩
  | q :: qs, S, S', S1, h, k + 1, hk, h1 => by
    rw [List.take_succ_cons] at h1 ⊢
    unfold runQ at h h1 ⊢
    cases hx : stepS mx S q with
    | error e => rw [hx] at h; cases h
    | ok S2 =>
      rw [hx] at h h1
      exact runQ_one (qs := qs) h (k := k) (by simpa using hk) h1
theorem readInts_rec {q : Bool × Mv} (h : QOk q) : readInts (recQ q) 0 = (0, recI q, []) := by
  unfold readInts
  rw [if_pos rfl]
  exact recQ_dec h
theorem ints5 {w : World} {base n c : Nat} {A : Option Addr} {q : Bool × Mv} (h : w.ownsRow base 3 1 (.slice A n c) n ((recI q).map (Value.int .i64))) (hn : n = 5) : ∃ g, A = some ⟨g, 0, none⟩ ∧ w.cell? ⟨g, 0, none⟩ = some (.int .i64 (kindZ q.1)) ∧ w.cell? ⟨g, 1, none⟩ = some (.int .i64 q.2.frm) ∧ w.cell? ⟨g, 2, none⟩ = some (.int .i64 q.2.dst) ∧ w.cell? ⟨g, 3, none⟩ = some (.int .i64 q.2.item) ∧ w.cell? ⟨g, 4, none⟩ = some (.int .i64 q.2.n) := by
  subst hn
  rcases h.2 with ⟨h1, h2⟩ | ⟨g, cap, cur, h2, h3, h4, h5, h6, h7, h8⟩
  · exact absurd h2 (by decide)
  · injection h2 with h2 h10 h9
    have hc : ∀ i, i < 5 → w.cell? ⟨g, i, none⟩ = ((recI q).map (Value.int .i64))[i]? := by
      intro i hi
      rw [← h8, List.getElem?_take_of_lt (by omega)]
      simp [World.cell?, h4]
    exact ⟨g, h2, hc 0 (by omega), hc 1 (by omega), hc 2 (by omega), hc 3 (by omega), hc 4 (by omega)⟩
theorem rec_at {LG : List Bz} {rs : List (List UInt8)} {qs : Qs} {z : Bz} {i : Nat} (h1 : bsOf LG = rs) (h2 : rs = (qs.map recQ).take rs.length) (h3 : LG[i]? = some z) : ∃ h : i < qs.length, z.bs = recQ (qs[i]'h) := by
  have e : rs[i]? = some z.bs := by rw [← h1]; simp [bsOf, h3]
  rw [h2, List.getElem?_take] at e
  split at e
  · rw [List.getElem?_map] at e
    obtain ⟨q, hq, e⟩ := Option.map_eq_some_iff.1 e
    obtain ⟨hi, hq⟩ := List.getElem?_eq_some_iff.1 hq
    exact ⟨hi, by rw [hq]; exact e.symm⟩
  · cases e
theorem StatesAt.cell {B : Nat} {mx : Int → Bool} {w : World} {A : Option Addr} {n c : Nat} {qs : Qs} (h : StatesAt B mx w (.slice A n c) qs) {k : Nat} (hk : k ≤ qs.length) : ∃ g S val, A = some ⟨g, 0, none⟩ ∧ w.cell? ⟨g, k, none⟩ = some val ∧ runQ mx (lst0 0) (qs.take k) = some S ∧ HoldV w val S := by
  obtain ⟨vals, h1, h2, h3⟩ := h
  obtain ⟨S, val, a1, a2, a3⟩ := h3 k hk
  rcases h2.2 with ⟨-, h2⟩ | ⟨g, cap, cur, h2, _, h4, h5, h6, h7, h8⟩
  · omega
  · injection h2 with h2 h10 h9
    refine ⟨g, S, val, h2, ?_, a1, a3⟩
    rw [← a2, ← h8, List.getElem?_take_of_lt (by omega)]
    simp [World.cell?, h4]
/-- A holding of a row. -/
theorem hold_at {w : World} {A : Option Addr} {S : LSt} {ks : List LK} (h : RowT w 69 A (ks.flatMap (hcells S))) {j : Nat} (hj : j < ks.length) : ∃ b off, A = some ⟨b, off, none⟩ ∧ w.cell? ⟨b, off + j * 3, none⟩ = some (.int .i64 (ks[j].1.1 : Int)) ∧ w.cell? ⟨b, off + j * 3 + 1, none⟩ = some (.int .i64 (ks[j].2.1 : Int)) ∧ w.cell? ⟨b, off + j * 3 + 2, none⟩ = some (.int .i64 (totL (S.st ks[j]))) := by
  obtain ⟨b, off, e, _, _, hc⟩ := h.at_ (hcells S) 3 (fun _ => rfl) (by decide) hj
  exact ⟨b, off, e, by have := hc 0 (by decide); simpa [hcells] using this, by have := hc 1 (by decide); simpa [hcells, Nat.add_assoc] using this, by have := hc 2 (by decide); simpa [hcells, Nat.add_assoc] using this⟩
end Go.Proofs.YtgjbbobphfejoaaGreatDoor

/- The variable lexer.kinds, listed in a row: its letters are letters. -/
namespace Go.Proofs.YtgjbbobphfejoaaGreatDoor
open Go.ChangeShapes Go.WideShapes Go.ChangeAt Go.WideMaps Go.WideElems Go.RowKit

abbrev laidK : List (String × DataW Unit) := [("worldmint/lexer.kinds", Rows.laid_worldmint_lexer_kinds)]
theorem Tryz.gKinds : Tryz.prog.globalNamed "worldmint/lexer.kinds" = some 0 := by kernel_rfl
theorem Tryz.tKinds : (Tryz.prog.globals[0]?).map (·.type) = some 304 := by kernel_rfl
/-- The door's own heap meets the condition. -/
theorem kinds_door (os : Os) (args : Array Value) : laidMetH Tryz.prog laidK ((World.doorLaid Tryz.prog 400 os).forCall (fun _ _ => 0) ⟨#[], args, []⟩).memory :=
  laidMetH_of_parts3 (fuel := 8) (laidMet_of_run' 8 (by kernel_rfl) (by kernel_rfl)) (by kernel_rfl) (by kernel_rfl)
theorem kinds_letter {H : Type} {xs : List (DataW H)} (h : DataW.agg xs = Rows.laid_worldmint_lexer_kinds) : ∀ x : Nat, 97 ≤ x → x ≤ 122 → xs[x]? = some (.lit (.int .u8 3)) := by
  unfold Rows.laid_worldmint_lexer_kinds at h
  injection h with h
  subst h
  intro x h1 h2
  obtain ⟨k, rfl⟩ : ∃ k, x = 97 + k := ⟨x - 97, by omega⟩
  have hk : k < 26 := by omega
  match k, hk with
  | 0, _ | 1, _ | 2, _ | 3, _ | 4, _ | 5, _ | 6, _ | 7, _ | 8, _ | 9, _ | 10, _ | 11, _ | 12, _ | 13, _ | 14, _ | 15, _ | 16, _ | 17, _ | 18, _ | 19, _ | 20, _ | 21, _ | 22, _ | 23, _ | 24, _ | 25, _ => rfl
  | k + 26, h => exact absurd h (by omega)
theorem kinds_at {H : Type} {xs : List (DataW H)} (h : DataW.agg xs = Rows.laid_worldmint_lexer_kinds) (x : Nat) (k : Int) (hk : kd x = some k) : xs[x]? = some (.lit (.int .u8 k)) := by
  unfold kd at hk
  split at hk
  · rename_i hx
    injection hk with hk
    subst hk
    exact kinds_letter h x hx.1 hx.2
  · unfold Rows.laid_worldmint_lexer_kinds at h
    injection h with h
    subst h
    split at hk
    · rename_i hx
      injection hk with hk
      subst hk hx
      rfl
    · split at hk
      · rename_i hx
        injection hk with hk
        subst hk hx
        rfl
      · cases hk
theorem kinds_laid {W : World} (h : laidMetH Tryz.prog laidK W) : KL W := by
  rw [MakeChecks.laidMetH_plain _ _ _ (by kernel_rfl)] at h
  obtain ⟨ps, ⟨g0, t0, cs0, f0, p0, q0, hg0, ht0, hv0, hd0, _, _⟩, _, _⟩ := h
  obtain rfl := Option.some.inj (Tryz.gKinds.symm.trans hg0)
  obtain rfl := Option.some.inj (Tryz.tKinds.symm.trans ht0)
  obtain ⟨xs, m1, rfl, hx1, hlen, hn, hel⟩ := DataW.trod_array Tryz.underlying304 hd0
  simp only [Prod.mk.injEq] at hx1
  have c1 : Tryz.prog.cellsOf 5 = 1 := by kernel_rfl
  rw [c1] at hel
  intro x k hk
  have hx := kinds_at hx1.1.symm x k hk
  have he := hel x (by have := (kd_lt hk).1; omega)
  rw [List.getElem?_map] at hx
  obtain ⟨y, hy, hx⟩ := Option.map_eq_some_iff.1 hx
  rw [hy] at he
  obtain ⟨n, e1, e2, _⟩ := DataW.trod_int Tryz.underlying5 he
  subst e2
  have hn3 : n = k := by simpa using hx
  subst hn3
  have hc := World.var?_cell hg0 hv0 x
  rw [hc]
  have e3 := congrArg (fun l => l[0]?) e1
  simp only [List.getElem?_take, List.getElem?_drop, Nat.mul_one, Nat.add_zero] at e3
  simpa using e3
end Go.Proofs.YtgjbbobphfejoaaGreatDoor
