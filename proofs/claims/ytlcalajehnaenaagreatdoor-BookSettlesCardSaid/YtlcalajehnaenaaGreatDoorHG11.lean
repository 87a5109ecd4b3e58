/- The ledger and a change in memory: stacks, totals, rows; frames. -/
import Derived.Test.YtlcalajehnaenaaGreatDoorHG10
import Derived.Test.YtlcalajehnaenaaGreatDoorHG4
import Derived.DeepKeys4
namespace Go.Proofs.YtlcalajehnaenaaGreatDoor
open Go.RowKit
theorem kEncOk : KeyEnc Tryz.prog 108 kEnc where
 keyed := Go.Maps.Keyed.of_law (deep_law_laid (by kernel_rfl) (m := 2) (by omega) (of_decide_eq_true (by kernel_rfl)) (by kernel_rfl) (by rw [Tryz.underlying108]))
 lit k := by
  have hk : Tryz.prog.keyType 108 = true := by kernel_rfl
  have hc : Tryz.prog.cellsOf 108 = 2 := by kernel_rfl
  have hi : Tryz.prog.cellsOf 3 = 1 := by kernel_rfl
  have hf : (kEnc k).formed Tryz.prog 108 = true := by simp [Value.formed, kEnc, Tryz.underlying108, hc]
  have hw : ∀ n : Fin 2147483648, (Lit.int .i64 (n.1 : Int)).wf = true := fun n => by
   have := n.2
   have h1 : IntKind.i64.min = -9223372036854775808 := by decide
   have h2 : IntKind.i64.max = 9223372036854775807 := by decide
   simp only [Lit.wf, h1, h2, Bool.and_eq_true, decide_eq_true_eq]
   omega
  have hs : Tryz.prog.types.size + 1 = Tryz.prog.types.size - 1 + 1 + 1 := by
   have : 1 ≤ Tryz.prog.types.size := of_decide_eq_true (by kernel_rfl)
   omega
  have h1 : ∀ d (n : Fin 2147483648), Tryz.prog.keyLits (d + 1) 3 [.int .i64 (n.1 : Int)] = some [.int .i64 (n.1 : Int)] := fun d n => by
   unfold Program.keyLits
   rw [Tryz.underlying3]
   simp only [hw, and_self, if_true]
  have h2 : ∀ d, Tryz.prog.keyLits (d + 1 + 1) 108 (kEnc k).cells.toList = some [.int .i64 (k.1.1 : Int), .int .i64 (k.2.1 : Int)] := fun d => by
   have e : (kEnc k).cells.toList = [.int .i64 (k.1.1 : Int), .int .i64 (k.2.1 : Int)] := rfl
   rw [e]
   conv => lhs; unfold Program.keyLits
   rw [Tryz.underlying108]
   dsimp only
   rw [if_pos ⟨by rw [hc]; rfl, by kernel_rfl⟩]
   simp only [List.mapM_cons, List.mapM_nil, hi, List.drop_zero, List.drop_succ_cons, List.take_succ_cons, List.take_zero, h1]
   rfl
  unfold keyOf
  rw [Tryz.underlying108]
  simp only [hk, hf, Bool.and_self, if_true]
  rw [hs, h2]
  exact ⟨_, rfl⟩
 inj {a b} h := by
  obtain ⟨⟨a1, _⟩, ⟨a2, _⟩⟩ := a
  obtain ⟨⟨b1, _⟩, ⟨b2, _⟩⟩ := b
  simp only [kEnc, Value.agg.injEq, Array.mk.injEq, List.cons.injEq, Value.int.injEq, true_and, and_true] at h
  obtain ⟨h1, h2⟩ := h
  have h1 : a1 = b1 := by omega
  have h2 : a2 = b2 := by omega
  subst h1 h2
  rfl
def ItemsAt (w : World) (V : Sl) (mx : Int → Bool) : Prop := ∃ xs : List Value, xs.length = V.2.1 * 7 ∧ RowT w 141 V.1 xs ∧ ∀ i : Nat, i < V.2.1 → xs[i * 7 + 2]? = some (.bool (mx i))
def StackAt (w : World) (o : Option Value) (ls : List Lot) : Prop := ∃ V : Sl, o.getD (.slice none 0 0) = slV V ∧ LotsAt w V.1 V.2.1 V.2.2 ls
section
variable {w w' : World} {F : Nat → Prop}
theorem ItemsAt.mod {V : Sl} {mx : Int → Bool} (h : ItemsAt w V mx) (m : Mod F w w') (hF : ∀ b, F b → ¬ Ty w b 141) : ItemsAt w' V mx := by
 obtain ⟨xs, h1, h2, h3⟩ := h
 exact ⟨xs, h1, h2.mod m hF, h3⟩
theorem ItemsAt.cell {V : Sl} {mx : Int → Bool} (h : ItemsAt w V mx) {i : Nat} (hi : i < V.2.1) : ∃ b off, V.1 = some ⟨b, off, none⟩ ∧ b < w.heap.size ∧ w.cell? ⟨b, off + i * 7 + 2, none⟩ = some (.bool (mx i)) := by
 obtain ⟨xs, h1, h2, h3⟩ := h
 obtain ⟨b, off, e, hb, -, hc⟩ := h2.cells (by rw [h1]; omega)
 refine ⟨b, off, e, hb, ?_⟩
 have := hc (i * 7 + 2) (by rw [h1]; omega)
 rw [h3 i hi, ← Nat.add_assoc] at this
 exact this
theorem StackAt.mod {o : Option Value} {ls : List Lot} (h : StackAt w o ls) (m : Mod F w w') (hF : ∀ b, F b → ¬ Ty w b 163) : StackAt w' o ls := by
 obtain ⟨V, h1, h2⟩ := h
 exact ⟨V, h1, h2.mod m hF⟩
theorem StackAt.all {o : Option Value} {ls : List Lot} (h : StackAt w o ls) (m : Below w.heap.size w w') : StackAt w' o ls := h.mod (F := fun _ => False) (Mod.of_below _ m) (fun _ hf => hf.elim)
end
structure Led where
 gl : Nat
 lS : Nat
 lT : Nat
 lI : Nat
 lR : Nat
 it : Sl
 ru : Value
 tb : Value
 tx : Value
 sp : Sl
 fl : Sl
 es : List (LK × Value)
 ts : List (Int × Value)
def Led.cells (L : Led) (sh : Nat) : Array Value := #[.int .i64 (sh : Int), slV L.it, L.ru, L.tb, L.tx, .map (some L.lS), .map (some L.lT), slV L.sp, slV L.fl, .map (some L.lI), .map (some L.lR)]
structure LedAt (mx : Int → Bool) (w : World) (L : Led) (S : LSt) : Prop where
 c : Blk w L.gl 94 (L.cells S.sh)
 s : GMap kEnc w L.lS L.es
 t : IMap w L.lT L.ts
 i : IMap w L.lI []
 r : IMap w L.lR []
 it : ItemsAt w L.it mx
 st : ∀ k, StackAt w (glk L.es k) (S.st k)
 ne : ∀ k, S.st k = [] → glk L.es k = none
 tt : ∀ i, (L.ts.lookup i).getD (.int .i64 0) = .int .i64 (S.tot i)
 fl : ∃ xs, w.ownsRow 0 236 11 (slV L.fl) S.nf xs
 sp : ∃ xs, w.ownsRow 0 43 7 (slV L.sp) S.ns xs ∧ (S.ns = 0 → S.now = 0) ∧ ∀ k, S.ns = k + 1 → xs[k * 7 + 3]? = some (.int .i64 S.now)
 dm : L.lS ≠ L.lT ∧ L.lS ≠ L.lI ∧ L.lS ≠ L.lR ∧ L.lT ≠ L.lI ∧ L.lT ≠ L.lR ∧ L.lI ≠ L.lR
def LedF (L : Led) (b : Nat) : Prop := b = L.gl ∨ b = L.lS ∨ b = L.lT ∨ b = L.lI ∨ b = L.lR ∨ (slV L.sp).ownBlock = some b ∨ (slV L.fl).ownBlock = some b
section
variable {mx : Int → Bool} {w w' : World} {L : Led} {S : LSt} {F : Nat → Prop}
theorem LedAt.mod (h : LedAt mx w L S) (m : Mod F w w') (hF : ∀ b, F b → ¬ LedF L b ∧ ¬ Ty w b 163 ∧ ¬ Ty w b 141) : LedAt mx w' L S := by
 obtain ⟨xs, hx⟩ := h.fl
 obtain ⟨ys, hy, hy0, hy1⟩ := h.sp
 exact ⟨m.blk h.c (fun hf => (hF _ hf).1 (.inl rfl)), h.s.mod m (fun hf => (hF _ hf).1 (.inr (.inl rfl))), h.t.mod m (fun hf => (hF _ hf).1 (.inr (.inr (.inl rfl)))),
  h.i.mod m (fun hf => (hF _ hf).1 (.inr (.inr (.inr (.inl rfl))))), h.r.mod m (fun hf => (hF _ hf).1 (.inr (.inr (.inr (.inr (.inl rfl)))))),
  h.it.mod m (fun b hf => (hF _ hf).2.2), fun k => (h.st k).mod m (fun b hf => (hF _ hf).2.1), h.ne, h.tt,
  ⟨xs, m.own hx (fun g hg hf => (hF _ hf).1 (.inr (.inr (.inr (.inr (.inr (.inr hg)))))))⟩, ⟨ys, m.own hy (fun g hg hf => (hF _ hf).1 (.inr (.inr (.inr (.inr (.inr (.inl hg))))))), hy0, hy1⟩, h.dm⟩
theorem LedAt.all (h : LedAt mx w L S) (hb : Below w.heap.size w w') : LedAt mx w' L S := h.mod (F := fun _ => False) (Mod.of_below _ hb) (fun _ hf => hf.elim)
theorem LedAt.kind (h : LedAt mx w L S) {b : Nat} (hb : LedF L b) : Ty w b 94 ∨ b = L.lS ∨ b = L.lT ∨ b = L.lI ∨ b = L.lR ∨ Ty w b 43 ∨ Ty w b 236 := by
 obtain ⟨xs, hx⟩ := h.fl
 obtain ⟨ys, hy, -, -⟩ := h.sp
 rcases hb with rfl | rfl | rfl | rfl | rfl | hb | hb
 ·exact .inl h.c.ty
 ·exact .inr (.inl rfl)
 ·exact .inr (.inr (.inl rfl))
 ·exact .inr (.inr (.inr (.inl rfl)))
 ·exact .inr (.inr (.inr (.inr (.inl rfl))))
 ·exact .inr (.inr (.inr (.inr (.inr (.inl (Ty.of_own hy hb))))))
 ·exact .inr (.inr (.inr (.inr (.inr (.inr (Ty.of_own hx hb))))))
theorem LedAt.not_ty (h : LedAt mx w L S) {b : Nat} {t : TypeId} (hb : LedF L b) (ht : Ty w b t) (h1 : t ≠ 94) (h2 : t ≠ 43) (h3 : t ≠ 236) : False := by
 rcases h.kind hb with h0 | rfl | rfl | rfl | rfl | h0 | h0
 ·exact h1 (ht.unique h0)
 ·exact h.s.not_ty ht
 ·exact h.t.not_ty ht
 ·exact h.i.not_ty ht
 ·exact h.r.not_ty ht
 ·exact h2 (ht.unique h0)
 ·exact h3 (ht.unique h0)
theorem LedAt.lt (h : LedAt mx w L S) {b : Nat} (hb : LedF L b) : b < w.heap.size := by
 rcases h.kind hb with ⟨_, _, h0⟩ | rfl | rfl | rfl | rfl | ⟨_, _, h0⟩ | ⟨_, _, h0⟩
 ·exact (Array.getElem?_eq_some_iff.1 h0).1
 ·exact h.s.lt
 ·exact h.t.lt
 ·exact h.i.lt
 ·exact h.r.lt
 ·exact (Array.getElem?_eq_some_iff.1 h0).1
 ·exact (Array.getElem?_eq_some_iff.1 h0).1
end
structure Chg where
 gc : Nat
 bS : Nat
 bT : Nat
 bI : Nat
 bR : Nat
 mv : Sl
 fl : Sl
 kind : Int
 actor : Int
 tick : Int
 es : List (LK × Value)
 ts : List (Int × Value)
def Chg.cells (C : Chg) (L : Led) (S0 : LSt) : Array Value := #[.pointer (some ⟨L.gl, 0, none⟩), .int .i64 ((S0.sh : Int) * 4294967296 + (S0.ns : Int)), .int .i64 C.kind, .int .i64 C.actor, .int .i64 C.tick, .int .i64 (-1), .int .i64 0, slV C.mv, .map (some C.bS), .map (some C.bT), .map (some C.bI), .map (some C.bR), slV C.fl, .slice none 0 0]
structure ChAt (B : Nat) (w : World) (L : Led) (S0 S : LSt) (C : Chg) : Prop where
 c : Blk w C.gc 106 (C.cells L S0)
 s : GMap kEnc w C.bS C.es
 t : IMap w C.bT C.ts
 i : IMap w C.bI []
 r : IMap w C.bR []
 st : ∀ k, StackAt w ((glk C.es k).or (glk L.es k)) (S.st k)
 tt : ∀ i, ((C.ts.lookup i).or (L.ts.lookup i)).getD (.int .i64 0) = .int .i64 (S.tot i)
 fl : ∃ xs, w.ownsRow B 236 11 (slV C.fl) (S.nf - S0.nf) xs ∧ ∀ u ∈ xs, u.oneCell' = true
 nf : S0.nf ≤ S.nf
 sh : S.sh = S0.sh
 lo : B ≤ C.gc ∧ B ≤ C.bS ∧ B ≤ C.bT ∧ B ≤ C.bI ∧ B ≤ C.bR
 dm : C.bS ≠ C.bT ∧ C.bS ≠ C.bI ∧ C.bS ≠ C.bR ∧ C.bT ≠ C.bI ∧ C.bT ≠ C.bR ∧ C.bI ≠ C.bR
def ChF (C : Chg) (b : Nat) : Prop := b = C.gc ∨ b = C.bS ∨ b = C.bT ∨ b = C.bI ∨ b = C.bR ∨ (slV C.fl).ownBlock = some b
section
variable {B : Nat} {w w' : World} {L : Led} {S0 S : LSt} {C : Chg} {F : Nat → Prop}
theorem ChAt.mod (h : ChAt B w L S0 S C) (m : Mod F w w') (hF : ∀ b, F b → ¬ ChF C b ∧ ¬ Ty w b 163) : ChAt B w' L S0 S C := by
 obtain ⟨xs, hx, hx1⟩ := h.fl
 exact ⟨m.blk h.c (fun hf => (hF _ hf).1 (.inl rfl)), h.s.mod m (fun hf => (hF _ hf).1 (.inr (.inl rfl))), h.t.mod m (fun hf => (hF _ hf).1 (.inr (.inr (.inl rfl)))),
  h.i.mod m (fun hf => (hF _ hf).1 (.inr (.inr (.inr (.inl rfl))))), h.r.mod m (fun hf => (hF _ hf).1 (.inr (.inr (.inr (.inr (.inl rfl)))))),
  fun k => (h.st k).mod m (fun b hf => (hF _ hf).2), h.tt, ⟨xs, m.own hx (fun g hg hf => (hF _ hf).1 (.inr (.inr (.inr (.inr (.inr hg)))))), hx1⟩, h.nf, h.sh, h.lo, h.dm⟩
theorem ChAt.all (h : ChAt B w L S0 S C) (hb : Below w.heap.size w w') : ChAt B w' L S0 S C := h.mod (F := fun _ => False) (Mod.of_below _ hb) (fun _ hf => hf.elim)
theorem ChAt.kind (h : ChAt B w L S0 S C) {b : Nat} (hb : ChF C b) : Ty w b 106 ∨ b = C.bS ∨ b = C.bT ∨ b = C.bI ∨ b = C.bR ∨ Ty w b 236 := by
 obtain ⟨xs, hx, -⟩ := h.fl
 rcases hb with rfl | rfl | rfl | rfl | rfl | hb
 ·exact .inl h.c.ty
 ·exact .inr (.inl rfl)
 ·exact .inr (.inr (.inl rfl))
 ·exact .inr (.inr (.inr (.inl rfl)))
 ·exact .inr (.inr (.inr (.inr (.inl rfl))))
 ·exact .inr (.inr (.inr (.inr (.inr (Ty.of_own hx hb)))))
theorem ChAt.not_ty (h : ChAt B w L S0 S C) {b : Nat} {t : TypeId} (hb : ChF C b) (ht : Ty w b t) (h1 : t ≠ 106) (h3 : t ≠ 236) : False := by
 rcases h.kind hb with h0 | rfl | rfl | rfl | rfl | h0
 ·exact h1 (ht.unique h0)
 ·exact h.s.not_ty ht
 ·exact h.t.not_ty ht
 ·exact h.i.not_ty ht
 ·exact h.r.not_ty ht
 ·exact h3 (ht.unique h0)
theorem ChAt.low (h : ChAt B w L S0 S C) {b : Nat} (hb : ChF C b) : B ≤ b := by
 obtain ⟨xs, hx, -⟩ := h.fl
 obtain ⟨l1, l2, l3, l4, l5⟩ := h.lo
 rcases hb with rfl | rfl | rfl | rfl | rfl | hb
 ·exact l1
 ·exact l2
 ·exact l3
 ·exact l4
 ·exact l5
 ·exact (hx.lt b hb).1
end
theorem info_zero {P : Program} {e : TypeId} {z : Value} (h : (P.info? e).map (fun i => i.zero) = some (some z)) : ∃ i, P.info? e = some i ∧ i.zero = some z := Option.map_eq_some_iff.1 h
theorem infoLots : ∃ i, Tryz.prog.info? 38 = some i ∧ i.zero = some (.slice none 0 0) := info_zero (by kernel_rfl)
theorem infoI : ∃ i, Tryz.prog.info? 3 = some i ∧ i.zero = some (.int .i64 0) := info_zero (by kernel_rfl)
section
variable {mx : Int → Bool} {B : Nat} {w : World} {L : Led} {S0 S : LSt} {C : Chg}
theorem ChAt.look (h : ChAt B w L S0 S C) {a i : Int} (ha : 0 ≤ a ∧ a < 2147483648) (hi : 0 ≤ i ∧ i < 2147483648) :
 (Instr.lookup 88 (.map (some C.bS)) (.agg #[.int .i64 a, .int .i64 i]) true).run Tryz.prog w = .ok (.tuple #[(glk C.es (kOf a i)).getD (.slice none 0 0), .bool (glk C.es (kOf a i)).isSome]) w := by
 obtain ⟨j, hj, hz⟩ := infoLots
 have := h.s.look2 kEncOk Tryz.underlying88 hj hz (kOf a i)
 rw [kOf_enc ha hi] at this
 exact this
theorem LedAt.look (h : LedAt mx w L S) {a i : Int} (ha : 0 ≤ a ∧ a < 2147483648) (hi : 0 ≤ i ∧ i < 2147483648) :
 (Instr.lookup 88 (.map (some L.lS)) (.agg #[.int .i64 a, .int .i64 i]) false).run Tryz.prog w = .ok ((glk L.es (kOf a i)).getD (.slice none 0 0)) w := by
 obtain ⟨j, hj, hz⟩ := infoLots
 have := h.s.look kEncOk Tryz.underlying88 hj hz (kOf a i)
 rw [kOf_enc ha hi] at this
 exact this
theorem ChAt.lookT (h : ChAt B w L S0 S C) (i : Int) :
 (Instr.lookup 89 (.map (some C.bT)) (.int .i64 i) true).run Tryz.prog w = .ok (.tuple #[(C.ts.lookup i).getD (.int .i64 0), .bool (C.ts.lookup i).isSome]) w := by
 obtain ⟨j, hj, hz⟩ := infoI
 exact h.t.look2 Tryz.underlying89 Tryz.underlying3 hj hz i
theorem LedAt.lookT (h : LedAt mx w L S) (i : Int) :
 (Instr.lookup 89 (.map (some L.lT)) (.int .i64 i) false).run Tryz.prog w = .ok ((L.ts.lookup i).getD (.int .i64 0)) w := by
 obtain ⟨j, hj, hz⟩ := infoI
 exact h.t.look Tryz.underlying89 Tryz.underlying3 hj hz i
end
end Go.Proofs.YtlcalajehnaenaaGreatDoor
namespace Go.Proofs.YtlcalajehnaenaaGreatDoor
open Go.RowKit
structure Itm where
 nm : ByteArray
 mx : Bool
 co : Bool
def itV (i : Itm) : List Value := [.string i.nm, .bool false, .bool i.mx, .bool i.co, .int .i64 0, .int .i64 0, .int .i64 0]
theorem itV_len (i : Itm) : (itV i).length = 7 := rfl
def itA (i : Itm) : Value := .agg #[.string i.nm, .bool false, .bool i.mx, .bool i.co, .int .i64 0, .int .i64 0, .int .i64 0]
def ItAt (w : World) (A : Option Addr) (n c : Nat) (is : List Itm) : Prop := is.length = n ∧ n ≤ c ∧ c ≤ 9223372036854775807 ∧ RowT w 141 A (is.flatMap itV)
section
variable {w w' : World} {A : Option Addr} {n c : Nat} {is : List Itm} {F : Nat → Prop}
theorem ItAt.mod (h : ItAt w A n c is) (m : Mod F w w') (hF : ∀ b, F b → ¬ Ty w b 141) : ItAt w' A n c is := ⟨h.1, h.2.1, h.2.2.1, h.2.2.2.mod m hF⟩
theorem ItAt.all (h : ItAt w A n c is) (hb : Below w.heap.size w w') : ItAt w' A n c is := h.mod (F := fun _ => False) (Mod.of_below _ hb) (fun _ hf => hf.elim)
theorem ItAt.at_ (h : ItAt w A n c is) {k : Nat} (hk : k < n) : ∃ b off, A = some ⟨b, off, none⟩ ∧ b < w.heap.size ∧ ∃ i, is[k]? = some i ∧ w.cell? ⟨b, off + k * 7, none⟩ = some (.string i.nm) ∧ w.cell? ⟨b, off + k * 7 + 1, none⟩ = some (.bool false) ∧ w.cell? ⟨b, off + k * 7 + 2, none⟩ = some (.bool i.mx) ∧ w.cell? ⟨b, off + k * 7 + 3, none⟩ = some (.bool i.co) ∧ w.cell? ⟨b, off + k * 7 + 4, none⟩ = some (.int .i64 0) ∧ w.cell? ⟨b, off + k * 7 + 5, none⟩ = some (.int .i64 0) ∧ w.cell? ⟨b, off + k * 7 + 6, none⟩ = some (.int .i64 0) := by
 have hk' : k < is.length := by rw [h.1]; exact hk
 obtain ⟨b, off, e, hb, -, hc⟩ := RowT.at_ itV 7 itV_len h.2.2.2 (by decide) hk'
 have g : ∀ i, i < 7 → w.cell? ⟨b, off + k * 7 + i, none⟩ = (itV is[k])[i]? := fun i hi => by have := hc i hi; rw [← Nat.add_assoc] at this; exact this
 exact ⟨b, off, e, hb, is[k], List.getElem?_eq_getElem hk', hc 0 (by decide), g 1 (by decide), g 2 (by decide), g 3 (by decide), g 4 (by decide), g 5 (by decide), g 6 (by decide)⟩
end
set_option maxRecDepth 100000 in
theorem itemFormed_any (i : Itm) (w : World) : Calls Tryz.prog 94 #[itA i] w fun e w' => e = .returned (.bool true) ∧ Below w.heap.size w w' := by
 unfold itA
 go_enter Tryz.func94, Tryz.ntmps94
 go_wp2
 go_ret
 exact ⟨rfl, (Below.refl _ _).alloc (Nat.le_refl _) _⟩
set_option maxRecDepth 100000 in
theorem itemInRange_any (i : Itm) (w : World) : Calls Tryz.prog 95 #[itA i] w fun e w' => e = .returned (.bool true) ∧ Below w.heap.size w w' := by
 unfold itA
 go_enter Tryz.func95, Tryz.ntmps95
 go_wp2
 go_ret
 exact ⟨rfl, (Below.refl _ _).alloc (Nat.le_refl _) _⟩
set_option maxRecDepth 100000 in
theorem itemName_any (i : Itm) (w : World) : Calls Tryz.prog 128 #[itA i] w fun e w' => e = .returned (.string i.nm) ∧ Below w.heap.size w w' := by
 unfold itA
 go_enter Tryz.func128, Tryz.ntmps128
 go_wp2
 go_ret
 exact ⟨rfl, (Below.refl _ _).alloc (Nat.le_refl _) _⟩
set_option maxRecDepth 100000 in
theorem everyRule_nil (f : Value) (w : World) : Calls Tryz.prog 115 #[.slice none 0 0, f] w fun e w' => e = .returned (.bool true) ∧ Below w.heap.size w w' := by
 go_enter Tryz.func115, Tryz.ntmps115
 go_wp2
 go_loopg [9] 0 (fun gk iv wr => iv = .int .i64 0 ∧ wr = w)
 case atStart => exact ⟨rfl, rfl⟩
 case round =>
  obtain ⟨rfl, rfl⟩ := hrel
  go_wp2
  go_ret
  exact ⟨rfl, Below.refl _ _⟩
set_option maxRecDepth 100000 in
theorem differRule_nil (f : Value) (w : World) : Calls Tryz.prog 129 #[.slice none 0 0, f] w fun e w' => e = .returned (.bool true) ∧ Below w.heap.size w w' := by
 have hmm := fun (w : World) => run_makeMapN (P := Tryz.prog) Tryz.underlying250 .i64 0 w
 have hb := (Below.refl w.heap.size w).alloc (Nat.le_refl _) (.map #[] 0)
 go_enter Tryz.func129, Tryz.ntmps129
 go_wp2
 go_loopg [13] 0 (fun gk iv wr => iv = .int .i64 0 ∧ wr = w.alloc (.map #[] 0))
 case atStart => exact ⟨rfl, rfl⟩
 case round =>
  obtain ⟨rfl, rfl⟩ := hrel
  go_wp2
  go_ret
  exact ⟨rfl, hb⟩
set_option maxRecDepth 100000 in
theorem eachRule_nil (f : Value) (w : World) : Calls Tryz.prog 69 #[.slice none 0 0, f] w fun e w' => e = .returned (.slice none 0 0) ∧ w' = w := by
 go_enter Tryz.func69, Tryz.ntmps69
 go_wp2
 go_ret
 exact ⟨rfl, rfl⟩
set_option maxRecDepth 100000 in
theorem everyTable_nil (f : Value) (w : World) : Calls Tryz.prog 117 #[.slice none 0 0, f] w fun e w' => e = .returned (.bool true) ∧ Below w.heap.size w w' := by
 go_enter Tryz.func117, Tryz.ntmps117
 go_wp2
 go_loopg [9] 0 (fun gk iv wr => iv = .int .i64 0 ∧ wr = w)
 case atStart => exact ⟨rfl, rfl⟩
 case round =>
  obtain ⟨rfl, rfl⟩ := hrel
  go_wp2
  go_ret
  exact ⟨rfl, Below.refl _ _⟩
set_option maxRecDepth 100000 in
theorem differTable_nil (f : Value) (w : World) : Calls Tryz.prog 131 #[.slice none 0 0, f] w fun e w' => e = .returned (.bool true) ∧ Below w.heap.size w w' := by
 have hmm := fun (w : World) => run_makeMapN (P := Tryz.prog) Tryz.underlying250 .i64 0 w
 have hb := (Below.refl w.heap.size w).alloc (Nat.le_refl _) (.map #[] 0)
 go_enter Tryz.func131, Tryz.ntmps131
 go_wp2
 go_loopg [13] 0 (fun gk iv wr => iv = .int .i64 0 ∧ wr = w.alloc (.map #[] 0))
 case atStart => exact ⟨rfl, rfl⟩
 case round =>
  obtain ⟨rfl, rfl⟩ := hrel
  go_wp2
  go_ret
  exact ⟨rfl, hb⟩
set_option maxRecDepth 100000 in
theorem eachTable_nil (f : Value) (w : World) : Calls Tryz.prog 71 #[.slice none 0 0, f] w fun e w' => e = .returned (.slice none 0 0) ∧ w' = w := by
 go_enter Tryz.func71, Tryz.ntmps71
 go_wp2
 go_ret
 exact ⟨rfl, rfl⟩
set_option maxRecDepth 100000 in
theorem everyTax_nil (f : Value) (w : World) : Calls Tryz.prog 119 #[.slice none 0 0, f] w fun e w' => e = .returned (.bool true) ∧ Below w.heap.size w w' := by
 go_enter Tryz.func119, Tryz.ntmps119
 go_wp2
 go_loopg [9] 0 (fun gk iv wr => iv = .int .i64 0 ∧ wr = w)
 case atStart => exact ⟨rfl, rfl⟩
 case round =>
  obtain ⟨rfl, rfl⟩ := hrel
  go_wp2
  go_ret
  exact ⟨rfl, Below.refl _ _⟩
set_option maxRecDepth 100000 in
theorem differTax_nil (f : Value) (w : World) : Calls Tryz.prog 133 #[.slice none 0 0, f] w fun e w' => e = .returned (.bool true) ∧ Below w.heap.size w w' := by
 have hmm := fun (w : World) => run_makeMapN (P := Tryz.prog) Tryz.underlying250 .i64 0 w
 have hb := (Below.refl w.heap.size w).alloc (Nat.le_refl _) (.map #[] 0)
 go_enter Tryz.func133, Tryz.ntmps133
 go_wp2
 go_loopg [13] 0 (fun gk iv wr => iv = .int .i64 0 ∧ wr = w.alloc (.map #[] 0))
 case atStart => exact ⟨rfl, rfl⟩
 case round =>
  obtain ⟨rfl, rfl⟩ := hrel
  go_wp2
  go_ret
  exact ⟨rfl, hb⟩
set_option maxRecDepth 100000 in
theorem eachTax_nil (f : Value) (w : World) : Calls Tryz.prog 73 #[.slice none 0 0, f] w fun e w' => e = .returned (.slice none 0 0) ∧ w' = w := by
 go_enter Tryz.func73, Tryz.ntmps73
 go_wp2
 go_ret
 exact ⟨rfl, rfl⟩
end Go.Proofs.YtlcalajehnaenaaGreatDoor
namespace Go.Proofs.YtlcalajehnaenaaGreatDoor
open Go.RowKit
def kd (x : Nat) : Option Int := if 97 ≤ x ∧ x ≤ 122 then some 3 else if x = 32 then some 1 else if x = 59 then some 7 else none
theorem kd_letter {x : Nat} (h1 : 97 ≤ x) (h2 : x ≤ 122) : kd x = some 3 := if_pos ⟨h1, h2⟩
theorem kd_lt {x : Nat} {k : Int} (h : kd x = some k) : x ≤ 122 ∧ 0 ≤ k ∧ k ≤ 7 := by
 unfold kd at h
 split at h
 ·injection h with h; omega
 ·split at h
  ·injection h with h; omega
  ·split at h
   ·injection h with h; omega
   ·cases h
def KL (w : World) : Prop := ∀ (x : Nat) (k : Int), kd x = some k → w.cell? ⟨1, x, none⟩ = some (.int .u8 k)
theorem KL.mod {F : Nat → Prop} {w w' : World} (h : KL w) (m : Mod F w w') (hF : ¬ F 1) : KL w' := fun x k hk => by
 have hc := h x k hk
 have hl : 1 < w.heap.size := by
  rcases Nat.lt_or_ge 1 w.heap.size with h | h
  ·exact h
  ·simp [World.cell?, Array.getElem?_eq_none h] at hc
 exact (World.cell?_of_block (w := w) (m.block _ hl hF)).trans hc
theorem KL.all {w w' : World} (h : KL w) (hb : Below w.heap.size w w') : KL w' := h.mod (F := fun _ => False) (Mod.of_below _ hb) (fun h => h)
def IsWord (s : ByteArray) : Prop := 1 ≤ s.size ∧ s.size ≤ 16 ∧ ∀ (k : Nat) (h : k < s.size), 97 ≤ s[k].toNat ∧ s[k].toNat ≤ 122
set_option maxRecDepth 100000 in
theorem kindAt_end (s : ByteArray) (w : World) : Calls Tryz.prog 204 #[.string s, .int .i64 (s.size : Int)] w fun e w' => e = .returned (.int .u8 0) ∧ w' = w := by
 go_enter Tryz.func204, Tryz.ntmps204
 go_wp2
 go_ret
 exact ⟨rfl, rfl⟩
set_option maxRecDepth 100000 in
theorem kindAt_in (s : ByteArray) (k : Nat) (w : World) (hk : k < s.size) (h1 : 97 ≤ s[k].toNat) (h2 : s[k].toNat ≤ 122) (HK : Hid (KL w)) : Calls Tryz.prog 204 #[.string s, .int .i64 (k : Int)] w fun e w' => e = .returned (.int .u8 3) ∧ w' = w := by
 have hkI : ¬ ((s.size : Int) ≤ (k : Int)) := by omega
 have hk0 : (0 : Int) ≤ (k : Int) := by omega
 have hk1 : (k : Int) < (s.size : Int) := by omega
 have hc := HK.out s[k].toNat 3 (kd_letter h1 h2)
 go_enter Tryz.func204, Tryz.ntmps204
 go_wp2
 go_ret
 exact ⟨rfl, rfl⟩
set_option maxRecDepth 100000 in
theorem skip_end (s : ByteArray) (w : World) : Calls Tryz.prog 166 #[.string s, .int .i64 (s.size : Int)] w fun e w' => e = .returned (.int .i64 (s.size : Int)) ∧ w' = w := by
 go_enter Tryz.func166, Tryz.ntmps166
 go_wp2
 go_loopg [1] 0 (fun gk iv wr => iv = .int .i64 (s.size : Int) ∧ wr = w)
 case atStart => exact ⟨rfl, rfl⟩
 case round =>
  obtain ⟨rfl, rfl⟩ := hrel
  go_wp2
  go_ret
  exact ⟨rfl, rfl⟩
set_option maxRecDepth 100000 in
theorem skip_in (s : ByteArray) (k : Nat) (w : World) (hk : k < s.size) (h1 : 97 ≤ s[k].toNat) (h2 : s[k].toNat ≤ 122) (HK : Hid (KL w)) : Calls Tryz.prog 166 #[.string s, .int .i64 (k : Int)] w fun e w' => e = .returned (.int .i64 (k : Int)) ∧ w' = w := by
 have hk1 : (k : Int) < (s.size : Int) := by omega
 have HKA := Lib.hid (kindAt_in s k w hk h1 h2 HK)
 clear hk h1 h2
 go_enter Tryz.func166, Tryz.ntmps166
 go_wp2
 go_loopg [1] 0 (fun gk iv wr => iv = .int .i64 (k : Int) ∧ wr = w)
 case atStart => exact ⟨rfl, rfl⟩
 case round =>
  obtain ⟨rfl, rfl⟩ := hrel
  go_wp2_with fail
  refine HKA.out.mono ?_
  rintro e w2 ⟨rfl, hw2⟩
  rw [hw2]
  clear hw2
  go_wp2
  go_ret
  exact ⟨rfl, rfl⟩
def kv (j n : Nat) : Int := if j < n then 3 else 0
theorem kv_lt {j n : Nat} (h : j < n) : kv j n = 3 := if_pos h
theorem kv_ge {j n : Nat} (h : ¬ j < n) : kv j n = 0 := if_neg h
def tokA (s : ByteArray) : Value := .agg #[.int .i64 0, .string s, .int .i64 0, .int .i64 0]
set_option maxRecDepth 100000 in
set_option maxHeartbeats 4000000 in
theorem next_any (s : ByteArray) (w : World) (hs : Hid (IsWord s)) (HK : Hid (KL w)) : Calls Tryz.prog 167 #[.string s, .int .i64 0] w fun e w' => e = .returned (.tuple #[tokA s, .int .i64 0]) ∧ Below w.heap.size w w' := by
 have hn1 := hs.out.1
 have hn2 := hs.out.2.1
 have hKj : ∀ (j : Nat), j ≤ s.size → ∀ W, Hid (KL W) → Calls Tryz.prog 204 #[.string s, .int .i64 (j : Int)] W fun e w' => e = .returned (.int .u8 (kv j s.size)) ∧ w' = W := fun j hj W hK => by
  rcases Nat.lt_or_ge j s.size with h | h
  ·rw [kv_lt h]
   exact kindAt_in s j W h (hs.out.2.2 j h).1 (hs.out.2.2 j h).2 hK
  ·have e : j = s.size := by omega
   rw [kv_ge (by omega), e]
   exact kindAt_end s W
 have HKJ := Lib.hid hKj
 clear hKj
 have HBA := Lib.hid (((Below.refl w.heap.size w).alloc (Nat.le_refl _) (.cells #[.int .i64 0, .string ⟨#[]⟩, .int .i64 0, .int .i64 0] 170)).alloc (by simp) (.cells #[.int .i64 0, .string ⟨#[]⟩, .int .i64 0, .int .i64 0] 170))
 have k1 := Blk.alloc (Blk.new w 170 #[.int .i64 0, .string ⟨#[]⟩, .int .i64 0, .int .i64 0]) (.cells #[.int .i64 0, .string ⟨#[]⟩, .int .i64 0, .int .i64 0] 170)
 have k2 := Blk.new0 (g := w.heap.size + 1) (w.alloc (.cells #[.int .i64 0, .string ⟨#[]⟩, .int .i64 0, .int .i64 0] 170)) 170 #[.int .i64 0, .string ⟨#[]⟩, .int .i64 0, .int .i64 0] (by simp)
 go_enter Tryz.func167, Tryz.ntmps167
 go_wp2_with fail
 obtain ⟨w2, hw2⟩ : ∃ w2, (w.alloc (.cells #[.int .i64 0, .string ⟨#[]⟩, .int .i64 0, .int .i64 0] 170)).alloc (.cells #[.int .i64 0, .string ⟨#[]⟩, .int .i64 0, .int .i64 0] 170) = w2 := ⟨_, rfl⟩
 obtain ⟨b, hb⟩ : ∃ b, w.heap.size = b := ⟨_, rfl⟩
 rw [hw2] at HBA k1 k2 ⊢
 rw [hb] at k1 k2 ⊢
 have HBW := Lib.hid hb
 have HK2 := Lib.hid (HK.out.all HBA.out)
 have q0 : w2.cell? ⟨b + 1, 0, none⟩ = some (.int .i64 0) := k2.cell 0
 have r0 := k2.frozen 0
 obtain ⟨w3, hw3⟩ : ∃ w3, w2.setCell ⟨b + 1, 0, none⟩ (.int .i64 0) = w3 := ⟨_, rfl⟩
 have j1 := k1.far (p := ⟨b + 1, 0, none⟩) (by show b ≠ b + 1; omega) (.int .i64 0)
 have j2 := k2.set_ 0 (.int .i64 0)
 simp only [List.setIfInBounds_toArray, List.set_cons_zero] at j2
 have hb3 : Below w.heap.size w w3 := by rw [← hw3]; exact HBA.out.setCell (p := ⟨b + 1, 0, none⟩) (by rw [hb]; exact Nat.le_succ _) _
 rw [hw3] at j1 j2
 have HB3 := Lib.hid hb3
 have HK3 := Lib.hid (HK.out.all hb3)
 have J1 := Lib.hid j1
 have J2 := Lib.hid j2
 clear hw2 hb k1 k2 j1 j2 hb3
 refine (HKJ.out 0 (by omega) _ HK2).mono ?_
 rintro e w4 ⟨rfl, hw4⟩
 rw [hw4, kv_lt (by omega)]
 clear hw4
 go_wp2_with fail
 clear hw3 q0 r0
 refine (HKJ.out 1 (by omega) _ HK3).mono ?_
 rintro e w4 ⟨rfl, hw4⟩
 rw [hw4]
 clear hw4
 obtain ⟨N, hN⟩ : ∃ N, s.size = N := ⟨_, rfl⟩
 have HNN := Lib.hid hN
 rw [hN] at HKJ hn1 hn2 ⊢
 go_wp2
 go_loopg [7, 8] N (fun gk v7 v8 wr => ∃ j : Nat, j + gk = N + 1 ∧ 1 ≤ j ∧ j ≤ N ∧ v7 = .int .i64 (j : Int) ∧ v8 = .int .u8 (kv j N) ∧ wr = w3)
 case atStart => exact ⟨1, by omega, by omega, by omega, rfl, rfl, rfl⟩
 case round =>
  obtain ⟨j, hj, hj1, hj2, rfl, rfl, rfl⟩ := hrel
  have HJJ := Lib.hid hj
  rcases Nat.lt_or_ge j N with hlt | hge
  ·rw [kv_lt hlt]
   have HKN := Lib.hid (HKJ.out (j + 1) (by omega) _ HK3)
   have HLT := Lib.hid hlt
   have HJ1 := Lib.hid hj1
   clear hj hlt hj1 hj2
   have ej : IntKind.i64.wrap ((j : Int) + 1) = ((j + 1 : Nat) : Int) := by rw [IntWalk.i64_in _ (by have := HLT.out; omega)]; rfl
   go_wp2_with fail
   refine HKN.out.mono ?_
   rintro e w4 ⟨rfl, hw4⟩
   rw [hw4]
   clear hw4
   go_wp2
   go_roundg (N - j)
   case measure => have := HJJ.out; have := HLT.out; omega
   case rel => exact ⟨j + 1, by have := HJJ.out; have := HLT.out; omega, by omega, HLT.out, by go_num, rfl, rfl⟩
  ·obtain rfl : j = N := by omega
   rw [kv_ge (Nat.lt_irrefl _)]
   have hI : ¬ ((16 : Int) < (j : Int)) := by omega
   subst hN
   have p0 : wr.cell? ⟨b + 1, 0, none⟩ = some (.int .i64 0) := J2.out.cell 0
   have p1 : wr.cell? ⟨b + 1, 1, none⟩ = some (.string ⟨#[]⟩) := J2.out.cell 1
   have p2 : wr.cell? ⟨b + 1, 2, none⟩ = some (.int .i64 0) := J2.out.cell 2
   have p3 : wr.cell? ⟨b + 1, 3, none⟩ = some (.int .i64 0) := J2.out.cell 3
   have f1 := J2.out.frozen 1
   obtain ⟨w5, hw5⟩ : ∃ w5, wr.setCell ⟨b + 1, 1, none⟩ (.string s) = w5 := ⟨_, rfl⟩
   have j1 := J1.out.far (p := ⟨b + 1, 1, none⟩) (by show b ≠ b + 1; omega) (.string s)
   have j2 := J2.out.set_ 1 (.string s)
   simp only [List.setIfInBounds_toArray, List.set_cons_zero, List.set_cons_succ] at j2
   have hb5 : Below w.heap.size w w5 := by rw [← hw5]; exact HB3.out.setCell (p := ⟨b + 1, 1, none⟩) (by rw [HBW.out]; exact Nat.le_succ _) _
   rw [hw5] at j1 j2
   have t0 : w5.cell? ⟨b + 1, 0, none⟩ = some (.int .i64 0) := j2.cell 0
   have t1 : w5.cell? ⟨b + 1, 1, none⟩ = some (.string s) := j2.cell 1
   have t2 : w5.cell? ⟨b + 1, 2, none⟩ = some (.int .i64 0) := j2.cell 2
   have t3 : w5.cell? ⟨b + 1, 3, none⟩ = some (.int .i64 0) := j2.cell 3
   have u0 : w5.cell? ⟨b, 0, none⟩ = some (.int .i64 0) := j1.cell 0
   have u1 : w5.cell? ⟨b, 1, none⟩ = some (.string ⟨#[]⟩) := j1.cell 1
   have u2 : w5.cell? ⟨b, 2, none⟩ = some (.int .i64 0) := j1.cell 2
   have u3 : w5.cell? ⟨b, 3, none⟩ = some (.int .i64 0) := j1.cell 3
   have v0 := j1.frozen 0
   have v1 := j1.frozen 1
   have v2 := j1.frozen 2
   have v3 := j1.frozen 3
   have W1 := j1.set_ 0 (.int .i64 0)
   simp only [List.setIfInBounds_toArray, List.set_cons_zero] at W1
   have W2 := W1.set_ 1 (.string s)
   simp only [List.setIfInBounds_toArray, List.set_cons_zero, List.set_cons_succ] at W2
   have W3 := W2.set_ 2 (.int .i64 0)
   simp only [List.setIfInBounds_toArray, List.set_cons_zero, List.set_cons_succ] at W3
   have W4 := W3.set_ 3 (.int .i64 0)
   simp only [List.setIfInBounds_toArray, List.set_cons_zero, List.set_cons_succ] at W4
   obtain ⟨w6, hw6⟩ : ∃ w6, (((w5.setCell ⟨b, 0, none⟩ (.int .i64 0)).setCell ⟨b, 1, none⟩ (.string s)).setCell ⟨b, 2, none⟩ (.int .i64 0)).setCell ⟨b, 3, none⟩ (.int .i64 0) = w6 := ⟨_, rfl⟩
   have hb6 : Below w.heap.size w w6 := by
    have hbb : w.heap.size ≤ b := Nat.le_of_eq HBW.out
    rw [← hw6]
    exact (((hb5.setCell (p := ⟨b, 0, none⟩) hbb _).setCell (p := ⟨b, 1, none⟩) hbb _).setCell (p := ⟨b, 2, none⟩) hbb _).setCell (p := ⟨b, 3, none⟩) hbb _
   rw [hw6] at W4
   have HW4 := Lib.hid W4
   have HB6 := Lib.hid hb6
   have HW6 := Lib.hid hw6
   clear hj HJJ HKJ j1 j2 hb5 W1 W2 W3 W4 hb6 hw6
   go_wp2
   have hw6 := HW6.out
   try rw [hw6]
   have j8 := HW4.out
   have p0 : w6.cell? ⟨b, 0, none⟩ = some (.int .i64 0) := j8.cell 0
   have p1 : w6.cell? ⟨b, 1, none⟩ = some (.string s) := j8.cell 1
   have p2 : w6.cell? ⟨b, 2, none⟩ = some (.int .i64 0) := j8.cell 2
   have p3 : w6.cell? ⟨b, 3, none⟩ = some (.int .i64 0) := j8.cell 3
   refine bodyPost_ret (v := .tuple #[tokA s, .int .i64 0]) (by simp [results, Tryz.results167, go_sem, p0, p1, p2, p3, tokA]) rfl ⟨rfl, HB6.out⟩
end Go.Proofs.YtlcalajehnaenaaGreatDoor
namespace Go.Proofs.YtlcalajehnaenaaGreatDoor
open Go.RowKit
theorem run_append1b {P : Program} {w : World} {base t e size bytes n : Nat} {v : Value} {xs : List Value} {ty : TypeId} (hT : SlT P t e size bytes) (hown : w.ownsRow base e size v n xs) {gb : Nat} {cs : Array Value} (hsrc : Blk w gb e cs) (hcs : cs.size = size) (h1 : ∀ u ∈ cs.toList, u.oneCell' = true)
 (hn : n < 1000000000) (hby : bytes ≤ 1024) (hbase : base ≤ w.heap.size) :
 ∃ g cap w', (Builtin.append_ #[t, t] ty #[v, .slice (some ⟨gb, 0, none⟩) 1 1]).run P w = .ok (.slice (some ⟨g, 0, none⟩) (n + 1) cap) w' ∧ w'.ownsRow base e size (.slice (some ⟨g, 0, none⟩) (n + 1) cap) (n + 1) (xs ++ cs.toList) ∧
  w.grownBy w' v.ownBlock ∧ (some g = v.ownBlock ∨ g = w.heap.size) := by
 obtain ⟨i, z, ht, hi, hz, hs, hb, hzs, hsz⟩ := hT
 have hmul : (n + 1) * bytes ≤ 140737488355328 := Nat.le_trans (Nat.mul_le_mul (show n + 1 ≤ 1000000000 by omega) hby) (by decide)
 obtain ⟨v', w', hrun, h2, h3, _, h5⟩ := run_append_own_at (P := P) w base t ty e i z size bytes ht hi hz hs hb hzs hsz v n xs hown ⟨gb, 0, none⟩ 1 1 cs.toList (by simpa using hcs)
  (fun j u hu => by
   have ea : (⟨gb, 0, none⟩ : Addr).add j = ⟨gb, j, none⟩ := by unfold Addr.add; split <;> simp_all
   rw [ea, Blk.cell hsrc j]
   simpa using hu)
  h1 (by unfold maxLen; omega) hmul hbase
 obtain ⟨g, cap, rfl⟩ := ownsRow_succ h2
 refine ⟨g, cap, w', hrun, h2, h3, ?_⟩
 rcases h5 with h5 | h5
 ·exact .inl (by simpa [Value.ownBlock] using h5)
 ·exact .inr (by simpa [Value.ownBlock] using h5)
theorem run_appendN {P : Program} {w : World} {base t e size bytes n : Nat} {v : Value} {xs : List Value} {ty : TypeId} (hT : SlT P t e size bytes) (hown : w.ownsRow base e size v n xs) (A : Option Addr) (m c : Nat) (news : List Value) (hl : news.length = m * size) (hA : A = none → m = 0)
 (hnews : ∀ ad, A = some ad → ∀ j u, news[j]? = some u → w.cell? (ad.add j) = some u) (h1 : ∀ u ∈ news, u.oneCell' = true) (hn : n + m < 1000000000) (hby : bytes ≤ 1024) (hbase : base ≤ w.heap.size) :
 ∃ A' c' w', (Builtin.append_ #[t, t] ty #[v, .slice A m c]).run P w = .ok (.slice A' (n + m) c') w' ∧ w'.ownsRow base e size (.slice A' (n + m) c') (n + m) (xs ++ news) ∧ w.grownBy w' v.ownBlock ∧
  ∀ b, (Value.slice A' (n + m) c').ownBlock = some b → v.ownBlock = some b ∨ w.heap.size ≤ b := by
 have hT' := hT
 obtain ⟨i, z, ht, hi, hz, hs, hb, hzs, hsz⟩ := hT
 rcases A with _ | ad
 ·have hm := hA rfl
  subst hm
  have hnil : news = [] := List.eq_nil_of_length_eq_zero (by simpa using hl)
  subst hnil
  obtain ⟨A', c', rfl⟩ := own_split hown
  refine ⟨A', c', w, ?_, by simpa using hown, only_refl _ _, fun b hb => .inl hb⟩
  rcases hown.2 with ⟨h, h0⟩ | ⟨g, cap, cur, h, _, _, hnc, _⟩
  ·cases h
   simp [Builtin.append_, run_underlying ht, sizeOf, typeInfo, hi, Builtin.lenOf, Builtin.firstCells]
  ·injection h with h _ h3
   subst h h3
   simp [Builtin.append_, run_underlying ht, sizeOf, typeInfo, hi, Builtin.lenOf, Builtin.firstCells, hnc, storeCells]
 ·have hmul : (n + m) * bytes ≤ 140737488355328 := Nat.le_trans (Nat.mul_le_mul (show n + m ≤ 1000000000 by omega) hby) (by decide)
  obtain ⟨v', w', hrun, h2, h3, _, h5⟩ := run_append_own_at (P := P) w base t ty e i z size bytes ht hi hz hs hb hzs hsz v n xs hown ad m c news hl (hnews ad rfl) h1 (by unfold maxLen; omega) hmul hbase
  obtain ⟨A', c', rfl⟩ := own_split h2
  refine ⟨A', c', w', hrun, h2, h3, fun b hb => ?_⟩
  rcases h5 with h5 | h5
  ·exact .inl (by rw [← h5]; exact hb)
  ·rw [h5] at hb
   injection hb with hb
   exact .inr (by omega)
theorem slT_flow : SlT Tryz.prog 92 236 11 120 := SlT.of Tryz.underlying92 (by kernel_rfl) (by decide)
theorem ChAt.lt {B : Nat} {w : World} {L : Led} {S0 S : LSt} {C : Chg} (h : ChAt B w L S0 S C) {b : Nat} (hb : ChF C b) : b < w.heap.size := by
 obtain ⟨xs, hx, -⟩ := h.fl
 rcases hb with rfl | rfl | rfl | rfl | rfl | hb
 ·exact h.c.lt
 ·exact h.s.lt
 ·exact h.t.lt
 ·exact h.i.lt
 ·exact h.r.lt
 ·exact (hx.lt b hb).2
theorem ChAt.flow {B : Nat} {w : World} {L : Led} {S0 S : LSt} {C : Chg} (h : ChAt B w L S0 S C) (gb : Nat) (cs : Array Value) (hsrc : Blk w gb 236 cs) (hcs : cs.size = 11) (h1 : ∀ u ∈ cs.toList, u.oneCell' = true) (hn : S.nf < 1000000) (hB : B ≤ w.heap.size) (ty : TypeId) :
 ∃ (V : Sl) (w' : World), (Builtin.append_ #[92, 92] ty #[slV C.fl, .slice (some ⟨gb, 0, none⟩) 1 1]).run Tryz.prog w = .ok (slV V) w' ∧
  w'.cell? ⟨C.gc, 12, none⟩ = some (slV C.fl) ∧ w'.frozen? ⟨C.gc, 12, none⟩ = false ∧ ChAt B (w'.setCell ⟨C.gc, 12, none⟩ (slV V)) L S0 { S with nf := S.nf + 1 } { C with fl := V } ∧ Mod (ChF C) w (w'.setCell ⟨C.gc, 12, none⟩ (slV V)) ∧ Mod (ChF C) w w' := by
 obtain ⟨xs, hx, hx1⟩ := h.fl
 have hnf := h.nf
 obtain ⟨g, cap, w', hrun, h2, h3, h4⟩ := run_append1b (ty := ty) slT_flow hx hsrc hcs h1 (by omega) (by decide) hB
 have m1 : Mod (fun b => (slV C.fl).ownBlock = some b) w w' := Mod.of_grown h3 (fun g e => .inl e)
 have hty : ∀ b t, (slV C.fl).ownBlock = some b → Ty w b t → t = 236 := fun b t hb ht => ht.unique (Ty.of_own hx hb)
 have hc' : Blk w' C.gc 106 (C.cells L S0) := m1.blk h.c (fun e => absurd (hty _ _ e h.c.ty) (by decide))
 have hgt : Ty w' g 236 := Ty.of_own h2 rfl
 obtain ⟨V, hV⟩ : ∃ V : Sl, V = (some ⟨g, 0, none⟩, S.nf - S0.nf + 1, cap) := ⟨_, rfl⟩
 have hVe : slV V = .slice (some ⟨g, 0, none⟩) (S.nf - S0.nf + 1) cap := by rw [hV]; rfl
 rw [← hVe] at hrun h2
 have m2 : Mod (fun b => b = C.gc) w' (w'.setCell ⟨C.gc, 12, none⟩ (slV V)) := (Mod.refl (fun b => b = C.gc) w').set (.inl rfl) _
 have m : Mod (fun b => (slV C.fl).ownBlock = some b ∨ b = C.gc) w (w'.setCell ⟨C.gc, 12, none⟩ (slV V)) := (m1.mono (fun b hb => .inl (.inl hb))).trans m2 (fun b hb => .inl (.inr hb))
 have hmap : ∀ {b : Nat}, (∀ t, ¬ Ty w b t) → ¬ ((slV C.fl).ownBlock = some b ∨ b = C.gc) := by
  rintro b hb (e | e)
  ·exact hb _ (Ty.of_own hx e)
  ·exact hb _ (e ▸ h.c.ty)
 have hlot : ∀ b, ((slV C.fl).ownBlock = some b ∨ b = C.gc) → ¬ Ty w b 163 := by
  rintro b (e | e) ht
  ·exact absurd (hty _ _ e ht) (by decide)
  ·rw [e] at ht
   exact absurd (ht.unique h.c.ty) (by decide)
 have hcells : ({ C with fl := V } : Chg).cells L S0 = (C.cells L S0).setIfInBounds 12 (slV V) := by simp [Chg.cells]
 refine ⟨V, w', hrun, hc'.cell 12, hc'.frozen 12, ⟨?_, h.s.mod m (hmap (fun t => h.s.not_ty)), h.t.mod m (hmap (fun t => h.t.not_ty)), h.i.mod m (hmap (fun t => h.i.not_ty)), h.r.mod m (hmap (fun t => h.r.not_ty)),
  fun k => (h.st k).mod m hlot, h.tt, ⟨xs ++ cs.toList, ?_, fun u hu => (List.mem_append.1 hu).elim (hx1 u) (h1 u)⟩, Nat.le_succ_of_le hnf, h.sh, h.lo, h.dm⟩, m.mono (fun b hb => .inl (hb.elim (fun e => .inr (.inr (.inr (.inr (.inr e))))) (fun e => .inl e))), m1.mono (fun b hb => .inl (.inr (.inr (.inr (.inr (.inr hb))))))⟩
 ·rw [hcells]
  exact hc'.set_ 12 (slV V)
 ·have e : S.nf + 1 - S0.nf = S.nf - S0.nf + 1 := by omega
  show World.ownsRow _ B _ 11 (slV V) (S.nf + 1 - S0.nf) _
  rw [e]
  exact m2.own h2 (fun g' hg' e' => by
   rw [hVe] at hg'
   injection hg' with hg'
   have e2 : g = C.gc := hg'.trans e'
   rw [e2] at hgt
   exact absurd (hgt.unique hc'.ty) (by decide))
end Go.Proofs.YtlcalajehnaenaaGreatDoor
