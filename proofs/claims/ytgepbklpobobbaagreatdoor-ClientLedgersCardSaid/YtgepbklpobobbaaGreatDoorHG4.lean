/- lots.divide: put at any row; what its range holds; the counters' closures. -/
import Derived.Test.YtgepbklpobobbaaGreatDoorHG3
import Derived.Deep.DeepCutAuto

namespace Go.Proofs.YtgepbklpobobbaaGreatDoor
open Go.RowKit Go.Shelf

theorem put_any (B : Nat) (A : Option Addr) (n c : Nat) (ls : List Lot) (x : Lot) (w : World) (HO : Hid (LotsOwn w B A n c ls)) (HK : Hid (LotsOk ls)) (hB : B ≤ w.heap.size) (hx : x.piece) (hn : n < 1000000) :
    Calls Tryz.prog 201 #[.slice A n c, .agg #[.int .i64 x.flow, .int .i64 x.at_, .int .i64 x.n]] w (PutPost B A n c (putL ls x) w) := by
  by_cases h0 : x.n = 0
  · exact put_zero B A n c ls x w HO h0
  · rcases snoc_cases ls with rfl | ⟨a, l, rfl⟩
    · obtain rfl : n = 0 := HO.out.1.symm
      exact put_nil B A c x w HO hB h0
    · exact put_some B A n a.length c a l x w HO (Lib.hid (by rw [← HO.out.1, List.length_append]; rfl)) hB h0 (HK.out l (by simp)) hx hn
/-- A block of the loop's own record. -/
def RecL (B : Nat) (W : World) (b : Nat) : Prop := B ≤ b ∧ ∃ o, W.heap[b]? = some o ∧ o.isCells = false
theorem RecL.not_ty {B : Nat} {W : World} {b : Nat} {t : TypeId} (h : RecL B W b) (h' : Ty W b t) : False := by
  obtain ⟨-, o, h1, h2⟩ := h
  obtain ⟨cs, fr, h3⟩ := h'
  rw [h1] at h3
  injection h3 with h3
  rw [h3] at h2
  cases h2
theorem keepsFrom_mod {F : Nat → Prop} {B : Nat} {W W' : World} (m : Mod F W W') (hF : ∀ b, F b → ∃ t, Ty W b t) : KeepsFrom B W W' :=
  ⟨m.size, fun k o _ hk ho => (m.block k (Array.getElem?_eq_some_iff.1 hk).1 (fun hf => by
    obtain ⟨t, cs, fr, h⟩ := hF k hf
    rw [hk] at h
    injection h with h
    rw [h] at ho
    cases ho)).trans hk⟩
/-- What divide holds: its two results in boxes, rows of its own. -/
structure DivB (w : World) (B : Nat) (Fc : Nat → Prop) (b4 b5 : Nat) (st : List Lot × List Lot) (V1 V2 : Sl) (W : World) : Prop where
  c4 : Blk W b4 61 #[slV V1]
  c5 : Blk W b5 61 #[slV V2]
  o1 : LotsOwn W B V1.1 V1.2.1 V1.2.2 st.1
  o2 : LotsOwn W B V2.1 V2.2.1 V2.2.2 st.2
  k1 : LotsOk st.1
  k2 : LotsOk st.2
  ap : ∀ b, (slV V1).ownBlock = some b → (slV V2).ownBlock ≠ some b
  mo : Mod Fc w W
  lt : b4 < B ∧ b5 < B ∧ w.heap.size ≤ b4 ∧ w.heap.size ≤ b5 ∧ b4 ≠ b5 ∧ B ≤ W.heap.size
/-- What a round of divide may turn. -/
def FD (b4 b5 B : Nat) (V1 V2 : Sl) (U : World) (b : Nat) : Prop := b = b4 ∨ b = b5 ∨ (slV V1).ownBlock = some b ∨ (slV V2).ownBlock = some b ∨ RecL B U b
def stpD (st : List Lot × List Lot) (x : Lot × Bool) : List Lot × List Lot := if x.2 then (putL st.1 x.1, st.2) else (st.1, putL st.2 x.1)
section
variable {w W W' : World} {B b4 b5 : Nat} {Fc F : Nat → Prop} {st : List Lot × List Lot} {V1 V2 : Sl}
theorem DivB.t1 (h : DivB w B Fc b4 b5 st V1 V2 W) {b : Nat} (hb : (slV V1).ownBlock = some b) : Ty W b 184 ∧ B ≤ b ∧ b < W.heap.size := ⟨Ty.of_own h.o1.2 hb, h.o1.2.lt b hb⟩
theorem DivB.t2 (h : DivB w B Fc b4 b5 st V1 V2 W) {b : Nat} (hb : (slV V2).ownBlock = some b) : Ty W b 184 ∧ B ≤ b ∧ b < W.heap.size := ⟨Ty.of_own h.o2.2 hb, h.o2.2.lt b hb⟩
theorem DivB.mod (h : DivB w B Fc b4 b5 st V1 V2 W) (m : Mod F W W') (hF : ∀ b, F b → b < w.heap.size ∧ Fc b ∨ RecL B W b) : DivB w B Fc b4 b5 st V1 V2 W' := by
  obtain ⟨l1, l2, l3, l4, l5, l6⟩ := h.lt
  have hs := h.mo.size
  refine ⟨m.blk h.c4 (fun hf => ?_), m.blk h.c5 (fun hf => ?_), h.o1.mod m (fun b hb hf => ?_), h.o2.mod m (fun b hb hf => ?_), h.k1, h.k2, h.ap, h.mo.trans m (fun b hf => ?_), l1, l2, l3, l4, l5, Nat.le_trans l6 m.size⟩
  · rcases hF _ hf with h1 | h1
    · omega
    · exact h1.not_ty h.c4.ty
  · rcases hF _ hf with h1 | h1
    · omega
    · exact h1.not_ty h.c5.ty
  · have := h.t1 hb
    rcases hF _ hf with h1 | h1
    · omega
    · exact h1.not_ty this.1
  · have := h.t2 hb
    rcases hF _ hf with h1 | h1
    · omega
    · exact h1.not_ty this.1
  · rcases hF _ hf with h1 | h1
    · exact .inl h1.2
    · have := h1.1
      exact .inr (by omega)
theorem DivB.all (h : DivB w B Fc b4 b5 st V1 V2 W) (hb : Below W.heap.size W W') : DivB w B Fc b4 b5 st V1 V2 W' := h.mod (F := fun _ => False) (Mod.of_below _ hb) (fun _ hf => hf.elim)
/-- A piece is put to what is taken. -/
theorem DivB.put1 (h : DivB w B Fc b4 b5 st V1 V2 W) {x : Lot} (hx : x.piece) {e : Ending} (hp : PutPost B V1.1 V1.2.1 V1.2.2 (putL st.1 x) W e W') :
    ∃ V1' : Sl, e = .returned (slV V1') ∧ DivB w B Fc b4 b5 (putL st.1 x, st.2) V1' V2 (W'.setCell ⟨b4, 0, none⟩ (slV V1')) ∧ Mod (fun b => b = b4 ∨ (slV V1).ownBlock = some b) W (W'.setCell ⟨b4, 0, none⟩ (slV V1')) ∧ W'.frozen? ⟨b4, 0, none⟩ = false ∧ W'.cell? ⟨b4, 0, none⟩ = some (slV V1) := by
  obtain ⟨A', n', c', rfl, ho, m, hn⟩ := hp
  obtain ⟨l1, l2, l3, l4, l5, l6⟩ := h.lt
  have hs := h.mo.size
  have n4 : ¬ (slV V1).ownBlock = some b4 := fun e => by have := h.t1 e; omega
  have n5 : ¬ (slV V1).ownBlock = some b5 := fun e => by have := h.t1 e; omega
  have m0 : Mod (fun b => b = b4) W' (W'.setCell ⟨b4, 0, none⟩ (slV (A', n', c'))) := (Mod.refl (fun b => b = b4) W').set (p := ⟨b4, 0, none⟩) (.inl rfl) _
  have hc4 := m.blk h.c4 n4
  have hnew : ∀ b, (slV (A', n', c')).ownBlock = some b → B ≤ b ∧ b < W'.heap.size := fun b hb => ho.2.lt b hb
  have m2 : Mod (fun b => b = b4 ∨ (slV V1).ownBlock = some b) W (W'.setCell ⟨b4, 0, none⟩ (slV (A', n', c'))) := (m.mono (fun b hb => .inl (.inr hb))).trans m0 (fun b hb => .inl (.inl hb))
  refine ⟨(A', n', c'), rfl, ⟨?_, m0.blk (m.blk h.c5 n5) (fun e => l5 e.symm), ho.mod m0 (fun b hb e => ?_), (h.o2.mod m (fun b hb e => h.ap b e hb)).mod m0 (fun b hb e => ?_), putL_ok h.k1 hx, h.k2, fun b hb e => ?_, h.mo.trans m2 (fun b hb => ?_), l1, l2, l3, l4, l5, ?_⟩, m2, hc4.frozen 0, hc4.cell 0⟩
  · exact Blk.set_ hc4 0 _
  · have := hnew b hb
    omega
  · have := h.t2 hb
    omega
  · rcases hn b hb with h1 | h1
    · exact h.ap b h1 e
    · have := h.t2 e
      omega
  · rcases hb with hb | hb
    · exact .inr (by omega)
    · have := h.t1 hb
      exact .inr (by omega)
  · have := m2.size
    omega
/-- A piece is put to what is left. -/
theorem DivB.put2 (h : DivB w B Fc b4 b5 st V1 V2 W) {x : Lot} (hx : x.piece) {e : Ending} (hp : PutPost B V2.1 V2.2.1 V2.2.2 (putL st.2 x) W e W') :
    ∃ V2' : Sl, e = .returned (slV V2') ∧ DivB w B Fc b4 b5 (st.1, putL st.2 x) V1 V2' (W'.setCell ⟨b5, 0, none⟩ (slV V2')) ∧ Mod (fun b => b = b5 ∨ (slV V2).ownBlock = some b) W (W'.setCell ⟨b5, 0, none⟩ (slV V2')) ∧ W'.frozen? ⟨b5, 0, none⟩ = false ∧ W'.cell? ⟨b5, 0, none⟩ = some (slV V2) := by
  obtain ⟨A', n', c', rfl, ho, m, hn⟩ := hp
  obtain ⟨l1, l2, l3, l4, l5, l6⟩ := h.lt
  have hs := h.mo.size
  have n4 : ¬ (slV V2).ownBlock = some b4 := fun e => by have := h.t2 e; omega
  have n5 : ¬ (slV V2).ownBlock = some b5 := fun e => by have := h.t2 e; omega
  have m0 : Mod (fun b => b = b5) W' (W'.setCell ⟨b5, 0, none⟩ (slV (A', n', c'))) := (Mod.refl (fun b => b = b5) W').set (p := ⟨b5, 0, none⟩) (.inl rfl) _
  have hc5 := m.blk h.c5 n5
  have hnew : ∀ b, (slV (A', n', c')).ownBlock = some b → B ≤ b ∧ b < W'.heap.size := fun b hb => ho.2.lt b hb
  have m2 : Mod (fun b => b = b5 ∨ (slV V2).ownBlock = some b) W (W'.setCell ⟨b5, 0, none⟩ (slV (A', n', c'))) := (m.mono (fun b hb => .inl (.inr hb))).trans m0 (fun b hb => .inl (.inl hb))
  refine ⟨(A', n', c'), rfl, ⟨m0.blk (m.blk h.c4 n4) (fun e => l5 e), ?_, (h.o1.mod m (fun b hb e => h.ap b hb e)).mod m0 (fun b hb e => ?_), ho.mod m0 (fun b hb e => ?_), h.k1, putL_ok h.k2 hx, fun b hb e => ?_, h.mo.trans m2 (fun b hb => ?_), l1, l2, l3, l4, l5, ?_⟩, m2, hc5.frozen 0, hc5.cell 0⟩
  · exact Blk.set_ hc5 0 _
  · have := h.t1 hb
    omega
  · have := hnew b hb
    omega
  · rcases hn b e with h1 | h1
    · exact h.ap b hb h1
    · have := h.t1 hb
      omega
  · rcases hb with hb | hb
    · exact .inr (by omega)
    · have := h.t2 hb
      exact .inr (by omega)
  · have := m2.size
    omega
end
/-- The closure that counts the first units. -/
theorem cntL_get : ∀ (ls : List Lot) (n : Int) (k : Nat) (hk : k < ls.length), (cntLt ls n)[k]? = some (min (n - sumZ ((cntLt ls n).take k)) (ls[k]).n)
  | [], _, _, hk => by simp at hk
  | l :: ls, n, 0, _ => by simp [cntLt, sumZ]
  | l :: ls, n, k + 1, hk => by
    have := cntL_get ls (n - min n l.n) k (by simpa using hk)
    simp only [cntLt, List.getElem?_cons_succ, List.take_succ_cons, sumZ, List.getElem_cons_succ]
    rw [this]
    congr 2
    omega
theorem sumI_take_succ {l : List Int} {k : Nat} {x : Int} (h : l[k]? = some x) : sumZ (l.take (k + 1)) = sumZ (l.take k) + x := by
  obtain ⟨hk, rfl⟩ := List.getElem?_eq_some_iff.1 h
  rw [← List.take_append_getElem hk, sumI_append]
  simp [sumZ]
set_option maxRecDepth 100000 in
theorem first1_any (bn bl : Nat) (r : Int) (A : Option Addr) (n c k : Nat) (ls : List Lot) (l : Lot) (w : World) (hn : Blk w bn 3 #[.int .i64 r]) (hl : Blk w bl 61 #[.slice A n c]) (HL : Hid (LotsAt w A n c ls)) (HG : Hid (ls[k]? = some l)) (hk : k < n) (h0 : 0 ≤ r) (h1 : r ≤ 1099511627776) (h2 : 0 ≤ l.n) :
    Calls Tryz.prog 237 #[.int .i64 (k : Int), .pointer (some ⟨bn, 0, none⟩), .pointer (some ⟨bl, 0, none⟩)] w fun e w' => e = .returned (.int .i64 (min r l.n)) ∧ Blk w' bn 3 #[.int .i64 (r - min r l.n)] ∧ Mod (fun b => b = bn) w w' := by
  obtain ⟨b, off, rfl, hb, -, l', hl', k0, k1, k2⟩ := HL.out.at_ hk
  obtain rfl : l = l' := by have := HG.out; rw [hl'] at this; injection this with this; exact this.symm
  obtain ⟨m, hm⟩ : ∃ m, min r l.n = m := ⟨_, rfl⟩
  rw [hm]
  have hkI : (k : Int) < (n : Int) := by omega
  have hk0 : (0 : Int) ≤ (k : Int) := by omega
  have hw : IntKind.i64.wrap (r - m) = r - m := IntWalk.i64_in _ (by omega)
  have n0 := hn.cell 0
  have n1 := hn.frozen 0
  have l0 := hl.cell 0
  simp at n0 l0
  have HP : ∀ q, Hid (Blk ((w.drewN q).setCell ⟨bn, 0, none⟩ (.int .i64 (r - m))) bn 3 #[.int .i64 (r - m)] ∧ Mod (fun b => b = bn) w ((w.drewN q).setCell ⟨bn, 0, none⟩ (.int .i64 (r - m)))) := fun q => Lib.hid (by
    have hb : Below w.heap.size w (w.drewN q) := below_drewN (Below.refl _ _) q
    exact ⟨Blk.set_ (hn.all hb) 0 _, (Mod.of_below (fun b => b = bn) hb).set (p := ⟨bn, 0, none⟩) (.inl rfl) _⟩)
  clear hn hl
  go_enter Tryz.func237, Tryz.ntmps237
  go_wp2
  go_region
  go_wp2
  go_ret
  exact ⟨rfl, HP 1 |>.out⟩
end Go.Proofs.YtgepbklpobobbaaGreatDoor

/- lots.divide: the iterator and the range over it, at both counters. -/
namespace Go.Proofs.YtgepbklpobobbaaGreatDoor
open Go.RowKit Go.Shelf
attribute [local go_sem] Oper.semAt_some

theorem divL_snoc : ∀ (ls : List Lot) (cs : List Int) (tk lf : List Lot) (l : Lot) (c : Int), cs.length = ls.length → divL tk lf (ls ++ [l]) (cs ++ [c]) = (putL (divL tk lf ls cs).1 ⟨l.flow, l.at_, c⟩, putL (divL tk lf ls cs).2 ⟨l.flow, l.at_ + c, l.n - c⟩)
  | [], [], _, _, _, _, _ => by simp [divL]
  | _ :: _, [], _, _, _, _, h => by simp at h
  | [], _ :: _, _, _, _, _, h => by simp at h
  | x :: ls, y :: cs, tk, lf, l, c, h => by
    simp only [List.cons_append, divL]
    exact divL_snoc ls cs _ _ l c (by simpa using h)
theorem cntOk_len : ∀ (ls : List Lot) (cs : List Int), CntOk ls cs → cs.length = ls.length
  | [], [], _ => rfl
  | _ :: _, [], h => by cases h
  | [], _ :: _, h => by cases h
  | _ :: ls, _ :: cs, h => by simp [cntOk_len ls cs h.2.2]
theorem cntOk_get : ∀ (ls : List Lot) (cs : List Int) (k : Nat) (l : Lot) (c : Int), CntOk ls cs → ls[k]? = some l → cs[k]? = some c → 0 ≤ c ∧ c ≤ l.n
  | [], _, _, _, _, _, h, _ => by simp at h
  | _ :: _, [], _, _, _, h, _, _ => by cases h
  | x :: ls, y :: cs, 0, l, c, h, h1, h2 => by
    simp only [List.getElem?_cons_zero, Option.some.injEq] at h1 h2
    subst h1 h2
    exact ⟨h.1, h.2.1⟩
  | x :: ls, y :: cs, k + 1, l, c, h, h1, h2 => cntOk_get ls cs k l c h.2.2 (by simpa using h1) (by simpa using h2)
theorem cntOk_take : ∀ (ls : List Lot) (cs : List Int) (k : Nat), CntOk ls cs → CntOk (ls.take k) (cs.take k)
  | [], [], _, _ => by simp [CntOk]
  | _ :: _, [], _, h => by cases h
  | [], _ :: _, _, h => by cases h
  | _ :: _, _ :: _, 0, _ => by simp [CntOk]
  | _ :: ls, _ :: cs, k + 1, h => ⟨h.1, h.2.1, cntOk_take ls cs k h.2.2⟩
theorem FD.sub {b4 b5 B : Nat} {V1 V2 : Sl} {U : World} {b : Nat} (h : FD b4 b5 B V1 V2 U b) (hb4 : b ≠ b4) (hb5 : b ≠ b5) (h1 : (slV V1).ownBlock ≠ some b) (h2 : (slV V2).ownBlock ≠ some b) : RecL B U b := by
  rcases h with h | h | h | h | h
  · exact absurd h hb4
  · exact absurd h hb5
  · exact absurd h h1
  · exact absurd h h2
  · exact h
theorem cntOk_sum : ∀ (ls : List Lot) (cs : List Int) (k : Nat), CntOk ls cs → 0 ≤ sumZ (cs.take k) ∧ sumZ (cs.take k) ≤ sumZ cs
  | [], [], _, _ => by simp [sumZ]
  | _ :: _, [], _, h => by cases h
  | [], _ :: _, _, h => by cases h
  | _ :: ls, _ :: cs, 0, h => by
    have h1 := (cntOk_sum ls cs 0 h.2.2).2
    have := h.1
    simp only [List.take_zero, sumZ] at h1 ⊢
    omega
  | _ :: ls, _ :: cs, k + 1, h => by
    obtain ⟨h1, h2⟩ := cntOk_sum ls cs k h.2.2
    have := h.1
    simp only [List.take_succ_cons, sumZ]
    omega
theorem sum_rest {ls : List Lot} {cs : List Int} {n : Int} (h : CntOk ls cs) (hs : sumZ cs = n) (k : Nat) : 0 ≤ n - sumZ (cs.take k) ∧ n - sumZ (cs.take k) ≤ n := by
  obtain ⟨h1, h2⟩ := cntOk_sum ls cs k h
  omega
theorem take_snoc {α : Type} {l : List α} {k : Nat} {x : α} (h : l[k]? = some x) : l.take (k + 1) = l.take k ++ [x] := by
  obtain ⟨hk, rfl⟩ := List.getElem?_eq_some_iff.1 h
  exact (List.take_append_getElem hk).symm
theorem fdold {w : World} {B b4 b5 g : Nat} {Fc : Nat → Prop} {st : List Lot × List Lot} {V1 V2 : Sl} {U : World} {t : TypeId} {cs : Array Value} (h : DivB w B Fc b4 b5 st V1 V2 U) (hb : Blk U g t cs) (h1 : g < B) (h2 : g ≠ b4) (h3 : g ≠ b5) : ¬ FD b4 b5 B V1 V2 U g := fun hf => by
  refine (hf.sub h2 h3 (fun e => ?_) (fun e => ?_)).not_ty hb.ty
  · have := h.t1 e
    omega
  · have := h.t2 e
    omega
theorem fdbox {w : World} {B b4 b5 bx : Nat} {Fc : Nat → Prop} {st : List Lot × List Lot} {V1 V2 : Sl} {U : World} {cs : Array Value} (h : DivB w B Fc b4 b5 st V1 V2 U) (hl : B ≤ bx ∧ (∀ b, (slV V1).ownBlock = some b → b < bx) ∧ (∀ b, (slV V2).ownBlock = some b → b < bx)) (hb : Blk U bx 184 cs) : ¬ FD b4 b5 B V1 V2 U bx := fun hf => by
  obtain ⟨l1, l2, l3, l4, l5, l6⟩ := h.lt
  refine (hf.sub (by omega) (by omega) (fun e => ?_) (fun e => ?_)).not_ty hb.ty
  · have := hl.2.1 _ e
    omega
  · have := hl.2.2 _ e
    omega
/-- What stands at the head of the iterator's loop. -/
def PIF (w : World) (B b4 b5 pL pC bn bl : Nat) (A : Option Addr) (n c : Nat) (ls : List Lot) (n0 : Int) (R : World → Prop) (k : Nat) (wr : World) : Prop :=
  (∃ V1 V2 : Sl, DivB w B (fun b => b = bn) b4 b5 (divL [] [] (ls.take k) ((cntLt ls n0).take k)) V1 V2 wr) ∧ Blk wr pL 61 #[.slice A n c] ∧ Blk wr pC 68 #[.func (.func 237) #[] #[.pointer (some ⟨bn, 0, none⟩), .pointer (some ⟨bl, 0, none⟩)]] ∧ (Blk wr bn 3 #[.int .i64 (n0 - sumZ ((cntLt ls n0).take k))] ∧ Blk wr bl 61 #[.slice A n c]) ∧ R wr
set_option maxRecDepth 100000 in
set_option maxHeartbeats 8000000 in
theorem pieces1F_any (w : World) (B b4 b5 pL pC bn bl : Nat) (A : Option Addr) (n c : Nat) (ls : List Lot) (n0 : Int) (l : Nat) (R : World → Prop) (HR : Hid (∀ W W', R W → KeepsFrom B W W' → R W'))
    (HL : Hid (LotsAt w A n c ls)) (HK : Hid (LotsOk ls)) (HC : Hid (CntOk ls (cntLt ls n0))) (hn : n ≤ 4096) (hn0 : 0 ≤ n0 ∧ n0 ≤ 1099511627776) (hbn : bn < w.heap.size ∧ bl < w.heap.size ∧ bn ≠ bl) (HTN : Hid (Ty w bn 3)) (HSUM : Hid (sumZ (cntLt ls n0) = n0)) (hpl : w.heap.size ≤ pL ∧ pL < B ∧ w.heap.size ≤ pC ∧ pC < B ∧ pL ≠ b4 ∧ pL ≠ b5 ∧ pC ≠ b4 ∧ pC ≠ b5)
    (HY : Hid (∀ (st : List Lot × List Lot) (V1 V2 : Sl) (x : Lot × Bool) (U : World), DivB w B (fun b => b = bn) b4 b5 st V1 V2 U → R U → x.1.piece → V1.2.1 ≤ 5000 → V2.2.1 ≤ 5000 → YieldAt Fence.wide 4 Tryz.prog l #[.agg #[.int .i64 x.1.flow, .int .i64 x.1.at_, .int .i64 x.1.n], .bool x.2] U fun e W' => e = .returned (.bool true) ∧ (∃ V1' V2' : Sl, DivB w B (fun b => b = bn) b4 b5 (stpD st x) V1' V2' W') ∧ Mod (FD b4 b5 B V1 V2 U) U W' ∧ R W'))
    (W : World) (HI : Hid (PIF w B b4 b5 pL pC bn bl A n c ls n0 R 0 W)) :
    Calls Tryz.prog 256 #[.func (.yield l) #[] #[], .pointer (some ⟨pL, 0, none⟩), .pointer (some ⟨pC, 0, none⟩)] W fun e W' => (∃ v, e = .returned v) ∧ (∃ V1 V2 : Sl, DivB w B (fun b => b = bn) b4 b5 (divL [] [] ls (cntLt ls n0)) V1 V2 W') ∧ R W' := by
  have HLEN := Lib.hid (cntOk_len _ _ HC.out)
  obtain ⟨-, hp1, hp2, -⟩ := HI.out
  have p1 := hp1.cell 0
  have p2 := hp2.cell 0
  simp at p1 p2
  clear hp1 hp2
  go_enter Tryz.func256, Tryz.ntmps256
  go_wp2
  go_loopg [9] n (fun gk iv wr => ∃ k : Nat, k + gk = n ∧ iv = .int .i64 (k : Int) ∧ Hid (PIF w B b4 b5 pL pC bn bl A n c ls n0 R k wr))
  case atStart => exact ⟨0, by omega, rfl, HI⟩
  case round =>
    clear HI p1 p2
    obtain ⟨k, hk, rfl, HI⟩ := hrel
    have HHK := Lib.hid hk
    rcases Nat.lt_or_ge k n with hlt | hge
    · have hltI : (k : Int) < (n : Int) := by omega
      have hk0 : (0 : Int) ≤ (k : Int) := by omega
      obtain ⟨⟨V1, V2, hD⟩, hpL, hpC, hJ, hRr⟩ := HI.out
      have hLw := HL.out.mod hD.mo (fun b hb => fun ht => by subst hb; exact absurd (HTN.out.unique ht) (by decide))
      obtain ⟨b, off, rfl, -, -, lk, hlk, k0, k1, k2⟩ := hLw.at_ hlt
      have hcs : ∃ cc, (cntLt ls n0)[k]? = some cc := ⟨_, List.getElem?_eq_getElem (by rw [HLEN.out, HL.out.len]; exact hlt)⟩
      obtain ⟨cc, hcc⟩ := hcs
      obtain ⟨hc0, hc1⟩ := cntOk_get _ _ k lk cc HC.out hlk hcc
      have hok := HK.out lk (List.mem_of_getElem? hlk)
      have q1 := hpL.cell 0
      have q2 := hpC.cell 0
      simp at q1 q2
      obtain ⟨bx, hbx⟩ : ∃ bx, wr.heap.size = bx := ⟨_, rfl⟩
      have hba := (Below.refl wr.heap.size wr).alloc (Nat.le_refl _) (.cells #[.int .i64 lk.flow, .int .i64 lk.at_, .int .i64 lk.n] 184)
      have hbox := Blk.new wr 184 #[.int .i64 lk.flow, .int .i64 lk.at_, .int .i64 lk.n]
      have hlt6 := hD.lt
      have hws := hD.mo.size
      have HLT := Lib.hid (show B ≤ bx ∧ (∀ b, (slV V1).ownBlock = some b → b < bx) ∧ (∀ b, (slV V2).ownBlock = some b → b < bx) from ⟨by omega, fun b hb => by have := hD.t1 hb; omega, fun b hb => by have := hD.t2 hb; omega⟩)
      have HD1 := Lib.hid (hD.all hba)
      have HPL1 := Lib.hid (hpL.all hba)
      have HPC1 := Lib.hid (hpC.all hba)
      have HR1 := Lib.hid (HR.out _ _ hRr (keepsFrom_mod (F := fun _ => False) (Mod.of_below _ hba) (fun _ hf => hf.elim)))
      have HJ1 := Lib.hid (show Blk (wr.alloc (.cells #[.int .i64 lk.flow, .int .i64 lk.at_, .int .i64 lk.n] 184)) bn 3 #[.int .i64 (n0 - sumZ ((cntLt ls n0).take k))] ∧ Blk (wr.alloc (.cells #[.int .i64 lk.flow, .int .i64 lk.at_, .int .i64 lk.n] 184)) bl 61 #[.slice (some ⟨b, off, none⟩) n c] from ⟨hJ.1.all hba, hJ.2.all hba⟩)
      have HLW1 := Lib.hid (hLw.all hba)
      have HBX1 := Lib.hid hbox
      have HLK := Lib.hid hlk
      have HCC := Lib.hid hcc
      have HOK := Lib.hid hok
      have HST := Lib.hid (show (divL [] [] (ls.take k) ((cntLt ls n0).take k)).1.length ≤ 4096 ∧ (divL [] [] (ls.take k) ((cntLt ls n0).take k)).2.length ≤ 4096 by
        obtain ⟨-, -, -, -, h5, h6⟩ := divL_facts (ls.take k) ((cntLt ls n0).take k) [] [] (HK.out.take k) (cntOk_take _ _ k HC.out) (fun _ h => absurd h (by simp)) (fun _ h => absurd h (by simp))
        have : (ls.take k).length ≤ k := by rw [List.length_take]; omega
        simp only [List.length_nil, Nat.zero_add] at h5 h6
        omega)
      clear hD hpL hpC hJ hRr hLw hba hbox hlt6 hws hlk hcc hok
      go_upto_region 3 with (fail)
      obtain ⟨W1, hW1⟩ : ∃ W1, W1 = wr.alloc (.cells #[.int .i64 lk.flow, .int .i64 lk.at_, .int .i64 lk.n] 184) := ⟨_, rfl⟩
      rw [← hW1] at HD1 HPL1 HPC1 HR1 HJ1 HLW1 HBX1 ⊢
      rw [hbx] at HBX1
      clear hW1 hbx q1 q2 k0 k1 k2
      have q2 := HPC1.out.cell 0
      simp at q2
      go_wp2_with fail
      have hrem := sum_rest HC.out HSUM.out k
      refine (first1_any bn bl _ (some ⟨b, off, none⟩) n c k ls lk W1 HJ1.out.1 HJ1.out.2 HLW1 HLK hlt (by omega) (by omega) (by have := HOK.out; unfold Lot.ok at this; omega)).mono ?_
      rintro e W2 ⟨rfl, hbn2, hm2⟩
      have hmin : min (n0 - sumZ ((cntLt ls n0).take k)) lk.n = cc := by
        have h1 := cntL_get ls n0 k (by rw [HL.out.len]; exact hlt)
        have h2 : ls[k]'(by rw [HL.out.len]; exact hlt) = lk := by
          have := HLK.out
          rw [List.getElem?_eq_getElem (by rw [HL.out.len]; exact hlt)] at this
          injection this
        rw [h2, HCC.out] at h1
        injection h1 with h1
        exact h1.symm
      rw [hmin] at hbn2 ⊢
      have hs1 := sumI_take_succ HCC.out
      have HJ2 := Lib.hid (show Blk W2 bn 3 #[.int .i64 (n0 - sumZ ((cntLt ls n0).take (k + 1)))] ∧ Blk W2 bl 61 #[.slice (some ⟨b, off, none⟩) n c] from ⟨by rw [hs1, show n0 - (sumZ ((cntLt ls n0).take k) + cc) = n0 - sumZ ((cntLt ls n0).take k) - cc by omega]; exact hbn2, hm2.blk HJ1.out.2 (fun e => hbn.2.2 e.symm)⟩)
      have HD2 := Lib.hid (HD1.out.mod hm2 (fun b hb => .inl ⟨by omega, hb⟩))
      have HPL2 := Lib.hid (hm2.blk HPL1.out (fun e => by omega))
      have HPC2 := Lib.hid (hm2.blk HPC1.out (fun e => by omega))
      have HR2 := Lib.hid (HR.out _ _ HR1.out (keepsFrom_mod hm2 (fun b hb => by subst hb; exact ⟨_, HJ1.out.1.ty⟩)))
      have HBX2 := Lib.hid (hm2.blk HBX1.out (fun e => by have := HLT.out.1; omega))
      have HCC2 := HCC
      clear hbn2 hm2 hmin hs1 hrem HD1 HPL1 HPC1 HR1 HJ1 HBX1 q2
      obtain ⟨f0, a0, m0⟩ := lk
      have hoks := HOK.out
      unfold Lot.ok MaxU at hoks
      dsimp only at hoks hc1 
      have hw1 : IntKind.i64.wrap (a0 + cc) = a0 + cc := IntWalk.i64_in _ (by omega)
      have hw2 : IntKind.i64.wrap (m0 - cc) = m0 - cc := IntWalk.i64_in _ (by omega)
      have hp1 : (⟨f0, a0, cc⟩ : Lot).piece := by unfold Lot.piece MaxU; dsimp only; omega
      have hp2 : (⟨f0, a0 + cc, m0 - cc⟩ : Lot).piece := by unfold Lot.piece MaxU; dsimp only; omega
      have e0 := HBX2.out.cell 0
      have e1 := HBX2.out.cell 1
      have e2 := HBX2.out.cell 2
      simp at e0 e1 e2
      obtain ⟨fn, tmps, assign, body, hy1, hy2⟩ := HY.out _ V1 V2 (⟨f0, a0, cc⟩, true) W2 HD2.out HR2.out hp1 (by have := HD2.out.o1.1; have := HST.out.1; omega) (by have := HD2.out.o2.1; have := HST.out.2; omega)
      dsimp only at hy1
      clear hc0 hc1 hoks HCC2
      go_upto_region 4 with (fail)
      refine (wpIn_wide (n := 5)).1 ?_
      gi_wp2_with (first
        | (refine hz2.mono ?_; clear hz1 hz2; rintro e W4 ⟨rfl, ⟨V1'', V2'', hD4⟩, hM4, hR4⟩)
        | (refine hy2.mono ?_; clear hy1 hy2; rintro e W3 ⟨rfl, ⟨V1', V2', hD3⟩, hM3, hR3⟩; have hBX3 := hM3.blk HBX2.out (fdbox HD2.out HLT.out HBX2.out); have d0 := hBX3.cell 0; have d1 := hBX3.cell 1; have d2 := hBX3.cell 2; simp at d0 d1 d2; obtain ⟨fn', tmps', assign', body', hz1, hz2⟩ := HY.out _ V1' V2' (⟨f0, a0 + cc, m0 - cc⟩, false) W3 hD3 hR3 hp2 (by have h1 := hD3.o1.1; have h2 := HST.out.1; have h3 := (putL_len (divL [] [] (ls.take k) ((cntLt ls n0).take k)).1 ⟨f0, a0, cc⟩).2; simp only [stpD, if_true] at h1; omega) (by have h1 := hD3.o2.1; have h2 := HST.out.2; simp only [stpD, if_true] at h1; omega); dsimp only at hz1))
      have hstep : divL [] [] (ls.take (k + 1)) ((cntLt ls n0).take (k + 1)) = stpD (stpD (divL [] [] (ls.take k) ((cntLt ls n0).take k)) (⟨f0, a0, cc⟩, true)) (⟨f0, a0 + cc, m0 - cc⟩, false) := by
        have e1 : ls.take (k + 1) = ls.take k ++ [⟨f0, a0, m0⟩] := take_snoc HLK.out
        have e2 : (cntLt ls n0).take (k + 1) = (cntLt ls n0).take k ++ [cc] := take_snoc HCC.out
        rw [e1, e2, divL_snoc _ _ _ _ _ _ (by rw [List.length_take, List.length_take, HLEN.out])]
        rfl
      have hI4 : PIF w B b4 b5 pL pC bn bl (some ⟨b, off, none⟩) n c ls n0 R (k + 1) W4 := by
        have l2 := HD2.out.lt
        have f3 : ∀ {g t cs}, Blk W2 g t cs → g < B → g ≠ b4 → g ≠ b5 → Blk W4 g t cs := fun {g t cs} hg h1 h2 h3 => hM4.blk (hM3.blk hg (fdold HD2.out hg h1 h2 h3)) (fdold hD3 (hM3.blk hg (fdold HD2.out hg h1 h2 h3)) h1 h2 h3)
        exact ⟨⟨V1'', V2'', by rw [hstep]; exact hD4⟩, f3 HPL2.out (by omega) (by omega) (by omega), f3 HPC2.out (by omega) (by omega) (by omega), ⟨f3 HJ2.out.1 (by omega) (by omega) (by omega), f3 HJ2.out.2 (by omega) (by omega) (by omega)⟩, hR4⟩
      have HI4 := Lib.hid hI4
      clear hstep hI4 hD3 hD4 hM3 hM4 hR3 hR4 hBX3 d0 d1 d2 e0 e1 e2 HBX2 HD2 HPL2 HPC2 HR2 HJ2 hw1 hw2 hp1 hp2 hk
      go_wp2
      go_roundg (n - (k + 1))
      case measure => have := HHK.out; omega
      case rel => exact ⟨k + 1, by have := HHK.out; omega, by go_num, HI4⟩
    · obtain rfl : k = n := by omega
      have HF : Hid ((∃ V1 V2 : Sl, DivB w B (fun b => b = bn) b4 b5 (divL [] [] ls (cntLt ls n0)) V1 V2 wr) ∧ R wr) := Lib.hid (by
        obtain ⟨hD, -, -, -, hr⟩ := HI.out
        rw [List.take_of_length_le (by rw [HL.out.len]; exact Nat.le_refl _), List.take_of_length_le (by rw [HLEN.out, HL.out.len]; exact Nat.le_refl _)] at hD
        exact ⟨hD, hr⟩)
      go_wp2
      go_end0
      exact ⟨⟨_, rfl⟩, HF.out.1, HF.out.2⟩
end Go.Proofs.YtgepbklpobobbaaGreatDoor

/- A range over a function whose iterator keeps a state in memory, and whose round begins with a box of its own. -/
namespace Go.Proofs.YtgepbklpobobbaaGreatDoor
open Go.RowKit Go.Shelf

variable {F : Fence} {n : Nat} {P : Program}

theorem range_state2 {α β : Type} {g : Operand} {ps : Array Tmp} {assign body : Code} {Q : Exit → Act → World → Prop} {a : Act} {w : World}
    (hro : F.round = none) (h1 : 1 ≤ n) {gf : Nat} {lb : Array Value} (hg : a.eval g = .func (.func gf) #[] lb) (hFg : F.fn gf) (eg : ∀ args w, (callFunc gf args).run P w = .ok (.enter gf args) w)
    {encs : α → Array Value} (hps : ∀ x, (encs x).size = ps.size)
    (I : β → World → Prop) (Iy : β → α → World → Prop) (nxt : β → α → β) (Ix : Code → β → World → Prop) (s0 : β) (Fin : β → Prop)
    (hseq : SeqState F (n - 1) P gf lb encs w.heap.size I Iy nxt Ix s0 Fin)
    (hI : OwnFrom w.heap.size I) (hIy : ∀ x, OwnFrom w.heap.size (fun s => Iy s x)) (hIx : ∀ c, OwnFrom w.heap.size (Ix c)) (h0 : I s0 w) (ob : α → Obj) (a₁ : α → Nat → Act)
    (hassign : ∀ (l : Nat) (x : α) (W : World) (K : Act → World → Prop), K (a₁ x W.heap.size) (W.alloc (ob x)) →
      assign.wpIn (F.inRound l) (n - 1 - 1) P (Exit.then K (fun _ _ _ => False)) { tmps := (ps.zip (encs x)).foldl (fun t (p, v) => t.setIfInBounds p v) a.tmps, defers := [] } W)
    (hbody : ∀ (l : Nat) (s : β) (x : α) (W : World) (g : Nat), Iy s x W → W.heap[g]? = some (ob x) → w.heap.size ≤ g → body.wpIn (F.inRound l) (n - 1 - 1) P (statePost w.heap.size (I (nxt s x)) (fun c => Ix c (nxt s x)) W) (a₁ x g) W)
    (hdone : ∀ (D : Nat) (s : β) (W : World), w.heap.size ≤ D → Fin s → I s W → W.heap[D]? = some (.deferred (some [])) → Q .normal { a with defers := { target := .collected D, args := #[] } :: a.defers } W)
    (hstop : ∀ (D : Nat) (c : Code) (s : β) (W : World), w.heap.size ≤ D → Ix c s W → W.heap[D]? = some (.deferred (some [])) → c.wpIn F n P Q { a with defers := { target := .collected D, args := #[] } :: a.defers } W) :
    (Code.rangeFunc g ps assign body).wpIn F n P Q a w := by
  refine wpIn_rangeFunc ?_
  intro fn hfn
  rw [hro]
  obtain ⟨rec, hrec⟩ : ∃ rec : LoopState → Option Code → Loop, rec = fun st pe => { state := st, pending := pe, fn, tmps := a.tmps, params := ps, assign, body, defers := w.heap.size } := ⟨_, rfl⟩
  obtain ⟨W1, hW1⟩ : ∃ W1, (w.alloc (.deferred (some []))).alloc (.loop (rec .ready none)) = W1 := ⟨_, rfl⟩
  have hL1 : W1.heap[w.heap.size + 1]? = some (.loop (rec .ready none)) := by
    rw [← hW1]; have := World.alloc_heap_new (w.alloc (.deferred (some []))) (.loop (rec .ready none)); rwa [World.size_alloc] at this
  have hK1 : W1.heap[w.heap.size]? = some (.deferred (some [])) := by
    rw [← hW1]; exact (Below.heap_alloc _ _ _ (by simp)).trans (World.alloc_heap_new w _)
  have hI1 : I s0 W1 := by rw [← hW1]; exact hI.alloc _ (hI.alloc _ h0)
  refine ⟨w.heap.size + 1, [{ target := .collected w.heap.size, args := #[] }], W1, { target := .fn (.func gf) lb, args := #[.func (.yield (w.heap.size + 1)) #[] #[]] }, W1, gf,
    #[.func (.yield (w.heap.size + 1)) #[] #[]] ++ lb, W1, ?_, ?_, ?_, ?_, fun _ => h1, ?_⟩
  · rw [← hW1, hrec]; exact run_enterLoop_outer _ _ _ _ _
  · simp only [resolve, hg]
    simp [go_sem]
  · intro f' hf'; simp [Target.leads] at hf'; subst hf'; exact hFg
  · simp [invoke, go_sem, eg]
  · -- the record's two blocks are kept by whatever keeps what is no cells
    have hput : ∀ (W : World) (o o' : Obj), W.heap[w.heap.size + 1]? = some o → W.heap[w.heap.size]? = some (.deferred (some [])) →
        (W.putObj (w.heap.size + 1) o').heap[w.heap.size + 1]? = some o' ∧ (W.putObj (w.heap.size + 1) o').heap[w.heap.size]? = some (.deferred (some [])) := fun W o o' hl hk =>
      ⟨World.putObj_heap_same (Array.getElem?_eq_some_iff.1 hl).1, (World.putObj_heap_other (by omega)).trans hk⟩
    refine (hseq (w.heap.size + 1)
      (fun W => W.heap[w.heap.size + 1]? = some (.loop (rec .ready none)) ∧ W.heap[w.heap.size]? = some (.deferred (some [])))
      (fun c W => W.heap[w.heap.size + 1]? = some (.loop (rec .done (some c))) ∧ W.heap[w.heap.size]? = some (.deferred (some [])))
      (fun W W' hR hk => ⟨hk.same _ _ (by omega) hR.1 rfl, hk.same _ _ (Nat.le_refl _) hR.2 rfl⟩) ?_ W1 hI1 ⟨hL1, hK1⟩).mono ?_
    · -- one round
      rintro s x W hi ⟨hl, hk⟩
      have hy := run_yield (P := P) (args := encs x) hl (by rw [hrec]; exact hps x)
      rw [hrec] at hy
      have hlt := (Array.getElem?_eq_some_iff.1 hl).1
      have hg : (W.alloc (ob x)).heap[W.heap.size]? = some (ob x) := World.alloc_heap_new W _
      have hl := (Below.heap_alloc W (ob x) _ hlt).trans hl
      have hk := (Below.heap_alloc W (ob x) _ (Array.getElem?_eq_some_iff.1 hk).1).trans hk
      refine ⟨fn, _, assign, body, hy, roundIn_of_wpIn hfn (hassign _ x W _ ⟨_, run_beginRound hl (by rw [hrec]), ?_⟩)⟩
      obtain ⟨hl2, hk2⟩ := hput (W.alloc (ob x)) _ (.loop { rec .ready none with state := .busy }) hl hk
      refine wpIn_mono (hbody _ s x _ W.heap.size ((hIy x).putObj _ ((hIy x).alloc _ hi) (by omega) hl rfl) ((World.putObj_heap_other (by omega)).trans hg) (by omega)) ?_
      have fin : ∀ (jump : Option Code) (W3 : World), KeepsFrom w.heap.size ((W.alloc (ob x)).putObj (w.heap.size + 1) (.loop { rec .ready none with state := .busy })) W3 →
          (Instr.endRound (w.heap.size + 1) jump).run P W3 = .ok (.bool jump.isNone) (W3.putObj (w.heap.size + 1) (.loop (rec (if jump.isNone then .ready else .done) jump))) ∧
          W3.heap[w.heap.size + 1]? = some (.loop { rec .ready none with state := .busy }) ∧
          (W3.putObj (w.heap.size + 1) (.loop (rec (if jump.isNone then .ready else .done) jump))).heap[w.heap.size + 1]? = some (.loop (rec (if jump.isNone then .ready else .done) jump)) ∧
          (W3.putObj (w.heap.size + 1) (.loop (rec (if jump.isNone then .ready else .done) jump))).heap[w.heap.size]? = some (.deferred (some [])) := fun jump W3 hk3 => by
        have hl3 := hk3.same _ _ (by omega) hl2 rfl
        have hd3 := hk3.same _ _ (Nat.le_refl _) hk2 rfl
        have hrun := run_endRound (P := P) jump hl3
        obtain ⟨h4, h5⟩ := hput W3 _ (.loop (rec (if jump.isNone then .ready else .done) jump)) hl3 hd3
        refine ⟨?_, hl3, h4, h5⟩
        rw [hrun, hrec]
      rintro e a3 W3 hp
      cases e with
      | normal =>
        obtain ⟨hk3, hi3⟩ := hp
        obtain ⟨hr, hl3, hl4, hk4⟩ := fin none W3 hk3
        exact ⟨_, _, hr, .inl ⟨rfl, hI.putObj _ hi3 (by omega) hl3 rfl, hl4, hk4⟩⟩
      | ret =>
        obtain ⟨hk3, hi3⟩ := hp
        obtain ⟨hr, hl3, hl4, hk4⟩ := fin (some .ret) W3 hk3
        exact ⟨_, _, hr, .inr ⟨rfl, .ret, (hIx _).putObj _ hi3 (by omega) hl3 rfl, hl4, hk4⟩⟩
      | exit id =>
        obtain ⟨hk3, hi3⟩ := hp
        obtain ⟨hr, hl3, hl4, hk4⟩ := fin (some (.exit id)) W3 hk3
        exact ⟨_, _, hr, .inr ⟨rfl, .exit id, (hIx _).putObj _ hi3 (by omega) hl3 rfl, hl4, hk4⟩⟩
      | goto t =>
        obtain ⟨hk3, hi3⟩ := hp
        obtain ⟨hr, hl3, hl4, hk4⟩ := fin (some (.goto t)) W3 hk3
        exact ⟨_, _, hr, .inr ⟨rfl, .goto t, (hIx _).putObj _ hi3 (by omega) hl3 rfl, hl4, hk4⟩⟩
      | panic ch => exact hp.elim
      | outgrown => exact hp.elim
    · -- behind the iterator
      rintro e W2 ⟨⟨v, rfl⟩, (⟨s, hS, hi, hl, hk⟩ | ⟨c, s, hi, hl, hk⟩)⟩
      · have hrun := run_endLoop (P := P) hl (by rw [hrec]; simp)
        rw [hrec] at hrun
        exact ⟨none, _, hrun, hdone _ s _ (Nat.le_refl _) hS (hI.putObj _ hi (by omega) hl rfl) ((World.putObj_heap_other (by omega)).trans hk)⟩
      · have hrun := run_endLoop (P := P) hl (by rw [hrec]; simp)
        rw [hrec] at hrun
        exact ⟨some c, _, hrun, hstop _ c s _ (Nat.le_refl _) ((hIx c).putObj _ hi (by omega) hl rfl) ((World.putObj_heap_other (by omega)).trans hk)⟩

end Go.Proofs.YtgepbklpobobbaaGreatDoor
