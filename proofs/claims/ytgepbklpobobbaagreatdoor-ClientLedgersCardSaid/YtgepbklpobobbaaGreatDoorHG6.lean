/- lots.divide: the range over the pieces, at the closure of Take. -/
import Derived.Test.YtgepbklpobobbaaGreatDoorHG5
import Derived.Test.YtgepbklpobobbaaGreatDoorHG2
import Derived.Deep.DeepCutAuto
import Derived.Lib.LazyBuf
import Derived.Shelf.Bits.Mul64

namespace Go.Proofs.YtgepbklpobobbaaGreatDoor
open Go.RowKit Go.Shelf
attribute [local go_sem] Oper.semAt_some

def StDT (w : World) (B b4 b5 pL pC bp : Nat) (A : Option Addr) (n c : Nat) (ls : List Lot) (cs : List Int) (Pv : Sl) (s : StL) (W : World) : Prop :=
  match s.2 with
  | none => s.1 = ([], []) ∧ PIT w B b4 b5 pL pC bp A n c ls cs Pv (fun _ => True) 0 W
  | some none => ∃ V1 V2 : Sl, DivB w B (fun _ => False) b4 b5 s.1 V1 V2 W
  | some (some (V1, V2, U)) => (∃ V1' V2' : Sl, DivB w B (fun _ => False) b4 b5 s.1 V1' V2' W) ∧ Mod (FD b4 b5 B V1 V2 U) U W
def StDYT (w : World) (B b4 b5  : Nat) (s : StL) (x : Lot × Bool) (W : World) : Prop := ∃ (V1 V2 : Sl) (U : World), s.2 = some (some (V1, V2, U)) ∧ DivB w B (fun _ => False) b4 b5 s.1 V1 V2 W ∧ Mod (FD b4 b5 B V1 V2 U) U W ∧ x.1.piece ∧ V1.2.1 ≤ 5000 ∧ V2.2.1 ≤ 5000
theorem StDT.own {w : World} {B b4 b5 pL pC bp : Nat} {A : Option Addr} {n c : Nat} {ls : List Lot} {cs : List Int} {Pv : Sl} : OwnFrom B (StDT w B b4 b5 pL pC bp A n c ls cs Pv) := by
  rintro ⟨st, _ | _ | ⟨V1, V2, U⟩⟩ W W' row hs hg hr
  · obtain ⟨h0, ⟨V1, V2, hD⟩, hpL, hpC, hJ, -⟩ := hs
    have k : Mod (fun b => row = some b) W W' := Mod.of_grown hg (fun g e => .inl e)
    have hn : ∀ {b t cs}, Blk W b t cs → ¬ row = some b := fun {b t cs} hb e => RecL.not_ty (B := B) (hr b e) hb.ty
    exact ⟨h0, ⟨V1, V2, hD.mod k (fun b e => .inr (hr b e))⟩, k.blk hpL (hn hpL), k.blk hpC (hn hpC), ⟨k.blk hJ.1 (hn hJ.1), hJ.2.mod k (fun b e ht => RecL.not_ty (B := B) (hr b e) ht)⟩, trivial⟩
  · obtain ⟨V1, V2, hD⟩ := hs
    exact ⟨V1, V2, hD.mod (Mod.of_grown hg (fun g e => .inl e) : Mod (fun b => row = some b) W W') (fun b e => .inr (hr b e))⟩
  · obtain ⟨⟨V1', V2', hD⟩, hM⟩ := hs
    exact ⟨⟨V1', V2', hD.mod (Mod.of_grown hg (fun g e => .inl e) : Mod (fun b => row = some b) W W') (fun b e => .inr (hr b e))⟩, FD.row hM hg hr⟩
theorem StDYT.own {w : World} {B b4 b5  : Nat} (x : Lot × Bool) : OwnFrom B (fun s => StDYT w B b4 b5  s x) := by
  rintro s W W' row ⟨V1, V2, U, hs, hD, hM, hx⟩ hg hr
  exact ⟨V1, V2, U, hs, hD.mod (Mod.of_grown hg (fun g e => .inl e) : Mod (fun b => row = some b) W W') (fun b e => .inr (hr b e)), FD.row hM hg hr, hx⟩
theorem pcs_stateT (w : World) (B b4 b5 pL pC bp : Nat) (A : Option Addr) (n c : Nat) (ls : List Lot) (cs : List Int) (Pv : Sl)
    (HL : Hid (LotsAt w A n c ls)) (HK : Hid (LotsOk ls)) (HC : Hid (CntOk ls (cs))) (hn : n ≤ 4096) (hbp : bp < w.heap.size) (hpl : w.heap.size ≤ pL ∧ pL < B ∧ w.heap.size ≤ pC ∧ pC < B ∧ pL ≠ b4 ∧ pL ≠ b5 ∧ pC ≠ b4 ∧ pC ≠ b5) :
    SeqState Fence.wide 5 Tryz.prog 256 #[.pointer (some ⟨pL, 0, none⟩), .pointer (some ⟨pC, 0, none⟩)] (fun x : Lot × Bool => #[.agg #[.int .i64 x.1.flow, .int .i64 x.1.at_, .int .i64 x.1.n], .bool x.2]) B
      (StDT w B b4 b5 pL pC bp A n c ls cs Pv) (fun s x => StDYT w B b4 b5  s x) (fun s x => (stpD s.1 x, s.2)) (fun _ _ _ => False) (([], []), none) (fun s => s.1 = divL [] [] ls (cs) ∧ s.2 = some none) := by
  intro l R Rx hR hY W h0 hR0
  obtain ⟨-, h1, h2, h3, h4, -⟩ := h0
  refine callsIn_wide.2 ((pieces1T_any w B b4 b5 pL pC bp A n c ls cs Pv l R (Lib.hid hR) HL HK HC hn hbp hpl (Lib.hid ?_) W (Lib.hid ⟨h1, h2, h3, h4, hR0⟩)).mono ?_)
  · intro st V1 V2 x U hD hRU hx g1 g2
    have h := hY (st, some (some (V1, V2, U))) x U ⟨V1, V2, U, rfl, hD, Mod.refl _ _, hx, g1, g2⟩ hRU
    obtain ⟨fn, tmps, assign, body, hy, hr3⟩ := h
    refine ⟨fn, tmps, assign, body, hy, hr3.mono fun e W' hh => ?_⟩
    rcases hh with ⟨he, ⟨hD', hm'⟩, hr'⟩ | ⟨-, c, hx, -⟩
    · exact ⟨he, hD', hm', hr'⟩
    · exact hx.elim
  · rintro e W' ⟨he, hD', hr⟩
    exact ⟨he, .inl ⟨(divL [] [] ls (cs), some none), ⟨rfl, rfl⟩, hD', hr⟩⟩
/-- What divide leaves. -/
def DivPostT (r : List Lot × List Lot) (w : World) (e : Ending) (w' : World) : Prop :=
  ∃ V1 V2 : Sl, e = .returned (.tuple #[slV V1, slV V2]) ∧ LotsOwn w' w.heap.size V1.1 V1.2.1 V1.2.2 r.1 ∧ LotsOwn w' w.heap.size V2.1 V2.2.1 V2.2.2 r.2 ∧ Mod (fun _ => False) w w'
set_option maxRecDepth 100000 in
set_option maxHeartbeats 8000000 in
theorem divideT_any (bp : Nat) (A : Option Addr) (n c : Nat) (ls : List Lot) (cs : List Int) (Pv : Sl) (w : World)
    (HL : Hid (LotsAt w A n c ls)) (HK : Hid (LotsOk ls)) (HC : Hid (CntOk ls (cs))) (hn : n ≤ 4096) (hbp : bp < w.heap.size) (HJ : Hid (Blk w bp 22 #[slV Pv] ∧ PartsAt w Pv cs)) :
    Calls Tryz.prog 223 #[.slice A n c, .func (.func 222) #[] #[.pointer (some ⟨bp, 0, none⟩)]] w (DivPostT  (divL [] [] ls (cs)) w) := by
  refine (callsIn_wide (n := 6)).1 ?_
  refine callsIn_of_wp_marks Tryz.func223 rfl trivial ?_ rfl
  simp only [Tryz.ntmps223, List.size_toArray, List.length_cons, List.length_nil, Nat.reduceAdd, Nat.reduceSub, Array.replicate_succ, Array.replicate_zero, List.push_toArray, List.append_toArray, List.nil_append, List.cons_append]
  gi_wp2_with (refine ⟨trivial, ?_⟩; gi_at_call 243; refine (pieces_in _ _ _ _ _ _ _ _ rfl).mono ?_; rintro e w' ⟨rfl, rfl⟩)
  obtain ⟨W0, hW0⟩ : ∃ W0, (((w.alloc (.cells #[.slice none 0 0] 61)).alloc (.cells #[.slice none 0 0] 61)).alloc (.cells #[.slice A n c] 61)).alloc (.cells #[.func (.func 222) #[] #[.pointer (some ⟨bp, 0, none⟩)]] 68) = W0 := ⟨_, rfl⟩
  have hsz : W0.heap.size = w.heap.size + 4 := by rw [← hW0]; simp
  have hbw : Below w.heap.size w W0 := by
    rw [← hW0]
    exact ((((Below.refl _ w).alloc (Nat.le_refl _) _).alloc (by simp) _).alloc (by simp; omega) _).alloc (by simp; omega) _
  have hI0 : StDT w W0.heap.size w.heap.size (w.heap.size + 1) (w.heap.size + 2) (w.heap.size + 3) bp A n c ls cs Pv (([], []), none) W0 := by
    refine ⟨rfl, ⟨(none, 0, 0), (none, 0, 0), ?_, ?_, LotsOwn.nil _ _, LotsOwn.nil _ _, fun _ h => absurd h (by simp [divL]), fun _ h => absurd h (by simp [divL]), fun b hb => by simp [slV, Value.ownBlock] at hb, Mod.of_below _ hbw, by omega⟩, ?_, ?_, ⟨Blk.all HJ.out.1 hbw, HJ.out.2.all hbw⟩, trivial⟩
    · rw [← hW0]
      exact Blk.alloc (Blk.alloc (Blk.alloc (Blk.new _ _ _) _) _) _
    · rw [← hW0]
      have := Blk.alloc (Blk.alloc (Blk.new (w.alloc (.cells #[.slice none 0 0] 61)) 61 #[.slice none 0 0]) (.cells #[.slice A n c] 61)) (.cells #[.func (.func 222) #[] #[.pointer (some ⟨bp, 0, none⟩)]] 68)
      rw [World.size_alloc] at this
      exact this
    · rw [← hW0]
      have := Blk.alloc (Blk.new ((w.alloc (.cells #[.slice none 0 0] 61)).alloc (.cells #[.slice none 0 0] 61)) 61 #[.slice A n c]) (.cells #[.func (.func 222) #[] #[.pointer (some ⟨bp, 0, none⟩)]] 68)
      rw [World.size_alloc, World.size_alloc] at this
      exact this
    · rw [← hW0]
      have := Blk.new (((w.alloc (.cells #[.slice none 0 0] 61)).alloc (.cells #[.slice none 0 0] 61)).alloc (.cells #[.slice A n c] 61)) 68 #[.func (.func 222) #[] #[.pointer (some ⟨bp, 0, none⟩)]]
      rw [World.size_alloc, World.size_alloc, World.size_alloc] at this
      exact this
  rw [hW0]
  have HSZ := Lib.hid hsz
  have hpl : w.heap.size ≤ w.heap.size + 2 ∧ w.heap.size + 2 < W0.heap.size ∧ w.heap.size ≤ w.heap.size + 3 ∧ w.heap.size + 3 < W0.heap.size ∧ w.heap.size + 2 ≠ w.heap.size ∧ w.heap.size + 2 ≠ w.heap.size + 1 ∧ w.heap.size + 3 ≠ w.heap.size ∧ w.heap.size + 3 ≠ w.heap.size + 1 := by omega
  clear hsz hW0 hbw HJ
  refine range_state2 (β := StL) (α := Lot × Bool) rfl (by decide) (gf := 256) (lb := #[.pointer (some ⟨w.heap.size + 2, 0, none⟩), .pointer (some ⟨w.heap.size + 3, 0, none⟩)]) rfl trivial (enters_of Tryz.func256 (by kernel_rfl) rfl)
      (encs := fun x : Lot × Bool => #[.agg #[.int .i64 x.1.flow, .int .i64 x.1.at_, .int .i64 x.1.n], .bool x.2]) (fun _ => rfl)
      (StDT w W0.heap.size w.heap.size (w.heap.size + 1) (w.heap.size + 2) (w.heap.size + 3) bp A n c ls cs Pv) (fun s x => StDYT w W0.heap.size w.heap.size (w.heap.size + 1)  s x) (fun s x => (stpD s.1 x, s.2)) (fun _ _ _ => False) (([], []), none) (fun s => s.1 = divL [] [] ls (cs) ∧ s.2 = some none)
      (pcs_stateT w W0.heap.size w.heap.size (w.heap.size + 1) (w.heap.size + 2) (w.heap.size + 3) bp A n c ls cs Pv HL HK HC hn hbp hpl)
      StDT.own (fun x => StDYT.own x) (fun c s W W' row hs hg hr => hs) hI0
      (fun x => .cells #[.int .i64 x.1.flow, .int .i64 x.1.at_, .int .i64 x.1.n] 184)
      (fun x g => { tmps := #[.slice A n c, .func (.func 222) #[] #[.pointer (some ⟨bp, 0, none⟩)], undef, undef, .pointer (some ⟨w.heap.size, 0, none⟩), .pointer (some ⟨w.heap.size + 1, 0, none⟩), .pointer (some ⟨g, 0, none⟩), .bool x.2, .slice A n c, .func (.func 222) #[] #[.pointer (some ⟨bp, 0, none⟩)], .func (.func 256) #[] #[.pointer (some ⟨w.heap.size + 1 + 1, 0, none⟩), .pointer (some ⟨w.heap.size + 1 + 1 + 1, 0, none⟩)], .agg #[.int .i64 x.1.flow, .int .i64 x.1.at_, .int .i64 x.1.n], .bool x.2, undef, undef, undef, undef, undef, undef, undef, undef, undef], defers := [] }) ?assign ?body ?done ?stop
  case assign =>
    intro l x W K hK
    gi_wp2
    exact hK
  case body =>
    rintro l ⟨st, it⟩ ⟨x, first⟩ W g ⟨⟨A1, n1, c1⟩, ⟨A2, n2, c2⟩, U, hs, hD, hM, hp, hl1, hl2⟩ hg hgB
    dsimp only at hs hD hp hl1 hl2 hg
    have HD := Lib.hid hD
    have HM := Lib.hid hM
    have HP := Lib.hid hp
    have hbg : Blk W g 184 #[.int .i64 x.flow, .int .i64 x.at_, .int .i64 x.n] := hg
    have g0 := hbg.cell 0
    have g1 := hbg.cell 1
    have g2 := hbg.cell 2
    have c4 := hD.c4.cell 0
    have c5 := hD.c5.cell 0
    unfold slV at c4 c5
    simp at g0 g1 g2 c4 c5
    have HSS := Lib.hid hs
    clear hs hD hM hp hg hbg
    cases first
    · gi_wp2_with fail
      refine ⟨trivial, ?_⟩
      refine (CallsIn.inRound l (callsIn_wide.2 (put_any W0.heap.size A2 n2 c2 st.2 x W (Lib.hid HD.out.o2) (Lib.hid HD.out.k2) HD.out.lt.2.2.2.2.2 HP.out (by omega)))).mono ?_
      rintro e w1 hPP
      obtain ⟨⟨A3, n3, c3⟩, rfl, hD', hM', hfz, hcc⟩ := HD.out.put2 HP.out hPP
      have HDN := Lib.hid hD'
      have HMN := Lib.hid (HM.out.trans hM' (fun b hb => .inl (hb.elim (fun e => .inr (.inl e)) (fun e => .inr (.inr (.inr (.inl e)))))))
      have HKF := Lib.hid (keepsFrom_mod (B := W0.heap.size) hM' (fun b hb => hb.elim (fun e => ⟨61, by rw [e]; exact HD.out.c5.ty⟩) (fun e => ⟨_, (HD.out.t2 e).1⟩)))
      unfold slV at hcc HDN HMN HKF ⊢
      dsimp only at hcc HDN HMN HKF ⊢
      clear hPP hD' hM' c4 c5 g0 g1 g2
      gi_wp2
      rw [HSS.out]
      exact ⟨HKF.out, ⟨_, _, HDN.out⟩, HMN.out⟩
    · gi_wp2_with fail
      refine ⟨trivial, ?_⟩
      refine (CallsIn.inRound l (callsIn_wide.2 (put_any W0.heap.size A1 n1 c1 st.1 x W (Lib.hid HD.out.o1) (Lib.hid HD.out.k1) HD.out.lt.2.2.2.2.2 HP.out (by omega)))).mono ?_
      rintro e w1 hPP
      obtain ⟨⟨A3, n3, c3⟩, rfl, hD', hM', hfz, hcc⟩ := HD.out.put1 HP.out hPP
      have HDN := Lib.hid hD'
      have HMN := Lib.hid (HM.out.trans hM' (fun b hb => .inl (hb.elim (fun e => .inl e) (fun e => .inr (.inr (.inl e))))))
      have HKF := Lib.hid (keepsFrom_mod (B := W0.heap.size) hM' (fun b hb => hb.elim (fun e => ⟨61, by rw [e]; exact HD.out.c4.ty⟩) (fun e => ⟨_, (HD.out.t1 e).1⟩)))
      unfold slV at hcc HDN HMN HKF ⊢
      dsimp only at hcc HDN HMN HKF ⊢
      clear hPP hD' hM' c4 c5 g0 g1 g2
      gi_wp2
      rw [HSS.out]
      exact ⟨HKF.out, ⟨_, _, HDN.out⟩, HMN.out⟩
  case done =>
    rintro D ⟨st, it⟩ W hD ⟨hf1, hf2⟩ hI hK
    dsimp only at hf1 hf2
    subst hf2 hf1
    obtain ⟨⟨A1, n1, c1⟩, ⟨A2, n2, c2⟩, hDB⟩ := hI
    dsimp only at hDB
    have HDB := Lib.hid hDB
    have c4 := hDB.c4.cell 0
    have c5 := hDB.c5.cell 0
    have f4 := hDB.c4.frozen 0
    have f5 := hDB.c5.frozen 0
    unfold slV at c4 c5
    simp at c4 c5
    obtain ⟨r, hr⟩ : ∃ r, divL [] [] ls (cs) = r := ⟨_, rfl⟩
    rw [hr] at HDB
    have HRR := Lib.hid hr
    clear hDB hr
    gi_wp2
    gi_region
    gi_wp2
    have hD2 : ∀ t, ¬ Ty W D t := by
      rintro t ⟨cs, fr, hh⟩
      rw [hK] at hh
      cases hh
    have hD4 : D ≠ w.heap.size := by have := HSZ.out; omega
    have hD5 : D ≠ w.heap.size + 1 := by have := HSZ.out; omega
    have hK2 : (((W.setCell ⟨w.heap.size, 0, none⟩ (.slice A1 n1 c1)).setCell ⟨w.heap.size + 1, 0, none⟩ (.slice A2 n2 c2)).drew).heap[D]? = some (.deferred (some [])) := by
      show ((W.setCell ⟨w.heap.size, 0, none⟩ (.slice A1 n1 c1)).setCell ⟨w.heap.size + 1, 0, none⟩ (.slice A2 n2 c2)).heap[D]? = _
      rw [Below.heap_setCell _ _ _ _ hD5, Below.heap_setCell _ _ _ _ hD4]
      exact hK
    refine ⟨by simp, .inl ⟨_, _, rfl, run_takeDeferred hK2, ?_⟩⟩
    have hm1 : Mod (fun b => b = w.heap.size ∨ b = w.heap.size + 1) W (((W.setCell ⟨w.heap.size, 0, none⟩ (.slice A1 n1 c1)).setCell ⟨w.heap.size + 1, 0, none⟩ (.slice A2 n2 c2)).drew) := (((Mod.refl (fun b => b = w.heap.size ∨ b = w.heap.size + 1) W).set (p := ⟨w.heap.size, 0, none⟩) (.inl (.inl rfl)) _).set (p := ⟨w.heap.size + 1, 0, none⟩) (.inl (.inr rfl)) _).drew
    have hk4 : Blk (((W.setCell ⟨w.heap.size, 0, none⟩ (.slice A1 n1 c1)).setCell ⟨w.heap.size + 1, 0, none⟩ (.slice A2 n2 c2)).drew) w.heap.size 61 #[.slice A1 n1 c1] := Blk.far (Blk.set_ HDB.out.c4 0 (.slice A1 n1 c1)) (by simp) _
    have hk5 : Blk (((W.setCell ⟨w.heap.size, 0, none⟩ (.slice A1 n1 c1)).setCell ⟨w.heap.size + 1, 0, none⟩ (.slice A2 n2 c2)).drew) (w.heap.size + 1) 61 #[.slice A2 n2 c2] := Blk.set_ (Blk.far (p := ⟨w.heap.size, 0, none⟩) HDB.out.c5 (by simp) _) 0 (.slice A2 n2 c2)
    generalize (((W.setCell ⟨w.heap.size, 0, none⟩ (.slice A1 n1 c1)).setCell ⟨w.heap.size + 1, 0, none⟩ (.slice A2 n2 c2)).drew) = W2 at hm1 hk4 hk5 hK2 ⊢
    have hm2 : Mod (fun b => b = D) W2 (W2.putObj D (.deferred none)) := by
      have := grownBy_putObj' W2 D (.deferred none)
      exact ⟨this.os, this.tape, this.output, this.size, fun k hk hne => this.block k hk (fun e => hne (by injection e))⟩
    have j4 := (hm2.blk hk4 (fun e => hD4 e.symm)).cell 0
    have j5 := (hm2.blk hk5 (fun e => hD5 e.symm)).cell 0
    simp at j4 j5
    have hm' : Mod (fun b => b = w.heap.size ∨ b = w.heap.size + 1 ∨ b = D) W (W2.putObj D (.deferred none)) := (hm1.mono (fun b h => .inl (h.elim .inl (fun h => .inr (.inl h))))).trans hm2 (fun b h => .inl (.inr (.inr h)))
    have hz := HSZ.out
    refine ⟨.tuple #[.slice A1 n1 c1, .slice A2 n2 c2], by simp [results, Tryz.f223, go_sem, j4, j5], (A1, n1, c1), (A2, n2, c2), rfl, ?_, ?_, HDB.out.mo.trans hm' (fun b hb => .inr (by rcases hb with rfl | rfl | rfl <;> omega))⟩
    · rw [HRR.out]
      have := HDB.out.o1.mod hm' (fun b hb hf => by
        have h1 := HDB.out.t1 hb
        rcases hf with rfl | rfl | rfl
        · omega
        · omega
        · exact hD2 _ h1.1)
      exact ⟨this.1, own_lower this.2 (by omega)⟩
    · rw [HRR.out]
      have := HDB.out.o2.mod hm' (fun b hb hf => by
        have h1 := HDB.out.t2 hb
        rcases hf with rfl | rfl | rfl
        · omega
        · omega
        · exact hD2 _ h1.1)
      exact ⟨this.1, own_lower this.2 (by omega)⟩
  case stop =>
    rintro D c pre W _ h _
    exact h.elim
end Go.Proofs.YtgepbklpobobbaaGreatDoor

/- Lots: slices.Clone, Put, firstUnits, Take of an item that is not mixed. -/
namespace Go.Proofs.YtgepbklpobobbaaGreatDoor
open Go.RowKit

theorem LotsAt.news {w : World} {A : Option Addr} {n c : Nat} {ls : List Lot} (h : LotsAt w A n c ls) : ∀ ad, A = some ad → ∀ j u, (ls.flatMap lotV)[j]? = some u → w.cell? (ad.add j) = some u := by
  intro ad e j u hu
  have hj : j < (ls.flatMap lotV).length := (List.getElem?_eq_some_iff.1 hu).1
  obtain ⟨b, off, e2, -, -, hc⟩ := h.2.2.2.cells (by omega)
  rw [e] at e2
  injection e2 with e2
  subst e2
  have e3 : (⟨b, off, none⟩ : Addr).add j = ⟨b, off + j, none⟩ := by simp [Addr.add]
  rw [e3, hc j hj, hu]
theorem LotsAt.nil0 {w : World} {n c : Nat} {ls : List Lot} (h : LotsAt w none n c ls) : n = 0 ∧ ls = [] := by
  have hl := h.1
  rcases ls with _ | ⟨x, ls⟩
  · exact ⟨hl.symm, rfl⟩
  · obtain ⟨b, off, e, -⟩ := h.2.2.2.cells (by simp [lotV])
    cases e
theorem lots_one (ls : List Lot) : ∀ u ∈ ls.flatMap lotV, u.oneCell' = true := by
  intro u hu
  rw [List.mem_flatMap] at hu
  obtain ⟨l, -, hu⟩ := hu
  simp only [lotV, List.mem_cons, List.not_mem_nil, or_false] at hu
  rcases hu with rfl | rfl | rfl <;> rfl
set_option maxRecDepth 100000 in
theorem cloneL_any (A : Option Addr) (n c : Nat) (ls : List Lot) (w : World) (HL : Hid (LotsAt w A n c ls)) (hn : n ≤ 1000000) :
    Calls Tryz.prog 196 #[.slice A n c] w fun e w' => ∃ A' c', e = .returned (.slice A' n c') ∧ LotsOwn w' w.heap.size A' n c' ls ∧ Below w.heap.size w w' := by
  rcases A with _ | ad
  · obtain ⟨rfl, rfl⟩ := HL.out.nil0
    have hq := Lib.run_eql_slice_nil (P := Tryz.prog) w 61 184 none 0 c 0 0 Tryz.underlying61
    go_enter Tryz.func196, Tryz.ntmps196
    go_wp2
    go_ret
    exact ⟨none, 0, rfl, LotsOwn.nil _ _, Below.refl _ _⟩
  · have hB := (Below.refl w.heap.size w).alloc (Nat.le_refl _) (.cells #[] 184)
    obtain ⟨A', c', w', hap, hown, hb⟩ := app_cells (w := w.alloc (.cells #[] 184)) (base := w.heap.size) (ty := 61) slT_lots (World.ownsRow_made w #[] 0 (Nat.le_refl _) (by decide) rfl) (some ad) n c (ls.flatMap lotV) (by rw [flatT_length lotV 3 lotV_len, HL.out.1]) (by intro h; cases h) (HL.out.all hB).news (lots_one ls) (by omega) (by decide) (by simp)
    simp only [Nat.zero_add, List.nil_append] at hap hown
    have HA := Lib.hid hap
    have HO := Lib.hid hown
    have HB : Hid (Below w.heap.size w w') := Lib.hid (hB.trans hb)
    clear hap hown hb hB
    have hq := Lib.run_eql_slice_nil (P := Tryz.prog) w 61 184 (some ad) n c 0 0 Tryz.underlying61
    go_enter Tryz.func196, Tryz.ntmps196
    go_wp2_with (at_builtin; refine wpList_append_run HA.out rfl rfl rfl rfl ?_)
    go_ret
    exact ⟨A', c', rfl, ⟨HL.out.1, HO.out⟩, HB.out⟩
theorem put_keep {w w' wz : World} {A : Option Addr} {n c gx : Nat} {ls : List Lot} {f a m : Value} (hm : Mod (fun b => (Value.slice A n c).ownBlock = some b) w w') (ho : LotsOwn w wz.heap.size A n c ls) (hg : gx < wz.heap.size) (hw : gx < w.heap.size) (hk : w.cell? ⟨gx, 0, none⟩ = some f ∧ w.cell? ⟨gx, 1, none⟩ = some a ∧ w.cell? ⟨gx, 2, none⟩ = some m) :
    w'.cell? ⟨gx, 0, none⟩ = some f ∧ w'.cell? ⟨gx, 1, none⟩ = some a ∧ w'.cell? ⟨gx, 2, none⟩ = some m := by
  have hb := hm.block gx hw (fun e => by have := (ho.2.lt gx e).1; omega)
  obtain ⟨h0, h1, h2⟩ := hk
  exact ⟨(World.cell?_of_block (w := w) hb).trans h0, (World.cell?_of_block (w := w) hb).trans h1, (World.cell?_of_block (w := w) hb).trans h2⟩
/-- What Put leaves. -/
def PutAll (ls' : List Lot) (w : World) (e : Ending) (w' : World) : Prop := ∃ A' n' c', e = .returned (.slice A' n' c') ∧ LotsOwn w' w.heap.size A' n' c' ls' ∧ Below w.heap.size w w'
set_option maxRecDepth 100000 in
set_option maxHeartbeats 4000000 in
theorem putAll_any (A : Option Addr) (n c : Nat) (ls : List Lot) (x : Lot) (w : World) (HL : Hid (LotsAt w A n c ls)) (HK : Hid (LotsOk ls)) (HX1 : Hid x.ok) (hn : n ≤ 4096) :
    Calls Tryz.prog 171 #[.slice A n c, .agg #[.int .i64 x.flow, .int .i64 x.at_, .int .i64 x.n]] w (PutAll (putL ls x) w) := by
  obtain ⟨f, a, m⟩ := x
  have HX : Hid ((⟨f, a, m⟩ : Lot).piece) := Lib.hid (by have := HX1.out; unfold Lot.ok at this; unfold Lot.piece; omega)
  obtain ⟨gx, hgx⟩ : ∃ gx, w.heap.size = gx := ⟨_, rfl⟩
  have hba := (Below.refl w.heap.size w).alloc (Nat.le_refl _) (.cells #[.int .i64 f, .int .i64 a, .int .i64 m] 184)
  have hbx := Blk.new w 184 #[.int .i64 f, .int .i64 a, .int .i64 m]
  rw [hgx] at hbx
  have HBA := Lib.hid hba
  have HBX := Lib.hid hbx
  have HL1 := Lib.hid (HL.out.all hba)
  have HGW := Lib.hid hgx
  go_enter Tryz.func171, Tryz.ntmps171
  clear hba hbx
  go_upto_region 1 with (fail)
  obtain ⟨w1, hw1⟩ : ∃ w1, w1 = w.alloc (.cells #[.int .i64 f, .int .i64 a, .int .i64 m] 184) := ⟨_, rfl⟩
  rw [← hw1] at HBA HBX HL1 ⊢
  clear hw1 hgx
  go_wp2_with fail
  refine (valid_any A n c ls w1 HL1 HK hn).mono ?_
  rintro e w2 ⟨rfl, hb2⟩
  have HB2 := Lib.hid (bt HBA.out hb2)
  have HBX2 := Lib.hid (HBX.out.all hb2)
  have HL2 := Lib.hid (HL1.out.all hb2)
  have k0 := HBX2.out.cell 0
  have k1 := HBX2.out.cell 1
  have k2 := HBX2.out.cell 2
  simp at k0 k1 k2
  clear hb2 HBX HL1
  go_wp2_with fail
  refine (poss_any ⟨f, a, m⟩ w2 HX1.out).mono ?_
  rintro e wz ⟨rfl, hbz⟩
  have HBz := Lib.hid (bt HB2.out hbz)
  have HBXz := HBX2.out.all hbz
  have HLz := Lib.hid (HL2.out.all hbz)
  have HGX := Lib.hid (Blk.lt HBXz)
  clear k0 k1 k2
  have k0 := HBXz.cell 0
  have k1 := HBXz.cell 1
  have k2 := HBXz.cell 2
  simp at k0 k1 k2
  clear HBXz hbz
  go_upto_region 3 with (fail)
  refine wp_region_held_drew (S := (fun y => y.cell? ⟨gx, 0, none⟩ = some (.int .i64 f) ∧ y.cell? ⟨gx, 1, none⟩ = some (.int .i64 a) ∧ y.cell? ⟨gx, 2, none⟩ = some (.int .i64 m))) (by kernel_rfl) ⟨k0, k1, k2⟩ (fun hHeld => ?_)
  refine takeI 0 (some 13) (v := ?_) ?_ ?_
  rotate_left
  · (intro o ho w hSw; obtain ⟨z0, z1, z2⟩ := hSw; cases ho; go_simp; try with_reducible rfl)
  try simp only [Act.put, pB, pC, pD]
  refine takeI 2 (some 15) (v := ?_) ?_ ?_
  rotate_left
  · (intro o ho w hSw; obtain ⟨z0, z1, z2⟩ := hSw; cases ho; go_simp; try with_reducible rfl)
  try simp only [Act.put, pB, pC, pD]
  refine wpAnyH_ready (rs := [1]) (by kernel_rfl) (by simp) ?_
  refine AllReadyH.cons rfl (fun K hK => ?_) AllReadyH.nil
  go_simp
  go_at_call 196
  (refine (cloneL_any A n c ls _ (Lib.hid (HLz.out.all (Below.refl _ wz).drew)) (by omega)).mono ?_)
  rintro e w3 ⟨A3, c3, rfl, ho3, hb3⟩
  have HO3 := Lib.hid ho3
  have HB3 := Lib.hid hb3
  have HZ3 := Lib.hid (show gx < w3.heap.size by have := HB3.out.size; have := HGX.out; have h2 : wz.drew.heap.size = wz.heap.size := rfl; omega)
  have k3 : w3.cell? ⟨gx, 0, none⟩ = some (.int .i64 f) ∧ w3.cell? ⟨gx, 1, none⟩ = some (.int .i64 a) ∧ w3.cell? ⟨gx, 2, none⟩ = some (.int .i64 m) := ⟨(HB3.out.cell (p := ⟨gx, 0, none⟩) HGX.out).trans k0, (HB3.out.cell (p := ⟨gx, 1, none⟩) HGX.out).trans k1, (HB3.out.cell (p := ⟨gx, 2, none⟩) HGX.out).trans k2⟩
  clear ho3 hb3
  go_wp2
  refine hK.out _ _ ?_ (fun hH => ?_)
  · exact k3
  clear hK K
  try simp only [Act.put, pB, pC, pD]
  refine wpAnyH_ready (rs := [3]) (by kernel_rfl) (by simp) ?_
  refine AllReadyH.cons rfl (fun K hK => ?_) AllReadyH.nil
  go_simp
  go_at_call 201
  (refine (put_any wz.heap.size A3 n c3 ls ⟨f, a, m⟩ w3 HO3 HK (by have := HB3.out.size; have h2 : wz.drew.heap.size = wz.heap.size := rfl; omega) HX.out (by omega)).mono ?_)
  rintro e w4 ⟨A4, n4, c4, rfl, ho4, hm4, hn4⟩
  have HO4 := Lib.hid ho4
  have HB4 := Lib.hid (Mod.below (B := wz.heap.size) (bt (Below.refl wz.heap.size wz).drew HB3.out) hm4 (by have := HB3.out.size; have h2 : wz.drew.heap.size = wz.heap.size := rfl; omega) (fun b hb => (HO3.out.2.lt b hb).1))
  have k4 := put_keep hm4 HO3.out HGX.out HZ3.out k3
  clear ho4 hm4 hn4
  go_wp2
  refine hK.out _ _ ?_ (fun hH => ?_)
  · exact k4
  clear hK K
  try simp only [Act.put, pB, pC, pD]
  refine takeI 4 (some 4) (v := ?_) ?_ ?_
  rotate_left
  · (intro o ho w hSw; obtain ⟨z0, z1, z2⟩ := hSw; cases ho; go_simp; try with_reducible rfl)
  try simp only [Act.put, pB, pC, pD]
  refine wpAnyH_done (by kernel_rfl) ?_ _
  have HF : Hid (PutAll (putL ls ⟨f, a, m⟩) w (.returned (.slice A4 n4 c4)) w4) := Lib.hid ⟨A4, n4, c4, rfl, ⟨HO4.out.1, own_lower HO4.out.2 (HBz.out.size)⟩, bt HBz.out HB4.out⟩
  clear k0 k1 k2 k3 k4
  go_wp2
  go_ret
  exact HF.out
end Go.Proofs.YtgepbklpobobbaaGreatDoor

/- lots.firstUnits; lots.Take of an item that is not mixed. -/
namespace Go.Proofs.YtgepbklpobobbaaGreatDoor
open Go.RowKit

set_option maxRecDepth 100000 in
theorem firstU_any (A : Option Addr) (n c : Nat) (m : Int) (w : World) :
    Calls Tryz.prog 220 #[.slice A n c, .int .i64 m] w fun e w' => e = .returned (.func (.func 237) #[] #[.pointer (some ⟨w.heap.size + 1, 0, none⟩), .pointer (some ⟨w.heap.size, 0, none⟩)]) ∧ w' = (w.alloc (.cells #[.slice A n c] 61)).alloc (.cells #[.int .i64 m] 3) := by
  go_enter Tryz.func220, Tryz.ntmps220
  go_wp2
  go_ret
  exact ⟨rfl, rfl⟩
/-- What Take leaves. -/
def TakePost (ls : List Lot) (m : Int) (cs : List Int) (w : World) (e : Ending) (w' : World) : Prop :=
  (totL ls < m ∧ e = .returned (.tuple #[.slice none 0 0, .slice none 0 0, .int .i64 10]) ∧ Below w.heap.size w w') ∨
  (m ≤ totL ls ∧ ∃ V1 V2 : Sl, e = .returned (.tuple #[slV V1, slV V2, .int .i64 0]) ∧ LotsOwn w' w.heap.size V1.1 V1.2.1 V1.2.2 (divL [] [] ls cs).1 ∧ LotsOwn w' w.heap.size V2.1 V2.2.1 V2.2.2 (divL [] [] ls cs).2 ∧ Below w.heap.size w w')
set_option maxRecDepth 100000 in
set_option maxHeartbeats 4000000 in
theorem takeF_any (A : Option Addr) (n c : Nat) (ls : List Lot) (m : Int) (w : World) (HL : Hid (LotsAt w A n c ls)) (HK : Hid (LotsOk ls)) (hn : n ≤ 4096) (hm1 : 1 ≤ m) (hm2 : m ≤ 1099511627776) :
    Calls Tryz.prog 209 #[.slice A n c, .int .i64 m, .bool false] w (TakePost ls m (cntLt ls m) w) := by
  have h1 : ¬ m < 0 := by omega
  have h2 : ¬ 1099511627776 < m := by omega
  go_enter Tryz.func209, Tryz.ntmps209
  go_wp2_with fail
  refine (valid_any A n c ls w HL HK hn).mono ?_
  rintro e w1 ⟨rfl, hb1⟩
  have HB1 := Lib.hid hb1
  have HL1 := Lib.hid (HL.out.all hb1)
  clear hb1
  go_wp2_with fail
  refine (ltotal_any A n c ls w1 HL1 HK hn).mono ?_
  rintro e w2 ⟨rfl, hb2⟩
  have HB2 := Lib.hid (bt HB1.out hb2)
  have HL2 := Lib.hid (HL1.out.all hb2)
  clear hb2
  rcases Int.lt_or_le (totL ls) m with hlt | hge
  · have HP : Hid (TakePost ls m (cntLt ls m) w (.returned (.tuple #[.slice none 0 0, .slice none 0 0, .int .i64 10])) w2) := Lib.hid (.inl ⟨hlt, rfl, HB2.out⟩)
    go_wp2
    go_ret3
    exact HP.out
  · have hnl : ¬ totL ls < m := by omega
    obtain ⟨hc1, hc2⟩ := cntL_ok ls m HK.out (by omega) hge
    have HC := Lib.hid hc1
    have HS := Lib.hid hc2
    have HGE := Lib.hid hge
    clear hc1 hc2
    obtain ⟨T, hT⟩ : ∃ T, totL ls = T := ⟨_, rfl⟩
    rw [hT] at hge hnl ⊢
    clear hT
    go_wp2_with fail
    refine (firstU_any A n c m w2).mono ?_
    rintro e w3 ⟨rfl, hw3⟩
    have hba := ((Below.refl w2.heap.size w2).alloc (Nat.le_refl _) (.cells #[.slice A n c] 61)).alloc (by simp) (.cells #[.int .i64 m] 3)
    have hk1 := Blk.alloc (Blk.new w2 61 #[.slice A n c]) (.cells #[.int .i64 m] 3)
    have hk2 := Blk.new (w2.alloc (.cells #[.slice A n c] 61)) 3 #[.int .i64 m]
    rw [World.size_alloc] at hk2
    rw [← hw3] at hba hk1 hk2
    have hz3 : w3.heap.size = w2.heap.size + 2 := by rw [hw3]; simp
    have HB3 := Lib.hid (bt HB2.out hba)
    have HL3 := Lib.hid (HL2.out.all hba)
    have HJ := Lib.hid (And.intro hk2 hk1)
    have HTN := Lib.hid (Blk.ty hk2)
    have hbn : w2.heap.size + 1 < w3.heap.size ∧ w2.heap.size < w3.heap.size ∧ w2.heap.size + 1 ≠ w2.heap.size := by omega
    have HGE2 := Lib.hid (show w.heap.size ≤ w2.heap.size from HB2.out.size)
    clear hw3 hba hk1 hk2 hz3
    go_wp2_with fail
    refine (divideF_any (w2.heap.size + 1) w2.heap.size A n c ls m w3 HL3 HK HC hn ⟨by omega, hm2⟩ hbn HTN HS HJ).mono ?_
    rintro e w4 ⟨⟨A5, n5, c5⟩, ⟨A6, n6, c6⟩, rfl, ho1, ho2, hm4⟩
    have HF : Hid (TakePost ls m (cntLt ls m) w (.returned (.tuple #[.slice A5 n5 c5, .slice A6 n6 c6, .int .i64 0])) w4) := Lib.hid (.inr ⟨HGE.out, (A5, n5, c5), (A6, n6, c6), rfl, ⟨ho1.1, own_lower ho1.2 HB3.out.size⟩, ⟨ho2.1, own_lower ho2.2 HB3.out.size⟩, Mod.below HB3.out hm4 HB3.out.size (fun b hb => by have := HGE2.out; omega)⟩)
    unfold slV
    dsimp only
    clear ho1 ho2 hm4
    go_wp2
    go_ret3
    exact HF.out
end Go.Proofs.YtgepbklpobobbaaGreatDoor

/- share: isAmount, isLarge, bits.Mul64, bits.Div64 (small products), divide. -/
namespace Go.Proofs
open Go.Shelf
def Tryz.mul64_ren : Go.Shelf.Ren := ⟨fun | 264 => 252 | n => n, fun | 46 => 157 | 53 => 40 | n => n, fun n => n⟩
theorem Tryz.mul64L : Lays.n264 Tryz.prog Tryz.mul64_ren := {
  mixed := by kernel_rfl
  f264 := Tryz.func252.trans (congrArg some (by kernel_rfl))
  t46 := Tryz.underlying157
  a46 := Tryz.isAgg157
  z46 := Tryz.sizeOf157
  v46 := Tryz.zeroValue157
  t53 := Tryz.underlying40
  a53 := Tryz.isAgg40
  z53 := Tryz.sizeOf40
  v53 := Tryz.zeroValue40 }
end Go.Proofs
namespace Go.Proofs.YtgepbklpobobbaaGreatDoor
open Go.RowKit

theorem isAmount_any (x : Int) (w : World) (h : 0 ≤ x ∧ x ≤ 1099511627776) : Calls Tryz.prog 238 #[.int .i64 x] w fun e w' => e = .returned (.bool true) ∧ w' = w := by
  obtain ⟨h0, h1⟩ := h
  go_enter Tryz.func238, Tryz.ntmps238
  go_wp2
  all_goals (go_ret; simp_all)
theorem isLarge_any (x : Int) (w : World) (h : 0 ≤ x ∧ x ≤ 1152921504606846976) : Calls Tryz.prog 251 #[.int .i64 x] w fun e w' => e = .returned (.bool true) ∧ w' = w := by
  obtain ⟨h0, h1⟩ := h
  go_enter Tryz.func251, Tryz.ntmps251
  go_wp2
  all_goals (go_ret; simp_all)
theorem mul64_any (x y : Int) (hx : 0 ≤ x) (hx1 : x < 18446744073709551616) (hy : 0 ≤ y) (hy1 : y < 18446744073709551616) (h : x * y < 18446744073709551616) (w : World) :
    Calls Tryz.prog 252 #[.int .u64 x, .int .u64 y] w fun e w' => e = .returned (.tuple #[.int .u64 0, .int .u64 (x * y)]) ∧ w' = w := by
  obtain ⟨a, rfl⟩ := Int.eq_ofNat_of_zero_le hx
  obtain ⟨b, rfl⟩ := Int.eq_ofNat_of_zero_le hy
  have h2 : a * b < 18446744073709551616 := by rw [← Int.natCast_mul] at h; omega
  have := Any.bits_Mul64 Tryz.mul64L a b (by omega) (by omega) w
  rw [Nat.div_eq_of_lt h2, Nat.mod_eq_of_lt h2] at this
  exact this
set_option maxRecDepth 100000 in
theorem div64_any (x y : Int) (hx : 0 ≤ x) (hx1 : x < 18446744073709551616) (hy : 0 < y) (w : World) :
    Calls Tryz.prog 253 #[.int .u64 0, .int .u64 x, .int .u64 y] w fun e w' => e = .returned (.tuple #[.int .u64 (x / y), .int .u64 (x % y)]) ∧ ∃ q, w' = w.drewN q := by
  have h1 : ¬ y = 0 := by omega
  have h2 : ¬ y ≤ 0 := by omega
  have e1 : x.tdiv y = x / y := Int.tdiv_eq_ediv_of_nonneg hx
  have e2 : x.tmod y = x % y := Int.tmod_eq_emod_of_nonneg hx
  have e3 : IntKind.u64.wrap (x / y) = x / y := by
    have h3 := Int.ediv_le_self y hx
    have h4 := Int.ediv_nonneg hx (by omega : 0 ≤ y)
    rw [IntKind.wrap_u64]
    exact Int.emod_eq_of_lt h4 (by omega)
  go_enter Tryz.func253, Tryz.ntmps253
  go_wp2
  go_quiet (fail)
  go_wp2
  go_ret2
  exact ⟨rfl, _, rfl⟩
/-- share.divide, where the product is small: what it returns, in the world's own terms. -/
def Drew (w w' : World) : Prop := ∃ q, w' = w.drewN q
set_option maxRecDepth 100000 in
set_option maxHeartbeats 2000000 in
theorem divide_small (t n d : Int) (w : World) (ht : 0 ≤ t ∧ t ≤ 1099511627776) (hn : 0 ≤ n ∧ n ≤ d) (hd : 0 < d ∧ d ≤ 1152921504606846976) (hp : t * n < 18446744073709551616) (hp0 : 0 ≤ t * n) (hq : t * n / d ≤ 1099511627776) :
    Calls Tryz.prog 239 #[.int .i64 t, .int .i64 n, .int .i64 d] w fun e w' => e = .returned (.tuple #[.int .u64 (t * n / d), .int .u64 (t * n % d), .int .i64 0]) ∧ ∃ q, w' = w.drewN q := by
  obtain ⟨ht0, ht1⟩ := ht
  obtain ⟨hn0, hn1⟩ := hn
  obtain ⟨hd0, hd1⟩ := hd
  have w1 : IntKind.u64.wrap t = t := by rw [IntKind.wrap_u64]; omega
  have w2 : IntKind.u64.wrap n = n := by rw [IntKind.wrap_u64]; omega
  have w3 : IntKind.u64.wrap d = d := by rw [IntKind.wrap_u64]; omega
  have c1 := isAmount_any t w ⟨ht0, ht1⟩
  have c2 := isLarge_any n w ⟨hn0, by omega⟩
  have c3 := isLarge_any d w ⟨by omega, hd1⟩
  have c4 := fun W => mul64_any t n (by omega) (by omega) (by omega) (by omega) hp W
  have c5 := fun W => div64_any (t * n) d hp0 hp hd0 W
  have h1 : ¬ d = 0 := by omega
  have h2 : ¬ d ≤ 0 := by omega
  obtain ⟨p, hpe⟩ : ∃ p, t * n = p := ⟨_, rfl⟩
  rw [hpe] at hq hp hp0 ⊢
  simp only [hpe] at c4 c5
  clear hpe
  have h3 : ¬ 1099511627776 < p / d := by omega
  go_enter Tryz.func239, Tryz.ntmps239
  go_wp2_with (first | (go_at_call 238; refine c1.mono ?_; rintro e w' ⟨rfl, rfl⟩) | (go_at_call 251; first | (refine c2.mono ?_; rintro e w' ⟨rfl, rfl⟩) | (refine c3.mono ?_; rintro e w' ⟨rfl, rfl⟩)) | (go_at_call 252; refine (c4 _).mono ?_; rintro e w' ⟨rfl, rfl⟩) | (go_at_call 253; refine (c5 _).mono ?_; rintro e w' ⟨rfl, q, rfl⟩))
  go_ret3
  exact ⟨rfl, _, rfl⟩
end Go.Proofs.YtgepbklpobobbaaGreatDoor
