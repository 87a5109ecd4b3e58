/- A range over a function whose iterator keeps a state in memory, and whose round begins with a box of its own. -/
import Derived.Test.YtgjbbobphfejoaaGreatDoorHG4

namespace Go.Proofs.YtgjbbobphfejoaaGreatDoor
open Go.RowKit Go.Shelf

variable {F : Fence} {n : Nat} {P : Program}

theorem range_state2 {α β : Type} {g : Operand} {ps : Array Tmp} {assign body : Code} {Q : Exit → Act → World → Prop} {a : Act} {w : World}
    (hro : F.round = none) (h1 : 1 ≤ n) {gf : Nat} {lb : Array Value} (hg : a.eval g = .func (.func gf) #[] lb) (hFg : F.fn gf) (eg : ∀ args w, (callFunc gf args).run P w = .ok (.enter gf args) w)
    {encs : α → Array Value} (hps : ∀ x, (encs x).size = ps.size)
    (I : β → World → Prop) (Iy : β → α → World → Prop) (nxt : β → α → β) (Ix : Code → β → World → Prop) (s0 : β) (Fin : β → Prop)
    (hseq : SeqState F (n - 1) P gf lb encs w.heap.size I Iy nxt Ix s0 Fin)
    (hI : OwnFrom w.heap.size I) (hIy : ∀ x, OwnFrom w.heap.size (fun s => Iy s x)) (hIx : ∀ c, OwnFrom w.heap.size (Ix c)) (h0 : I s0 w) (ob : α → Obj) (a₁ : α → Nat → Act)
    (hassign : ∀ (l : Nat) (x : α) (W : World) (K : Act → World → Prop), K (a₁ x W.heap.size) (W.alloc (ob x)) →
      assign.wpIn (F.inRound l) (n - 1 - 1) P (Exit.then K (fun _ _ _ => False)) { tmps := (ps.zip (encs x)).foldl (fun t (p, v) => t.setIfInBounds p v) a.tmps, defers := [] } W)
    (hbody : ∀ (l : Nat) (s : β) (x : α) (W : World) (g : Nat), Iy s x W → W.heap[g]? = some (ob x) → w.heap.size ≤ g → body.wpIn (F.inRound l) (n - 1 - 1) P (statePost w.heap.size (I (nxt s x)) (fun c => Ix c (nxt s x)) W) (a₁ x g) W)
    (hdone : ∀ (D : Nat) (s : β) (W : World), w.heap.size ≤ D → Fin s → I s W → W.heap[D]? = some (.deferred (some [])) → Q .normal { a with defers := { target := .collected D, args := #[] } :: a.defers } W)
    (hstop : ∀ (D : Nat) (c : Code) (s : β) (W : World), w.heap.size ≤ D → Ix c s W → W.heap[D]? = some (.deferred (some [])) → c.wpIn F n P Q { a with defers := { target := .collected D, args := #[] } :: a.defers } W) :
    (Code.rangeFunc g ps assign body).wpIn F n P Q a w := by
  refine wpIn_rangeFunc ?_
  intro fn hfn
  rw [hro]
  obtain ⟨rec, hrec⟩ : ∃ rec : LoopState → Option Code → Loop, rec = fun st pe => { state := st, pending := pe, fn, tmps := a.tmps, params := ps, assign, body, defers := w.heap.size } := ⟨_, rfl⟩
  obtain ⟨W1, hW1⟩ : ∃ W1, (w.alloc (.deferred (some []))).alloc (.loop (rec .ready none)) = W1 := ⟨_, rfl⟩
  have hL1 : W1.heap[w.heap.size + 1]? = some (.loop (rec .ready none)) := by
    rw [← hW1]; have := World.alloc_heap_new (w.alloc (.deferred (some []))) (.loop (rec .ready none)); rwa [World.size_alloc] at this
  have hK1 : W1.heap[w.heap.size]? = some (.deferred (some [])) := by
    rw [← hW1]; exact (Below.heap_alloc _ _ _ (by simp)).trans (World.alloc_heap_new w _)
  have hI1 : I s0 W1 := by rw [← hW1]; exact hI.alloc _ (hI.alloc _ h0)
  refine ⟨w.heap.size + 1, [{ target := .collected w.heap.size, args := #[] }], W1, { target := .fn (.func gf) lb, args := #[.func (.yield (w.heap.size + 1)) #[] #[]] }, W1, gf,
    #[.func (.yield (w.heap.size + 1)) #[] #[]] ++ lb, W1, ?_, ?_, ?_, ?_, fun _ => h1, ?_⟩
  · rw [← hW1, hrec]; exact run_enterLoop_outer _ _ _ _ _
  · simp only [resolve, hg]
    simp [go_sem]
  · intro f' hf'; simp [Target.leads] at hf'; subst hf'; exact hFg
  · simp [invoke, go_sem, eg]
  · -- the record's two blocks are kept by whatever keeps what is no cells
    have hput : ∀ (W : World) (o o' : Obj), W.heap[w.heap.size + 1]? = some o → W.heap[w.heap.size]? = some (.deferred (some [])) →
        (W.putObj (w.heap.size + 1) o').heap[w.heap.size + 1]? = some o' ∧ (W.putObj (w.heap.size + 1) o').heap[w.heap.size]? = some (.deferred (some [])) := fun W o o' hl hk =>
      ⟨World.putObj_heap_same (Array.getElem?_eq_some_iff.1 hl).1, (World.putObj_heap_other (by omega)).trans hk⟩
    refine (hseq (w.heap.size + 1)
      (fun W => W.heap[w.heap.size + 1]? = some (.loop (rec .ready none)) ∧ W.heap[w.heap.size]? = some (.deferred (some [])))
      (fun c W => W.heap[w.heap.size + 1]? = some (.loop (rec .done (some c))) ∧ W.heap[w.heap.size]? = some (.deferred (some [])))
      (fun W W' hR hk => ⟨hk.same _ _ (by omega) hR.1 rfl, hk.same _ _ (Nat.le_refl _) hR.2 rfl⟩) ?_ W1 hI1 ⟨hL1, hK1⟩).mono ?_
    · -- one round
      rintro s x W hi ⟨hl, hk⟩
      have hy := run_yield (P := P) (args := encs x) hl (by rw [hrec]; exact hps x)
      rw [hrec] at hy
      have hlt := (Array.getElem?_eq_some_iff.1 hl).1
      have hg : (W.alloc (ob x)).heap[W.heap.size]? = some (ob x) := World.alloc_heap_new W _
      have hl := (Below.heap_alloc W (ob x) _ hlt).trans hl
      have hk := (Below.heap_alloc W (ob x) _ (Array.getElem?_eq_some_iff.1 hk).1).trans hk
      refine ⟨fn, _, assign, body, hy, roundIn_of_wpIn hfn (hassign _ x W _ ⟨_, run_beginRound hl (by rw [hrec]), ?_⟩)⟩
      obtain ⟨hl2, hk2⟩ := hput (W.alloc (ob x)) _ (.loop { rec .ready none with state := .busy }) hl hk
      refine wpIn_mono (hbody _ s x _ W.heap.size ((hIy x).putObj _ ((hIy x).alloc _ hi) (by omega) hl rfl) ((World.putObj_heap_other (by omega)).trans hg) (by omega)) ?_
      have fin : ∀ (jump : Option Code) (W3 : World), KeepsFrom w.heap.size ((W.alloc (ob x)).putObj (w.heap.size + 1) (.loop { rec .ready none with state := .busy })) W3 →
          (Instr.endRound (w.heap.size + 1) jump).run P W3 = .ok (.bool jump.isNone) (W3.putObj (w.heap.size + 1) (.loop (rec (if jump.isNone then .ready else .done) jump))) ∧
          W3.heap[w.heap.size + 1]? = some (.loop { rec .ready none with state := .busy }) ∧
          (W3.putObj (w.heap.size + 1) (.loop (rec (if jump.isNone then .ready else .done) jump))).heap[w.heap.size + 1]? = some (.loop (rec (if jump.isNone then .ready else .done) jump)) ∧
          (W3.putObj (w.heap.size + 1) (.loop (rec (if jump.isNone then .ready else .done) jump))).heap[w.heap.size]? = some (.deferred (some [])) := fun jump W3 hk3 => by
        have hl3 := hk3.same _ _ (by omega) hl2 rfl
        have hd3 := hk3.same _ _ (Nat.le_refl _) hk2 rfl
        have hrun := run_endRound (P := P) jump hl3
        obtain ⟨h4, h5⟩ := hput W3 _ (.loop (rec (if jump.isNone then .ready else .done) jump)) hl3 hd3
        refine ⟨?_, hl3, h4, h5⟩
        rw [hrun, hrec]
      rintro e a3 W3 hp
      cases e with
      | normal =>
        obtain ⟨hk3, hi3⟩ := hp
        obtain ⟨hr, hl3, hl4, hk4⟩ := fin none W3 hk3
        exact ⟨_, _, hr, .inl ⟨rfl, hI.putObj _ hi3 (by omega) hl3 rfl, hl4, hk4⟩⟩
      | ret =>
        obtain ⟨hk3, hi3⟩ := hp
        obtain ⟨hr, hl3, hl4, hk4⟩ := fin (some .ret) W3 hk3
        exact ⟨_, _, hr, .inr ⟨rfl, .ret, (hIx _).putObj _ hi3 (by omega) hl3 rfl, hl4, hk4⟩⟩
      | exit id =>
        obtain ⟨hk3, hi3⟩ := hp
        obtain ⟨hr, hl3, hl4, hk4⟩ := fin (some (.exit id)) W3 hk3
        exact ⟨_, _, hr, .inr ⟨rfl, .exit id, (hIx _).putObj _ hi3 (by omega) hl3 rfl, hl4, hk4⟩⟩
      | goto t =>
        obtain ⟨hk3, hi3⟩ := hp
        obtain ⟨hr, hl3, hl4, hk4⟩ := fin (some (.goto t)) W3 hk3
        exact ⟨_, _, hr, .inr ⟨rfl, .goto t, (hIx _).putObj _ hi3 (by omega) hl3 rfl, hl4, hk4⟩⟩
      | panic ch => exact hp.elim
      | outgrown => exact hp.elim
    · -- behind the iterator
      rintro e W2 ⟨⟨v, rfl⟩, (⟨s, hS, hi, hl, hk⟩ | ⟨c, s, hi, hl, hk⟩)⟩
      · have hrun := run_endLoop (P := P) hl (by rw [hrec]; simp)
        rw [hrec] at hrun
        exact ⟨none, _, hrun, hdone _ s _ (Nat.le_refl _) hS (hI.putObj _ hi (by omega) hl rfl) ((World.putObj_heap_other (by omega)).trans hk)⟩
      · have hrun := run_endLoop (P := P) hl (by rw [hrec]; simp)
        rw [hrec] at hrun
        exact ⟨some c, _, hrun, hstop _ c s _ (Nat.le_refl _) ((hIx c).putObj _ hi (by omega) hl rfl) ((World.putObj_heap_other (by omega)).trans hk)⟩

end Go.Proofs.YtgjbbobphfejoaaGreatDoor

/- lots.divide: the range over the pieces. -/
namespace Go.Proofs.YtgjbbobphfejoaaGreatDoor
open Go.RowKit Go.Shelf
attribute [local go_sem] Oper.semAt_some

theorem FD.row {b4 b5 B : Nat} {V1 V2 : Sl} {U W W' : World} {row : Option Nat} (h : Mod (FD b4 b5 B V1 V2 U) U W) (hg : W.grownBy W' row) (hr : ∀ r, row = some r → B ≤ r ∧ ∃ o : Obj, W.heap[r]? = some o ∧ o.isCells = false) : Mod (FD b4 b5 B V1 V2 U) U W' := by
  refine h.trans (Mod.of_grown hg (fun g e => .inl e) : Mod (fun b => row = some b) W W') (fun b e => ?_)
  obtain ⟨hB, o, h1, h2⟩ := hr b e
  rcases Nat.lt_or_ge b U.heap.size with hlt | hge
  · by_cases hf : FD b4 b5 B V1 V2 U b
    · exact .inl hf
    · rw [h.block b hlt hf] at h1
      exact .inl (.inr (.inr (.inr (.inr ⟨hB, o, h1, h2⟩))))
  · exact .inr hge
theorem pieces_in (n : Nat) (A : Option Addr) (len cap gf : Nat) (lb : Array Value) (v : Value) (w : World) (hv : v = .func (.func gf) #[] lb) :
    CallsIn Fence.wide n Tryz.prog 233 #[.slice A len cap, v] w fun e w' => e = .returned (.func (.func 247) #[] #[.pointer (some ⟨w.heap.size, 0, none⟩), .pointer (some ⟨w.heap.size + 1, 0, none⟩)]) ∧ (w.alloc (.cells #[.slice A len cap] 45)).alloc (.cells #[v] 278) = w' := by
  subst hv
  refine callsIn_of_wp Tryz.func233 rfl trivial ?_ rfl
  simp only [Tryz.ntmps233, List.size_toArray, List.length_cons, List.length_nil, Nat.reduceAdd, Nat.reduceSub, Array.replicate_succ, Array.replicate_zero, List.push_toArray, List.append_toArray, List.nil_append, List.cons_append]
  gi_wp2
  go_ret
  exact ⟨rfl, rfl⟩
abbrev StL := (List Lot × List Lot) × Option (Option (Sl × Sl × World))
def StDF (w : World) (B b4 b5 pL pC bn bl : Nat) (A : Option Addr) (n c : Nat) (ls : List Lot) (n0 : Int) (s : StL) (W : World) : Prop :=
  match s.2 with
  | none => s.1 = ([], []) ∧ PIF w B b4 b5 pL pC bn bl A n c ls n0 (fun _ => True) 0 W
  | some none => ∃ V1 V2 : Sl, DivB w B (fun b => b = bn) b4 b5 s.1 V1 V2 W
  | some (some (V1, V2, U)) => (∃ V1' V2' : Sl, DivB w B (fun b => b = bn) b4 b5 s.1 V1' V2' W) ∧ Mod (FD b4 b5 B V1 V2 U) U W
def StDYF (w : World) (B b4 b5 bn : Nat) (s : StL) (x : Lot × Bool) (W : World) : Prop := ∃ (V1 V2 : Sl) (U : World), s.2 = some (some (V1, V2, U)) ∧ DivB w B (fun b => b = bn) b4 b5 s.1 V1 V2 W ∧ Mod (FD b4 b5 B V1 V2 U) U W ∧ x.1.piece ∧ V1.2.1 ≤ 5000 ∧ V2.2.1 ≤ 5000
theorem StDF.own {w : World} {B b4 b5 pL pC bn bl : Nat} {A : Option Addr} {n c : Nat} {ls : List Lot} {n0 : Int} : OwnFrom B (StDF w B b4 b5 pL pC bn bl A n c ls n0) := by
  rintro ⟨st, _ | _ | ⟨V1, V2, U⟩⟩ W W' row hs hg hr
  · obtain ⟨h0, ⟨V1, V2, hD⟩, hpL, hpC, hJ, -⟩ := hs
    have k : Mod (fun b => row = some b) W W' := Mod.of_grown hg (fun g e => .inl e)
    have hn : ∀ {b t cs}, Blk W b t cs → ¬ row = some b := fun {b t cs} hb e => RecL.not_ty (B := B) (hr b e) hb.ty
    exact ⟨h0, ⟨V1, V2, hD.mod k (fun b e => .inr (hr b e))⟩, k.blk hpL (hn hpL), k.blk hpC (hn hpC), ⟨k.blk hJ.1 (hn hJ.1), k.blk hJ.2 (hn hJ.2)⟩, trivial⟩
  · obtain ⟨V1, V2, hD⟩ := hs
    exact ⟨V1, V2, hD.mod (Mod.of_grown hg (fun g e => .inl e) : Mod (fun b => row = some b) W W') (fun b e => .inr (hr b e))⟩
  · obtain ⟨⟨V1', V2', hD⟩, hM⟩ := hs
    exact ⟨⟨V1', V2', hD.mod (Mod.of_grown hg (fun g e => .inl e) : Mod (fun b => row = some b) W W') (fun b e => .inr (hr b e))⟩, FD.row hM hg hr⟩
theorem StDYF.own {w : World} {B b4 b5 bn : Nat} (x : Lot × Bool) : OwnFrom B (fun s => StDYF w B b4 b5 bn s x) := by
  rintro s W W' row ⟨V1, V2, U, hs, hD, hM, hx⟩ hg hr
  exact ⟨V1, V2, U, hs, hD.mod (Mod.of_grown hg (fun g e => .inl e) : Mod (fun b => row = some b) W W') (fun b e => .inr (hr b e)), FD.row hM hg hr, hx⟩
theorem pcs_stateF (w : World) (B b4 b5 pL pC bn bl : Nat) (A : Option Addr) (n c : Nat) (ls : List Lot) (n0 : Int)
    (HL : Hid (LotsAt w A n c ls)) (HK : Hid (LotsOk ls)) (HC : Hid (CntOk ls (cntLt ls n0))) (hn : n ≤ 4096) (hn0 : 0 ≤ n0 ∧ n0 ≤ 1099511627776) (hbn : bn < w.heap.size ∧ bl < w.heap.size ∧ bn ≠ bl) (HTN : Hid (Ty w bn 3)) (HSUM : Hid (sumZ (cntLt ls n0) = n0)) (hpl : w.heap.size ≤ pL ∧ pL < B ∧ w.heap.size ≤ pC ∧ pC < B ∧ pL ≠ b4 ∧ pL ≠ b5 ∧ pC ≠ b4 ∧ pC ≠ b5) :
    SeqState Fence.wide 5 Tryz.prog 247 #[.pointer (some ⟨pL, 0, none⟩), .pointer (some ⟨pC, 0, none⟩)] (fun x : Lot × Bool => #[.agg #[.int .i64 x.1.flow, .int .i64 x.1.at_, .int .i64 x.1.n], .bool x.2]) B
      (StDF w B b4 b5 pL pC bn bl A n c ls n0) (fun s x => StDYF w B b4 b5 bn s x) (fun s x => (stpD s.1 x, s.2)) (fun _ _ _ => False) (([], []), none) (fun s => s.1 = divL [] [] ls (cntLt ls n0) ∧ s.2 = some none) := by
  intro l R Rx hR hY W h0 hR0
  obtain ⟨-, h1, h2, h3, h4, -⟩ := h0
  refine callsIn_wide.2 ((pieces1F_any w B b4 b5 pL pC bn bl A n c ls n0 l R (Lib.hid hR) HL HK HC hn hn0 hbn HTN HSUM hpl (Lib.hid ?_) W (Lib.hid ⟨h1, h2, h3, h4, hR0⟩)).mono ?_)
  · intro st V1 V2 x U hD hRU hx g1 g2
    have h := hY (st, some (some (V1, V2, U))) x U ⟨V1, V2, U, rfl, hD, Mod.refl _ _, hx, g1, g2⟩ hRU
    obtain ⟨fn, tmps, assign, body, hy, hr3⟩ := h
    refine ⟨fn, tmps, assign, body, hy, hr3.mono fun e W' hh => ?_⟩
    rcases hh with ⟨he, ⟨hD', hm'⟩, hr'⟩ | ⟨-, c, hx, -⟩
    · exact ⟨he, hD', hm', hr'⟩
    · exact hx.elim
  · rintro e W' ⟨he, hD', hr⟩
    exact ⟨he, .inl ⟨(divL [] [] ls (cntLt ls n0), some none), ⟨rfl, rfl⟩, hD', hr⟩⟩
/-- What divide leaves. -/
def DivPostF (bn : Nat) (r : List Lot × List Lot) (w : World) (e : Ending) (w' : World) : Prop :=
  ∃ V1 V2 : Sl, e = .returned (.tuple #[slV V1, slV V2]) ∧ LotsOwn w' w.heap.size V1.1 V1.2.1 V1.2.2 r.1 ∧ LotsOwn w' w.heap.size V2.1 V2.2.1 V2.2.2 r.2 ∧ Mod (fun b => b = bn) w w'
set_option maxRecDepth 100000 in
set_option maxHeartbeats 8000000 in
theorem divideF_any (bn bl : Nat) (A : Option Addr) (n c : Nat) (ls : List Lot) (n0 : Int) (w : World)
    (HL : Hid (LotsAt w A n c ls)) (HK : Hid (LotsOk ls)) (HC : Hid (CntOk ls (cntLt ls n0))) (hn : n ≤ 4096) (hn0 : 0 ≤ n0 ∧ n0 ≤ 1099511627776) (hbn : bn < w.heap.size ∧ bl < w.heap.size ∧ bn ≠ bl) (HTN : Hid (Ty w bn 3)) (HSUM : Hid (sumZ (cntLt ls n0) = n0)) (HJ : Hid (Blk w bn 3 #[.int .i64 n0] ∧ Blk w bl 45 #[.slice A n c])) :
    Calls Tryz.prog 210 #[.slice A n c, .func (.func 227) #[] #[.pointer (some ⟨bn, 0, none⟩), .pointer (some ⟨bl, 0, none⟩)]] w (DivPostF bn (divL [] [] ls (cntLt ls n0)) w) := by
  refine (callsIn_wide (n := 6)).1 ?_
  refine callsIn_of_wp_marks Tryz.func210 rfl trivial ?_ rfl
  simp only [Tryz.ntmps210, List.size_toArray, List.length_cons, List.length_nil, Nat.reduceAdd, Nat.reduceSub, Array.replicate_succ, Array.replicate_zero, List.push_toArray, List.append_toArray, List.nil_append, List.cons_append]
  gi_wp2_with (refine ⟨trivial, ?_⟩; gi_at_call 233; refine (pieces_in _ _ _ _ _ _ _ _ rfl).mono ?_; rintro e w' ⟨rfl, rfl⟩)
  obtain ⟨W0, hW0⟩ : ∃ W0, (((w.alloc (.cells #[.slice none 0 0] 45)).alloc (.cells #[.slice none 0 0] 45)).alloc (.cells #[.slice A n c] 45)).alloc (.cells #[.func (.func 227) #[] #[.pointer (some ⟨bn, 0, none⟩), .pointer (some ⟨bl, 0, none⟩)]] 278) = W0 := ⟨_, rfl⟩
  have hsz : W0.heap.size = w.heap.size + 4 := by rw [← hW0]; simp
  have hbw : Below w.heap.size w W0 := by
    rw [← hW0]
    exact ((((Below.refl _ w).alloc (Nat.le_refl _) _).alloc (by simp) _).alloc (by simp; omega) _).alloc (by simp; omega) _
  have hI0 : StDF w W0.heap.size w.heap.size (w.heap.size + 1) (w.heap.size + 2) (w.heap.size + 3) bn bl A n c ls n0 (([], []), none) W0 := by
    refine ⟨rfl, ⟨(none, 0, 0), (none, 0, 0), ?_, ?_, LotsOwn.nil _ _, LotsOwn.nil _ _, fun _ h => absurd h (by simp [divL]), fun _ h => absurd h (by simp [divL]), fun b hb => by simp [slV, Value.ownBlock] at hb, Mod.of_below _ hbw, by omega⟩, ?_, ?_, ⟨by have := Blk.all HJ.out.1 hbw; simpa [sumZ] using this, Blk.all HJ.out.2 hbw⟩, trivial⟩
    · rw [← hW0]
      exact Blk.alloc (Blk.alloc (Blk.alloc (Blk.new _ _ _) _) _) _
    · rw [← hW0]
      have := Blk.alloc (Blk.alloc (Blk.new (w.alloc (.cells #[.slice none 0 0] 45)) 45 #[.slice none 0 0]) (.cells #[.slice A n c] 45)) (.cells #[.func (.func 227) #[] #[.pointer (some ⟨bn, 0, none⟩), .pointer (some ⟨bl, 0, none⟩)]] 278)
      rw [World.size_alloc] at this
      exact this
    · rw [← hW0]
      have := Blk.alloc (Blk.new ((w.alloc (.cells #[.slice none 0 0] 45)).alloc (.cells #[.slice none 0 0] 45)) 45 #[.slice A n c]) (.cells #[.func (.func 227) #[] #[.pointer (some ⟨bn, 0, none⟩), .pointer (some ⟨bl, 0, none⟩)]] 278)
      rw [World.size_alloc, World.size_alloc] at this
      exact this
    · rw [← hW0]
      have := Blk.new (((w.alloc (.cells #[.slice none 0 0] 45)).alloc (.cells #[.slice none 0 0] 45)).alloc (.cells #[.slice A n c] 45)) 278 #[.func (.func 227) #[] #[.pointer (some ⟨bn, 0, none⟩), .pointer (some ⟨bl, 0, none⟩)]]
      rw [World.size_alloc, World.size_alloc, World.size_alloc] at this
      exact this
  rw [hW0]
  have HSZ := Lib.hid hsz
  have hpl : w.heap.size ≤ w.heap.size + 2 ∧ w.heap.size + 2 < W0.heap.size ∧ w.heap.size ≤ w.heap.size + 3 ∧ w.heap.size + 3 < W0.heap.size ∧ w.heap.size + 2 ≠ w.heap.size ∧ w.heap.size + 2 ≠ w.heap.size + 1 ∧ w.heap.size + 3 ≠ w.heap.size ∧ w.heap.size + 3 ≠ w.heap.size + 1 := by omega
  clear hsz hW0 hbw HJ
  refine range_state2 (β := StL) (α := Lot × Bool) rfl (by decide) (gf := 247) (lb := #[.pointer (some ⟨w.heap.size + 2, 0, none⟩), .pointer (some ⟨w.heap.size + 3, 0, none⟩)]) rfl trivial (enters_of Tryz.func247 (by kernel_rfl) rfl)
      (encs := fun x : Lot × Bool => #[.agg #[.int .i64 x.1.flow, .int .i64 x.1.at_, .int .i64 x.1.n], .bool x.2]) (fun _ => rfl)
      (StDF w W0.heap.size w.heap.size (w.heap.size + 1) (w.heap.size + 2) (w.heap.size + 3) bn bl A n c ls n0) (fun s x => StDYF w W0.heap.size w.heap.size (w.heap.size + 1) bn s x) (fun s x => (stpD s.1 x, s.2)) (fun _ _ _ => False) (([], []), none) (fun s => s.1 = divL [] [] ls (cntLt ls n0) ∧ s.2 = some none)
      (pcs_stateF w W0.heap.size w.heap.size (w.heap.size + 1) (w.heap.size + 2) (w.heap.size + 3) bn bl A n c ls n0 HL HK HC hn hn0 hbn HTN HSUM hpl)
      StDF.own (fun x => StDYF.own x) (fun c s W W' row hs hg hr => hs) hI0
      (fun x => .cells #[.int .i64 x.1.flow, .int .i64 x.1.at_, .int .i64 x.1.n] 148)
      (fun x g => { tmps := #[.slice A n c, .func (.func 227) #[] #[.pointer (some ⟨bn, 0, none⟩), .pointer (some ⟨bl, 0, none⟩)], undef, undef, .pointer (some ⟨w.heap.size, 0, none⟩), .pointer (some ⟨w.heap.size + 1, 0, none⟩), .pointer (some ⟨g, 0, none⟩), .bool x.2, .slice A n c, .func (.func 227) #[] #[.pointer (some ⟨bn, 0, none⟩), .pointer (some ⟨bl, 0, none⟩)], .func (.func 247) #[] #[.pointer (some ⟨w.heap.size + 1 + 1, 0, none⟩), .pointer (some ⟨w.heap.size + 1 + 1 + 1, 0, none⟩)], .agg #[.int .i64 x.1.flow, .int .i64 x.1.at_, .int .i64 x.1.n], .bool x.2, undef, undef, undef, undef, undef, undef, undef, undef, undef], defers := [] }) ?assign ?body ?done ?stop
  case assign =>
    intro l x W K hK
    gi_wp2
    exact hK
  case body =>
    rintro l ⟨st, it⟩ ⟨x, first⟩ W g ⟨⟨A1, n1, c1⟩, ⟨A2, n2, c2⟩, U, hs, hD, hM, hp, hl1, hl2⟩ hg hgB
    dsimp only at hs hD hp hl1 hl2 hg
    have HD := Lib.hid hD
    have HM := Lib.hid hM
    have HP := Lib.hid hp
    have hbg : Blk W g 148 #[.int .i64 x.flow, .int .i64 x.at_, .int .i64 x.n] := hg
    have g0 := hbg.cell 0
    have g1 := hbg.cell 1
    have g2 := hbg.cell 2
    have c4 := hD.c4.cell 0
    have c5 := hD.c5.cell 0
    unfold slV at c4 c5
    simp at g0 g1 g2 c4 c5
    have HSS := Lib.hid hs
    clear hs hD hM hp hg hbg
    cases first
    · gi_wp2_with fail
      refine ⟨trivial, ?_⟩
      refine (CallsIn.inRound l (callsIn_wide.2 (put_any W0.heap.size A2 n2 c2 st.2 x W (Lib.hid HD.out.o2) (Lib.hid HD.out.k2) HD.out.lt.2.2.2.2.2 HP.out (by omega)))).mono ?_
      rintro e w1 hPP
      obtain ⟨⟨A3, n3, c3⟩, rfl, hD', hM', hfz, hcc⟩ := HD.out.put2 HP.out hPP
      have HDN := Lib.hid hD'
      have HMN := Lib.hid (HM.out.trans hM' (fun b hb => .inl (hb.elim (fun e => .inr (.inl e)) (fun e => .inr (.inr (.inr (.inl e)))))))
      have HKF := Lib.hid (keepsFrom_mod (B := W0.heap.size) hM' (fun b hb => hb.elim (fun e => ⟨45, by rw [e]; exact HD.out.c5.ty⟩) (fun e => ⟨_, (HD.out.t2 e).1⟩)))
      unfold slV at hcc HDN HMN HKF ⊢
      dsimp only at hcc HDN HMN HKF ⊢
      clear hPP hD' hM' c4 c5 g0 g1 g2
      gi_wp2
      rw [HSS.out]
      exact ⟨HKF.out, ⟨_, _, HDN.out⟩, HMN.out⟩
    · gi_wp2_with fail
      refine ⟨trivial, ?_⟩
      refine (CallsIn.inRound l (callsIn_wide.2 (put_any W0.heap.size A1 n1 c1 st.1 x W (Lib.hid HD.out.o1) (Lib.hid HD.out.k1) HD.out.lt.2.2.2.2.2 HP.out (by omega)))).mono ?_
      rintro e w1 hPP
      obtain ⟨⟨A3, n3, c3⟩, rfl, hD', hM', hfz, hcc⟩ := HD.out.put1 HP.out hPP
      have HDN := Lib.hid hD'
      have HMN := Lib.hid (HM.out.trans hM' (fun b hb => .inl (hb.elim (fun e => .inl e) (fun e => .inr (.inr (.inl e))))))
      have HKF := Lib.hid (keepsFrom_mod (B := W0.heap.size) hM' (fun b hb => hb.elim (fun e => ⟨45, by rw [e]; exact HD.out.c4.ty⟩) (fun e => ⟨_, (HD.out.t1 e).1⟩)))
      unfold slV at hcc HDN HMN HKF ⊢
      dsimp only at hcc HDN HMN HKF ⊢
      clear hPP hD' hM' c4 c5 g0 g1 g2
      gi_wp2
      rw [HSS.out]
      exact ⟨HKF.out, ⟨_, _, HDN.out⟩, HMN.out⟩
  case done =>
    rintro D ⟨st, it⟩ W hD ⟨hf1, hf2⟩ hI hK
    dsimp only at hf1 hf2
    subst hf2 hf1
    obtain ⟨⟨A1, n1, c1⟩, ⟨A2, n2, c2⟩, hDB⟩ := hI
    dsimp only at hDB
    have HDB := Lib.hid hDB
    have c4 := hDB.c4.cell 0
    have c5 := hDB.c5.cell 0
    have f4 := hDB.c4.frozen 0
    have f5 := hDB.c5.frozen 0
    unfold slV at c4 c5
    simp at c4 c5
    obtain ⟨r, hr⟩ : ∃ r, divL [] [] ls (cntLt ls n0) = r := ⟨_, rfl⟩
    rw [hr] at HDB
    have HRR := Lib.hid hr
    clear hDB hr
    gi_wp2
    gi_region
    gi_wp2
    have hD2 : ∀ t, ¬ Ty W D t := by
      rintro t ⟨cs, fr, hh⟩
      rw [hK] at hh
      cases hh
    have hD4 : D ≠ w.heap.size := by have := HSZ.out; omega
    have hD5 : D ≠ w.heap.size + 1 := by have := HSZ.out; omega
    have hK2 : (((W.setCell ⟨w.heap.size, 0, none⟩ (.slice A1 n1 c1)).setCell ⟨w.heap.size + 1, 0, none⟩ (.slice A2 n2 c2)).drew).heap[D]? = some (.deferred (some [])) := by
      show ((W.setCell ⟨w.heap.size, 0, none⟩ (.slice A1 n1 c1)).setCell ⟨w.heap.size + 1, 0, none⟩ (.slice A2 n2 c2)).heap[D]? = _
      rw [Below.heap_setCell _ _ _ _ hD5, Below.heap_setCell _ _ _ _ hD4]
      exact hK
    refine ⟨by simp, .inl ⟨_, _, rfl, run_takeDeferred hK2, ?_⟩⟩
    have hm1 : Mod (fun b => b = w.heap.size ∨ b = w.heap.size + 1) W (((W.setCell ⟨w.heap.size, 0, none⟩ (.slice A1 n1 c1)).setCell ⟨w.heap.size + 1, 0, none⟩ (.slice A2 n2 c2)).drew) := (((Mod.refl (fun b => b = w.heap.size ∨ b = w.heap.size + 1) W).set (p := ⟨w.heap.size, 0, none⟩) (.inl (.inl rfl)) _).set (p := ⟨w.heap.size + 1, 0, none⟩) (.inl (.inr rfl)) _).drew
    have hk4 : Blk (((W.setCell ⟨w.heap.size, 0, none⟩ (.slice A1 n1 c1)).setCell ⟨w.heap.size + 1, 0, none⟩ (.slice A2 n2 c2)).drew) w.heap.size 45 #[.slice A1 n1 c1] := Blk.far (Blk.set_ HDB.out.c4 0 (.slice A1 n1 c1)) (by simp) _
    have hk5 : Blk (((W.setCell ⟨w.heap.size, 0, none⟩ (.slice A1 n1 c1)).setCell ⟨w.heap.size + 1, 0, none⟩ (.slice A2 n2 c2)).drew) (w.heap.size + 1) 45 #[.slice A2 n2 c2] := Blk.set_ (Blk.far (p := ⟨w.heap.size, 0, none⟩) HDB.out.c5 (by simp) _) 0 (.slice A2 n2 c2)
    generalize (((W.setCell ⟨w.heap.size, 0, none⟩ (.slice A1 n1 c1)).setCell ⟨w.heap.size + 1, 0, none⟩ (.slice A2 n2 c2)).drew) = W2 at hm1 hk4 hk5 hK2 ⊢
    have hm2 : Mod (fun b => b = D) W2 (W2.putObj D (.deferred none)) := by
      have := grownBy_putObj' W2 D (.deferred none)
      exact ⟨this.os, this.tape, this.output, this.size, fun k hk hne => this.block k hk (fun e => hne (by injection e))⟩
    have j4 := (hm2.blk hk4 (fun e => hD4 e.symm)).cell 0
    have j5 := (hm2.blk hk5 (fun e => hD5 e.symm)).cell 0
    simp at j4 j5
    have hm' : Mod (fun b => b = w.heap.size ∨ b = w.heap.size + 1 ∨ b = D) W (W2.putObj D (.deferred none)) := (hm1.mono (fun b h => .inl (h.elim .inl (fun h => .inr (.inl h))))).trans hm2 (fun b h => .inl (.inr (.inr h)))
    have hz := HSZ.out
    refine ⟨.tuple #[.slice A1 n1 c1, .slice A2 n2 c2], by simp [results, Tryz.f210, go_sem, j4, j5], (A1, n1, c1), (A2, n2, c2), rfl, ?_, ?_, HDB.out.mo.trans hm' (fun b hb => .inr (by rcases hb with rfl | rfl | rfl <;> omega))⟩
    · rw [HRR.out]
      have := HDB.out.o1.mod hm' (fun b hb hf => by
        have h1 := HDB.out.t1 hb
        rcases hf with rfl | rfl | rfl
        · omega
        · omega
        · exact hD2 _ h1.1)
      exact ⟨this.1, own_lower this.2 (by omega)⟩
    · rw [HRR.out]
      have := HDB.out.o2.mod hm' (fun b hb hf => by
        have h1 := HDB.out.t2 hb
        rcases hf with rfl | rfl | rfl
        · omega
        · omega
        · exact hD2 _ h1.1)
      exact ⟨this.1, own_lower this.2 (by omega)⟩
  case stop =>
    rintro D c pre W _ h _
    exact h.elim
end Go.Proofs.YtgjbbobphfejoaaGreatDoor
