/- lots.divide: the range over the pieces. -/
import Derived.Test.YtlcalajehnaenaaGreatDoorHG2
import Derived.Test.YtlcalajehnaenaaGreatDoorHG1
import Derived.Deep.DeepCutAuto
import Derived.Lib.LazyBuf
namespace Go.Proofs.YtlcalajehnaenaaGreatDoor
open Go.RowKit Go.Shelf
attribute [local go_sem] Oper.semAt_some
theorem FD.row {b4 b5 B : Nat} {V1 V2 : Sl} {U W W' : World} {row : Option Nat} (h : Mod (FD b4 b5 B V1 V2 U) U W) (hg : W.grownBy W' row) (hr : ∀ r, row = some r → B ≤ r ∧ ∃ o : Obj, W.heap[r]? = some o ∧ o.isCells = false) : Mod (FD b4 b5 B V1 V2 U) U W' := by
 refine h.trans (Mod.of_grown hg (fun g e => .inl e) : Mod (fun b => row = some b) W W') (fun b e => ?_)
 obtain ⟨hB, o, h1, h2⟩ := hr b e
 rcases Nat.lt_or_ge b U.heap.size with hlt | hge
 ·by_cases hf : FD b4 b5 B V1 V2 U b
  ·exact .inl hf
  ·rw [h.block b hlt hf] at h1
   exact .inl (.inr (.inr (.inr (.inr ⟨hB, o, h1, h2⟩))))
 ·exact .inr hge
theorem pieces_in (n : Nat) (A : Option Addr) (len cap gf : Nat) (lb : Array Value) (v : Value) (w : World) (hv : v = .func (.func gf) #[] lb) :
 CallsIn Fence.wide n Tryz.prog 250 #[.slice A len cap, v] w fun e w' => e = .returned (.func (.func 262) #[] #[.pointer (some ⟨w.heap.size, 0, none⟩), .pointer (some ⟨w.heap.size + 1, 0, none⟩)]) ∧ (w.alloc (.cells #[.slice A len cap] 38)).alloc (.cells #[v] 61) = w' := by
 subst hv
 refine callsIn_of_wp Tryz.func250 rfl trivial ?_ rfl
 simp only [Tryz.ntmps250, List.size_toArray, List.length_cons, List.length_nil, Nat.reduceAdd, Nat.reduceSub, Array.replicate_succ, Array.replicate_zero, List.push_toArray, List.append_toArray, List.nil_append, List.cons_append]
 gi_wp2
 go_ret
 exact ⟨rfl, rfl⟩
abbrev StL := (List Lot × List Lot) × Option (Option (Sl × Sl × World))
def StDF (w : World) (B b4 b5 pL pC bn bl : Nat) (A : Option Addr) (n c : Nat) (ls : List Lot) (n0 : Int) (s : StL) (W : World) : Prop :=
 match s.2 with
 | none => s.1 = ([], []) ∧ PIF w B b4 b5 pL pC bn bl A n c ls n0 (fun _ => True) 0 W
 | some none => ∃ V1 V2 : Sl, DivB w B (fun b => b = bn) b4 b5 s.1 V1 V2 W
 | some (some (V1, V2, U)) => (∃ V1' V2' : Sl, DivB w B (fun b => b = bn) b4 b5 s.1 V1' V2' W) ∧ Mod (FD b4 b5 B V1 V2 U) U W
def StDYF (w : World) (B b4 b5 bn : Nat) (s : StL) (x : Lot × Bool) (W : World) : Prop := ∃ (V1 V2 : Sl) (U : World), s.2 = some (some (V1, V2, U)) ∧ DivB w B (fun b => b = bn) b4 b5 s.1 V1 V2 W ∧ Mod (FD b4 b5 B V1 V2 U) U W ∧ x.1.piece ∧ V1.2.1 ≤ 5000 ∧ V2.2.1 ≤ 5000
theorem StDF.own {w : World} {B b4 b5 pL pC bn bl : Nat} {A : Option Addr} {n c : Nat} {ls : List Lot} {n0 : Int} : OwnFrom B (StDF w B b4 b5 pL pC bn bl A n c ls n0) := by
 rintro ⟨st, _ | _ | ⟨V1, V2, U⟩⟩ W W' row hs hg hr
 ·obtain ⟨h0, ⟨V1, V2, hD⟩, hpL, hpC, hJ, -⟩ := hs
  have k : Mod (fun b => row = some b) W W' := Mod.of_grown hg (fun g e => .inl e)
  have hn : ∀ {b t cs}, Blk W b t cs → ¬ row = some b := fun {b t cs} hb e => RecL.not_ty (B := B) (hr b e) hb.ty
  exact ⟨h0, ⟨V1, V2, hD.mod k (fun b e => .inr (hr b e))⟩, k.blk hpL (hn hpL), k.blk hpC (hn hpC), ⟨k.blk hJ.1 (hn hJ.1), k.blk hJ.2 (hn hJ.2)⟩, trivial⟩
 ·obtain ⟨V1, V2, hD⟩ := hs
  exact ⟨V1, V2, hD.mod (Mod.of_grown hg (fun g e => .inl e) : Mod (fun b => row = some b) W W') (fun b e => .inr (hr b e))⟩
 ·obtain ⟨⟨V1', V2', hD⟩, hM⟩ := hs
  exact ⟨⟨V1', V2', hD.mod (Mod.of_grown hg (fun g e => .inl e) : Mod (fun b => row = some b) W W') (fun b e => .inr (hr b e))⟩, FD.row hM hg hr⟩
theorem StDYF.own {w : World} {B b4 b5 bn : Nat} (x : Lot × Bool) : OwnFrom B (fun s => StDYF w B b4 b5 bn s x) := by
 rintro s W W' row ⟨V1, V2, U, hs, hD, hM, hx⟩ hg hr
 exact ⟨V1, V2, U, hs, hD.mod (Mod.of_grown hg (fun g e => .inl e) : Mod (fun b => row = some b) W W') (fun b e => .inr (hr b e)), FD.row hM hg hr, hx⟩
theorem pcs_stateF (w : World) (B b4 b5 pL pC bn bl : Nat) (A : Option Addr) (n c : Nat) (ls : List Lot) (n0 : Int)
 (HL : Hid (LotsAt w A n c ls)) (HK : Hid (LotsOk ls)) (HC : Hid (CntOk ls (cntLt ls n0))) (hn : n ≤ 4096) (hn0 : 0 ≤ n0 ∧ n0 ≤ 1099511627776) (hbn : bn < w.heap.size ∧ bl < w.heap.size ∧ bn ≠ bl) (HTN : Hid (Ty w bn 3)) (HSUM : Hid (sumZ (cntLt ls n0) = n0)) (hpl : w.heap.size ≤ pL ∧ pL < B ∧ w.heap.size ≤ pC ∧ pC < B ∧ pL ≠ b4 ∧ pL ≠ b5 ∧ pC ≠ b4 ∧ pC ≠ b5) :
 SeqState Fence.wide 5 Tryz.prog 262 #[.pointer (some ⟨pL, 0, none⟩), .pointer (some ⟨pC, 0, none⟩)] (fun x : Lot × Bool => #[.agg #[.int .i64 x.1.flow, .int .i64 x.1.at_, .int .i64 x.1.n], .bool x.2]) B
  (StDF w B b4 b5 pL pC bn bl A n c ls n0) (fun s x => StDYF w B b4 b5 bn s x) (fun s x => (stpD s.1 x, s.2)) (fun _ _ _ => False) (([], []), none) (fun s => s.1 = divL [] [] ls (cntLt ls n0) ∧ s.2 = some none) := by
 intro l R Rx hR hY W h0 hR0
 obtain ⟨-, h1, h2, h3, h4, -⟩ := h0
 refine callsIn_wide.2 ((pieces1F_any w B b4 b5 pL pC bn bl A n c ls n0 l R (Lib.hid hR) HL HK HC hn hn0 hbn HTN HSUM hpl (Lib.hid ?_) W (Lib.hid ⟨h1, h2, h3, h4, hR0⟩)).mono ?_)
 ·intro st V1 V2 x U hD hRU hx g1 g2
  have h := hY (st, some (some (V1, V2, U))) x U ⟨V1, V2, U, rfl, hD, Mod.refl _ _, hx, g1, g2⟩ hRU
  obtain ⟨fn, tmps, assign, body, hy, hr3⟩ := h
  refine ⟨fn, tmps, assign, body, hy, hr3.mono fun e W' hh => ?_⟩
  rcases hh with ⟨he, ⟨hD', hm'⟩, hr'⟩ | ⟨-, c, hx, -⟩
  ·exact ⟨he, hD', hm', hr'⟩
  ·exact hx.elim
 ·rintro e W' ⟨he, hD', hr⟩
  exact ⟨he, .inl ⟨(divL [] [] ls (cntLt ls n0), some none), ⟨rfl, rfl⟩, hD', hr⟩⟩
def DivPostF (bn : Nat) (r : List Lot × List Lot) (w : World) (e : Ending) (w' : World) : Prop :=
 ∃ V1 V2 : Sl, e = .returned (.tuple #[slV V1, slV V2]) ∧ LotsOwn w' w.heap.size V1.1 V1.2.1 V1.2.2 r.1 ∧ LotsOwn w' w.heap.size V2.1 V2.2.1 V2.2.2 r.2 ∧ Mod (fun b => b = bn) w w'
set_option maxRecDepth 100000 in
set_option maxHeartbeats 8000000 in
theorem divideF_any (bn bl : Nat) (A : Option Addr) (n c : Nat) (ls : List Lot) (n0 : Int) (w : World)
 (HL : Hid (LotsAt w A n c ls)) (HK : Hid (LotsOk ls)) (HC : Hid (CntOk ls (cntLt ls n0))) (hn : n ≤ 4096) (hn0 : 0 ≤ n0 ∧ n0 ≤ 1099511627776) (hbn : bn < w.heap.size ∧ bl < w.heap.size ∧ bn ≠ bl) (HTN : Hid (Ty w bn 3)) (HSUM : Hid (sumZ (cntLt ls n0) = n0)) (HJ : Hid (Blk w bn 3 #[.int .i64 n0] ∧ Blk w bl 38 #[.slice A n c])) :
 Calls Tryz.prog 229 #[.slice A n c, .func (.func 244) #[] #[.pointer (some ⟨bn, 0, none⟩), .pointer (some ⟨bl, 0, none⟩)]] w (DivPostF bn (divL [] [] ls (cntLt ls n0)) w) := by
 refine (callsIn_wide (n := 6)).1 ?_
 refine callsIn_of_wp_marks Tryz.func229 rfl trivial ?_ rfl
 simp only [Tryz.ntmps229, List.size_toArray, List.length_cons, List.length_nil, Nat.reduceAdd, Nat.reduceSub, Array.replicate_succ, Array.replicate_zero, List.push_toArray, List.append_toArray, List.nil_append, List.cons_append]
 gi_wp2_with (refine ⟨trivial, ?_⟩; gi_at_call 250; refine (pieces_in _ _ _ _ _ _ _ _ rfl).mono ?_; rintro e w' ⟨rfl, rfl⟩)
 obtain ⟨W0, hW0⟩ : ∃ W0, (((w.alloc (.cells #[.slice none 0 0] 38)).alloc (.cells #[.slice none 0 0] 38)).alloc (.cells #[.slice A n c] 38)).alloc (.cells #[.func (.func 244) #[] #[.pointer (some ⟨bn, 0, none⟩), .pointer (some ⟨bl, 0, none⟩)]] 61) = W0 := ⟨_, rfl⟩
 have hsz : W0.heap.size = w.heap.size + 4 := by rw [← hW0]; simp
 have hbw : Below w.heap.size w W0 := by
  rw [← hW0]
  exact ((((Below.refl _ w).alloc (Nat.le_refl _) _).alloc (by simp) _).alloc (by simp; omega) _).alloc (by simp; omega) _
 have hI0 : StDF w W0.heap.size w.heap.size (w.heap.size + 1) (w.heap.size + 2) (w.heap.size + 3) bn bl A n c ls n0 (([], []), none) W0 := by
  refine ⟨rfl, ⟨(none, 0, 0), (none, 0, 0), ?_, ?_, LotsOwn.nil _ _, LotsOwn.nil _ _, fun _ h => absurd h (by simp [divL]), fun _ h => absurd h (by simp [divL]), fun b hb => by simp [slV, Value.ownBlock] at hb, Mod.of_below _ hbw, by omega⟩, ?_, ?_, ⟨by have := Blk.all HJ.out.1 hbw; simpa [sumZ] using this, Blk.all HJ.out.2 hbw⟩, trivial⟩
  ·rw [← hW0]
   exact Blk.alloc (Blk.alloc (Blk.alloc (Blk.new _ _ _) _) _) _
  ·rw [← hW0]
   have := Blk.alloc (Blk.alloc (Blk.new (w.alloc (.cells #[.slice none 0 0] 38)) 38 #[.slice none 0 0]) (.cells #[.slice A n c] 38)) (.cells #[.func (.func 244) #[] #[.pointer (some ⟨bn, 0, none⟩), .pointer (some ⟨bl, 0, none⟩)]] 61)
   rw [World.size_alloc] at this
   exact this
  ·rw [← hW0]
   have := Blk.alloc (Blk.new ((w.alloc (.cells #[.slice none 0 0] 38)).alloc (.cells #[.slice none 0 0] 38)) 38 #[.slice A n c]) (.cells #[.func (.func 244) #[] #[.pointer (some ⟨bn, 0, none⟩), .pointer (some ⟨bl, 0, none⟩)]] 61)
   rw [World.size_alloc, World.size_alloc] at this
   exact this
  ·rw [← hW0]
   have := Blk.new (((w.alloc (.cells #[.slice none 0 0] 38)).alloc (.cells #[.slice none 0 0] 38)).alloc (.cells #[.slice A n c] 38)) 61 #[.func (.func 244) #[] #[.pointer (some ⟨bn, 0, none⟩), .pointer (some ⟨bl, 0, none⟩)]]
   rw [World.size_alloc, World.size_alloc, World.size_alloc] at this
   exact this
 rw [hW0]
 have HSZ := Lib.hid hsz
 have hpl : w.heap.size ≤ w.heap.size + 2 ∧ w.heap.size + 2 < W0.heap.size ∧ w.heap.size ≤ w.heap.size + 3 ∧ w.heap.size + 3 < W0.heap.size ∧ w.heap.size + 2 ≠ w.heap.size ∧ w.heap.size + 2 ≠ w.heap.size + 1 ∧ w.heap.size + 3 ≠ w.heap.size ∧ w.heap.size + 3 ≠ w.heap.size + 1 := by omega
 clear hsz hW0 hbw HJ
 refine range_state2 (β := StL) (α := Lot × Bool) rfl (by decide) (gf := 262) (lb := #[.pointer (some ⟨w.heap.size + 2, 0, none⟩), .pointer (some ⟨w.heap.size + 3, 0, none⟩)]) rfl trivial (enters_of Tryz.func262 (by kernel_rfl) rfl)
  (encs := fun x : Lot × Bool => #[.agg #[.int .i64 x.1.flow, .int .i64 x.1.at_, .int .i64 x.1.n], .bool x.2]) (fun _ => rfl)
  (StDF w W0.heap.size w.heap.size (w.heap.size + 1) (w.heap.size + 2) (w.heap.size + 3) bn bl A n c ls n0) (fun s x => StDYF w W0.heap.size w.heap.size (w.heap.size + 1) bn s x) (fun s x => (stpD s.1 x, s.2)) (fun _ _ _ => False) (([], []), none) (fun s => s.1 = divL [] [] ls (cntLt ls n0) ∧ s.2 = some none)
  (pcs_stateF w W0.heap.size w.heap.size (w.heap.size + 1) (w.heap.size + 2) (w.heap.size + 3) bn bl A n c ls n0 HL HK HC hn hn0 hbn HTN HSUM hpl)
  StDF.own (fun x => StDYF.own x) (fun c s W W' row hs hg hr => hs) hI0
  (fun x => .cells #[.int .i64 x.1.flow, .int .i64 x.1.at_, .int .i64 x.1.n] 163)
  (fun x g => { tmps := #[.slice A n c, .func (.func 244) #[] #[.pointer (some ⟨bn, 0, none⟩), .pointer (some ⟨bl, 0, none⟩)], undef, undef, .pointer (some ⟨w.heap.size, 0, none⟩), .pointer (some ⟨w.heap.size + 1, 0, none⟩), .pointer (some ⟨g, 0, none⟩), .bool x.2, .slice A n c, .func (.func 244) #[] #[.pointer (some ⟨bn, 0, none⟩), .pointer (some ⟨bl, 0, none⟩)], .func (.func 262) #[] #[.pointer (some ⟨w.heap.size + 1 + 1, 0, none⟩), .pointer (some ⟨w.heap.size + 1 + 1 + 1, 0, none⟩)], .agg #[.int .i64 x.1.flow, .int .i64 x.1.at_, .int .i64 x.1.n], .bool x.2, undef, undef, undef, undef, undef, undef, undef, undef, undef], defers := [] }) ?assign ?body ?done ?stop
 case assign =>
  intro l x W K hK
  gi_wp2
  exact hK
 case body =>
  rintro l ⟨st, it⟩ ⟨x, first⟩ W g ⟨⟨A1, n1, c1⟩, ⟨A2, n2, c2⟩, U, hs, hD, hM, hp, hl1, hl2⟩ hg hgB
  dsimp only at hs hD hp hl1 hl2 hg
  have HD := Lib.hid hD
  have HM := Lib.hid hM
  have HP := Lib.hid hp
  have hbg : Blk W g 163 #[.int .i64 x.flow, .int .i64 x.at_, .int .i64 x.n] := hg
  have g0 := hbg.cell 0
  have g1 := hbg.cell 1
  have g2 := hbg.cell 2
  have c4 := hD.c4.cell 0
  have c5 := hD.c5.cell 0
  unfold slV at c4 c5
  simp at g0 g1 g2 c4 c5
  have HSS := Lib.hid hs
  clear hs hD hM hp hg hbg
  cases first
  ·gi_wp2_with fail
   refine ⟨trivial, ?_⟩
   refine (CallsIn.inRound l (callsIn_wide.2 (put_any W0.heap.size A2 n2 c2 st.2 x W (Lib.hid HD.out.o2) (Lib.hid HD.out.k2) HD.out.lt.2.2.2.2.2 HP.out (by omega)))).mono ?_
   rintro e w1 hPP
   obtain ⟨⟨A3, n3, c3⟩, rfl, hD', hM', hfz, hcc⟩ := HD.out.put2 HP.out hPP
   have HDN := Lib.hid hD'
   have HMN := Lib.hid (HM.out.trans hM' (fun b hb => .inl (hb.elim (fun e => .inr (.inl e)) (fun e => .inr (.inr (.inr (.inl e)))))))
   have HKF := Lib.hid (keepsFrom_mod (B := W0.heap.size) hM' (fun b hb => hb.elim (fun e => ⟨38, by rw [e]; exact HD.out.c5.ty⟩) (fun e => ⟨_, (HD.out.t2 e).1⟩)))
   unfold slV at hcc HDN HMN HKF ⊢
   dsimp only at hcc HDN HMN HKF ⊢
   clear hPP hD' hM' c4 c5 g0 g1 g2
   gi_wp2
   rw [HSS.out]
   exact ⟨HKF.out, ⟨_, _, HDN.out⟩, HMN.out⟩
  ·gi_wp2_with fail
   refine ⟨trivial, ?_⟩
   refine (CallsIn.inRound l (callsIn_wide.2 (put_any W0.heap.size A1 n1 c1 st.1 x W (Lib.hid HD.out.o1) (Lib.hid HD.out.k1) HD.out.lt.2.2.2.2.2 HP.out (by omega)))).mono ?_
   rintro e w1 hPP
   obtain ⟨⟨A3, n3, c3⟩, rfl, hD', hM', hfz, hcc⟩ := HD.out.put1 HP.out hPP
   have HDN := Lib.hid hD'
   have HMN := Lib.hid (HM.out.trans hM' (fun b hb => .inl (hb.elim (fun e => .inl e) (fun e => .inr (.inr (.inl e))))))
   have HKF := Lib.hid (keepsFrom_mod (B := W0.heap.size) hM' (fun b hb => hb.elim (fun e => ⟨38, by rw [e]; exact HD.out.c4.ty⟩) (fun e => ⟨_, (HD.out.t1 e).1⟩)))
   unfold slV at hcc HDN HMN HKF ⊢
   dsimp only at hcc HDN HMN HKF ⊢
   clear hPP hD' hM' c4 c5 g0 g1 g2
   gi_wp2
   rw [HSS.out]
   exact ⟨HKF.out, ⟨_, _, HDN.out⟩, HMN.out⟩
 case done =>
  rintro D ⟨st, it⟩ W hD ⟨hf1, hf2⟩ hI hK
  dsimp only at hf1 hf2
  subst hf2 hf1
  obtain ⟨⟨A1, n1, c1⟩, ⟨A2, n2, c2⟩, hDB⟩ := hI
  dsimp only at hDB
  have HDB := Lib.hid hDB
  have c4 := hDB.c4.cell 0
  have c5 := hDB.c5.cell 0
  have f4 := hDB.c4.frozen 0
  have f5 := hDB.c5.frozen 0
  unfold slV at c4 c5
  simp at c4 c5
  obtain ⟨r, hr⟩ : ∃ r, divL [] [] ls (cntLt ls n0) = r := ⟨_, rfl⟩
  rw [hr] at HDB
  have HRR := Lib.hid hr
  clear hDB hr
  gi_wp2
  gi_region
  gi_wp2
  have hD2 : ∀ t, ¬ Ty W D t := by
   rintro t ⟨cs, fr, hh⟩
   rw [hK] at hh
   cases hh
  have hD4 : D ≠ w.heap.size := by have := HSZ.out; omega
  have hD5 : D ≠ w.heap.size + 1 := by have := HSZ.out; omega
  have hK2 : (((W.setCell ⟨w.heap.size, 0, none⟩ (.slice A1 n1 c1)).setCell ⟨w.heap.size + 1, 0, none⟩ (.slice A2 n2 c2)).drew).heap[D]? = some (.deferred (some [])) := by
   show ((W.setCell ⟨w.heap.size, 0, none⟩ (.slice A1 n1 c1)).setCell ⟨w.heap.size + 1, 0, none⟩ (.slice A2 n2 c2)).heap[D]? = _
   rw [Below.heap_setCell _ _ _ _ hD5, Below.heap_setCell _ _ _ _ hD4]
   exact hK
  refine ⟨by simp, .inl ⟨_, _, rfl, run_takeDeferred hK2, ?_⟩⟩
  have hm1 : Mod (fun b => b = w.heap.size ∨ b = w.heap.size + 1) W (((W.setCell ⟨w.heap.size, 0, none⟩ (.slice A1 n1 c1)).setCell ⟨w.heap.size + 1, 0, none⟩ (.slice A2 n2 c2)).drew) := (((Mod.refl (fun b => b = w.heap.size ∨ b = w.heap.size + 1) W).set (p := ⟨w.heap.size, 0, none⟩) (.inl (.inl rfl)) _).set (p := ⟨w.heap.size + 1, 0, none⟩) (.inl (.inr rfl)) _).drew
  have hk4 : Blk (((W.setCell ⟨w.heap.size, 0, none⟩ (.slice A1 n1 c1)).setCell ⟨w.heap.size + 1, 0, none⟩ (.slice A2 n2 c2)).drew) w.heap.size 38 #[.slice A1 n1 c1] := Blk.far (Blk.set_ HDB.out.c4 0 (.slice A1 n1 c1)) (by simp) _
  have hk5 : Blk (((W.setCell ⟨w.heap.size, 0, none⟩ (.slice A1 n1 c1)).setCell ⟨w.heap.size + 1, 0, none⟩ (.slice A2 n2 c2)).drew) (w.heap.size + 1) 38 #[.slice A2 n2 c2] := Blk.set_ (Blk.far (p := ⟨w.heap.size, 0, none⟩) HDB.out.c5 (by simp) _) 0 (.slice A2 n2 c2)
  generalize (((W.setCell ⟨w.heap.size, 0, none⟩ (.slice A1 n1 c1)).setCell ⟨w.heap.size + 1, 0, none⟩ (.slice A2 n2 c2)).drew) = W2 at hm1 hk4 hk5 hK2 ⊢
  have hm2 : Mod (fun b => b = D) W2 (W2.putObj D (.deferred none)) := by
   have := grownBy_putObj' W2 D (.deferred none)
   exact ⟨this.os, this.tape, this.output, this.size, fun k hk hne => this.block k hk (fun e => hne (by injection e))⟩
  have j4 := (hm2.blk hk4 (fun e => hD4 e.symm)).cell 0
  have j5 := (hm2.blk hk5 (fun e => hD5 e.symm)).cell 0
  simp at j4 j5
  have hm' : Mod (fun b => b = w.heap.size ∨ b = w.heap.size + 1 ∨ b = D) W (W2.putObj D (.deferred none)) := (hm1.mono (fun b h => .inl (h.elim .inl (fun h => .inr (.inl h))))).trans hm2 (fun b h => .inl (.inr (.inr h)))
  have hz := HSZ.out
  refine ⟨.tuple #[.slice A1 n1 c1, .slice A2 n2 c2], by simp [results, Tryz.f229, go_sem, j4, j5], (A1, n1, c1), (A2, n2, c2), rfl, ?_, ?_, HDB.out.mo.trans hm' (fun b hb => .inr (by rcases hb with rfl | rfl | rfl <;> omega))⟩
  ·rw [HRR.out]
   have := HDB.out.o1.mod hm' (fun b hb hf => by
    have h1 := HDB.out.t1 hb
    rcases hf with rfl | rfl | rfl
    ·omega
    ·omega
    ·exact hD2 _ h1.1)
   exact ⟨this.1, own_lower this.2 (by omega)⟩
  ·rw [HRR.out]
   have := HDB.out.o2.mod hm' (fun b hb hf => by
    have h1 := HDB.out.t2 hb
    rcases hf with rfl | rfl | rfl
    ·omega
    ·omega
    ·exact hD2 _ h1.1)
   exact ⟨this.1, own_lower this.2 (by omega)⟩
 case stop =>
  rintro D c pre W _ h _
  exact h.elim
end Go.Proofs.YtlcalajehnaenaaGreatDoor
namespace Go.Proofs.YtlcalajehnaenaaGreatDoor
open Go.RowKit Go.Shelf
attribute [local go_sem] Oper.semAt_some
def PartsAt (w : World) (P : Sl) (cs : List Int) : Prop := cs.length = P.2.1 ∧ RowT w 3 P.1 (cs.map (Value.int .i64))
theorem PartsAt.mod {w w' : World} {P : Sl} {cs : List Int} {F : Nat → Prop} (h : PartsAt w P cs) (m : Mod F w w') (hF : ∀ b, F b → ¬ Ty w b 3) : PartsAt w' P cs := ⟨h.1, h.2.mod m hF⟩
theorem PartsAt.all {w w' : World} {P : Sl} {cs : List Int} (h : PartsAt w P cs) (hb : Below w.heap.size w w') : PartsAt w' P cs := ⟨h.1, h.2.all hb⟩
theorem fdparts {w : World} {B b4 b5 : Nat} {Fc : Nat → Prop} {st : List Lot × List Lot} {V1 V2 : Sl} {U U' : World} {P : Sl} {cs : List Int} (h : DivB w B Fc b4 b5 st V1 V2 U) (hp : PartsAt U P cs) (m : Mod (FD b4 b5 B V1 V2 U) U U') : PartsAt U' P cs := hp.mod m (fun b hf ht => by
 rcases hf with rfl | rfl | hf | hf | hf
 ·exact absurd (h.c4.ty.unique ht) (by decide)
 ·exact absurd (h.c5.ty.unique ht) (by decide)
 ·exact absurd ((h.t1 hf).1.unique ht) (by decide)
 ·exact absurd ((h.t2 hf).1.unique ht) (by decide)
 ·exact hf.not_ty ht)
set_option maxRecDepth 100000 in
theorem take1_any (bp k : Nat) (cs : List Int) (cc : Int) (P : Sl) (w : World) (hb : Blk w bp 22 #[slV P]) (hp : PartsAt w P cs) (HC : Hid (cs[k]? = some cc)) :
 Calls Tryz.prog 228 #[.int .i64 (k : Int), .pointer (some ⟨bp, 0, none⟩)] w fun e w' => e = .returned (.int .i64 cc) ∧ w' = w := by
 obtain ⟨A, n, c⟩ := P
 obtain ⟨hl, hr⟩ := hp
 dsimp only at hl hr
 have hk : k < cs.length := (List.getElem?_eq_some_iff.1 HC.out).1
 obtain ⟨b, off, rfl, hbl, -, hc⟩ := hr.cells (by rw [List.length_map]; omega)
 have hc0 := hc k (by rw [List.length_map]; exact hk)
 rw [List.getElem?_map, HC.out, Option.map_some] at hc0
 have hkI : (k : Int) < (n : Int) := by omega
 have hk0 : (0 : Int) ≤ (k : Int) := by omega
 have b0 := hb.cell 0
 unfold slV at b0
 simp at b0
 clear hc hr hb
 go_enter Tryz.func228, Tryz.ntmps228
 go_wp2
 go_ret
 exact ⟨rfl, rfl⟩
def PIT (w : World) (B b4 b5 pL pC bp : Nat) (A : Option Addr) (n c : Nat) (ls : List Lot) (cs : List Int) (Pv : Sl) (R : World → Prop) (k : Nat) (wr : World) : Prop :=
 (∃ V1 V2 : Sl, DivB w B (fun _ => False) b4 b5 (divL [] [] (ls.take k) ((cs).take k)) V1 V2 wr) ∧ Blk wr pL 38 #[.slice A n c] ∧ Blk wr pC 61 #[.func (.func 228) #[] #[.pointer (some ⟨bp, 0, none⟩)]] ∧ (Blk wr bp 22 #[slV Pv] ∧ PartsAt wr Pv cs) ∧ R wr
set_option maxRecDepth 100000 in
set_option maxHeartbeats 8000000 in
theorem pieces1T_any (w : World) (B b4 b5 pL pC bp : Nat) (A : Option Addr) (n c : Nat) (ls : List Lot) (cs : List Int) (Pv : Sl) (l : Nat) (R : World → Prop) (HR : Hid (∀ W W', R W → KeepsFrom B W W' → R W'))
 (HL : Hid (LotsAt w A n c ls)) (HK : Hid (LotsOk ls)) (HC : Hid (CntOk ls (cs))) (hn : n ≤ 4096) (hbp : bp < w.heap.size) (hpl : w.heap.size ≤ pL ∧ pL < B ∧ w.heap.size ≤ pC ∧ pC < B ∧ pL ≠ b4 ∧ pL ≠ b5 ∧ pC ≠ b4 ∧ pC ≠ b5)
 (HY : Hid (∀ (st : List Lot × List Lot) (V1 V2 : Sl) (x : Lot × Bool) (U : World), DivB w B (fun _ => False) b4 b5 st V1 V2 U → R U → x.1.piece → V1.2.1 ≤ 5000 → V2.2.1 ≤ 5000 → YieldAt Fence.wide 4 Tryz.prog l #[.agg #[.int .i64 x.1.flow, .int .i64 x.1.at_, .int .i64 x.1.n], .bool x.2] U fun e W' => e = .returned (.bool true) ∧ (∃ V1' V2' : Sl, DivB w B (fun _ => False) b4 b5 (stpD st x) V1' V2' W') ∧ Mod (FD b4 b5 B V1 V2 U) U W' ∧ R W'))
 (W : World) (HI : Hid (PIT w B b4 b5 pL pC bp A n c ls cs Pv R 0 W)) :
 Calls Tryz.prog 262 #[.func (.yield l) #[] #[], .pointer (some ⟨pL, 0, none⟩), .pointer (some ⟨pC, 0, none⟩)] W fun e W' => (∃ v, e = .returned v) ∧ (∃ V1 V2 : Sl, DivB w B (fun _ => False) b4 b5 (divL [] [] ls (cs)) V1 V2 W') ∧ R W' := by
 have HLEN := Lib.hid (cntOk_len _ _ HC.out)
 obtain ⟨-, hp1, hp2, -⟩ := HI.out
 have p1 := hp1.cell 0
 have p2 := hp2.cell 0
 simp at p1 p2
 clear hp1 hp2
 go_enter Tryz.func262, Tryz.ntmps262
 go_wp2
 go_loopg [9] n (fun gk iv wr => ∃ k : Nat, k + gk = n ∧ iv = .int .i64 (k : Int) ∧ Hid (PIT w B b4 b5 pL pC bp A n c ls cs Pv R k wr))
 case atStart => exact ⟨0, by omega, rfl, HI⟩
 case round =>
  clear HI p1 p2
  obtain ⟨k, hk, rfl, HI⟩ := hrel
  have HHK := Lib.hid hk
  rcases Nat.lt_or_ge k n with hlt | hge
  ·have hltI : (k : Int) < (n : Int) := by omega
   have hk0 : (0 : Int) ≤ (k : Int) := by omega
   obtain ⟨⟨V1, V2, hD⟩, hpL, hpC, hJ, hRr⟩ := HI.out
   have hLw := HL.out.mod hD.mo (fun b hb => hb.elim)
   obtain ⟨b, off, rfl, -, -, lk, hlk, k0, k1, k2⟩ := hLw.at_ hlt
   have hcs : ∃ cc, (cs)[k]? = some cc := ⟨_, List.getElem?_eq_getElem (by rw [HLEN.out, HL.out.len]; exact hlt)⟩
   obtain ⟨cc, hcc⟩ := hcs
   obtain ⟨hc0, hc1⟩ := cntOk_get _ _ k lk cc HC.out hlk hcc
   have hok := HK.out lk (List.mem_of_getElem? hlk)
   have q1 := hpL.cell 0
   have q2 := hpC.cell 0
   simp at q1 q2
   obtain ⟨bx, hbx⟩ : ∃ bx, wr.heap.size = bx := ⟨_, rfl⟩
   have hba := (Below.refl wr.heap.size wr).alloc (Nat.le_refl _) (.cells #[.int .i64 lk.flow, .int .i64 lk.at_, .int .i64 lk.n] 163)
   have hbox := Blk.new wr 163 #[.int .i64 lk.flow, .int .i64 lk.at_, .int .i64 lk.n]
   have hlt6 := hD.lt
   have hws := hD.mo.size
   have HLT := Lib.hid (show B ≤ bx ∧ (∀ b, (slV V1).ownBlock = some b → b < bx) ∧ (∀ b, (slV V2).ownBlock = some b → b < bx) from ⟨by omega, fun b hb => by have := hD.t1 hb; omega, fun b hb => by have := hD.t2 hb; omega⟩)
   have HD1 := Lib.hid (hD.all hba)
   have HPL1 := Lib.hid (hpL.all hba)
   have HPC1 := Lib.hid (hpC.all hba)
   have HR1 := Lib.hid (HR.out _ _ hRr (keepsFrom_mod (F := fun _ => False) (Mod.of_below _ hba) (fun _ hf => hf.elim)))
   have HJ1 := Lib.hid (show Blk (wr.alloc (.cells #[.int .i64 lk.flow, .int .i64 lk.at_, .int .i64 lk.n] 163)) bp 22 #[slV Pv] ∧ PartsAt (wr.alloc (.cells #[.int .i64 lk.flow, .int .i64 lk.at_, .int .i64 lk.n] 163)) Pv cs from ⟨hJ.1.all hba, hJ.2.all hba⟩)
   have HLW1 := Lib.hid (hLw.all hba)
   have HBX1 := Lib.hid hbox
   have HLK := Lib.hid hlk
   have HCC := Lib.hid hcc
   have HOK := Lib.hid hok
   have HST := Lib.hid (show (divL [] [] (ls.take k) ((cs).take k)).1.length ≤ 4096 ∧ (divL [] [] (ls.take k) ((cs).take k)).2.length ≤ 4096 by
    obtain ⟨-, -, -, -, h5, h6⟩ := divL_facts (ls.take k) ((cs).take k) [] [] (HK.out.take k) (cntOk_take _ _ k HC.out) (fun _ h => absurd h (by simp)) (fun _ h => absurd h (by simp))
    have : (ls.take k).length ≤ k := by rw [List.length_take]; omega
    simp only [List.length_nil, Nat.zero_add] at h5 h6
    omega)
   clear hD hpL hpC hJ hRr hLw hba hbox hlt6 hws hlk hcc hok
   go_upto_region 3 with (fail)
   obtain ⟨W1, hW1⟩ : ∃ W1, W1 = wr.alloc (.cells #[.int .i64 lk.flow, .int .i64 lk.at_, .int .i64 lk.n] 163) := ⟨_, rfl⟩
   rw [← hW1] at HD1 HPL1 HPC1 HR1 HJ1 HLW1 HBX1 ⊢
   rw [hbx] at HBX1
   clear hW1 hbx q1 q2 k0 k1 k2
   have q2 := HPC1.out.cell 0
   simp at q2
   go_wp2_with fail
   refine (take1_any bp k cs cc Pv W1 HJ1.out.1 HJ1.out.2 HCC).mono ?_
   rintro e W2 ⟨rfl, hW2⟩
   subst hW2
   have HJ2 := HJ1
   have HD2 := HD1
   have HPL2 := HPL1
   have HPC2 := HPC1
   have HR2 := HR1
   have HBX2 := HBX1
   have HCC2 := HCC
   clear HD1 HPL1 HPC1 HR1 HJ1 HBX1 q2
   obtain ⟨f0, a0, m0⟩ := lk
   have hoks := HOK.out
   unfold Lot.ok MaxU at hoks
   dsimp only at hoks hc1
   have hw1 : IntKind.i64.wrap (a0 + cc) = a0 + cc := IntWalk.i64_in _ (by omega)
   have hw2 : IntKind.i64.wrap (m0 - cc) = m0 - cc := IntWalk.i64_in _ (by omega)
   have hp1 : (⟨f0, a0, cc⟩ : Lot).piece := by unfold Lot.piece MaxU; dsimp only; omega
   have hp2 : (⟨f0, a0 + cc, m0 - cc⟩ : Lot).piece := by unfold Lot.piece MaxU; dsimp only; omega
   have e0 := HBX2.out.cell 0
   have e1 := HBX2.out.cell 1
   have e2 := HBX2.out.cell 2
   simp at e0 e1 e2
   obtain ⟨fn, tmps, assign, body, hy1, hy2⟩ := HY.out _ V1 V2 (⟨f0, a0, cc⟩, true) W2 HD2.out HR2.out hp1 (by have := HD2.out.o1.1; have := HST.out.1; omega) (by have := HD2.out.o2.1; have := HST.out.2; omega)
   dsimp only at hy1
   clear hc0 hc1 hoks HCC2
   go_upto_region 4 with (fail)
   refine (wpIn_wide (n := 5)).1 ?_
   gi_wp2_with (first
    | (refine hz2.mono ?_; clear hz1 hz2; rintro e W4 ⟨rfl, ⟨V1'', V2'', hD4⟩, hM4, hR4⟩)
    | (refine hy2.mono ?_; clear hy1 hy2; rintro e W3 ⟨rfl, ⟨V1', V2', hD3⟩, hM3, hR3⟩; have hBX3 := hM3.blk HBX2.out (fdbox HD2.out HLT.out HBX2.out); have d0 := hBX3.cell 0; have d1 := hBX3.cell 1; have d2 := hBX3.cell 2; simp at d0 d1 d2; obtain ⟨fn', tmps', assign', body', hz1, hz2⟩ := HY.out _ V1' V2' (⟨f0, a0 + cc, m0 - cc⟩, false) W3 hD3 hR3 hp2 (by have h1 := hD3.o1.1; have h2 := HST.out.1; have h3 := (putL_len (divL [] [] (ls.take k) ((cs).take k)).1 ⟨f0, a0, cc⟩).2; simp only [stpD, if_true] at h1; omega) (by have h1 := hD3.o2.1; have h2 := HST.out.2; simp only [stpD, if_true] at h1; omega); dsimp only at hz1))
   have hstep : divL [] [] (ls.take (k + 1)) ((cs).take (k + 1)) = stpD (stpD (divL [] [] (ls.take k) ((cs).take k)) (⟨f0, a0, cc⟩, true)) (⟨f0, a0 + cc, m0 - cc⟩, false) := by
    have e1 : ls.take (k + 1) = ls.take k ++ [⟨f0, a0, m0⟩] := take_snoc HLK.out
    have e2 : (cs).take (k + 1) = (cs).take k ++ [cc] := take_snoc HCC.out
    rw [e1, e2, divL_snoc _ _ _ _ _ _ (by rw [List.length_take, List.length_take, HLEN.out])]
    rfl
   have hI4 : PIT w B b4 b5 pL pC bp (some ⟨b, off, none⟩) n c ls cs Pv R (k + 1) W4 := by
    have l2 := HD2.out.lt
    have f3 : ∀ {g t cs}, Blk W2 g t cs → g < B → g ≠ b4 → g ≠ b5 → Blk W4 g t cs := fun {g t cs} hg h1 h2 h3 => hM4.blk (hM3.blk hg (fdold HD2.out hg h1 h2 h3)) (fdold hD3 (hM3.blk hg (fdold HD2.out hg h1 h2 h3)) h1 h2 h3)
    exact ⟨⟨V1'', V2'', by rw [hstep]; exact hD4⟩, f3 HPL2.out (by omega) (by omega) (by omega), f3 HPC2.out (by omega) (by omega) (by omega), ⟨f3 HJ2.out.1 (by omega) (by omega) (by omega), fdparts hD3 (fdparts HD2.out HJ2.out.2 hM3) hM4⟩, hR4⟩
   have HI4 := Lib.hid hI4
   clear hstep hI4 hD3 hD4 hM3 hM4 hR3 hR4 hBX3 d0 d1 d2 e0 e1 e2 HBX2 HD2 HPL2 HPC2 HR2 HJ2 hw1 hw2 hp1 hp2 hk
   go_wp2
   go_roundg (n - (k + 1))
   case measure => have := HHK.out; omega
   case rel => exact ⟨k + 1, by have := HHK.out; omega, by go_num, HI4⟩
  ·obtain rfl : k = n := by omega
   have HF : Hid ((∃ V1 V2 : Sl, DivB w B (fun _ => False) b4 b5 (divL [] [] ls (cs)) V1 V2 wr) ∧ R wr) := Lib.hid (by
    obtain ⟨hD, -, -, -, hr⟩ := HI.out
    rw [List.take_of_length_le (by rw [HL.out.len]; exact Nat.le_refl _), List.take_of_length_le (by rw [HLEN.out, HL.out.len]; exact Nat.le_refl _)] at hD
    exact ⟨hD, hr⟩)
   go_wp2
   go_end0
   exact ⟨⟨_, rfl⟩, HF.out.1, HF.out.2⟩
end Go.Proofs.YtlcalajehnaenaaGreatDoor
namespace Go.Proofs.YtlcalajehnaenaaGreatDoor
open Go.RowKit Go.Shelf
attribute [local go_sem] Oper.semAt_some
def StDT (w : World) (B b4 b5 pL pC bp : Nat) (A : Option Addr) (n c : Nat) (ls : List Lot) (cs : List Int) (Pv : Sl) (s : StL) (W : World) : Prop :=
 match s.2 with
 | none => s.1 = ([], []) ∧ PIT w B b4 b5 pL pC bp A n c ls cs Pv (fun _ => True) 0 W
 | some none => ∃ V1 V2 : Sl, DivB w B (fun _ => False) b4 b5 s.1 V1 V2 W
 | some (some (V1, V2, U)) => (∃ V1' V2' : Sl, DivB w B (fun _ => False) b4 b5 s.1 V1' V2' W) ∧ Mod (FD b4 b5 B V1 V2 U) U W
def StDYT (w : World) (B b4 b5  : Nat) (s : StL) (x : Lot × Bool) (W : World) : Prop := ∃ (V1 V2 : Sl) (U : World), s.2 = some (some (V1, V2, U)) ∧ DivB w B (fun _ => False) b4 b5 s.1 V1 V2 W ∧ Mod (FD b4 b5 B V1 V2 U) U W ∧ x.1.piece ∧ V1.2.1 ≤ 5000 ∧ V2.2.1 ≤ 5000
theorem StDT.own {w : World} {B b4 b5 pL pC bp : Nat} {A : Option Addr} {n c : Nat} {ls : List Lot} {cs : List Int} {Pv : Sl} : OwnFrom B (StDT w B b4 b5 pL pC bp A n c ls cs Pv) := by
 rintro ⟨st, _ | _ | ⟨V1, V2, U⟩⟩ W W' row hs hg hr
 ·obtain ⟨h0, ⟨V1, V2, hD⟩, hpL, hpC, hJ, -⟩ := hs
  have k : Mod (fun b => row = some b) W W' := Mod.of_grown hg (fun g e => .inl e)
  have hn : ∀ {b t cs}, Blk W b t cs → ¬ row = some b := fun {b t cs} hb e => RecL.not_ty (B := B) (hr b e) hb.ty
  exact ⟨h0, ⟨V1, V2, hD.mod k (fun b e => .inr (hr b e))⟩, k.blk hpL (hn hpL), k.blk hpC (hn hpC), ⟨k.blk hJ.1 (hn hJ.1), hJ.2.mod k (fun b e ht => RecL.not_ty (B := B) (hr b e) ht)⟩, trivial⟩
 ·obtain ⟨V1, V2, hD⟩ := hs
  exact ⟨V1, V2, hD.mod (Mod.of_grown hg (fun g e => .inl e) : Mod (fun b => row = some b) W W') (fun b e => .inr (hr b e))⟩
 ·obtain ⟨⟨V1', V2', hD⟩, hM⟩ := hs
  exact ⟨⟨V1', V2', hD.mod (Mod.of_grown hg (fun g e => .inl e) : Mod (fun b => row = some b) W W') (fun b e => .inr (hr b e))⟩, FD.row hM hg hr⟩
theorem StDYT.own {w : World} {B b4 b5  : Nat} (x : Lot × Bool) : OwnFrom B (fun s => StDYT w B b4 b5  s x) := by
 rintro s W W' row ⟨V1, V2, U, hs, hD, hM, hx⟩ hg hr
 exact ⟨V1, V2, U, hs, hD.mod (Mod.of_grown hg (fun g e => .inl e) : Mod (fun b => row = some b) W W') (fun b e => .inr (hr b e)), FD.row hM hg hr, hx⟩
theorem pcs_stateT (w : World) (B b4 b5 pL pC bp : Nat) (A : Option Addr) (n c : Nat) (ls : List Lot) (cs : List Int) (Pv : Sl)
 (HL : Hid (LotsAt w A n c ls)) (HK : Hid (LotsOk ls)) (HC : Hid (CntOk ls (cs))) (hn : n ≤ 4096) (hbp : bp < w.heap.size) (hpl : w.heap.size ≤ pL ∧ pL < B ∧ w.heap.size ≤ pC ∧ pC < B ∧ pL ≠ b4 ∧ pL ≠ b5 ∧ pC ≠ b4 ∧ pC ≠ b5) :
 SeqState Fence.wide 5 Tryz.prog 262 #[.pointer (some ⟨pL, 0, none⟩), .pointer (some ⟨pC, 0, none⟩)] (fun x : Lot × Bool => #[.agg #[.int .i64 x.1.flow, .int .i64 x.1.at_, .int .i64 x.1.n], .bool x.2]) B
  (StDT w B b4 b5 pL pC bp A n c ls cs Pv) (fun s x => StDYT w B b4 b5  s x) (fun s x => (stpD s.1 x, s.2)) (fun _ _ _ => False) (([], []), none) (fun s => s.1 = divL [] [] ls (cs) ∧ s.2 = some none) := by
 intro l R Rx hR hY W h0 hR0
 obtain ⟨-, h1, h2, h3, h4, -⟩ := h0
 refine callsIn_wide.2 ((pieces1T_any w B b4 b5 pL pC bp A n c ls cs Pv l R (Lib.hid hR) HL HK HC hn hbp hpl (Lib.hid ?_) W (Lib.hid ⟨h1, h2, h3, h4, hR0⟩)).mono ?_)
 ·intro st V1 V2 x U hD hRU hx g1 g2
  have h := hY (st, some (some (V1, V2, U))) x U ⟨V1, V2, U, rfl, hD, Mod.refl _ _, hx, g1, g2⟩ hRU
  obtain ⟨fn, tmps, assign, body, hy, hr3⟩ := h
  refine ⟨fn, tmps, assign, body, hy, hr3.mono fun e W' hh => ?_⟩
  rcases hh with ⟨he, ⟨hD', hm'⟩, hr'⟩ | ⟨-, c, hx, -⟩
  ·exact ⟨he, hD', hm', hr'⟩
  ·exact hx.elim
 ·rintro e W' ⟨he, hD', hr⟩
  exact ⟨he, .inl ⟨(divL [] [] ls (cs), some none), ⟨rfl, rfl⟩, hD', hr⟩⟩
def DivPostT (r : List Lot × List Lot) (w : World) (e : Ending) (w' : World) : Prop :=
 ∃ V1 V2 : Sl, e = .returned (.tuple #[slV V1, slV V2]) ∧ LotsOwn w' w.heap.size V1.1 V1.2.1 V1.2.2 r.1 ∧ LotsOwn w' w.heap.size V2.1 V2.2.1 V2.2.2 r.2 ∧ Mod (fun _ => False) w w'
set_option maxRecDepth 100000 in
set_option maxHeartbeats 8000000 in
theorem divideT_any (bp : Nat) (A : Option Addr) (n c : Nat) (ls : List Lot) (cs : List Int) (Pv : Sl) (w : World)
 (HL : Hid (LotsAt w A n c ls)) (HK : Hid (LotsOk ls)) (HC : Hid (CntOk ls (cs))) (hn : n ≤ 4096) (hbp : bp < w.heap.size) (HJ : Hid (Blk w bp 22 #[slV Pv] ∧ PartsAt w Pv cs)) :
 Calls Tryz.prog 229 #[.slice A n c, .func (.func 228) #[] #[.pointer (some ⟨bp, 0, none⟩)]] w (DivPostT  (divL [] [] ls (cs)) w) := by
 refine (callsIn_wide (n := 6)).1 ?_
 refine callsIn_of_wp_marks Tryz.func229 rfl trivial ?_ rfl
 simp only [Tryz.ntmps229, List.size_toArray, List.length_cons, List.length_nil, Nat.reduceAdd, Nat.reduceSub, Array.replicate_succ, Array.replicate_zero, List.push_toArray, List.append_toArray, List.nil_append, List.cons_append]
 gi_wp2_with (refine ⟨trivial, ?_⟩; gi_at_call 250; refine (pieces_in _ _ _ _ _ _ _ _ rfl).mono ?_; rintro e w' ⟨rfl, rfl⟩)
 obtain ⟨W0, hW0⟩ : ∃ W0, (((w.alloc (.cells #[.slice none 0 0] 38)).alloc (.cells #[.slice none 0 0] 38)).alloc (.cells #[.slice A n c] 38)).alloc (.cells #[.func (.func 228) #[] #[.pointer (some ⟨bp, 0, none⟩)]] 61) = W0 := ⟨_, rfl⟩
 have hsz : W0.heap.size = w.heap.size + 4 := by rw [← hW0]; simp
 have hbw : Below w.heap.size w W0 := by
  rw [← hW0]
  exact ((((Below.refl _ w).alloc (Nat.le_refl _) _).alloc (by simp) _).alloc (by simp; omega) _).alloc (by simp; omega) _
 have hI0 : StDT w W0.heap.size w.heap.size (w.heap.size + 1) (w.heap.size + 2) (w.heap.size + 3) bp A n c ls cs Pv (([], []), none) W0 := by
  refine ⟨rfl, ⟨(none, 0, 0), (none, 0, 0), ?_, ?_, LotsOwn.nil _ _, LotsOwn.nil _ _, fun _ h => absurd h (by simp [divL]), fun _ h => absurd h (by simp [divL]), fun b hb => by simp [slV, Value.ownBlock] at hb, Mod.of_below _ hbw, by omega⟩, ?_, ?_, ⟨Blk.all HJ.out.1 hbw, HJ.out.2.all hbw⟩, trivial⟩
  ·rw [← hW0]
   exact Blk.alloc (Blk.alloc (Blk.alloc (Blk.new _ _ _) _) _) _
  ·rw [← hW0]
   have := Blk.alloc (Blk.alloc (Blk.new (w.alloc (.cells #[.slice none 0 0] 38)) 38 #[.slice none 0 0]) (.cells #[.slice A n c] 38)) (.cells #[.func (.func 228) #[] #[.pointer (some ⟨bp, 0, none⟩)]] 61)
   rw [World.size_alloc] at this
   exact this
  ·rw [← hW0]
   have := Blk.alloc (Blk.new ((w.alloc (.cells #[.slice none 0 0] 38)).alloc (.cells #[.slice none 0 0] 38)) 38 #[.slice A n c]) (.cells #[.func (.func 228) #[] #[.pointer (some ⟨bp, 0, none⟩)]] 61)
   rw [World.size_alloc, World.size_alloc] at this
   exact this
  ·rw [← hW0]
   have := Blk.new (((w.alloc (.cells #[.slice none 0 0] 38)).alloc (.cells #[.slice none 0 0] 38)).alloc (.cells #[.slice A n c] 38)) 61 #[.func (.func 228) #[] #[.pointer (some ⟨bp, 0, none⟩)]]
   rw [World.size_alloc, World.size_alloc, World.size_alloc] at this
   exact this
 rw [hW0]
 have HSZ := Lib.hid hsz
 have hpl : w.heap.size ≤ w.heap.size + 2 ∧ w.heap.size + 2 < W0.heap.size ∧ w.heap.size ≤ w.heap.size + 3 ∧ w.heap.size + 3 < W0.heap.size ∧ w.heap.size + 2 ≠ w.heap.size ∧ w.heap.size + 2 ≠ w.heap.size + 1 ∧ w.heap.size + 3 ≠ w.heap.size ∧ w.heap.size + 3 ≠ w.heap.size + 1 := by omega
 clear hsz hW0 hbw HJ
 refine range_state2 (β := StL) (α := Lot × Bool) rfl (by decide) (gf := 262) (lb := #[.pointer (some ⟨w.heap.size + 2, 0, none⟩), .pointer (some ⟨w.heap.size + 3, 0, none⟩)]) rfl trivial (enters_of Tryz.func262 (by kernel_rfl) rfl)
  (encs := fun x : Lot × Bool => #[.agg #[.int .i64 x.1.flow, .int .i64 x.1.at_, .int .i64 x.1.n], .bool x.2]) (fun _ => rfl)
  (StDT w W0.heap.size w.heap.size (w.heap.size + 1) (w.heap.size + 2) (w.heap.size + 3) bp A n c ls cs Pv) (fun s x => StDYT w W0.heap.size w.heap.size (w.heap.size + 1)  s x) (fun s x => (stpD s.1 x, s.2)) (fun _ _ _ => False) (([], []), none) (fun s => s.1 = divL [] [] ls (cs) ∧ s.2 = some none)
  (pcs_stateT w W0.heap.size w.heap.size (w.heap.size + 1) (w.heap.size + 2) (w.heap.size + 3) bp A n c ls cs Pv HL HK HC hn hbp hpl)
  StDT.own (fun x => StDYT.own x) (fun c s W W' row hs hg hr => hs) hI0
  (fun x => .cells #[.int .i64 x.1.flow, .int .i64 x.1.at_, .int .i64 x.1.n] 163)
  (fun x g => { tmps := #[.slice A n c, .func (.func 228) #[] #[.pointer (some ⟨bp, 0, none⟩)], undef, undef, .pointer (some ⟨w.heap.size, 0, none⟩), .pointer (some ⟨w.heap.size + 1, 0, none⟩), .pointer (some ⟨g, 0, none⟩), .bool x.2, .slice A n c, .func (.func 228) #[] #[.pointer (some ⟨bp, 0, none⟩)], .func (.func 262) #[] #[.pointer (some ⟨w.heap.size + 1 + 1, 0, none⟩), .pointer (some ⟨w.heap.size + 1 + 1 + 1, 0, none⟩)], .agg #[.int .i64 x.1.flow, .int .i64 x.1.at_, .int .i64 x.1.n], .bool x.2, undef, undef, undef, undef, undef, undef, undef, undef, undef], defers := [] }) ?assign ?body ?done ?stop
 case assign =>
  intro l x W K hK
  gi_wp2
  exact hK
 case body =>
  rintro l ⟨st, it⟩ ⟨x, first⟩ W g ⟨⟨A1, n1, c1⟩, ⟨A2, n2, c2⟩, U, hs, hD, hM, hp, hl1, hl2⟩ hg hgB
  dsimp only at hs hD hp hl1 hl2 hg
  have HD := Lib.hid hD
  have HM := Lib.hid hM
  have HP := Lib.hid hp
  have hbg : Blk W g 163 #[.int .i64 x.flow, .int .i64 x.at_, .int .i64 x.n] := hg
  have g0 := hbg.cell 0
  have g1 := hbg.cell 1
  have g2 := hbg.cell 2
  have c4 := hD.c4.cell 0
  have c5 := hD.c5.cell 0
  unfold slV at c4 c5
  simp at g0 g1 g2 c4 c5
  have HSS := Lib.hid hs
  clear hs hD hM hp hg hbg
  cases first
  ·gi_wp2_with fail
   refine ⟨trivial, ?_⟩
   refine (CallsIn.inRound l (callsIn_wide.2 (put_any W0.heap.size A2 n2 c2 st.2 x W (Lib.hid HD.out.o2) (Lib.hid HD.out.k2) HD.out.lt.2.2.2.2.2 HP.out (by omega)))).mono ?_
   rintro e w1 hPP
   obtain ⟨⟨A3, n3, c3⟩, rfl, hD', hM', hfz, hcc⟩ := HD.out.put2 HP.out hPP
   have HDN := Lib.hid hD'
   have HMN := Lib.hid (HM.out.trans hM' (fun b hb => .inl (hb.elim (fun e => .inr (.inl e)) (fun e => .inr (.inr (.inr (.inl e)))))))
   have HKF := Lib.hid (keepsFrom_mod (B := W0.heap.size) hM' (fun b hb => hb.elim (fun e => ⟨38, by rw [e]; exact HD.out.c5.ty⟩) (fun e => ⟨_, (HD.out.t2 e).1⟩)))
   unfold slV at hcc HDN HMN HKF ⊢
   dsimp only at hcc HDN HMN HKF ⊢
   clear hPP hD' hM' c4 c5 g0 g1 g2
   gi_wp2
   rw [HSS.out]
   exact ⟨HKF.out, ⟨_, _, HDN.out⟩, HMN.out⟩
  ·gi_wp2_with fail
   refine ⟨trivial, ?_⟩
   refine (CallsIn.inRound l (callsIn_wide.2 (put_any W0.heap.size A1 n1 c1 st.1 x W (Lib.hid HD.out.o1) (Lib.hid HD.out.k1) HD.out.lt.2.2.2.2.2 HP.out (by omega)))).mono ?_
   rintro e w1 hPP
   obtain ⟨⟨A3, n3, c3⟩, rfl, hD', hM', hfz, hcc⟩ := HD.out.put1 HP.out hPP
   have HDN := Lib.hid hD'
   have HMN := Lib.hid (HM.out.trans hM' (fun b hb => .inl (hb.elim (fun e => .inl e) (fun e => .inr (.inr (.inl e))))))
   have HKF := Lib.hid (keepsFrom_mod (B := W0.heap.size) hM' (fun b hb => hb.elim (fun e => ⟨38, by rw [e]; exact HD.out.c4.ty⟩) (fun e => ⟨_, (HD.out.t1 e).1⟩)))
   unfold slV at hcc HDN HMN HKF ⊢
   dsimp only at hcc HDN HMN HKF ⊢
   clear hPP hD' hM' c4 c5 g0 g1 g2
   gi_wp2
   rw [HSS.out]
   exact ⟨HKF.out, ⟨_, _, HDN.out⟩, HMN.out⟩
 case done =>
  rintro D ⟨st, it⟩ W hD ⟨hf1, hf2⟩ hI hK
  dsimp only at hf1 hf2
  subst hf2 hf1
  obtain ⟨⟨A1, n1, c1⟩, ⟨A2, n2, c2⟩, hDB⟩ := hI
  dsimp only at hDB
  have HDB := Lib.hid hDB
  have c4 := hDB.c4.cell 0
  have c5 := hDB.c5.cell 0
  have f4 := hDB.c4.frozen 0
  have f5 := hDB.c5.frozen 0
  unfold slV at c4 c5
  simp at c4 c5
  obtain ⟨r, hr⟩ : ∃ r, divL [] [] ls (cs) = r := ⟨_, rfl⟩
  rw [hr] at HDB
  have HRR := Lib.hid hr
  clear hDB hr
  gi_wp2
  gi_region
  gi_wp2
  have hD2 : ∀ t, ¬ Ty W D t := by
   rintro t ⟨cs, fr, hh⟩
   rw [hK] at hh
   cases hh
  have hD4 : D ≠ w.heap.size := by have := HSZ.out; omega
  have hD5 : D ≠ w.heap.size + 1 := by have := HSZ.out; omega
  have hK2 : (((W.setCell ⟨w.heap.size, 0, none⟩ (.slice A1 n1 c1)).setCell ⟨w.heap.size + 1, 0, none⟩ (.slice A2 n2 c2)).drew).heap[D]? = some (.deferred (some [])) := by
   show ((W.setCell ⟨w.heap.size, 0, none⟩ (.slice A1 n1 c1)).setCell ⟨w.heap.size + 1, 0, none⟩ (.slice A2 n2 c2)).heap[D]? = _
   rw [Below.heap_setCell _ _ _ _ hD5, Below.heap_setCell _ _ _ _ hD4]
   exact hK
  refine ⟨by simp, .inl ⟨_, _, rfl, run_takeDeferred hK2, ?_⟩⟩
  have hm1 : Mod (fun b => b = w.heap.size ∨ b = w.heap.size + 1) W (((W.setCell ⟨w.heap.size, 0, none⟩ (.slice A1 n1 c1)).setCell ⟨w.heap.size + 1, 0, none⟩ (.slice A2 n2 c2)).drew) := (((Mod.refl (fun b => b = w.heap.size ∨ b = w.heap.size + 1) W).set (p := ⟨w.heap.size, 0, none⟩) (.inl (.inl rfl)) _).set (p := ⟨w.heap.size + 1, 0, none⟩) (.inl (.inr rfl)) _).drew
  have hk4 : Blk (((W.setCell ⟨w.heap.size, 0, none⟩ (.slice A1 n1 c1)).setCell ⟨w.heap.size + 1, 0, none⟩ (.slice A2 n2 c2)).drew) w.heap.size 38 #[.slice A1 n1 c1] := Blk.far (Blk.set_ HDB.out.c4 0 (.slice A1 n1 c1)) (by simp) _
  have hk5 : Blk (((W.setCell ⟨w.heap.size, 0, none⟩ (.slice A1 n1 c1)).setCell ⟨w.heap.size + 1, 0, none⟩ (.slice A2 n2 c2)).drew) (w.heap.size + 1) 38 #[.slice A2 n2 c2] := Blk.set_ (Blk.far (p := ⟨w.heap.size, 0, none⟩) HDB.out.c5 (by simp) _) 0 (.slice A2 n2 c2)
  generalize (((W.setCell ⟨w.heap.size, 0, none⟩ (.slice A1 n1 c1)).setCell ⟨w.heap.size + 1, 0, none⟩ (.slice A2 n2 c2)).drew) = W2 at hm1 hk4 hk5 hK2 ⊢
  have hm2 : Mod (fun b => b = D) W2 (W2.putObj D (.deferred none)) := by
   have := grownBy_putObj' W2 D (.deferred none)
   exact ⟨this.os, this.tape, this.output, this.size, fun k hk hne => this.block k hk (fun e => hne (by injection e))⟩
  have j4 := (hm2.blk hk4 (fun e => hD4 e.symm)).cell 0
  have j5 := (hm2.blk hk5 (fun e => hD5 e.symm)).cell 0
  simp at j4 j5
  have hm' : Mod (fun b => b = w.heap.size ∨ b = w.heap.size + 1 ∨ b = D) W (W2.putObj D (.deferred none)) := (hm1.mono (fun b h => .inl (h.elim .inl (fun h => .inr (.inl h))))).trans hm2 (fun b h => .inl (.inr (.inr h)))
  have hz := HSZ.out
  refine ⟨.tuple #[.slice A1 n1 c1, .slice A2 n2 c2], by simp [results, Tryz.f229, go_sem, j4, j5], (A1, n1, c1), (A2, n2, c2), rfl, ?_, ?_, HDB.out.mo.trans hm' (fun b hb => .inr (by rcases hb with rfl | rfl | rfl <;> omega))⟩
  ·rw [HRR.out]
   have := HDB.out.o1.mod hm' (fun b hb hf => by
    have h1 := HDB.out.t1 hb
    rcases hf with rfl | rfl | rfl
    ·omega
    ·omega
    ·exact hD2 _ h1.1)
   exact ⟨this.1, own_lower this.2 (by omega)⟩
  ·rw [HRR.out]
   have := HDB.out.o2.mod hm' (fun b hb hf => by
    have h1 := HDB.out.t2 hb
    rcases hf with rfl | rfl | rfl
    ·omega
    ·omega
    ·exact hD2 _ h1.1)
   exact ⟨this.1, own_lower this.2 (by omega)⟩
 case stop =>
  rintro D c pre W _ h _
  exact h.elim
end Go.Proofs.YtlcalajehnaenaaGreatDoor
namespace Go.Proofs.YtlcalajehnaenaaGreatDoor
open Go.RowKit
theorem LotsAt.news {w : World} {A : Option Addr} {n c : Nat} {ls : List Lot} (h : LotsAt w A n c ls) : ∀ ad, A = some ad → ∀ j u, (ls.flatMap lotV)[j]? = some u → w.cell? (ad.add j) = some u := by
 intro ad e j u hu
 have hj : j < (ls.flatMap lotV).length := (List.getElem?_eq_some_iff.1 hu).1
 obtain ⟨b, off, e2, -, -, hc⟩ := h.2.2.2.cells (by omega)
 rw [e] at e2
 injection e2 with e2
 subst e2
 have e3 : (⟨b, off, none⟩ : Addr).add j = ⟨b, off + j, none⟩ := by simp [Addr.add]
 rw [e3, hc j hj, hu]
theorem LotsAt.nil0 {w : World} {n c : Nat} {ls : List Lot} (h : LotsAt w none n c ls) : n = 0 ∧ ls = [] := by
 have hl := h.1
 rcases ls with _ | ⟨x, ls⟩
 ·exact ⟨hl.symm, rfl⟩
 ·obtain ⟨b, off, e, -⟩ := h.2.2.2.cells (by simp [lotV])
  cases e
theorem lots_one (ls : List Lot) : ∀ u ∈ ls.flatMap lotV, u.oneCell' = true := by
 intro u hu
 rw [List.mem_flatMap] at hu
 obtain ⟨l, -, hu⟩ := hu
 simp only [lotV, List.mem_cons, List.not_mem_nil, or_false] at hu
 rcases hu with rfl | rfl | rfl <;> rfl
set_option maxRecDepth 100000 in
theorem cloneL_any (A : Option Addr) (n c : Nat) (ls : List Lot) (w : World) (HL : Hid (LotsAt w A n c ls)) (hn : n ≤ 1000000) :
 Calls Tryz.prog 188 #[.slice A n c] w fun e w' => ∃ A' c', e = .returned (.slice A' n c') ∧ LotsOwn w' w.heap.size A' n c' ls ∧ Below w.heap.size w w' := by
 rcases A with _ | ad
 ·obtain ⟨rfl, rfl⟩ := HL.out.nil0
  have hq := Lib.run_eql_slice_nil (P := Tryz.prog) w 38 163 none 0 c 0 0 Tryz.underlying38
  go_enter Tryz.func188, Tryz.ntmps188
  go_wp2
  go_ret
  exact ⟨none, 0, rfl, LotsOwn.nil _ _, Below.refl _ _⟩
 ·have hB := (Below.refl w.heap.size w).alloc (Nat.le_refl _) (.cells #[] 163)
  obtain ⟨A', c', w', hap, hown, hb⟩ := app_cells (w := w.alloc (.cells #[] 163)) (base := w.heap.size) (ty := 38) slT_lots (World.ownsRow_made w #[] 0 (Nat.le_refl _) (by decide) rfl) (some ad) n c (ls.flatMap lotV) (by rw [flatT_length lotV 3 lotV_len, HL.out.1]) (by intro h; cases h) (HL.out.all hB).news (lots_one ls) (by omega) (by decide) (by simp)
  simp only [Nat.zero_add, List.nil_append] at hap hown
  have HA := Lib.hid hap
  have HO := Lib.hid hown
  have HB : Hid (Below w.heap.size w w') := Lib.hid (hB.trans hb)
  clear hap hown hb hB
  have hq := Lib.run_eql_slice_nil (P := Tryz.prog) w 38 163 (some ad) n c 0 0 Tryz.underlying38
  go_enter Tryz.func188, Tryz.ntmps188
  go_wp2_with (at_builtin; refine wpList_append_run HA.out rfl rfl rfl rfl ?_)
  go_ret
  exact ⟨A', c', rfl, ⟨HL.out.1, HO.out⟩, HB.out⟩
theorem put_keep {w w' wz : World} {A : Option Addr} {n c gx : Nat} {ls : List Lot} {f a m : Value} (hm : Mod (fun b => (Value.slice A n c).ownBlock = some b) w w') (ho : LotsOwn w wz.heap.size A n c ls) (hg : gx < wz.heap.size) (hw : gx < w.heap.size) (hk : w.cell? ⟨gx, 0, none⟩ = some f ∧ w.cell? ⟨gx, 1, none⟩ = some a ∧ w.cell? ⟨gx, 2, none⟩ = some m) :
 w'.cell? ⟨gx, 0, none⟩ = some f ∧ w'.cell? ⟨gx, 1, none⟩ = some a ∧ w'.cell? ⟨gx, 2, none⟩ = some m := by
 have hb := hm.block gx hw (fun e => by have := (ho.2.lt gx e).1; omega)
 obtain ⟨h0, h1, h2⟩ := hk
 exact ⟨(World.cell?_of_block (w := w) hb).trans h0, (World.cell?_of_block (w := w) hb).trans h1, (World.cell?_of_block (w := w) hb).trans h2⟩
def PutAll (ls' : List Lot) (w : World) (e : Ending) (w' : World) : Prop := ∃ A' n' c', e = .returned (.slice A' n' c') ∧ LotsOwn w' w.heap.size A' n' c' ls' ∧ Below w.heap.size w w'
set_option maxRecDepth 100000 in
set_option maxHeartbeats 4000000 in
theorem putAll_any (A : Option Addr) (n c : Nat) (ls : List Lot) (x : Lot) (w : World) (HL : Hid (LotsAt w A n c ls)) (HK : Hid (LotsOk ls)) (HX1 : Hid x.ok) (hn : n ≤ 4096) :
 Calls Tryz.prog 158 #[.slice A n c, .agg #[.int .i64 x.flow, .int .i64 x.at_, .int .i64 x.n]] w (PutAll (putL ls x) w) := by
 obtain ⟨f, a, m⟩ := x
 have HX : Hid ((⟨f, a, m⟩ : Lot).piece) := Lib.hid (by have := HX1.out; unfold Lot.ok at this; unfold Lot.piece; omega)
 obtain ⟨gx, hgx⟩ : ∃ gx, w.heap.size = gx := ⟨_, rfl⟩
 have hba := (Below.refl w.heap.size w).alloc (Nat.le_refl _) (.cells #[.int .i64 f, .int .i64 a, .int .i64 m] 163)
 have hbx := Blk.new w 163 #[.int .i64 f, .int .i64 a, .int .i64 m]
 rw [hgx] at hbx
 have HBA := Lib.hid hba
 have HBX := Lib.hid hbx
 have HL1 := Lib.hid (HL.out.all hba)
 have HGW := Lib.hid hgx
 go_enter Tryz.func158, Tryz.ntmps158
 clear hba hbx
 go_upto_region 1 with (fail)
 obtain ⟨w1, hw1⟩ : ∃ w1, w1 = w.alloc (.cells #[.int .i64 f, .int .i64 a, .int .i64 m] 163) := ⟨_, rfl⟩
 rw [← hw1] at HBA HBX HL1 ⊢
 clear hw1 hgx
 go_wp2_with fail
 refine (valid_any A n c ls w1 HL1 HK hn).mono ?_
 rintro e w2 ⟨rfl, hb2⟩
 have HB2 := Lib.hid (bt HBA.out hb2)
 have HBX2 := Lib.hid (HBX.out.all hb2)
 have HL2 := Lib.hid (HL1.out.all hb2)
 have k0 := HBX2.out.cell 0
 have k1 := HBX2.out.cell 1
 have k2 := HBX2.out.cell 2
 simp at k0 k1 k2
 clear hb2 HBX HL1
 go_wp2_with fail
 refine (poss_any ⟨f, a, m⟩ w2 HX1.out).mono ?_
 rintro e wz ⟨rfl, hbz⟩
 have HBz := Lib.hid (bt HB2.out hbz)
 have HBXz := HBX2.out.all hbz
 have HLz := Lib.hid (HL2.out.all hbz)
 have HGX := Lib.hid (Blk.lt HBXz)
 clear k0 k1 k2
 have k0 := HBXz.cell 0
 have k1 := HBXz.cell 1
 have k2 := HBXz.cell 2
 simp at k0 k1 k2
 clear HBXz hbz
 go_upto_region 3 with (fail)
 refine wp_region_held_drew (S := (fun y => y.cell? ⟨gx, 0, none⟩ = some (.int .i64 f) ∧ y.cell? ⟨gx, 1, none⟩ = some (.int .i64 a) ∧ y.cell? ⟨gx, 2, none⟩ = some (.int .i64 m))) (by kernel_rfl) ⟨k0, k1, k2⟩ (fun hHeld => ?_)
 refine takeJ 0 (some 13) ?_
 refine takeJ 2 (some 15) ?_
 refine wpAnyH_ready (rs := [1]) (by kernel_rfl) (by simp) ?_
 refine AllReadyH.cons rfl (fun K hK => ?_) AllReadyH.nil
 go_simp
 go_at_call 188
 (refine (cloneL_any A n c ls _ (Lib.hid (HLz.out.all (Below.refl _ wz).drew)) (by omega)).mono ?_)
 rintro e w3 ⟨A3, c3, rfl, ho3, hb3⟩
 have HO3 := Lib.hid ho3
 have HB3 := Lib.hid hb3
 have HZ3 := Lib.hid (show gx < w3.heap.size by have := HB3.out.size; have := HGX.out; have h2 : wz.drew.heap.size = wz.heap.size := rfl; omega)
 have k3 : w3.cell? ⟨gx, 0, none⟩ = some (.int .i64 f) ∧ w3.cell? ⟨gx, 1, none⟩ = some (.int .i64 a) ∧ w3.cell? ⟨gx, 2, none⟩ = some (.int .i64 m) := ⟨(HB3.out.cell (p := ⟨gx, 0, none⟩) HGX.out).trans k0, (HB3.out.cell (p := ⟨gx, 1, none⟩) HGX.out).trans k1, (HB3.out.cell (p := ⟨gx, 2, none⟩) HGX.out).trans k2⟩
 clear ho3 hb3
 go_wp2
 refine hK.out _ _ ?_ (fun hH => ?_)
 ·exact k3
 clear hK K
 try simp only [Act.put, pB, pC, pD]
 refine wpAnyH_ready (rs := [3]) (by kernel_rfl) (by simp) ?_
 refine AllReadyH.cons rfl (fun K hK => ?_) AllReadyH.nil
 go_simp
 go_at_call 193
 (refine (put_any wz.heap.size A3 n c3 ls ⟨f, a, m⟩ w3 HO3 HK (by have := HB3.out.size; have h2 : wz.drew.heap.size = wz.heap.size := rfl; omega) HX.out (by omega)).mono ?_)
 rintro e w4 ⟨A4, n4, c4, rfl, ho4, hm4, hn4⟩
 have HO4 := Lib.hid ho4
 have HB4 := Lib.hid (Mod.below (B := wz.heap.size) (bt (Below.refl wz.heap.size wz).drew HB3.out) hm4 (by have := HB3.out.size; have h2 : wz.drew.heap.size = wz.heap.size := rfl; omega) (fun b hb => (HO3.out.2.lt b hb).1))
 have k4 := put_keep hm4 HO3.out HGX.out HZ3.out k3
 clear ho4 hm4 hn4
 go_wp2
 refine hK.out _ _ ?_ (fun hH => ?_)
 ·exact k4
 clear hK K
 try simp only [Act.put, pB, pC, pD]
 refine takeJ 4 (some 4) ?_
 refine wpAnyH_done (by kernel_rfl) ?_ _
 have HF : Hid (PutAll (putL ls ⟨f, a, m⟩) w (.returned (.slice A4 n4 c4)) w4) := Lib.hid ⟨A4, n4, c4, rfl, ⟨HO4.out.1, own_lower HO4.out.2 (HBz.out.size)⟩, bt HBz.out HB4.out⟩
 clear k0 k1 k2 k3 k4
 go_wp2
 go_ret
 exact HF.out
end Go.Proofs.YtlcalajehnaenaaGreatDoor
