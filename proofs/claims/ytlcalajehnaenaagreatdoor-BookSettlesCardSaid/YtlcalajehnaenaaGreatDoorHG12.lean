/- package lexer: the iterator of tokens, for whatever text whose tokens are told. -/
import Derived.Test.YtlcalajehnaenaaGreatDoorHG11
import Derived.Test.YtlcalajehnaenaaGreatDoorHG2
import Derived.Deep.DeepCutAuto
import Derived.StillTailTactics
import Derived.Test.YtlcalajehnaenaaGreatDoorHG10
import Derived.Test.YtlcalajehnaenaaGreatDoorHG0
import Derived.StringKeys
import Derived.Laws.EntriesVeiled
namespace Go.Proofs.YtlcalajehnaenaaGreatDoor
open Go.RowKit
structure Tk where
 kind : Int
 text : ByteArray
 n : Int
 at_ : Int
def tkV (t : Tk) : List Value := [.int .i64 t.kind, .string t.text, .int .i64 t.n, .int .i64 t.at_]
theorem tkV_len (t : Tk) : (tkV t).length = 4 := rfl
def tkA (t : Tk) : Value := .agg #[.int .i64 t.kind, .string t.text, .int .i64 t.n, .int .i64 t.at_]
def LxS (s : ByteArray) (a p : Int) : Prop := ∀ w, KL w → Calls Tryz.prog 166 #[.string s, .int .i64 a] w fun e w' => e = .returned (.int .i64 p) ∧ Below w.heap.size w w'
def LxP (s : ByteArray) : Int → List Tk → Prop
 | p, [] => p = s.size
 | p, t :: ts => p < s.size ∧ (∀ w, KL w → Calls Tryz.prog 167 #[.string s, .int .i64 p] w fun e w' => e = .returned (.tuple #[tkA t, .int .i64 0]) ∧ Below w.heap.size w w') ∧ IntKind.i64.wrap (p + (t.text.size : Int)) = p + (t.text.size : Int) ∧ ∃ p', LxS s (p + (t.text.size : Int)) p' ∧ LxP s p' ts
structure TokV (w : World) (B b5 pS : Nat) (s : ByteArray) (ts : List Tk) (V : Sl) (W : World) : Prop where
 c5 : Blk W b5 118 #[slV V]
 own : W.ownsRow w.heap.size 170 4 (slV V) ts.length (ts.flatMap tkV)
 ps : Blk W pS 9 #[.string s]
 kl : KL W
 mo : Below w.heap.size w W
 r2 : Blk W w.heap.size 118 #[.slice none 0 0]
 r3 : Blk W (w.heap.size + 1) 3 #[.int .i64 0]
 r4 : Blk W (w.heap.size + 2) 33 #[.int .i64 0]
 k0 : 1 < w.heap.size
 lt : w.heap.size ≤ b5 ∧ b5 < B ∧ w.heap.size ≤ pS ∧ pS < B ∧ B ≤ W.heap.size ∧ pS ≠ b5
def FT (b5 B : Nat) (V : Sl) (U : World) (b : Nat) : Prop := b = b5 ∨ (slV V).ownBlock = some b ∨ RecL B U b
section
variable {w : World} {B b5 pS : Nat} {s : ByteArray} {ts : List Tk} {V : Sl} {W W' : World} {F : Nat → Prop}
theorem TokV.mod (h : TokV w B b5 pS s ts V W) (m : Mod F W W') (hF : ∀ b, F b → w.heap.size ≤ b ∧ b ≠ b5 ∧ b ≠ pS ∧ (slV V).ownBlock ≠ some b ∧ b ≠ 1 ∧ b ≠ w.heap.size ∧ b ≠ w.heap.size + 1 ∧ b ≠ w.heap.size + 2) : TokV w B b5 pS s ts V W' :=
 ⟨m.blk h.c5 (fun hf => (hF _ hf).2.1 rfl), m.own h.own (fun _ hg hf => (hF _ hf).2.2.2.1 hg), m.blk h.ps (fun hf => (hF _ hf).2.2.1 rfl), h.kl.mod m (fun hf => (hF _ hf).2.2.2.2.1 rfl), m.below h.mo h.mo.size (fun _ hf => (hF _ hf).1), m.blk h.r2 (fun hf => (hF _ hf).2.2.2.2.2.1 rfl), m.blk h.r3 (fun hf => (hF _ hf).2.2.2.2.2.2.1 rfl), m.blk h.r4 (fun hf => (hF _ hf).2.2.2.2.2.2.2 rfl), h.k0, h.lt.1, h.lt.2.1, h.lt.2.2.1, h.lt.2.2.2.1, Nat.le_trans h.lt.2.2.2.2.1 m.size, h.lt.2.2.2.2.2⟩
theorem TokV.all (h : TokV w B b5 pS s ts V W) (hb : Below W.heap.size W W') : TokV w B b5 pS s ts V W' := h.mod (F := fun _ => False) (Mod.of_below _ hb) (fun _ hf => hf.elim)
theorem KL.cells (h : KL W) : ∃ c t fr, W.heap[1]? = some (.cells c t fr) := by
 have hc := h 97 3 (kd_letter (by decide) (by decide))
 unfold World.cell? at hc
 cases hh : W.heap[1]? with
 | none => simp [hh] at hc
 | some o =>
   cases o with
   | cells c t fr => exact ⟨c, t, fr, rfl⟩
   | _ => simp [hh] at hc
theorem RecL.ne {b : Nat} {t : TypeId} {c : Array Value} (h : RecL B W b) {g : Nat} (hb : Blk W g t c) : b ≠ g := fun e => h.not_ty (by rw [e]; exact hb.ty)
theorem TokV.row (h : TokV w B b5 pS s ts V W) {row : Option Nat} (hg : W.grownBy W' row) (hr : ∀ r, row = some r → B ≤ r ∧ ∃ o : Obj, W.heap[r]? = some o ∧ o.isCells = false) : TokV w B b5 pS s ts V W' := by
 refine h.mod (Mod.of_grown hg (fun g e => .inl e) : Mod (fun b => row = some b) W W') (fun b e => ?_)
 have hR : RecL B W b := hr b e
 have hR2 := hR
 obtain ⟨hB, o, ho, hoc⟩ := hR2
 refine ⟨?_, RecL.ne hR h.c5, RecL.ne hR h.ps, fun hv => hR.not_ty (Ty.of_own h.own hv), fun e0 => ?_, RecL.ne hR h.r2, RecL.ne hR h.r3, RecL.ne hR h.r4⟩
 ·have := h.lt
  omega
 ·obtain ⟨c, t, fr, hk⟩ := h.kl.cells
  rw [e0, hk] at ho
  injection ho with ho
  rw [← ho] at hoc
  cases hoc
end
theorem slT_tok : SlT Tryz.prog 118 170 4 40 := SlT.of Tryz.underlying118 (by kernel_rfl) (by decide)
theorem TokV.push {w : World} {B b5 pS : Nat} {s : ByteArray} {ts : List Tk} {V : Sl} {W : World} (h : TokV w B b5 pS s ts V W) (x : Tk) (hn : ts.length < 100000) (h5 : b5 ≠ w.heap.size ∧ b5 ≠ w.heap.size + 1 ∧ b5 ≠ w.heap.size + 2) (ty : TypeId) :
 ∃ (g5 cp : Nat) (W5 : World), (Builtin.append_ #[118, 118] ty #[slV V, .slice (some ⟨W.heap.size, 0, none⟩) 1 1]).run Tryz.prog (W.alloc (.cells #[.int .i64 x.kind, .string x.text, .int .i64 x.n, .int .i64 x.at_] 170)) = .ok (.slice (some ⟨g5, 0, none⟩) (ts.length + 1) cp) W5 ∧
  W5.cell? ⟨b5, 0, none⟩ = some (slV V) ∧ W5.frozen? ⟨b5, 0, none⟩ = false ∧ TokV w B b5 pS s (ts ++ [x]) (some ⟨g5, 0, none⟩, ts.length + 1, cp) (W5.setCell ⟨b5, 0, none⟩ (.slice (some ⟨g5, 0, none⟩) (ts.length + 1) cp)) ∧
  Mod (fun b => b = b5 ∨ (slV V).ownBlock = some b) W (W5.setCell ⟨b5, 0, none⟩ (.slice (some ⟨g5, 0, none⟩) (ts.length + 1) cp)) := by
 have hba := (Below.refl W.heap.size W).alloc (Nat.le_refl _) (.cells #[.int .i64 x.kind, .string x.text, .int .i64 x.n, .int .i64 x.at_] 170)
 have hz := h.all hba
 obtain ⟨g5, cp, W5, hrun, hown, hg, hnew⟩ := run_append1b (ty := ty) slT_tok hz.own (Blk.new W 170 #[.int .i64 x.kind, .string x.text, .int .i64 x.n, .int .i64 x.at_]) rfl (by simp; exact ⟨rfl, rfl, rfl, rfl⟩) (by omega) (by decide) hz.mo.size
 have m1 : Mod (fun b => (slV V).ownBlock = some b) W W5 := (Mod.of_below _ hba).trans (Mod.of_grown hg (fun g e => .inl e)) (fun b hb => .inl hb)
 have hty : ∀ b t, (slV V).ownBlock = some b → Ty W b t → t = 170 := fun b t hb ht => ht.unique (Ty.of_own h.own hb)
 have hb5 : Blk W5 b5 118 #[slV V] := m1.blk h.c5 (fun e => absurd (hty _ _ e h.c5.ty) (by decide))
 have m2 : Mod (fun b => b = b5) W5 (W5.setCell ⟨b5, 0, none⟩ (.slice (some ⟨g5, 0, none⟩) (ts.length + 1) cp)) := (Mod.refl (fun b => b = b5) W5).set (.inl rfl) _
 have m : Mod (fun b => b = b5 ∨ (slV V).ownBlock = some b) W (W5.setCell ⟨b5, 0, none⟩ (.slice (some ⟨g5, 0, none⟩) (ts.length + 1) cp)) := (m1.mono (fun b hb => .inl (.inr hb))).trans m2 (fun b hb => .inl (.inl hb))
 have hno : ∀ {g : Nat} {t : TypeId} {c : Array Value}, Blk W g t c → t ≠ 170 → g ≠ b5 → ¬ (g = b5 ∨ (slV V).ownBlock = some g) := by
  rintro g t c hb ht hne (e | e)
  ·exact hne e
  ·exact ht (hty _ _ e hb.ty)
 have hset := hb5.set_ 0 (.slice (some ⟨g5, 0, none⟩) (ts.length + 1) cp)
 simp only [List.setIfInBounds_toArray, List.set_cons_zero] at hset
 obtain ⟨l1, l2, l3, l4, l5, l6⟩ := h.lt
 refine ⟨g5, cp, W5, hrun, hb5.cell 0, hb5.frozen 0, ⟨hset, ?_, m.blk h.ps (hno h.ps (by decide) l6), h.kl.mod m ?_, ?_, m.blk h.r2 (hno h.r2 (by decide) (fun e => h5.1 e.symm)), m.blk h.r3 (hno h.r3 (by decide) (fun e => h5.2.1 e.symm)), m.blk h.r4 (hno h.r4 (by decide) (fun e => h5.2.2 e.symm)), h.k0, l1, l2, l3, l4, Nat.le_trans l5 m.size, l6⟩, m⟩
 ·have e1 : (ts ++ [x]).length = ts.length + 1 := by simp
  rw [e1, List.flatMap_append]
  exact m2.own hown (fun g' hg' e' => by
   have ht := Ty.of_own hown hg'
   rw [e'] at ht
   exact absurd (ht.unique hb5.ty) (by decide))
 ·rintro (e | e)
  ·have := h.k0
   omega
  ·have := (h.own.lt _ e).1
   have := h.k0
   omega
 ·exact m.below h.mo h.mo.size (fun b hb => hb.elim (fun e => by omega) (fun e => (h.own.lt b e).1))
abbrev StT := List Tk × Option (Option (Sl × World))
def StI (w : World) (B b5 pS : Nat) (s : ByteArray) (st : StT) (W : World) : Prop :=
 match st.2 with
 | none => st.1 = [] ∧ ∃ V, TokV w B b5 pS s [] V W
 | some none => ∃ V, TokV w B b5 pS s st.1 V W
 | some (some (V, U)) => (∃ V', TokV w B b5 pS s st.1 V' W) ∧ Mod (FT b5 B V U) U W
def StJ (w : World) (B b5 pS : Nat) (s : ByteArray) (st : StT) (_x : Tk) (W : World) : Prop := ∃ (V : Sl) (U : World), st.2 = some (some (V, U)) ∧ TokV w B b5 pS s st.1 V W ∧ Mod (FT b5 B V U) U W ∧ st.1.length < 100000
theorem FT.row {b5 B : Nat} {V : Sl} {U W W' : World} {row : Option Nat} (h : Mod (FT b5 B V U) U W) (hg : W.grownBy W' row) (hr : ∀ r, row = some r → B ≤ r ∧ ∃ o : Obj, W.heap[r]? = some o ∧ o.isCells = false) : Mod (FT b5 B V U) U W' := by
 refine ⟨hg.os.trans h.os, hg.tape.trans h.tape, hg.output.trans h.output, Nat.le_trans h.size hg.size, fun k hk hF => ?_⟩
 have h1 := h.block k hk hF
 refine (hg.block k (Nat.lt_of_lt_of_le hk h.size) (fun e => ?_)).trans h1
 obtain ⟨hB, o, ho, hoc⟩ := hr k e.symm
 rw [h1] at ho
 exact hF (.inr (.inr ⟨hB, o, ho, hoc⟩))
theorem StI.own {w : World} {B b5 pS : Nat} {s : ByteArray} : OwnFrom B (StI w B b5 pS s) := by
 rintro ⟨st, _ | _ | ⟨V, U⟩⟩ W W' row hs hg hr
 ·obtain ⟨h0, V, hV⟩ := hs
  exact ⟨h0, V, hV.row hg hr⟩
 ·obtain ⟨V, hV⟩ := hs
  exact ⟨V, hV.row hg hr⟩
 ·obtain ⟨⟨V', hV⟩, hM⟩ := hs
  exact ⟨⟨V', hV.row hg hr⟩, FT.row hM hg hr⟩
theorem StJ.own {w : World} {B b5 pS : Nat} {s : ByteArray} (x : Tk) : OwnFrom B (fun st => StJ w B b5 pS s st x) := by
 rintro st W W' row ⟨V, U, hs, hV, hM, hl⟩ hg hr
 exact ⟨V, U, hs, hV.row hg hr, FT.row hM hg hr, hl⟩
set_option maxRecDepth 100000 in
set_option maxHeartbeats 4000000 in
theorem all1_any (w : World) (B b5 pS : Nat) (s : ByteArray) (toks : List Tk) (p0 : Int) (l : Nat) (R : World → Prop) (HR : Hid (∀ W W', R W → KeepsFrom B W W' → R W'))
 (HS : Hid (LxS s 0 p0)) (HP : Hid (LxP s p0 toks))
 (HY : Hid (∀ (st : List Tk) (V : Sl) (x : Tk) (U : World), TokV w B b5 pS s st V U → st.length < 100000 → R U → YieldAt Fence.wide 4 Tryz.prog l #[tkA x, .int .i64 0] U fun e W' => e = .returned (.bool true) ∧ (∃ V', TokV w B b5 pS s (st ++ [x]) V' W') ∧ Mod (FT b5 B V U) U W' ∧ R W'))
 (hlen : toks.length < 100000) (W : World) (HI : Hid (∃ V, TokV w B b5 pS s [] V W)) (HR0 : Hid (R W)) :
 Calls Tryz.prog 165 #[.func (.yield l) #[] #[], .pointer (some ⟨pS, 0, none⟩)] W fun e W' => (∃ v, e = .returned v) ∧ (∃ V, TokV w B b5 pS s toks V W') ∧ R W' := by
 obtain ⟨V0, hV0⟩ := HI.out
 have c0 : W.cell? ⟨pS, 0, none⟩ = some (.string s) := hV0.ps.cell 0
 have HSK := Lib.hid (HS.out W hV0.kl)
 have HV0 := Lib.hid hV0
 clear hV0
 go_enter Tryz.func165, Tryz.ntmps165
 go_wp2_with fail
 clear c0
 refine HSK.out.mono ?_
 rintro e W1 ⟨rfl, hb1⟩
 have HV1 := Lib.hid (HV0.out.all hb1)
 have HR1 := Lib.hid (HR.out _ _ HR0.out (keepsFrom_mod (F := fun _ => False) (Mod.of_below _ hb1) (fun _ hf => hf.elim)))
 clear hb1
 go_wp2_with fail
 go_loopg [3] (toks.length + 1) (fun gk iv wr => ∃ (dn ts : List Tk) (p : Int) (V : Sl), ts.length + 1 = gk ∧ iv = .int .i64 p ∧ Hid (dn ++ ts = toks) ∧ Hid (LxP s p ts) ∧ Hid (TokV w B b5 pS s dn V wr) ∧ Hid (R wr))
 case atStart => exact ⟨[], toks, p0, V0, rfl, rfl, Lib.hid rfl, HP, HV1, HR1⟩
 case round =>
  obtain ⟨dn, ts, p, V, hgk, rfl, HDT, HLP, HV, HRr⟩ := hrel
  have HGK := Lib.hid hgk
  clear hgk HV1 HR1
  have c0 : wr.cell? ⟨pS, 0, none⟩ = some (.string s) := HV.out.ps.cell 0
  cases ts with
  | nil =>
    have hp : p = s.size := HLP.out
    subst hp
    have HF : Hid ((∃ V, TokV w B b5 pS s toks V wr) ∧ R wr) := Lib.hid ⟨⟨V, by have := HDT.out; rw [List.append_nil] at this; rw [← this]; exact HV.out⟩, HRr.out⟩
    go_wp2
    go_end0
    exact ⟨⟨_, rfl⟩, HF.out.1, HF.out.2⟩
  | cons t ts =>
    obtain ⟨hlt, hnx, hwr, p', hsk, hlp⟩ := HLP.out
    have HNX := Lib.hid (hnx wr HV.out.kl)
    have HSKP := Lib.hid hsk
    have HLP2 := Lib.hid hlp
    clear hnx hsk hlp
    go_wp2_with fail
    refine HNX.out.mono ?_
    rintro e W2 ⟨rfl, hb2⟩
    have hv2 := HV.out.all hb2
    have hr2 := HR.out _ _ HRr.out (keepsFrom_mod (F := fun _ => False) (Mod.of_below _ hb2) (fun _ hf => hf.elim))
    obtain ⟨tk, tx, tn, ta⟩ := t
    unfold tkA
    dsimp only
    have hb3 := (Below.refl W2.heap.size W2).alloc (Nat.le_refl _) (.cells #[.int .i64 tk, .string tx, .int .i64 tn, .int .i64 ta] 170)
    have kb := Blk.new W2 170 #[.int .i64 tk, .string tx, .int .i64 tn, .int .i64 ta]
    have hown2 : ∀ b, (slV V).ownBlock = some b → b < W2.heap.size := fun b hb => (hv2.own.lt b hb).2
    obtain ⟨f, hf⟩ : ∃ f, W2.heap.size = f := ⟨_, rfl⟩
    obtain ⟨W3, hW3⟩ : ∃ W3, W2.alloc (.cells #[.int .i64 tk, .string tx, .int .i64 tn, .int .i64 ta] 170) = W3 := ⟨_, rfl⟩
    rw [hW3] at hb3 kb
    rw [hf] at kb hown2
    have HV3 := Lib.hid (hv2.all hb3)
    have HR3 := Lib.hid (HR.out _ _ hr2 (keepsFrom_mod (F := fun _ => False) (Mod.of_below _ hb3) (fun _ hf => hf.elim)))
    have k0 : W3.cell? ⟨f, 0, none⟩ = some (.int .i64 tk) := kb.cell 0
    have k1 : W3.cell? ⟨f, 1, none⟩ = some (.string tx) := kb.cell 1
    have k2 : W3.cell? ⟨f, 2, none⟩ = some (.int .i64 tn) := kb.cell 2
    have k3 : W3.cell? ⟨f, 3, none⟩ = some (.int .i64 ta) := kb.cell 3
    have HFB : Hid (¬ FT b5 B V W3 f) := Lib.hid (by
     rintro (e | e | e)
     ·have h1 := HV3.out.c5.ty
      rw [← e] at h1
      exact absurd (h1.unique kb.ty) (by decide)
     ·exact absurd (hown2 _ e) (Nat.lt_irrefl _)
     ·exact e.not_ty kb.ty)
    have HKB := Lib.hid kb
    obtain ⟨fn, tmps, assign, body, hy1, hy2⟩ := HY.out dn V ⟨tk, tx, tn, ta⟩ W3 HV3.out (by have := congrArg List.length HDT.out; simp at this; omega) HR3.out
    clear hb2 hv2 hr2 hb3 kb hown2
    go_upto_region 3 with (fail)
    clear hf hW3 c0
    refine (wpIn_wide (n := 5)).1 ?_
    unfold tkA at hy1
    dsimp only at hy1
    gi_wp2_with (refine hy2.mono ?_; clear hy1 hy2; rintro e W4 ⟨rfl, ⟨V4, hV4⟩, hM4, hR4⟩)
    have c0 : W4.cell? ⟨pS, 0, none⟩ = some (.string s) := hV4.ps.cell 0
    have j1 : W4.cell? ⟨f, 1, none⟩ = some (.string tx) := (hM4.blk HKB.out HFB.out).cell 1
    have HSK4 := Lib.hid (HSKP.out W4 hV4.kl)
    have HV4 := Lib.hid hV4
    have HR4 := Lib.hid hR4
    clear k0 k1 k2 k3 hV4 hM4 hR4
    go_wp2_with fail
    clear c0 j1
    refine HSK4.out.mono ?_
    rintro e W5 ⟨rfl, hb5⟩
    have HV5 := Lib.hid (HV4.out.all hb5)
    have HR5 := Lib.hid (HR.out _ _ HR4.out (keepsFrom_mod (F := fun _ => False) (Mod.of_below _ hb5) (fun _ hf => hf.elim)))
    have HDT5 : Hid ((dn ++ [⟨tk, tx, tn, ta⟩]) ++ ts = toks) := Lib.hid (by rw [List.append_assoc]; exact HDT.out)
    clear hb5
    go_wp2
    go_roundg (ts.length + 1)
    case measure => have := HGK.out; simp at this; omega
    case rel => exact ⟨_, ts, p', V4, rfl, rfl, HDT5, HLP2, HV5, HR5⟩
end Go.Proofs.YtlcalajehnaenaaGreatDoor
namespace Go.Proofs.YtlcalajehnaenaaGreatDoor
open Go.RowKit Go.Shelf
attribute [local go_sem] Oper.semAt_some
theorem all_in (n : Nat) (s : ByteArray) (w : World) :
 CallsIn Fence.wide n Tryz.prog 83 #[.string s] w fun e w' => e = .returned (.func (.func 165) #[] #[.pointer (some ⟨w.heap.size, 0, none⟩)]) ∧ w.alloc (.cells #[.string s] 9) = w' := by
 refine callsIn_of_wp Tryz.func83 rfl trivial ?_ rfl
 simp only [Tryz.ntmps83, List.size_toArray, List.length_cons, List.length_nil, Nat.reduceAdd, Nat.reduceSub, Array.replicate_succ, Array.replicate_zero, List.push_toArray, List.append_toArray, List.nil_append, List.cons_append]
 gi_wp2
 go_ret
 exact ⟨rfl, rfl⟩
theorem toks_state (w : World) (B b5 pS : Nat) (s : ByteArray) (toks : List Tk) (p0 : Int) (HS : Hid (LxS s 0 p0)) (HP : Hid (LxP s p0 toks)) (hlen : toks.length < 100000) :
 SeqState Fence.wide 5 Tryz.prog 165 #[.pointer (some ⟨pS, 0, none⟩)] (fun x : Tk => #[tkA x, .int .i64 0]) B
  (StI w B b5 pS s) (fun st x => StJ w B b5 pS s st x) (fun st x => (st.1 ++ [x], st.2)) (fun _ _ _ => False) ([], none) (fun st => st.1 = toks ∧ st.2 = some none) := by
 intro l R Rx hR hY W h0 hR0
 obtain ⟨-, h1⟩ := h0
 refine callsIn_wide.2 ((all1_any w B b5 pS s toks p0 l R (Lib.hid hR) HS HP (Lib.hid ?_) hlen W (Lib.hid h1) (Lib.hid hR0)).mono ?_)
 ·intro st V x U hV hln hRU
  have h := hY (st, some (some (V, U))) x U ⟨V, U, rfl, hV, Mod.refl _ _, hln⟩ hRU
  obtain ⟨fn, tmps, assign, body, hy, hr3⟩ := h
  refine ⟨fn, tmps, assign, body, hy, hr3.mono fun e W' hh => ?_⟩
  rcases hh with ⟨he, ⟨hD', hm'⟩, hr'⟩ | ⟨-, c, hx, -⟩
  ·exact ⟨he, hD', hm', hr'⟩
  ·exact hx.elim
 ·rintro e W' ⟨he, hD', hr⟩
  exact ⟨he, .inl ⟨(toks, some none), ⟨rfl, rfl⟩, hD', hr⟩⟩
def TokPost (toks : List Tk) (w : World) (e : Ending) (w' : World) : Prop :=
 ∃ V : Sl, e = .returned (.tuple #[slV V, .int .i64 0, .int .i64 0]) ∧ w'.ownsRow w.heap.size 170 4 (slV V) toks.length (toks.flatMap tkV) ∧ Below w.heap.size w w'
set_option maxRecDepth 100000 in
set_option maxHeartbeats 8000000 in
theorem tokens_any (s : ByteArray) (toks : List Tk) (p0 : Int) (w : World) (HK : Hid (KL w)) (HS : Hid (LxS s 0 p0)) (HP : Hid (LxP s p0 toks)) (hsz : s.size ≤ 8192) (hlen : toks.length < 10000) :
 Calls Tryz.prog 38 #[.string s] w (TokPost toks w) := by
 have hszI : ¬ ((8192 : Int) < (s.size : Int)) := by omega
 refine (callsIn_wide (n := 6)).1 ?_
 refine callsIn_of_wp_marks Tryz.func38 rfl trivial ?_ rfl
 simp only [Tryz.ntmps38, List.size_toArray, List.length_cons, List.length_nil, Nat.reduceAdd, Nat.reduceSub, Array.replicate_succ, Array.replicate_zero, List.push_toArray, List.append_toArray, List.nil_append, List.cons_append]
 gi_wp2_with (refine ⟨trivial, ?_⟩; gi_at_call 83; refine (all_in _ _ _).mono ?_; rintro e w' ⟨rfl, rfl⟩)
 obtain ⟨W0, hW0⟩ : ∃ W0, ((((w.alloc (.cells #[.slice none 0 0] 118)).alloc (.cells #[.int .i64 0] 3)).alloc (.cells #[.int .i64 0] 33)).alloc (.cells #[.slice none 0 0] 118)).alloc (.cells #[.string s] 9) = W0 := ⟨_, rfl⟩
 have hsz0 : W0.heap.size = w.heap.size + 5 := by rw [← hW0]; simp
 have al : ∀ (x : World) (o : Obj), Below x.heap.size x (x.alloc o) := fun x o => (Below.refl _ x).alloc (Nat.le_refl _) o
 have hbw : Below w.heap.size w W0 := by
  rw [← hW0]
  exact bt (bt (bt (bt (al _ _) (al _ _)) (al _ _)) (al _ _)) (al _ _)
 have q2 : Blk W0 w.heap.size 118 #[.slice none 0 0] := by
  rw [← hW0]
  exact Blk.alloc (Blk.alloc (Blk.alloc (Blk.alloc (Blk.new _ _ _) _) _) _) _
 have q3 : Blk W0 (w.heap.size + 1) 3 #[.int .i64 0] := by
  rw [← hW0]
  exact Blk.alloc (Blk.alloc (Blk.alloc (Blk.new0 _ _ _ (by simp)) _) _) _
 have q4 : Blk W0 (w.heap.size + 2) 33 #[.int .i64 0] := by
  rw [← hW0]
  exact Blk.alloc (Blk.alloc (Blk.new0 _ _ _ (by simp)) _) _
 have q5 : Blk W0 (w.heap.size + 3) 118 #[.slice none 0 0] := by
  rw [← hW0]
  exact Blk.alloc (Blk.new0 _ _ _ (by simp)) _
 have q6 : Blk W0 (w.heap.size + 4) 9 #[.string s] := by
  rw [← hW0]
  exact Blk.new0 _ _ _ (by simp)
 have hk0 : 1 < w.heap.size := by
  obtain ⟨_, _, _, hk⟩ := HK.out.cells
  exact (Array.getElem?_eq_some_iff.1 hk).1
 have hI0 : StI w W0.heap.size (w.heap.size + 3) (w.heap.size + 4) s ([], none) W0 :=
  ⟨rfl, (none, 0, 0), q5, World.ownsRow_nil _ _ _ _, q6, HK.out.all hbw, hbw, q2, q3, q4, hk0, by omega⟩
 rw [hW0]
 have HSZ := Lib.hid hsz0
 clear hW0 al hsz0
 refine range_state2 (β := StT) (α := Tk) rfl (by decide) (gf := 165) (lb := #[.pointer (some ⟨w.heap.size + 4, 0, none⟩)]) rfl trivial (enters_of Tryz.func165 (by kernel_rfl) rfl)
  (encs := fun x : Tk => #[tkA x, .int .i64 0]) (fun _ => rfl)
  (StI w W0.heap.size (w.heap.size + 3) (w.heap.size + 4) s) (fun st x => StJ w W0.heap.size (w.heap.size + 3) (w.heap.size + 4) s st x) (fun st x => (st.1 ++ [x], st.2)) (fun _ _ _ => False) ([], none) (fun st => st.1 = toks ∧ st.2 = some none)
  (toks_state w W0.heap.size (w.heap.size + 3) (w.heap.size + 4) s toks p0 HS HP (by omega))
  StI.own (fun x => StJ.own x) (fun c st W W' row hs hg hr => hs) hI0
  (fun x => .cells #[.int .i64 x.kind, .string x.text, .int .i64 x.n, .int .i64 x.at_] 170)
  (fun x g => { tmps := #[.string s, undef, .pointer (some ⟨w.heap.size, 0, none⟩), .pointer (some ⟨w.heap.size + 1, 0, none⟩), .pointer (some ⟨w.heap.size + 1 + 1, 0, none⟩), .pointer (some ⟨w.heap.size + 1 + 1 + 1, 0, none⟩), .pointer (some ⟨g, 0, none⟩), .int .i64 0, .string s, .int .i64 (s.size : Int), .bool false, .string s, .func (.func 165) #[] #[.pointer (some ⟨w.heap.size + 1 + 1 + 1 + 1, 0, none⟩)], .agg #[.int .i64 x.kind, .string x.text, .int .i64 x.n, .int .i64 x.at_], .int .i64 0, undef, undef, undef, undef, undef, undef, undef, undef, undef, undef], defers := [] }) ?assign ?body ?done ?stop
 case assign =>
  intro l x W K hK
  simp only [tkA]
  gi_wp2
  exact hK
 case body =>
  rintro l ⟨st, it⟩ x W g ⟨V, U, hs, hV, hM, hln⟩ hg hgB
  dsimp only at hs hV hg hln
  have hbg : Blk W g 170 #[.int .i64 x.kind, .string x.text, .int .i64 x.n, .int .i64 x.at_] := hg
  have g0 : W.cell? ⟨g, 0, none⟩ = some (.int .i64 x.kind) := hbg.cell 0
  have g1 : W.cell? ⟨g, 1, none⟩ = some (.string x.text) := hbg.cell 1
  have g2 : W.cell? ⟨g, 2, none⟩ = some (.int .i64 x.n) := hbg.cell 2
  have g3 : W.cell? ⟨g, 3, none⟩ = some (.int .i64 x.at_) := hbg.cell 3
  obtain ⟨VA, Vn, Vc⟩ := V
  have c5 : W.cell? ⟨w.heap.size + 1 + 1 + 1, 0, none⟩ = some (.slice VA Vn Vc) := hV.c5.cell 0
  have h5 : w.heap.size + 3 ≠ w.heap.size ∧ w.heap.size + 3 ≠ w.heap.size + 1 ∧ w.heap.size + 3 ≠ w.heap.size + 2 := by omega
  obtain ⟨g5, cp, W5, hrun, hcell, hfrz, hV5, hM5⟩ := hV.push x hln h5 118
  have hVn : Vn = st.length := by
   obtain ⟨A', c', he⟩ := own_split hV.own
   simp only [slV, Value.slice.injEq] at he
   exact he.2.1
  have HRUN := Lib.hid hrun
  have HV5 := Lib.hid hV5
  have HMN : Hid (Mod (FT (w.heap.size + 3) W0.heap.size (VA, Vn, Vc) U) U (W5.setCell ⟨w.heap.size + 3, 0, none⟩ (.slice (some ⟨g5, 0, none⟩) (st.length + 1) cp))) := Lib.hid (hM.trans hM5 (fun b hb => by
   by_cases hbu : b < U.heap.size
   ·exact .inl (hb.elim .inl (fun e => .inr (.inl e)))
   ·exact .inr (by omega)))
  have HKF : Hid (KeepsFrom W0.heap.size W (W5.setCell ⟨w.heap.size + 3, 0, none⟩ (.slice (some ⟨g5, 0, none⟩) (st.length + 1) cp))) := Lib.hid (keepsFrom_mod hM5 (fun b hb => hb.elim (fun e => ⟨118, by rw [e]; exact hV.c5.ty⟩) (fun e => ⟨170, Ty.of_own hV.own e⟩)))
  have HS2 := Lib.hid hs
  clear hrun hV5 hM5 hV hM hg hbg hs
  subst hVn
  gi_wp2_with (gi_at_builtin; refine wpListIn_append_run HRUN.out rfl rfl rfl rfl ?_)
  rw [HS2.out]
  exact ⟨HKF.out, ⟨_, HV5.out⟩, HMN.out⟩
 case done =>
  rintro D ⟨st, it⟩ W hD ⟨hf1, hf2⟩ hI hK
  dsimp only at hf1 hf2
  subst hf2 hf1
  obtain ⟨⟨A1, n1, c1⟩, hV⟩ := hI
  dsimp only at hV
  have HV := Lib.hid hV
  have c5 : W.cell? ⟨w.heap.size + 1 + 1 + 1, 0, none⟩ = some (.slice A1 n1 c1) := hV.c5.cell 0
  have d2 : W.cell? ⟨w.heap.size, 0, none⟩ = some (.slice none 0 0) := hV.r2.cell 0
  have d3 : W.cell? ⟨w.heap.size + 1, 0, none⟩ = some (.int .i64 0) := hV.r3.cell 0
  have d4 : W.cell? ⟨w.heap.size + 1 + 1, 0, none⟩ = some (.int .i64 0) := hV.r4.cell 0
  have e2 : W.frozen? ⟨w.heap.size, 0, none⟩ = false := hV.r2.frozen 0
  have e3 : W.frozen? ⟨w.heap.size + 1, 0, none⟩ = false := hV.r3.frozen 0
  have e4 : W.frozen? ⟨w.heap.size + 1 + 1, 0, none⟩ = false := hV.r4.frozen 0
  clear hV hI0 q2 q3 q4 q5 q6 hbw hk0
  gi_wp2
  have hz := HSZ.out
  have hlt := HV.out.lt
  have hD2 : ∀ t, ¬ Ty W D t := by
   rintro t ⟨cs, fr, hh⟩
   rw [hK] at hh
   cases hh
  have hDW : D ≥ W0.heap.size := hD
  have hny : ∀ {b : Nat} {t : TypeId} {c : Array Value}, Blk W b t c → t ≠ 170 → ¬ Ty W b 170 := by
   intro b t c hb hne h
   obtain ⟨cs, fr, hh⟩ := h
   obtain ⟨cs', fr', hh'⟩ := hb.ty
   rw [hh'] at hh
   cases hh
   exact hne rfl
  have hF : ∀ b, (b = w.heap.size ∨ b = w.heap.size + 1 ∨ b = w.heap.size + 2 ∨ b = D) → ¬ Ty W b 170 ∧ w.heap.size ≤ b := by
   rintro b (rfl | rfl | rfl | rfl)
   ·exact ⟨hny HV.out.r2 (by decide), by omega⟩
   ·exact ⟨hny HV.out.r3 (by decide), by omega⟩
   ·exact ⟨hny HV.out.r4 (by decide), by omega⟩
   ·exact ⟨hD2 _, by omega⟩
  have hm1 : Mod (fun b => b = w.heap.size ∨ b = w.heap.size + 1 ∨ b = w.heap.size + 2) W (((W.setCell ⟨w.heap.size, 0, none⟩ (.slice A1 n1 c1)).setCell ⟨w.heap.size + 1, 0, none⟩ (.int .i64 0)).setCell ⟨w.heap.size + 1 + 1, 0, none⟩ (.int .i64 0)) := ((Mod.refl (fun b => b = w.heap.size ∨ b = w.heap.size + 1 ∨ b = w.heap.size + 2) W).set (p := ⟨w.heap.size, 0, none⟩) (.inl (.inl rfl)) _).set (p := ⟨w.heap.size + 1, 0, none⟩) (.inl (.inr (.inl rfl))) _ |>.set (p := ⟨w.heap.size + 1 + 1, 0, none⟩) (.inl (.inr (.inr rfl))) _
  have hk2 : Blk (((W.setCell ⟨w.heap.size, 0, none⟩ (.slice A1 n1 c1)).setCell ⟨w.heap.size + 1, 0, none⟩ (.int .i64 0)).setCell ⟨w.heap.size + 1 + 1, 0, none⟩ (.int .i64 0)) w.heap.size 118 #[.slice A1 n1 c1] := Blk.far (Blk.far (Blk.set_ HV.out.r2 0 (.slice A1 n1 c1)) (by simp) _) (by show w.heap.size ≠ w.heap.size + 1 + 1; omega) _
  have hk3 : Blk (((W.setCell ⟨w.heap.size, 0, none⟩ (.slice A1 n1 c1)).setCell ⟨w.heap.size + 1, 0, none⟩ (.int .i64 0)).setCell ⟨w.heap.size + 1 + 1, 0, none⟩ (.int .i64 0)) (w.heap.size + 1) 3 #[.int .i64 0] := Blk.far (Blk.set_ (Blk.far (p := ⟨w.heap.size, 0, none⟩) HV.out.r3 (by simp) _) 0 (.int .i64 0)) (by simp) _
  have hk4 : Blk (((W.setCell ⟨w.heap.size, 0, none⟩ (.slice A1 n1 c1)).setCell ⟨w.heap.size + 1, 0, none⟩ (.int .i64 0)).setCell ⟨w.heap.size + 1 + 1, 0, none⟩ (.int .i64 0)) (w.heap.size + 2) 33 #[.int .i64 0] := Blk.set_ (Blk.far (p := ⟨w.heap.size + 1, 0, none⟩) (Blk.far (p := ⟨w.heap.size, 0, none⟩) HV.out.r4 (by simp) _) (by simp) _) 0 (.int .i64 0)
  have hK2 : (((W.setCell ⟨w.heap.size, 0, none⟩ (.slice A1 n1 c1)).setCell ⟨w.heap.size + 1, 0, none⟩ (.int .i64 0)).setCell ⟨w.heap.size + 1 + 1, 0, none⟩ (.int .i64 0)).heap[D]? = some (.deferred (some [])) := by
   rw [Below.heap_setCell _ _ _ _ (by show D ≠ w.heap.size + 1 + 1; omega), Below.heap_setCell _ _ _ _ (by show D ≠ w.heap.size + 1; omega), Below.heap_setCell _ _ _ _ (by show D ≠ w.heap.size; omega)]
   exact hK
  refine ⟨by simp, .inl ⟨_, _, rfl, run_takeDeferred hK2, ?_⟩⟩
  generalize ((W.setCell ⟨w.heap.size, 0, none⟩ (.slice A1 n1 c1)).setCell ⟨w.heap.size + 1, 0, none⟩ (.int .i64 0)).setCell ⟨w.heap.size + 1 + 1, 0, none⟩ (.int .i64 0) = W2 at hm1 hk2 hk3 hk4 hK2 ⊢
  have hm2 : Mod (fun b => b = D) W2 (W2.putObj D (.deferred none)) := by
   have := grownBy_putObj' W2 D (.deferred none)
   exact ⟨this.os, this.tape, this.output, this.size, fun k hk hne => this.block k hk (fun e => hne (by injection e))⟩
  have j2 := (hm2.blk hk2 (by omega)).cell 0
  have j3 := (hm2.blk hk3 (by omega)).cell 0
  have j4 := (hm2.blk hk4 (by omega)).cell 0
  simp at j2 j3 j4
  have hm' : Mod (fun b => b = w.heap.size ∨ b = w.heap.size + 1 ∨ b = w.heap.size + 2 ∨ b = D) W (W2.putObj D (.deferred none)) := (hm1.mono (fun b h => .inl (by rcases h with h | h | h <;> simp [h]))).trans hm2 (fun b h => .inl (.inr (.inr (.inr h))))
  refine ⟨.tuple #[.slice A1 n1 c1, .int .i64 0, .int .i64 0], by simp [results, Tryz.f38, go_sem, j2, j3, j4], (A1, n1, c1), rfl, ?_, hm'.below HV.out.mo HV.out.mo.size (fun b hb => (hF b hb).2)⟩
  exact hm'.own HV.out.own (fun b hg hf => (hF b hf).1 (Ty.of_own HV.out.own hg))
 case stop =>
  rintro D c pre W _ h _
  exact h.elim
end Go.Proofs.YtlcalajehnaenaaGreatDoor
namespace Go.Proofs.YtlcalajehnaenaaGreatDoor
open Go.RowKit
theorem IsWord.skip0 {s : ByteArray} (hs : IsWord s) : LxS s 0 0 := fun w hK => by
 have h0 : 0 < s.size := hs.1
 have := skip_in s 0 w h0 (hs.2.2 0 h0).1 (hs.2.2 0 h0).2 (Lib.hid hK)
 exact this.mono fun e w' ⟨h1, h2⟩ => ⟨h1, by rw [h2]; exact Below.refl _ _⟩
theorem IsWord.lxp {s : ByteArray} (hs : IsWord s) : LxP s 0 [⟨0, s, 0, 0⟩] := by
 have e0 : (0 : Int) + (s.size : Int) = (s.size : Int) := by omega
 refine ⟨by have := hs.1; omega, fun w hK => next_any s w (Lib.hid hs) (Lib.hid hK), ?_, (s.size : Int), ?_, rfl⟩
 ·show IntKind.i64.wrap ((0 : Int) + (s.size : Int)) = (0 : Int) + (s.size : Int)
  rw [e0]
  exact IntWalk.i64_in _ (by have := hs.2.1; omega)
 ·show LxS s ((0 : Int) + (s.size : Int)) (s.size : Int)
  rw [e0]
  intro w _
  exact (skip_end s w).mono fun e w' ⟨h1, h2⟩ => ⟨h1, by rw [h2]; exact Below.refl _ _⟩
theorem tokRow {W : World} {B n c : Nat} {A : Option Addr} {ts : List Tk} (h : W.ownsRow B 170 4 (.slice A n c) ts.length (ts.flatMap tkV)) {k : Nat} (hk : k < ts.length) : n = ts.length ∧ ∃ g, A = some ⟨g, 0, none⟩ ∧ B ≤ g ∧ W.cell? ⟨g, k * 4, none⟩ = some (.int .i64 ts[k].kind) ∧ W.cell? ⟨g, k * 4 + 1, none⟩ = some (.string ts[k].text) ∧ W.cell? ⟨g, k * 4 + 2, none⟩ = some (.int .i64 ts[k].n) ∧ W.cell? ⟨g, k * 4 + 3, none⟩ = some (.int .i64 ts[k].at_) := by
 rcases h.2 with ⟨-, h2⟩ | ⟨g, cap, cur, h2, h3, h4, h5, h6, h7, h8⟩
 ·omega
 ·injection h2 with h2 h10 h9
  have hc : ∀ i, i < 4 → W.cell? ⟨g, k * 4 + i, none⟩ = (tkV ts[k])[i]? := by
   intro i hi
   rw [← flatT_at tkV 4 tkV_len ts k i hk hi, ← h8, List.getElem?_take_of_lt (by omega)]
   simp [World.cell?, h4]
  exact ⟨h10, g, h2, h3, hc 0 (by omega), hc 1 (by omega), hc 2 (by omega), hc 3 (by omega)⟩
set_option maxRecDepth 100000 in
set_option maxHeartbeats 4000000 in
theorem fits_any (s : ByteArray) (w : World) (hs : Hid (IsWord s)) (HK : Hid (KL w)) : Calls Tryz.prog 123 #[.string s] w fun e w' => e = .returned (.bool true) ∧ Below w.heap.size w w' := by
 have HT := Lib.hid (tokens_any s [⟨0, s, 0, 0⟩] 0 w HK (Lib.hid hs.out.skip0) (Lib.hid hs.out.lxp) (by have := hs.out.2.1; omega) (by show 1 < 10000; decide))
 go_enter Tryz.func123, Tryz.ntmps123
 go_wp2_with fail
 refine HT.out.mono ?_
 rintro e w2 ⟨⟨A, n, c⟩, rfl, hown, hb2⟩
 unfold slV at hown
 obtain ⟨m1, g, rfl, hg, m2, m3, m4, m5⟩ := tokRow hown (k := 0) (by show 0 < 1; decide)
 have hn1 : n = 1 := m1
 clear m1
 subst hn1
 have k0 : w2.cell? ⟨g, 0, none⟩ = some (.int .i64 0) := m2
 have k1 : w2.cell? ⟨g, 1, none⟩ = some (.string s) := m3
 have HB := Lib.hid hb2
 clear hown hb2 m2 m3 m4 m5
 unfold slV
 dsimp only
 go_wp2
 go_ret
 exact ⟨rfl, HB.out⟩
set_option maxRecDepth 100000 in
theorem namesFit1_any (i : Itm) (w : World) (hs : Hid (IsWord i.nm)) (HK : Hid (KL w)) : Calls Tryz.prog 122 #[itA i] w fun e w' => e = .returned (.bool true) ∧ Below w.heap.size w w' := by
 have hb := (Below.refl w.heap.size w).alloc (Nat.le_refl _) (.cells #[.string i.nm, .bool false, .bool i.mx, .bool i.co, .int .i64 0, .int .i64 0, .int .i64 0] 141)
 have HB := Lib.hid hb
 have HF := Lib.hid (fits_any i.nm _ hs (Lib.hid (HK.out.all hb)))
 clear hb
 unfold itA
 go_enter Tryz.func122, Tryz.ntmps122
 go_wp2_with fail
 refine HF.out.mono ?_
 rintro e w2 ⟨rfl, hb2⟩
 have HB2 := Lib.hid (HB.out.trans (hb2.mono (by rw [World.size_alloc]; omega)))
 clear hb2
 go_wp2
 go_ret
 exact ⟨rfl, HB2.out⟩
end Go.Proofs.YtlcalajehnaenaaGreatDoor
namespace Go.Proofs.YtlcalajehnaenaaGreatDoor
open Go.RowKit
def ItF (R : World → Prop) (g : Nat) (v : Itm → Value) (is : List Itm) : Prop := ∀ i ∈ is, ∀ w, R w → Calls Tryz.prog g #[itA i] w fun e w' => e = .returned (v i) ∧ Below w.heap.size w w'
def Runs (g : Nat) : Prop := ∀ (args : Array Value) (w : World), (callFunc g args).run Tryz.prog w = .ok (.enter g args) w
def Stays (R : World → Prop) : Prop := ∀ w w' : World, Below w.heap.size w w' → R w → R w'
set_option maxRecDepth 100000 in
set_option maxHeartbeats 4000000 in
theorem everyItem_any (R : World → Prop) (g : Nat) (A : Option Addr) (n c : Nat) (is : List Itm) (w : World) (HR : Hid (R w)) (HSt : Hid (Stays R)) (HF : Hid (ItF R g (fun _ => .bool true) is)) (HI : Hid (ItAt w A n c is)) (hn : n ≤ 1000000) (HC : Hid (Runs g)) :
 Calls Tryz.prog 121 #[.slice A n c, .func (.func g) #[] #[]] w fun e w' => e = .returned (.bool true) ∧ Below w.heap.size w w' := by
 go_enter Tryz.func121, Tryz.ntmps121
 go_wp2
 go_loopg [9] n (fun gk iv wr => ∃ k : Nat, k + gk = n ∧ iv = .int .i64 (k : Int) ∧ Hid (Below w.heap.size w wr))
 case atStart => exact ⟨0, by omega, rfl, Lib.hid (Below.refl _ _)⟩
 case round =>
  obtain ⟨k, hi, rfl, HB⟩ := hrel
  have HHI := Lib.hid hi
  rcases Nat.lt_or_ge k n with hlt | hge
  ·have hltI : (k : Int) < (n : Int) := by omega
   have hi0 : (0 : Int) ≤ (k : Int) := by omega
   obtain ⟨b, off, rfl, hb, i, hm, k0, k1, k2, k3, k4, k5, k6⟩ := (HI.out.all HB.out).at_ hlt
   have hwr : w.heap.size ≤ wr.heap.size := HB.out.size
   have HBA := Lib.hid (HB.out.alloc hwr (.cells #[.string i.nm, .bool false, .bool i.mx, .bool i.co, .int .i64 0, .int .i64 0, .int .i64 0] 141))
   have HRA := Lib.hid (HSt.out _ _ HBA.out HR.out)
   have hgt := List.mem_of_getElem? hm
   clear hi hb hm hwr
   go_wp2
   rw [HC.out]
   refine (HF.out i hgt _ HRA.out).mono ?_
   rintro e w5 ⟨rfl, hb5⟩
   have HB5 := Lib.hid (HBA.out.trans (hb5.mono (by rw [World.size_alloc]; have := HB.out.size; omega)))
   clear hb5
   go_wp2
   go_roundg (n - (k + 1))
   case measure => have := HHI.out; omega
   case rel => exact ⟨k + 1, by have := HHI.out; omega, by go_num, HB5⟩
  ·obtain rfl : n = k := by omega
   go_wp2
   go_ret
   exact ⟨rfl, HB.out⟩
abbrev SK := {s : ByteArray // s.size ≤ 16}
def sEnc (s : SK) : Value := .string s.1
def nmK (s : ByteArray) : SK := if h : s.size ≤ 16 then ⟨s, h⟩ else ⟨⟨#[]⟩, by decide⟩
theorem nmK_enc {s : ByteArray} (h : s.size ≤ 16) : sEnc (nmK s) = .string s := by
 unfold nmK
 rw [dif_pos h]
 rfl
theorem nmK_inj {s t : ByteArray} (h : s.size ≤ 16) (h' : t.size ≤ 16) (e : nmK s = nmK t) : s = t := by
 unfold nmK at e
 rw [dif_pos h, dif_pos h'] at e
 exact congrArg Subtype.val e
theorem sEncOk : KeyEnc Tryz.prog 9 sEnc where
 keyed := Go.Maps.string_keyed Tryz.underlying9
 lit := fun s => ⟨_, Go.WideMaps.keyOf_string_mk Tryz.underlying9 (Nat.le_trans s.2 (by decide))⟩
 inj := fun {a b} h => by
  apply Subtype.ext
  injection h
theorem infoB : ∃ i, Tryz.prog.info? 4 = some i ∧ i.zero = some (.bool false) := by
 have h : (Tryz.prog.info? 4).map (fun i => i.zero) = some (some (.bool false)) := by kernel_rfl
 obtain ⟨i, hi, hz⟩ := Option.map_eq_some_iff.1 h
 exact ⟨i, hi, hz⟩
def seenK (is : List Itm) : List (SK × Value) := is.map fun i => (nmK i.nm, Value.bool true)
theorem seenK_none {is : List Itm} {k : Nat} {i : Itm} (hN : (is.map Itm.nm).Nodup) (hz : ∀ i ∈ is, i.nm.size ≤ 16) (hk : is[k]? = some i) : glk (seenK (is.take k)) (nmK i.nm) = none := by
 refine glk_none.2 fun p hp e => ?_
 obtain ⟨x, hx, rfl⟩ := List.mem_map.1 hp
 obtain ⟨j, hj, hxj⟩ := List.getElem_of_mem hx
 rw [List.length_take] at hj
 rw [List.getElem_take] at hxj
 obtain ⟨hk2, hik⟩ := List.getElem?_eq_some_iff.1 hk
 have en : x.nm = i.nm := nmK_inj (hz x (List.mem_of_mem_take hx)) (hz i (List.mem_of_getElem? hk)) e
 have := (List.getElem_inj (i := j) (j := k) (h₀ := by rw [List.length_map]; omega) (h₁ := by rw [List.length_map]; omega) hN).1 (by rw [List.getElem_map, List.getElem_map, hxj, hik, en])
 omega
theorem seenK_put {is : List Itm} {k : Nat} {i : Itm} (hN : (is.map Itm.nm).Nodup) (hz : ∀ i ∈ is, i.nm.size ≤ 16) (hk : is[k]? = some i) : gput (seenK (is.take k)) (nmK i.nm) (.bool true) = seenK (is.take (k + 1)) := by
 rw [gput_new (glk_none.1 (seenK_none hN hz hk))]
 obtain ⟨hk2, hik⟩ := List.getElem?_eq_some_iff.1 hk
 rw [← List.take_append_getElem hk2, hik]
 unfold seenK
 rw [List.map_append]
 rfl
set_option maxRecDepth 100000 in
set_option maxHeartbeats 4000000 in
theorem differItem_any (g : Nat) (A : Option Addr) (n c : Nat) (is : List Itm) (w : World) (HF : Hid (ItF (fun _ => True) g (fun i => .string i.nm) is)) (HI : Hid (ItAt w A n c is)) (hn : n ≤ 1000000) (HC : Hid (Runs g)) (HN : Hid ((is.map Itm.nm).Nodup)) (HZ : Hid (∀ i ∈ is, i.nm.size ≤ 16)) :
 Calls Tryz.prog 127 #[.slice A n c, .func (.func g) #[] #[]] w fun e w' => e = .returned (.bool true) ∧ Below w.heap.size w w' := by
 have hmm := fun (w : World) => run_makeMapN (P := Tryz.prog) Tryz.underlying250 .i64 (n : Int) w
 have hb0 := (Below.refl w.heap.size w).alloc (Nat.le_refl _) (.map #[] 0)
 have HB0 := Lib.hid hb0
 have HM0 := Lib.hid (GMap.new sEnc w)
 clear hb0
 go_enter Tryz.func127, Tryz.ntmps127
 go_wp2
 clear hmm
 have hl : is.length = n := HI.out.1
 have HL := Lib.hid hl
 clear hl
 go_loopg [13] n (fun gk iv wr => ∃ k : Nat, k + gk = n ∧ iv = .int .i64 (k : Int) ∧ Hid (GMap sEnc wr w.heap.size (seenK (is.take k))) ∧ Hid (Below w.heap.size w wr))
 case atStart => exact ⟨0, by omega, rfl, HM0, HB0⟩
 case round =>
  obtain ⟨k, hi, rfl, HM, HB⟩ := hrel
  have HHI := Lib.hid hi
  rcases Nat.lt_or_ge k n with hlt | hge
  ·have hltI : (k : Int) < (n : Int) := by omega
   have hi0 : (0 : Int) ≤ (k : Int) := by omega
   obtain ⟨b, off, rfl, hb, i, hm, k0, k1, k2, k3, k4, k5, k6⟩ := (HI.out.all HB.out).at_ hlt
   have hwr : w.heap.size ≤ wr.heap.size := HB.out.size
   have HBA := Lib.hid (HB.out.alloc hwr (.cells #[.string i.nm, .bool false, .bool i.mx, .bool i.co, .int .i64 0, .int .i64 0, .int .i64 0] 141))
   have hba : Below wr.heap.size wr (wr.alloc (.cells #[.string i.nm, .bool false, .bool i.mx, .bool i.co, .int .i64 0, .int .i64 0, .int .i64 0] 141)) := (Below.refl _ _).alloc (Nat.le_refl _) _
   have HMA := Lib.hid (HM.out.all hba)
   have hgt := List.mem_of_getElem? hm
   have HGT := Lib.hid hm
   clear hi hb hm hwr hba
   go_wp2_with fail
   rw [HC.out]
   refine (HF.out i hgt _ trivial).mono ?_
   rintro e w5 ⟨rfl, hb5⟩
   have HM5 := Lib.hid (HMA.out.all hb5)
   have HB5 := Lib.hid (HBA.out.trans (hb5.mono (by rw [World.size_alloc]; have := HB.out.size; omega)))
   obtain ⟨jB, hjB, hzB⟩ := infoB
   have hlk := HM5.out.look sEncOk Tryz.underlying250 hjB hzB (nmK i.nm)
   rw [nmK_enc (HZ.out i hgt), seenK_none HN.out HZ.out HGT.out] at hlk
   have hlk : (Instr.lookup 250 (.map (some w.heap.size)) (.string i.nm) false).run Tryz.prog w5 = .ok (.bool false) w5 := hlk
   have hbk := (Blk.new wr 141 #[.string i.nm, .bool false, .bool i.mx, .bool i.co, .int .i64 0, .int .i64 0, .int .i64 0]).all hb5
   have y0 : w5.cell? ⟨wr.heap.size, 0, none⟩ = some (.string i.nm) := hbk.cell 0
   have y1 : w5.cell? ⟨wr.heap.size, 1, none⟩ = some (.bool false) := hbk.cell 1
   have y2 : w5.cell? ⟨wr.heap.size, 2, none⟩ = some (.bool i.mx) := hbk.cell 2
   have y3 : w5.cell? ⟨wr.heap.size, 3, none⟩ = some (.bool i.co) := hbk.cell 3
   have y4 : w5.cell? ⟨wr.heap.size, 4, none⟩ = some (.int .i64 0) := hbk.cell 4
   have y5 : w5.cell? ⟨wr.heap.size, 5, none⟩ = some (.int .i64 0) := hbk.cell 5
   have y6 : w5.cell? ⟨wr.heap.size, 6, none⟩ = some (.int .i64 0) := hbk.cell 6
   clear hjB hzB hbk k0 k1 k2 k3 k4 k5 k6
   have HBK := Lib.hid hb5
   clear hb5
   go_wp2_with fail
   rw [HC.out]
   refine (HF.out i hgt _ trivial).mono ?_
   rintro e w6 ⟨rfl, hb6⟩
   obtain ⟨w7, hrun, hM7, hg7, hs7⟩ := (HM5.out.all hb6).store sEncOk Tryz.underlying250 (nmK i.nm) (.bool true)
   rw [nmK_enc (HZ.out i hgt)] at hrun
   rw [seenK_put HN.out HZ.out HGT.out] at hM7
   have HM7 := Lib.hid hM7
   have HB7 := Lib.hid ((HB5.out.trans (hb6.mono HB5.out.size)).grown hg7 (Nat.le_trans HB5.out.size hb6.size) (fun k e => by cases e; exact Nat.le_refl _))
   clear hM7 hg7 hs7 hb6 y0 y1 y2 y3 y4 y5 y6 hlk
   go_wp2
   go_roundg (n - (k + 1))
   case measure => have := HHI.out; omega
   case rel => exact ⟨k + 1, by have := HHI.out; omega, by go_num, HM7, HB7⟩
  ·obtain rfl : n = k := by omega
   go_wp2
   go_ret
   exact ⟨rfl, HB.out⟩
end Go.Proofs.YtlcalajehnaenaaGreatDoor
