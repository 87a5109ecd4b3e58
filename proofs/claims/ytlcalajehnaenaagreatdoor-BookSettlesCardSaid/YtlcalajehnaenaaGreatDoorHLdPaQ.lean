/- package parser: Parse, at texts of items. -/
import Derived.Test.YtlcalajehnaenaaGreatDoorHG36
namespace Go.Proofs.YtlcalajehnaenaaGreatDoor
open Go.RowKit
structure Dcl where
 nm : ByteArray
 co : Bool
 at_ : Int
def dclV (d : Dcl) : List Value := declV d.nm d.co d.at_
theorem dclV_len (d : Dcl) : (dclV d).length = 17 := rfl
def DTk : List Dcl → List Tk → Prop
 | [], ts => ts = []
 | d :: ds, ts => ∃ tI tN tC tS ts', ts = tI :: tN :: (coT d.co tC ++ tS :: ts') ∧ tI.kind = 0 ∧ tI.text = itemS ∧ tN.kind = 0 ∧ tN.text = d.nm ∧ tN.at_ = d.at_ ∧ tC.kind = 0 ∧ tC.text = coinS ∧ tS.kind = 2 ∧ tS.text = semiS ∧ DTk ds ts'
theorem slT_decl : SlT Tryz.prog 64 78 17 208 := SlT.of Tryz.underlying64 (by kernel_rfl) (by decide)
structure PaV (B b2 b3 b4 r mk : Nat) (e : Int) (es : List (SK × Value)) (dn : List Dcl) (D : List Value) (ts : List Tk) (W : World) : Prop where
 c2 : ∃ V : Sl, Blk W b2 64 #[slV V] ∧ W.ownsRow B 78 17 (slV V) dn.length (dn.flatMap dclV)
 c3 : Blk W b3 3 #[.int .i64 0]
 c4 : Blk W b4 33 #[.int .i64 0]
 rd : ∃ A' n' c', Blk W r 126 (rdC A' n' c' e D) ∧ TkIs W A' n' c' ts
 mp : GMap sEnc W mk es
 lo : B ≤ b2 ∧ B ≤ b3 ∧ B ≤ b4 ∧ B ≤ r ∧ B ≤ W.heap.size
section
variable {B b2 b3 b4 r mk : Nat} {e : Int} {es : List (SK × Value)} {dn : List Dcl} {D : List Value} {ts : List Tk} {W W' : World}
theorem PaV.drew (h : PaV B b2 b3 b4 r mk e es dn D ts W) : PaV B b2 b3 b4 r mk e es dn D ts W.drew := ⟨h.c2, h.c3, h.c4, h.rd, h.mp, h.lo⟩
theorem PaV.decl {D' : List Value} {ts' : List Tk} (h : PaV B b2 b3 b4 r mk e es dn D ts W) (hr : ∃ A' n' c', Blk W' r 126 (rdC A' n' c' e D') ∧ TkIs W' A' n' c' ts') (m : Mod (fun x => x = r) W W') : PaV B b2 b3 b4 r mk e es dn D' ts' W' := by
 obtain ⟨V, a1, a2⟩ := h.c2
 obtain ⟨A0, n0, c0, b1, -⟩ := h.rd
 obtain ⟨l1, l2, l3, l4, l5⟩ := h.lo
 have hne : ∀ {g : Nat} {t : TypeId} {c : Array Value}, Blk W g t c → t ≠ 126 → ¬ (g = r) := fun hb ht e => by subst e; exact ht (hb.ty.unique b1.ty)
 exact ⟨⟨V, m.blk a1 (hne a1 (by decide)), m.own a2 (fun g hg e => by subst e; exact absurd ((Ty.of_own a2 hg).unique b1.ty) (by decide))⟩, m.blk h.c3 (hne h.c3 (by decide)), m.blk h.c4 (hne h.c4 (by decide)), hr, h.mp.mod m (fun e => by subst e; exact h.mp.not_ty b1.ty), ⟨l1, l2, l3, l4, Nat.le_trans l5 m.size⟩⟩
theorem PaV.push {d : Dcl} (h : PaV B b2 b3 b4 r mk e es dn (dclV d) ts W) (hn : dn.length < 100000) (ty : TypeId) :
 ∃ (V : Sl) (g5 cp : Nat) (W5 : World), W.cell? ⟨b2, 0, none⟩ = some (slV V) ∧ (Builtin.append_ #[64, 64] ty #[slV V, .slice (some ⟨W.heap.size, 0, none⟩) 1 1]).run Tryz.prog (W.alloc (.cells (dclV d).toArray 78)) = .ok (.slice (some ⟨g5, 0, none⟩) (dn.length + 1) cp) W5 ∧
  W5.cell? ⟨b2, 0, none⟩ = some (slV V) ∧ W5.frozen? ⟨b2, 0, none⟩ = false ∧ (∀ c, Blk W r 126 c → Blk W5 r 126 c) ∧ PaV B b2 b3 b4 r mk e es (dn ++ [d]) (dclV d) ts (W5.setCell ⟨b2, 0, none⟩ (.slice (some ⟨g5, 0, none⟩) (dn.length + 1) cp)) ∧ Below B W (W5.setCell ⟨b2, 0, none⟩ (.slice (some ⟨g5, 0, none⟩) (dn.length + 1) cp)) := by
 obtain ⟨V, a1, a2⟩ := h.c2
 obtain ⟨A0, n0, c0, b1, b2t⟩ := h.rd
 obtain ⟨l1, l2, l3, l4, l5⟩ := h.lo
 have hba := (Below.refl W.heap.size W).alloc (Nat.le_refl _) (.cells (dclV d).toArray 78)
 obtain ⟨g5, cp, W5, hrun, hown, hg, hnew⟩ := run_append1b (ty := ty) slT_decl (own_keep a2 hba) (Blk.new W 78 (dclV d).toArray) rfl (by intro u hu; simp [dclV, declV] at hu; rcases hu with rfl | rfl | rfl | rfl | rfl | rfl | rfl | rfl | rfl | rfl | rfl | rfl | rfl | rfl | rfl | rfl | rfl <;> rfl) (by omega) (by decide) (Nat.le_trans l5 hba.size)
 have m1 : Mod (fun b => (slV V).ownBlock = some b) W W5 := (Mod.of_below _ hba).trans (Mod.of_grown hg (fun g e => .inl e)) (fun b hb => .inl hb)
 have hty : ∀ b t, (slV V).ownBlock = some b → Ty W b t → t = 78 := fun b t hb ht => ht.unique (Ty.of_own a2 hb)
 have hb5 : Blk W5 b2 64 #[slV V] := m1.blk a1 (fun e => absurd (hty _ _ e a1.ty) (by decide))
 have m2 : Mod (fun b => b = b2) W5 (W5.setCell ⟨b2, 0, none⟩ (.slice (some ⟨g5, 0, none⟩) (dn.length + 1) cp)) := (Mod.refl (fun b => b = b2) W5).set (p := ⟨b2, 0, none⟩) (.inl rfl) _
 have m : Mod (fun b => b = b2 ∨ (slV V).ownBlock = some b) W (W5.setCell ⟨b2, 0, none⟩ (.slice (some ⟨g5, 0, none⟩) (dn.length + 1) cp)) := (m1.mono (fun b hb => .inl (.inr hb))).trans m2 (fun b hb => .inl (.inl hb))
 have hno : ∀ {g : Nat} {t : TypeId} {c : Array Value}, Blk W g t c → t ≠ 78 → t ≠ 64 → ¬ (g = b2 ∨ (slV V).ownBlock = some g) := by
  rintro g t c hb ht hne (e | e)
  ·subst e; exact hne (hb.ty.unique a1.ty)
  ·exact ht (hty _ _ e hb.ty)
 have hset := hb5.set_ 0 (.slice (some ⟨g5, 0, none⟩) (dn.length + 1) cp)
 simp only [List.setIfInBounds_toArray, List.set_cons_zero] at hset
 have e1 : (dn ++ [d]).length = dn.length + 1 := by simp
 refine ⟨V, g5, cp, W5, a1.cell 0, hrun, hb5.cell 0, hb5.frozen 0, fun c hc => m1.blk hc (fun e => absurd (hty _ _ e hc.ty) (by decide)), ⟨⟨(some ⟨g5, 0, none⟩, dn.length + 1, cp), hset, ?_⟩, m.blk h.c3 (hno h.c3 (by decide) (by decide)), m.blk h.c4 (hno h.c4 (by decide) (by decide)), ⟨A0, n0, c0, m.blk b1 (hno b1 (by decide) (by decide)), b2t.mod m ?_⟩, h.mp.mod m ?_, ⟨l1, l2, l3, l4, Nat.le_trans l5 m.size⟩⟩, m.below (Below.refl _ _) l5 ?_⟩
 ·rw [e1, List.flatMap_append]
  refine m2.own (v := .slice (some ⟨g5, 0, none⟩) (dn.length + 1) cp) (by simpa [List.flatMap_cons] using hown) (fun g' hg' e' => ?_)
  have ht := Ty.of_own hown hg'
  rw [e'] at ht
  exact absurd (ht.unique hb5.ty) (by decide)
 ·rintro x (e | e) hx
  ·subst e; exact absurd (hx.unique a1.ty) (by decide)
  ·exact absurd (hty _ _ e hx) (by decide)
 ·rintro (e | e)
  ·exact h.mp.not_ty (t := 64) (by rw [e]; exact a1.ty)
  ·exact h.mp.not_ty (Ty.of_own a2 e)
 ·rintro x (e | e)
  ·subst e; exact l1
  ·exact (a2.lt x e).1
end
end Go.Proofs.YtlcalajehnaenaaGreatDoor
