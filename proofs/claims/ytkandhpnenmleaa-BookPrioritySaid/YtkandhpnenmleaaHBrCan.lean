/- book: the reference's Cancel, Void, Copy. -/
import Derived.Test.YtkandhpnenmleaaHBrOrd
import Derived.Test.YtkandhpnenmleaaHBkVoid

namespace Go.Proofs.Ytkandhpnenmleaa
open Go.RowKit

/-- The reference's book behind a call. -/
structure RNext (B g : Nat) (A : Option Addr) (n c : Nat) (w : World) (A' : Option Addr) (n' c' : Nat) (l' : List ROrd) (b' : BkS) (w' : World) : Prop where
  at_ : RAt w' B g A' n' c' l' b'
  mod : Mod (RF g A n c) w w'
  new : ∀ q, RF g A' n' c' q → RF g A n c q ∨ w.heap.size ≤ q
def RPost (B g : Nat) (A : Option Addr) (n c : Nat) (w : World) (b' : BkS) (w' : World) : Prop := ∃ A' n' c' l', RNext B g A n c w A' n' c' l' b' w'
theorem RNext.same {B g n c : Nat} {A : Option Addr} {l : List ROrd} {b : BkS} {w w' : World} (h : RAt w B g A n c l b) (hb : Below w.heap.size w w') : RNext B g A n c w A n c l b w' :=
  ⟨⟨h.rb.all hb, h.rel, h.ok⟩, Mod.of_below _ hb, fun _ hq => .inl hq⟩
def RCancelPost (B g : Nat) (A : Option Addr) (n c : Nat) (b : BkS) (acc id : Int) (w : World) (e : Ending) (w' : World) : Prop := e = .returned (.tuple #[.int .i64 (cancelE b acc id).1, .int .i64 (cancelE b acc id).2.1]) ∧ RPost B g A n c w (cancelE b acc id).2.2 w'
theorem RCancelPost.of {B g n c : Nat} {A : Option Addr} {b b' : BkS} {acc id p q : Int} {w w' : World} (h : cancelE b acc id = (p, q, b')) (hp : RPost B g A n c w b' w') : RCancelPost B g A n c b acc id w (.returned (.tuple #[.int .i64 p, .int .i64 q])) w' := by
  unfold RCancelPost
  rw [h]
  exact ⟨rfl, hp⟩
set_option maxRecDepth 100000 in
set_option maxHeartbeats 4000000 in
theorem rcancel_any (B g n c : Nat) (A : Option Addr) (l : List ROrd) (b : BkS) (acc id : Int) (w : World) (HK : Hid (RAt w B g A n c l b)) :
    Calls Try.prog 37 #[.pointer (some ⟨g, 0, none⟩), .int .i64 acc, .int .i64 id] w (RCancelPost B g A n c b acc id w) := by
  have hl := HK.out.rb.len
  have hl2 := HK.out.rel.len
  have hln : b.os.length = n := by omega
  have HLN := Lib.hid hln
  have hn := HK.out.rb.few
  have hc0 := HK.out.rb.cell0
  clear hl hl2
  by_cases h0 : id < 0
  · have HE : Hid (cancelE b acc id = (0, 7, b)) := Lib.hid (by unfold cancelE; rw [if_pos (.inl h0)])
    have HF : Hid (∀ w', Below w.heap.size w w' → RPost B g A n c w b w') := Lib.hid (fun w' hb => ⟨A, n, c, l, RNext.same HK.out hb⟩)
    clear hln
    go_enter Try.func37, Try.ntmps37
    go_wp2
    refine bodyPost_ret (v := .tuple #[.int .i64 0, .int .i64 7]) (by simp [results, Try.results37, go_sem]) rfl (RCancelPost.of HE.out (HF.out _ (Below.refl _ _)))
  by_cases h1 : (n : Int) ≤ id
  · have HE : Hid (cancelE b acc id = (0, 7, b)) := Lib.hid (by unfold cancelE; rw [if_pos (.inr (by omega))])
    have HF : Hid (∀ w', Below w.heap.size w w' → RPost B g A n c w b w') := Lib.hid (fun w' hb => ⟨A, n, c, l, RNext.same HK.out hb⟩)
    clear hln
    go_enter Try.func37, Try.ntmps37
    go_wp2
    refine bodyPost_ret (v := .tuple #[.int .i64 0, .int .i64 7]) (by simp [results, Try.results37, go_sem]) rfl (RCancelPost.of HE.out (HF.out _ (Below.refl _ _)))
  obtain ⟨k, rfl⟩ : ∃ k : Nat, id = (k : Int) := ⟨id.toNat, by omega⟩
  have hkn : k < n := by omega
  have hkb : k < b.os.length := by omega
  obtain ⟨gr, hA, hgr, -, fz, a0, a1, a2, a3, a4, a5, a6⟩ := HK.out.rb.order hkn
  subst hA
  have fz6 := fz 6
  have hlo : (rAt l k).o.left ≤ 1099511627776 := by
    rw [HK.out.rel.at_]
    have := HK.out.ok.rng k hkb
    omega
  have hio := isOpenB_eq HK.out.ok hkb
  rw [← HK.out.rel.isIn k (by rw [HK.out.rel.len]; exact hkb)] at hio
  have hoa : ordAt b.os k = (rAt l k).o := (HK.out.rel.at_ k).symm
  obtain ⟨x, hx⟩ : ∃ x, rAt l k = x := ⟨_, rfl⟩
  rw [hx] at a0 a1 a2 a3 a4 a5 a6 hio hoa hlo
  have HX := Lib.hid hx
  have hop : ∀ w, Calls Try.prog 59 #[.agg #[.int .i64 x.o.id, .int .i64 x.o.acc, .bool x.o.buy, .int .i64 x.o.price, .int .i64 x.o.n, .int .i64 x.o.left, .bool x.e]] w fun e w' => e = .returned (.bool x.open) ∧ Below w.heap.size w w' := fun w => ropen_any x w
  have hkk : (k : Int) < (n : Int) := by omega
  have hkk' : ¬ ((n : Int) ≤ (k : Int)) := by omega
  have hE : ∀ r, r = (if isOpenB b (ordAt b.os k) = false then ((0 : Int), (7 : Int), b) else if (ordAt b.os k).acc ≠ acc then (0, 15, b) else ((ordAt b.os k).left, 0, b.ended (ordAt b.os k))) → cancelE b acc (k : Int) = r := by
    rintro r rfl
    unfold cancelE
    rw [if_neg (by omega), Int.toNat_natCast]
  rw [hoa] at hE hio
  clear hx h0 h1 hln
  cases ho : x.open
  · have HE : Hid (cancelE b acc (k : Int) = (0, 7, b)) := Lib.hid (hE _ (by rw [if_pos (hio.trans ho)]))
    have HOP : Hid (∀ w, Calls Try.prog 59 #[.agg #[.int .i64 x.o.id, .int .i64 x.o.acc, .bool x.o.buy, .int .i64 x.o.price, .int .i64 x.o.n, .int .i64 x.o.left, .bool x.e]] w fun e w' => e = .returned (.bool false) ∧ Below w.heap.size w w') := Lib.hid (by simp only [ho] at hop; exact hop)
    have HF : Hid (∀ w', Below w.heap.size w w' → RPost B g (some ⟨gr, 0, none⟩) n c w b w') := Lib.hid (fun w' hb => ⟨_, n, c, l, RNext.same HK.out hb⟩)
    clear hop hE hio ho hoa hkb
    go_enter Try.func37, Try.ntmps37
    go_wp2_with (go_at_call 59
                 (with_reducible refine (HOP.out _).mono ?_)
                 rintro e w1 ⟨rfl, hb1⟩)
    refine bodyPost_ret (v := .tuple #[.int .i64 0, .int .i64 7]) (by simp [results, Try.results37, go_sem]) rfl (RCancelPost.of HE.out (HF.out _ hb1))
  · have HOP : Hid (∀ w, Calls Try.prog 59 #[.agg #[.int .i64 x.o.id, .int .i64 x.o.acc, .bool x.o.buy, .int .i64 x.o.price, .int .i64 x.o.n, .int .i64 x.o.left, .bool x.e]] w fun e w' => e = .returned (.bool true) ∧ Below w.heap.size w w') := Lib.hid (by simp only [ho] at hop; exact hop)
    have HIO := Lib.hid (hio.trans ho)
    have HR1 : Hid (∀ w', Below w.heap.size w w' → RB w' B g (some ⟨gr, 0, none⟩) n c l) := Lib.hid (fun w' hb => HK.out.rb.all hb)
    by_cases hac : x.o.acc = acc
    · have HE : Hid (cancelE b acc (k : Int) = (x.o.left, 0, b.ended x.o)) := Lib.hid (hE _ (by rw [if_neg (by rw [hio, ho]; simp), if_neg (by rw [hac]; simp)]))
      have HEQ : Hid (b.ended x.o = b.keep (fun j => j != k)) := Lib.hid (by
        rw [← hoa]
        exact BkS.ended_eq HK.out.ok (by have := isOpenB_eq HK.out.ok hkb; rw [hoa] at this; rw [← this]; exact HIO.out))
      have HREL : Hid (Rel (l.set k ⟨x.o, true⟩) (b.keep (fun j => j != k))) := Lib.hid (by
        have := HK.out.rel.keep1 hkb
        rw [hoa] at this
        exact this)
      have hace : (x.o.acc != acc) = false := by simp [hac]
      clear hop hE hio ho hoa hkb hac
      go_enter Try.func37, Try.ntmps37
      go_wp2_with (go_at_call 59
                   (with_reducible refine (HOP.out _).mono ?_)
                   rintro e w1 ⟨rfl, hb1⟩
                   have q := HR1.out w1 hb1
                   have u0 := q.cell0
                   have HQ := Lib.hid q
                   obtain ⟨g', hg', -, -, fz', x0, x1, x2, x3, x4, x5, x6⟩ := q.order hkn
                   injection hg' with hg'
                   injection hg' with hg' hz1 hz2
                   clear hz1 hz2
                   subst hg'
                   have fq6 := fz' 6
                   rw [HX.out] at x0 x1 x2 x3 x4 x5 x6
                   clear q fz' fz fz6 a0 a1 a2 a3 a4 a5 a6 hc0)
      have hen := HQ.out.ended rfl hkn
      rw [HX.out] at hen
      refine bodyPost_ret (v := .tuple #[.int .i64 x.o.left, .int .i64 0]) (by simp [results, Try.results37, go_sem]) rfl (RCancelPost.of HE.out ⟨_, n, c, _, ⟨⟨hen.1, by rw [HEQ.out]; exact HREL.out, by rw [HEQ.out]; exact HK.out.ok.keep _⟩, (Mod.of_below _ hb1).trans hen.2 (fun _ h => .inl h), fun _ hq => .inl hq⟩⟩)
    · have HE : Hid (cancelE b acc (k : Int) = (0, 15, b)) := Lib.hid (hE _ (by rw [if_neg (by rw [hio, ho]; simp), if_pos hac]))
      have hace : (x.o.acc != acc) = true := by simp [hac]
      clear hop hE hio ho hoa hkb hac
      go_enter Try.func37, Try.ntmps37
      go_wp2_with (go_at_call 59
                   (with_reducible refine (HOP.out _).mono ?_)
                   rintro e w1 ⟨rfl, hb1⟩
                   have q := HR1.out w1 hb1
                   have u0 := q.cell0
                   obtain ⟨g', hg', -, -, -, x0, x1, x2, x3, x4, x5, x6⟩ := q.order hkn
                   injection hg' with hg'
                   injection hg' with hg' hz1 hz2
                   clear hz1 hz2
                   subst hg'
                   rw [HX.out] at x0 x1 x2 x3 x4 x5 x6
                   clear q fz fz6 a0 a1 a2 a3 a4 a5 a6 hc0)
      refine bodyPost_ret (v := .tuple #[.int .i64 0, .int .i64 15]) (by simp [results, Try.results37, go_sem]) rfl (RCancelPost.of HE.out ⟨_, n, c, l, RNext.same HK.out hb1⟩)
end Go.Proofs.Ytkandhpnenmleaa
