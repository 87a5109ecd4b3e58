/- For all three lists of numbers worldmintlaw26.BookCopies returns true: a copy and the book go on independently, each as the reference model does. No condition. -/
import Derived.Test.YtkandhpnenmleaaRows
import Derived.Test.YtkandhpnenmleaaHBase
import Derived.WalkKit
import Derived.ProofKit
import Derived.OpenShut
import Derived.JoinedCond
import Derived.Test.YtkandhpnenmleaaHBrFill
import Derived.Test.YtkandhpnenmleaaHBrAgree
import Derived.Test.YtkandhpnenmleaaHBkLives
import Derived.Test.YtkandhpnenmleaaHBkCpy
import Derived.Test.YtkandhpnenmleaaHBrVoid

namespace Go.Proofs.Ytkandhpnenmleaa
open Go.ChangeShapes Go.WideShapes Go.ChangeAt Go.RowKit

theorem Try.own : ownKnob Try.prog.godebug = none := by kernel_rfl
theorem Try.laidOut : laidOutB Try.prog = true := by kernel_rfl

theorem wf_u8 {n : Int} (h : (Lit.int .u8 n).wf = true) : 0 ≤ n ∧ n ≤ 255 := by simpa [Lit.wf, IntKind.min, IntKind.max, IntKind.signed, IntKind.bits] using h
theorem wf_i64 {n : Int} (h : (Lit.int .i64 n).wf = true) : -9223372036854775808 ≤ n ∧ n ≤ 9223372036854775807 := by simpa [Lit.wf, IntKind.min, IntKind.max, IntKind.signed, IntKind.bits] using h
theorem wf_u64 {n : Int} (h : (Lit.int .u64 n).wf = true) : 0 ≤ n ∧ n ≤ 18446744073709551615 := by simpa [Lit.wf, IntKind.min, IntKind.max, IntKind.signed, IntKind.bits] using h
theorem bytes_wf {n : Nat} {f : Nat → Int} (h : Hid (∀ j, j < n → (Lit.int .u8 (f j)).wf = true)) : ∀ j, j < n → 0 ≤ f j ∧ f j ≤ 255 := fun j hj => wf_u8 (h.out j hj)

theorem byte_of_wf {n : Int} (h : (Lit.int .u8 n).wf = true) : ∃ b : UInt8, n = ((b.toNat : Nat) : Int) := by
  have := wf_u8 h
  exact ⟨UInt8.ofNat n.toNat, by rw [UInt8.toNat_ofNat']; omega⟩
/-- '^' on bytes, under a name that the walk does not open. -/
def xorB (x y : UInt8) : UInt8 := x ^^^ y
theorem xor_u8 (x y : UInt8) : bits BinOp.xor IntKind.u8 ((x.toNat : Nat) : Int) ((y.toNat : Nat) : Int) = (((xorB x y).toNat : Nat) : Int) := by
  unfold xorB
  show IntKind.u8.wrap ((BitVec.ofInt 8 ((x.toNat : Nat) : Int) ^^^ BitVec.ofInt 8 ((y.toNat : Nat) : Int)).toNat : Int) = _
  have e : ∀ z : UInt8, (BitVec.ofInt 8 ((z.toNat : Nat) : Int)).toNat = z.toNat := fun z => by
    rw [BitVec.ofInt_natCast, BitVec.toNat_ofNat]; exact Nat.mod_eq_of_lt z.toNat_lt
  rw [BitVec.toNat_xor, e, e, UInt8.toNat_xor]
  have hx : x.toNat ^^^ y.toNat < 2 ^ 8 := Nat.xor_lt_two_pow x.toNat_lt y.toNat_lt
  simp [IntKind.wrap, IntKind.bits, IntKind.signed]
  omega

section
variable {H : Type} {enc : TypeId × Value → H} {P : Program}

theorem trodAll_stays (hl : laidOutB P = true) {W W' : World} {sp' : Nat → Bool} : ∀ {ts : List TypeId} (_ : ts.all (fun t => P.readableRec t && decide (t < P.types.size)) = true) {vs : List Value} {ds : List (DataW H)} {ps : List MemPlace}
    (_ : DataW.TrodAll enc P W 0 (fun _ => true) true ts vs ds ps) (_ : ∀ p ∈ ps, W.sameAt W' p) (_ : ∀ p ∈ ps, sp' p.block = true), DataW.TrodAll enc P W' 0 sp' true ts vs ds ps
  | [], _, vs, ds, ps, h, _, _ => by
    obtain ⟨rfl, rfl, rfl⟩ := trodAll_nil h
    exact trodAll_mk0
  | t :: ts, hr, vs, ds, ps, h, hs, hp => by
    obtain ⟨v, vs', d, ds', p, q, rfl, rfl, rfl, h1, h2⟩ := trodAll_cons h
    simp only [List.all_cons, Bool.and_eq_true, decide_eq_true_eq] at hr
    exact trodAll_cons_mk (WideElems.Trod_stays hl hr.1.1 hr.1.2 h1 (fun x hx => hs x (by simp [hx])) (fun x hx => hp x (by simp [hx])))
      (trodAll_stays hl hr.2 h2 (fun x hx => hs x (by simp [hx])) (fun x hx => hp x (by simp [hx])))

theorem law_post {f : Func} {s : ChangeSpec} {tb : TypeId} {W W' : World} {args : Array Value} {ds gs : List (DataW H)} {before : List MemPlace} (hl : laidOutB P = true)
    (hr : f.params.toList.all (fun t => P.readableRec t && decide (t < P.types.size)) = true) (hres : f.resultTypes = #[tb]) (hb : P.underlying tb = some .bool) (hv : s.vars = [])
    (hW : DataW.Whole enc P f.params.toList s.vars false W args.toList ds gs before) (hspec : s.fn H ds = { results := [.lit (.bool true)], args := ds }) (hB : Below W.heap.size W W') :
    s.post enc P f false true false false W args (.bool true) W' := by
  have hW' := hW
  obtain ⟨p, q, hA, hV, rfl, hfz, hnd⟩ := hW
  rw [hv] at hV
  obtain ⟨rfl, rfl⟩ := trodVars_none hV
  refine ⟨ds, [], p ++ [], [], p, [], hW', ?_, ?_, ?_, hB.frame _, fun h => by cases h⟩
  · rw [hres, List.append_nil, hspec]
    exact trodAll_mk1 (shut_bool hb true)
  · rw [List.append_nil, hspec]
    exact trodAll_stays hl hr hA (fun x hx => hB.same (by simpa using hW'.lt x (by simp [hx]))) (fun x hx => by simpa using hW'.lt x (by simp [hx]))
  · rw [hv, List.append_nil, hspec]
    rfl

theorem cell_spot {w : World} {a : Addr} {v : Value} (h : w.cell? a = some v) : a.spot = none ∧ a.block < w.heap.size := by
  unfold World.cell? at h
  split at h
  · rename_i c t f hc
    refine ⟨?_, (Array.getElem?_eq_some_iff.1 hc).1⟩
    cases hs : a.spot with
    | none => rfl
    | some x => simp [hs] at h
  · cases h

/-- A slice of integers that came in. -/
theorem open_sl {t e : TypeId} {k : IntKind} {W : World} {v : Value} {d : DataW H} {ps : List MemPlace} {r : Reach} {b0 : Nat} (ht : P.underlying t = some (.slice e)) (he : P.underlying e = some (.int k)) (hc : P.cellsOf e = 1)
    (hval : Value.okWide P W r b0 t v) (h : DataW.Trod enc P W 0 (fun _ => true) true t v d ps) :
    ∃ (A : Option Addr) (n c : Nat) (f : Nat → Int), v = .slice A n c ∧ (A = none → n = 0) ∧ n ≤ c ∧ c ≤ 9223372036854775807 ∧ Rd W W.heap.size A n (fun j => .int k (f j)) ∧ ∀ j, j < n → (Lit.int k (f j)).wf = true := by
  obtain ⟨a0, len, cap, rfl⟩ := okWide_slice ht hval
  obtain ⟨fuel, hf⟩ := h
  rcases open_ints ht he hc hf with ⟨hcs, hx⟩ | ⟨a, len', cap', zs, hcs, _, hl, hm, hz, hx, hcell, hwz⟩
  · simp [Value.cells] at hcs
    obtain ⟨rfl, rfl, rfl⟩ := hcs
    exact ⟨none, 0, 0, fun _ => 0, rfl, fun _ => rfl, by omega, by omega, Rd.nil, fun j hj => absurd hj (by omega)⟩
  · simp [Value.cells] at hcs
    obtain ⟨rfl, rfl, rfl⟩ := hcs
    simp only [if_true] at hz
    refine ⟨some a, len, cap, fun j => zs.getD j 0, rfl, (fun h => by cases h), hl, (by simpa [maxLen] using hm), ?_, ?_⟩
    · intro hn
      have h0 := hcell 0 (by omega)
      have hs := cell_spot h0
      have ea : a.add 0 = a := by simp [Addr.add]
      rw [ea] at hs
      refine ⟨a.block, a.off, ?_, hs.2, fun j hj => ?_⟩
      · cases a; simp_all
      · rw [← hcell j (by omega)]
        congr 1
        unfold Addr.add
        split
        · rename_i h; subst h; cases a; simp_all
        · cases a; simp_all
    · intro j hj
      refine hwz _ ?_
      show zs.getD j 0 ∈ zs
      have : zs.getD j 0 = zs[j]'(by omega) := by simp [List.getD, show j < zs.length by omega]
      rw [this]
      exact List.getElem_mem _
end

end Go.Proofs.Ytkandhpnenmleaa

/- The walk of BookCopies. -/
namespace Go.Proofs.Ytkandhpnenmleaa
open Go.ChangeShapes Go.WideShapes Go.ChangeAt Go.RowKit Go.ChangeMaps

theorem Pair.mod {w w' : World} {B : Nat} {P : PS} {b : BkS} {F : Nat → Prop} (h : Pair w B P b) (m : Mod F w w') (hF : ∀ q, QF P b q → ¬ F q) : Pair w' B P b :=
  ⟨h.bk.mod m (fun q hq => hF q (.inl hq)), ⟨h.rf.rb.mod m (fun q hq => hF q (.inr hq)), h.rf.rel, h.rf.ok⟩⟩
theorem IRow.base {w : World} {B B' : Nat} {s : Sl} {l : List Nat} (h : IRow w B s l) (hB : B' ≤ B) : IRow w B' s l := h.more hB
theorem BkAt.base {w : World} {B B' gb : Nat} {V : BkV} {b : BkS} (h : BkAt w B gb V b) (hB : B' ≤ B) : BkAt w B' gb V b :=
  ⟨h.blk, Nat.le_trans hB h.ge, own_base h.orders hB, h.bs.more hB, h.ss.more hB, h.apart, h.ok, h.few⟩
theorem RAt.base {w : World} {B B' g n c : Nat} {A : Option Addr} {l : List ROrd} {b : BkS} (h : RAt w B g A n c l b) (hB : B' ≤ B) : RAt w B' g A n c l b :=
  ⟨⟨h.rb.blk, Nat.le_trans hB h.rb.ge, own_base h.rb.own hB, h.rb.len, h.rb.few⟩, h.rel, h.ok⟩
/-- Two books and their references, apart. -/
structure Two (B : Nat) (w0 : World) (G : Nat × Nat × Nat × Nat) (k : Nat) (P Q : PS) (b c : BkS) (W : World) : Prop where
  p : Pair W B P b
  q : Pair W B Q c
  apart : ∀ x, QF P b x → ¬ QF Q c x
  lb : b.os.length ≤ 24 + k
  lc : c.os.length ≤ 24 + k
  low : Below B w0 W
  gs : P.gb = G.1 ∧ P.g = G.2.1 ∧ Q.gb = G.2.2.1 ∧ Q.g = G.2.2.2
theorem Two.left {B : Nat} {w0 : World} {G : Nat × Nat × Nat × Nat} {k : Nat} {P Q P' : PS} {b c : BkS} {x : OpP} {w w' : World} (h : Two B w0 G k P Q b c w) (hB : B ≤ w.heap.size) (hn : PNext B P b w P' (stepB b x) w') : Two B w0 G (k + 1) P' Q (stepB b x) c w' := by
  refine ⟨hn.pair, h.q.mod hn.mod (fun x hx hf => h.apart x hf hx), fun x hx hf => ?_, ?_, ?_, hn.below h.p h.low hB, by rw [hn.gb, hn.g]; exact h.gs⟩
  · rcases hn.new x hx with h1 | h1
    · exact h.apart x h1 hf
    · have := (h.q.lt hf).2
      omega
  · have h1 := stepB_len b x
    have h2 := h.lb
    omega
  · have h2 := h.lc
    omega
theorem Two.right {B : Nat} {w0 : World} {G : Nat × Nat × Nat × Nat} {k : Nat} {P Q Q' : PS} {b c : BkS} {x : OpP} {w w' : World} (h : Two B w0 G k P Q b c w) (hB : B ≤ w.heap.size) (hn : PNext B Q c w Q' (stepB c x) w') : Two B w0 G (k + 1) P Q' b (stepB c x) w' := by
  refine ⟨h.p.mod hn.mod (fun x hx hf => h.apart x hx hf), hn.pair, fun x hx hf => ?_, ?_, ?_, hn.below h.q h.low hB, by rw [hn.gb, hn.g]; exact h.gs⟩
  · rcases hn.new x hf with h1 | h1
    · exact h.apart x hx h1
    · have := (h.p.lt hx).2
      omega
  · have h2 := h.lb
    omega
  · have h1 := stepB_len c x
    have h2 := h.lc
    omega
theorem Two.all {B : Nat} {w0 : World} {G : Nat × Nat × Nat × Nat} {k j : Nat} {P Q : PS} {b c : BkS} {w w' : World} (h : Two B w0 G k P Q b c w) (hj : k ≤ j) (hB : B ≤ w.heap.size) (hb : Below w.heap.size w w') : Two B w0 G j P Q b c w' :=
  ⟨h.p.all hb, h.q.all hb, h.apart, by have := h.lb; omega, by have := h.lc; omega, h.low.trans (hb.mono hB), h.gs⟩

set_option maxRecDepth 100000 in
set_option maxHeartbeats 100000000 in
theorem BookCopies_walk (W : World) (A0 : Option Addr) (n0 c0 : Nat) (f0 : Nat → Int) (_hA0 : A0 = none → n0 = 0) (_hn0 : n0 ≤ c0) (_hc0 : c0 ≤ 9223372036854775807) (hR0 : Rd W W.heap.size A0 n0 (fun j => .int .i64 (f0 j))) (hw0 : Hid (∀ j, j < n0 → (Lit.int .i64 (f0 j)).wf = true)) (A1 : Option Addr) (n1 c1 : Nat) (f1 : Nat → Int) (_hA1 : A1 = none → n1 = 0) (_hn1 : n1 ≤ c1) (_hc1 : c1 ≤ 9223372036854775807) (hR1 : Rd W W.heap.size A1 n1 (fun j => .int .i64 (f1 j))) (hw1 : Hid (∀ j, j < n1 → (Lit.int .i64 (f1 j)).wf = true)) (A2 : Option Addr) (n2 c2 : Nat) (f2 : Nat → Int) (_hA2 : A2 = none → n2 = 0) (_hn2 : n2 ≤ c2) (hc2 : c2 ≤ 9223372036854775807) (hR2 : Rd W W.heap.size A2 n2 (fun j => .int .i64 (f2 j))) (hw2 : Hid (∀ j, j < n2 → (Lit.int .i64 (f2 j)).wf = true)) :
    Calls Try.prog 9 #[.slice A0 n0 c0, .slice A1 n1 c1, .slice A2 n2 c2] W fun e w' => e = .returned (.bool true) ∧ Below W.heap.size W w' := by
  have HW0 : Hid (∀ j, j < n0 → -9223372036854775808 ≤ f0 j ∧ f0 j ≤ 9223372036854775807) := Lib.hid (fun j hj => wf_i64 (hw0.out j hj))
  have HR0 := Lib.hid hR0
  have hn90 : n0 ≤ 9223372036854775807 := by omega
  clear hR0 hw0
  have HW1 : Hid (∀ j, j < n1 → -9223372036854775808 ≤ f1 j ∧ f1 j ≤ 9223372036854775807) := Lib.hid (fun j hj => wf_i64 (hw1.out j hj))
  have HR1 := Lib.hid hR1
  have hn91 : n1 ≤ 9223372036854775807 := by omega
  clear hR1 hw1
  have HW2 : Hid (∀ j, j < n2 → -9223372036854775808 ≤ f2 j ∧ f2 j ≤ 9223372036854775807) := Lib.hid (fun j hj => wf_i64 (hw2.out j hj))
  have HR2 := Lib.hid hR2
  have hn92 : n2 ≤ 9223372036854775807 := by omega
  clear hR2 hw2
  go_enter Try.func9, Try.ntmps9
  go_wp2_with fail
  refine (filled_any A0 n0 c0 f0 W HR0.out HW0 hn90).mono ?_
  rintro e w1 ⟨⟨gb1, pV, g1, pA, pn, pc, pl⟩, b, rfl, hP1, hl1, -, hb1⟩
  have HP1 := Lib.hid hP1
  have HB1 := Lib.hid hb1
  have HL1 := Lib.hid hl1
  clear hP1 hb1 hl1
  go_wp2_with fail
  refine (copy_any gb1 W.heap.size pV b w1 (Lib.hid HP1.out.bk)).mono ?_
  rintro e w2 ⟨gb2, qV, rfl, hc2, hb2⟩
  have HC2 := Lib.hid hc2
  have HB2 := Lib.hid hb2
  clear hc2 hb2
  go_wp2_with fail
  refine (rcopy_any W.heap.size g1 pn pc pA pl b w2 (Lib.hid (HP1.out.rf.all HB2.out))).mono ?_
  rintro e w3 ⟨g2, qA, qn, qc, rfl, hc3, hb3⟩
  have HT3 : Hid (Two W.heap.size W (gb1, g1, gb2, g2) 0 ⟨gb1, pV, g1, pA, pn, pc, pl⟩ ⟨gb2, qV, g2, qA, qn, qc, pl⟩ b b w3) := Lib.hid ⟨(HP1.out.all HB2.out).all hb3, ⟨(HC2.out.base HB1.out.size).all hb3, hc3.base (Nat.le_trans HB1.out.size HB2.out.size)⟩, fun x hx hf => by
    have h1 := (HP1.out.lt hx).2
    rcases hf with hf | hf
    · have := (HC2.out.lt hf).1
      omega
    · have h2 := (hc3.rb.lt hf).1
      have h3 := HB2.out.size
      omega, by have := HL1.out; omega, by have := HL1.out; omega, bt (bt HB1.out HB2.out) hb3, ⟨rfl, rfl, rfl, rfl⟩⟩
  have HSZ3 : Hid (W.heap.size ≤ w3.heap.size) := Lib.hid HT3.out.low.size
  clear hc3 hb3
  go_wp2_with fail
  refine (ops_any A1 n1 c1 f1 6 6 w3 rfl (by omega) (HR1.out.all HT3.out.low) HW1 hn91).mono ?_
  rintro e w4 ⟨A4, m4, c4, lx, rfl, hO4, hm4, hb4⟩
  have HX4 : Hid (OpsAt w4 W.heap.size A4 m4 c4 lx) := Lib.hid ⟨own_base hO4.own HSZ3.out, hO4.len, hO4.acc⟩
  have HT4 := Lib.hid (HT3.out.all (Nat.le_refl _) HSZ3.out hb4)
  have HSZ4 : Hid (W.heap.size ≤ w4.heap.size) := Lib.hid HT4.out.low.size
  clear hO4 hb4
  go_wp2_with fail
  refine (ops_any A2 n2 c2 f2 6 6 w4 rfl (by omega) (HR2.out.all HT4.out.low) HW2 hn92).mono ?_
  rintro e w5 ⟨A5, m5, c5, ly, rfl, hO5, hm5, hb5⟩
  have HY5 : Hid (OpsAt w5 W.heap.size A5 m5 c5 ly) := Lib.hid ⟨own_base hO5.own HSZ4.out, hO5.len, hO5.acc⟩
  have HX5 := Lib.hid (HX4.out.all hb5)
  have HT5 := Lib.hid (HT4.out.all (Nat.le_refl _) HSZ4.out hb5)
  have HSZ5 : Hid (W.heap.size ≤ w5.heap.size) := Lib.hid HT5.out.low.size
  clear hO5 hb5
  go_wp2_with fail
  go_loopw [13] (fun iv wr => ∃ (k : Nat) (P Q : PS) (b c : BkS), (k ≤ m4 ∨ k ≤ m5) ∧ iv = .int .i64 (k : Int) ∧ Hid (Two W.heap.size W (gb1, g1, gb2, g2) (2 * k) P Q b c wr) ∧ Hid (OpsAt wr W.heap.size A4 m4 c4 lx) ∧ Hid (OpsAt wr W.heap.size A5 m5 c5 ly) ∧ Hid (W.heap.size ≤ wr.heap.size)) (fun iv _ => m4 + m5 - (intOf iv).toNat)
  case atStart => exact ⟨0, _, _, b, b, .inl (Nat.zero_le _), rfl, HT5, HX5, HY5, HSZ5⟩
  case round =>
    clear HT5 HX5 HY5 HSZ5 HT4 HX4 HSZ4 HT3 HSZ3 HC2 HB2 HP1 HB1 HL1
    obtain ⟨k, ⟨gb1', pV, g1', pA, pn, pc, pl⟩, ⟨gb2', qV, g2', qA, qn, qc, ql⟩, b, c, hk, rfl, HT, HX, HY, HSZ⟩ := hrel
    obtain rfl : gb1' = gb1 := HT.out.gs.1
    obtain rfl : g1' = g1 := HT.out.gs.2.1
    obtain rfl : gb2' = gb2 := HT.out.gs.2.2.1
    obtain rfl : g2' = g2 := HT.out.gs.2.2.2
    have HLB : Hid (b.os.length < 100000) := Lib.hid (by have := HT.out.lb; omega)
    have HLC : Hid (c.os.length < 100000) := Lib.hid (by have := HT.out.lc; omega)
    rcases Nat.lt_or_ge k m4 with hka | hka
    · have hia : (k : Int) < (m4 : Int) := by omega
      rcases Nat.lt_or_ge k m5 with hkb | hkb
      · have hib : (k : Int) < (m5 : Int) := by omega
        obtain ⟨go, hAo, -, hgo, e0, e1, e2, e3, e4, e5⟩ := opRow HX.out hka
        subst hAo
        obtain ⟨x, hx⟩ : ∃ x, opAt lx k = x := ⟨_, rfl⟩
        rw [hx] at e0 e1 e2 e3 e4 e5
        have HXE := Lib.hid hx
        clear hx
        obtain ⟨gp, hAp, -, hgp, d0, d1, d2, d3, d4, d5⟩ := opRow HY.out hkb
        subst hAp
        obtain ⟨y, hy⟩ : ∃ y, opAt ly k = y := ⟨_, rfl⟩
        rw [hy] at d0 d1 d2 d3 d4 d5
        have HYE := Lib.hid hy
        clear hy
        go_wp2_with (first
            | (go_at_call 20
               (with_reducible refine (step_any W.heap.size gb1' g1' pn pc pV pA pl b x _ (Lib.hid HT.out.p) HLB.out).mono ?_)
               rintro e w5 ⟨rfl, P', hN⟩
               have HT5 := Lib.hid (HT.out.left HSZ.out hN)
               have HX5 := Lib.hid (HX.out.mod hN.mod (fun q hq => QF.isnt HT.out.p hq (by decide)))
               have HY5 := Lib.hid (HY.out.mod hN.mod (fun q hq => QF.isnt HT.out.p hq (by decide)))
               have HSZ5 := Lib.hid (Nat.le_trans HSZ.out hN.mod.size)
               obtain ⟨gp', hAp', -, -, d0', d1', d2', d3', d4', d5'⟩ := opRow HY5.out hkb
               injection hAp' with hAp'
               injection hAp' with hAp' hz1 hz2
               clear hz1 hz2
               subst hAp'
               rw [HYE.out] at d0' d1' d2' d3' d4' d5'
               clear d0 d1 d2 d3 d4 d5
               clear hN e0 e1 e2 e3 e4 e5)
            | (go_at_call 20
               (with_reducible refine (step_any W.heap.size gb2' g2' qn qc qV qA ql c y _ (Lib.hid HT5.out.q) HLC.out).mono ?_)
               rintro e w6 ⟨rfl, Q', hN⟩
               have HT6 := Lib.hid (HT5.out.right HSZ5.out hN)
               have HX6 := Lib.hid (HX5.out.mod hN.mod (fun q hq => QF.isnt HT5.out.q hq (by decide)))
               have HY6 := Lib.hid (HY5.out.mod hN.mod (fun q hq => QF.isnt HT5.out.q hq (by decide)))
               have HSZ6 := Lib.hid (Nat.le_trans HSZ5.out hN.mod.size)
               clear hN))
        exact ⟨⟨k + 1, P', Q', stepB b x, stepB c y, by omega, by go_num, Lib.hid (HT6.out.all (by omega) HSZ6.out (Below.refl _ _)), HX6, HY6, HSZ6⟩, by simp [intOf]; omega⟩
      · have hib : ¬ (k : Int) < (m5 : Int) := by omega
        obtain ⟨go, hAo, -, hgo, e0, e1, e2, e3, e4, e5⟩ := opRow HX.out hka
        subst hAo
        obtain ⟨x, hx⟩ : ∃ x, opAt lx k = x := ⟨_, rfl⟩
        rw [hx] at e0 e1 e2 e3 e4 e5
        have HXE := Lib.hid hx
        clear hx
        go_wp2_with (first
            | (go_at_call 20
               (with_reducible refine (step_any W.heap.size gb1' g1' pn pc pV pA pl b x _ (Lib.hid HT.out.p) HLB.out).mono ?_)
               rintro e w5 ⟨rfl, P', hN⟩
               have HT5 := Lib.hid (HT.out.left HSZ.out hN)
               have HX5 := Lib.hid (HX.out.mod hN.mod (fun q hq => QF.isnt HT.out.p hq (by decide)))
               have HY5 := Lib.hid (HY.out.mod hN.mod (fun q hq => QF.isnt HT.out.p hq (by decide)))
               have HSZ5 := Lib.hid (Nat.le_trans HSZ.out hN.mod.size)
               clear hN e0 e1 e2 e3 e4 e5))
        exact ⟨⟨k + 1, P', ⟨gb2', qV, g2', qA, qn, qc, ql⟩, stepB b x, c, by omega, by go_num, Lib.hid (HT5.out.all (by omega) HSZ5.out (Below.refl _ _)), HX5, HY5, HSZ5⟩, by simp [intOf]; omega⟩
    · have hia : ¬ (k : Int) < (m4 : Int) := by omega
      rcases Nat.lt_or_ge k m5 with hkb | hkb
      · have hib : (k : Int) < (m5 : Int) := by omega
        obtain ⟨gp, hAp, -, hgp, d0, d1, d2, d3, d4, d5⟩ := opRow HY.out hkb
        subst hAp
        obtain ⟨y, hy⟩ : ∃ y, opAt ly k = y := ⟨_, rfl⟩
        rw [hy] at d0 d1 d2 d3 d4 d5
        have HYE := Lib.hid hy
        clear hy
        go_wp2_with (first
            | (go_at_call 20
               (with_reducible refine (step_any W.heap.size gb2' g2' qn qc qV qA ql c y _ (Lib.hid HT.out.q) HLC.out).mono ?_)
               rintro e w6 ⟨rfl, Q', hN⟩
               have HT6 := Lib.hid (HT.out.right HSZ.out hN)
               have HX6 := Lib.hid (HX.out.mod hN.mod (fun q hq => QF.isnt HT.out.q hq (by decide)))
               have HY6 := Lib.hid (HY.out.mod hN.mod (fun q hq => QF.isnt HT.out.q hq (by decide)))
               have HSZ6 := Lib.hid (Nat.le_trans HSZ.out hN.mod.size)
               clear hN))
        exact ⟨⟨k + 1, ⟨gb1', pV, g1', pA, pn, pc, pl⟩, Q', b, stepB c y, by omega, by go_num, Lib.hid (HT6.out.all (by omega) HSZ6.out (Below.refl _ _)), HX6, HY6, HSZ6⟩, by simp [intOf]; omega⟩
      · have hib : ¬ (k : Int) < (m5 : Int) := by omega
        go_wp2_with (first
          | (go_at_call 21
             (with_reducible refine (agrees_any W.heap.size gb1' g1' pn pc pV pA pl b 0 _ (Lib.hid HT.out.p)).mono ?_)
             rintro e w6 ⟨rfl, hb6⟩
             have HT6 := Lib.hid (HT.out.all (Nat.le_refl _) HSZ.out hb6)
             have HSZ6 := Lib.hid (Nat.le_trans HSZ.out hb6.size)
             clear hb6)
          | (go_at_call 21
             (with_reducible refine (agrees_any W.heap.size gb2' g2' qn qc qV qA ql c 0 _ (Lib.hid HT6.out.q)).mono ?_)
             rintro e w7 ⟨rfl, hb7⟩
             have HT7 := Lib.hid (HT6.out.all (Nat.le_refl _) HSZ6.out hb7)
             clear hb7)
          | (go_at_call 15
             (with_reducible refine (lives_any _).mono ?_)
             rintro e w9 ⟨rfl, hb9⟩))
        go_ret
        exact ⟨rfl, bt HT7.out.low hb9⟩

end Go.Proofs.Ytkandhpnenmleaa

/- For all three lists of numbers worldmintlaw26.BookCopies returns true: a copy and the book go on independently, each as the reference model does. No condition. -/
namespace Go.Proofs.Ytkandhpnenmleaa
open Go.ChangeShapes Go.WideShapes Go.ChangeAt Go.RowKit Go.ChangeMaps

set_option maxRecDepth 100000 in
theorem BookCopies_lifted (os : Os) (started : os.Started) (H : Type) (enc : TypeId × Value → H) :
    ReturnsInHanded {} Try.checked os 9 .any (Rows.bookCopiesSpec.pre6 enc Try.prog Try.f9 Rows.bookCopiesRow.domain false) (Rows.bookCopiesSpec.post enc Try.prog Try.f9 false true false false) := by
  refine returnsInHanded_of_change (C := Try.checked) Try.own started (by kernel_rfl) Try.func9
    (ChangeSpec.witness6 (enc := enc) (C := Try.checked) false ⟨#[], #[.slice none 0 0, .slice none 0 0, .slice none 0 0], []⟩ 8 (by kernel_rfl) (by kernel_rfl) (by kernel_rfl) (by kernel_rfl)) ?_
  intro W base args ds gs before hval0 hW _ _
  have hval : ∀ (j : Nat) t v, Try.f9.params[j]? = some t → args[j]? = some v → Value.okWide Try.prog W .any base t v := hval0
  have hW' := hW
  obtain ⟨p, q, hT0, hV, rfl, hfz, hnd⟩ := hW
  have hT : DataW.TrodAll enc Try.prog W 0 (fun _ => true) true Try.f9.params.toList args.toList ds p := hT0
  rw [Try.params9] at hT hval
  obtain ⟨v0, vs0, d0, ds0, p0, q0, hargs0, rfl, rfl, h0, r0⟩ := trodAll_cons hT
  obtain ⟨v1, vs1, d1, ds1, p1, q1, hargs1, rfl, rfl, h1, r1⟩ := trodAll_cons r0
  obtain ⟨v2, vs2, d2, ds2, p2, q2, hargs2, rfl, rfl, h2, r2⟩ := trodAll_cons r1
  obtain ⟨rfl, rfl, rfl⟩ := trodAll_nil r2
  obtain rfl : args = #[v0, v1, v2] := by cases args; simp_all
  obtain ⟨A0, n0, c0, f0, rfl, hA0, hn0, hc0, hR0, hw0⟩ := open_sl Try.underlying22 Try.underlying3 (by kernel_rfl) (hval 0 22 v0 rfl rfl) h0
  obtain ⟨A1, n1, c1, f1, rfl, hA1, hn1, hc1, hR1, hw1⟩ := open_sl Try.underlying22 Try.underlying3 (by kernel_rfl) (hval 1 22 v1 rfl rfl) h1
  obtain ⟨A2, n2, c2, f2, rfl, hA2, hn2, hc2, hR2, hw2⟩ := open_sl Try.underlying22 Try.underlying3 (by kernel_rfl) (hval 2 22 v2 rfl rfl) h2
  refine (BookCopies_walk W A0 n0 c0 f0 hA0 hn0 hc0 hR0 hw0 A1 n1 c1 f1 hA1 hn1 hc1 hR1 hw1 A2 n2 c2 f2 hA2 hn2 hc2 hR2 hw2).mono fun e W' ⟨he, hb⟩ => ?_
  subst he
  exact ⟨_, rfl, law_post Try.laidOut (by kernel_rfl) (by kernel_rfl) Try.underlying4 rfl hW' rfl hb⟩

theorem BookCopies_holds : Rows.BookCopiesSaid :=
  OpenClaim.holds_of_wide 9 Try.f9 rfl rfl rfl rfl rfl rfl rfl ⟨rfl, rfl, rfl, rfl, rfl⟩ rfl rfl rfl rfl rfl (by kernel_rfl) Try.func9 (by kernel_rfl)
    (of_decide_eq_true (by kernel_rfl)) (by unfold Func.isWrapper; first | (rw [if_pos (by decide +kernel)]; kernel_rfl) | (rw [if_neg (by decide +kernel)]; exact ⟨rfl, rfl⟩))
    (fun os started H enc _ => BookCopies_lifted os started H enc)

end Go.Proofs.Ytkandhpnenmleaa
