/- For every list of numbers and every number worldmintlaw26.BookScript returns true: all results and all open orders agree with the reference model. No condition. -/
import Derived.Test.YtkandhpnenmleaaRows
import Derived.Test.YtkandhpnenmleaaHBase
import Derived.WalkKit
import Derived.ProofKit
import Derived.OpenShut
import Derived.JoinedCond
import Derived.Test.YtkandhpnenmleaaHBrFill
import Derived.Test.YtkandhpnenmleaaHBrAgree
import Derived.Test.YtkandhpnenmleaaHBkLives

namespace Go.Proofs.Ytkandhpnenmleaa
open Go.ChangeShapes Go.WideShapes Go.ChangeAt Go.RowKit

theorem Try.own : ownKnob Try.prog.godebug = none := by kernel_rfl
theorem Try.laidOut : laidOutB Try.prog = true := by kernel_rfl

theorem wf_u8 {n : Int} (h : (Lit.int .u8 n).wf = true) : 0 ≤ n ∧ n ≤ 255 := by simpa [Lit.wf, IntKind.min, IntKind.max, IntKind.signed, IntKind.bits] using h
theorem wf_i64 {n : Int} (h : (Lit.int .i64 n).wf = true) : -9223372036854775808 ≤ n ∧ n ≤ 9223372036854775807 := by simpa [Lit.wf, IntKind.min, IntKind.max, IntKind.signed, IntKind.bits] using h
theorem wf_u64 {n : Int} (h : (Lit.int .u64 n).wf = true) : 0 ≤ n ∧ n ≤ 18446744073709551615 := by simpa [Lit.wf, IntKind.min, IntKind.max, IntKind.signed, IntKind.bits] using h
theorem bytes_wf {n : Nat} {f : Nat → Int} (h : Hid (∀ j, j < n → (Lit.int .u8 (f j)).wf = true)) : ∀ j, j < n → 0 ≤ f j ∧ f j ≤ 255 := fun j hj => wf_u8 (h.out j hj)

theorem byte_of_wf {n : Int} (h : (Lit.int .u8 n).wf = true) : ∃ b : UInt8, n = ((b.toNat : Nat) : Int) := by
  have := wf_u8 h
  exact ⟨UInt8.ofNat n.toNat, by rw [UInt8.toNat_ofNat']; omega⟩
/-- '^' on bytes, under a name that the walk does not open. -/
def xorB (x y : UInt8) : UInt8 := x ^^^ y
theorem xor_u8 (x y : UInt8) : bits BinOp.xor IntKind.u8 ((x.toNat : Nat) : Int) ((y.toNat : Nat) : Int) = (((xorB x y).toNat : Nat) : Int) := by
  unfold xorB
  show IntKind.u8.wrap ((BitVec.ofInt 8 ((x.toNat : Nat) : Int) ^^^ BitVec.ofInt 8 ((y.toNat : Nat) : Int)).toNat : Int) = _
  have e : ∀ z : UInt8, (BitVec.ofInt 8 ((z.toNat : Nat) : Int)).toNat = z.toNat := fun z => by
    rw [BitVec.ofInt_natCast, BitVec.toNat_ofNat]; exact Nat.mod_eq_of_lt z.toNat_lt
  rw [BitVec.toNat_xor, e, e, UInt8.toNat_xor]
  have hx : x.toNat ^^^ y.toNat < 2 ^ 8 := Nat.xor_lt_two_pow x.toNat_lt y.toNat_lt
  simp [IntKind.wrap, IntKind.bits, IntKind.signed]
  omega

section
variable {H : Type} {enc : TypeId × Value → H} {P : Program}

theorem trodAll_stays (hl : laidOutB P = true) {W W' : World} {sp' : Nat → Bool} : ∀ {ts : List TypeId} (_ : ts.all (fun t => P.readableRec t && decide (t < P.types.size)) = true) {vs : List Value} {ds : List (DataW H)} {ps : List MemPlace}
    (_ : DataW.TrodAll enc P W 0 (fun _ => true) true ts vs ds ps) (_ : ∀ p ∈ ps, W.sameAt W' p) (_ : ∀ p ∈ ps, sp' p.block = true), DataW.TrodAll enc P W' 0 sp' true ts vs ds ps
  | [], _, vs, ds, ps, h, _, _ => by
    obtain ⟨rfl, rfl, rfl⟩ := trodAll_nil h
    exact trodAll_mk0
  | t :: ts, hr, vs, ds, ps, h, hs, hp => by
    obtain ⟨v, vs', d, ds', p, q, rfl, rfl, rfl, h1, h2⟩ := trodAll_cons h
    simp only [List.all_cons, Bool.and_eq_true, decide_eq_true_eq] at hr
    exact trodAll_cons_mk (WideElems.Trod_stays hl hr.1.1 hr.1.2 h1 (fun x hx => hs x (by simp [hx])) (fun x hx => hp x (by simp [hx])))
      (trodAll_stays hl hr.2 h2 (fun x hx => hs x (by simp [hx])) (fun x hx => hp x (by simp [hx])))

theorem law_post {f : Func} {s : ChangeSpec} {tb : TypeId} {W W' : World} {args : Array Value} {ds gs : List (DataW H)} {before : List MemPlace} (hl : laidOutB P = true)
    (hr : f.params.toList.all (fun t => P.readableRec t && decide (t < P.types.size)) = true) (hres : f.resultTypes = #[tb]) (hb : P.underlying tb = some .bool) (hv : s.vars = [])
    (hW : DataW.Whole enc P f.params.toList s.vars false W args.toList ds gs before) (hspec : s.fn H ds = { results := [.lit (.bool true)], args := ds }) (hB : Below W.heap.size W W') :
    s.post enc P f false true false false W args (.bool true) W' := by
  have hW' := hW
  obtain ⟨p, q, hA, hV, rfl, hfz, hnd⟩ := hW
  rw [hv] at hV
  obtain ⟨rfl, rfl⟩ := trodVars_none hV
  refine ⟨ds, [], p ++ [], [], p, [], hW', ?_, ?_, ?_, hB.frame _, fun h => by cases h⟩
  · rw [hres, List.append_nil, hspec]
    exact trodAll_mk1 (shut_bool hb true)
  · rw [List.append_nil, hspec]
    exact trodAll_stays hl hr hA (fun x hx => hB.same (by simpa using hW'.lt x (by simp [hx]))) (fun x hx => by simpa using hW'.lt x (by simp [hx]))
  · rw [hv, List.append_nil, hspec]
    rfl

theorem cell_spot {w : World} {a : Addr} {v : Value} (h : w.cell? a = some v) : a.spot = none ∧ a.block < w.heap.size := by
  unfold World.cell? at h
  split at h
  · rename_i c t f hc
    refine ⟨?_, (Array.getElem?_eq_some_iff.1 hc).1⟩
    cases hs : a.spot with
    | none => rfl
    | some x => simp [hs] at h
  · cases h

/-- A slice of integers that came in. -/
theorem open_sl {t e : TypeId} {k : IntKind} {W : World} {v : Value} {d : DataW H} {ps : List MemPlace} {r : Reach} {b0 : Nat} (ht : P.underlying t = some (.slice e)) (he : P.underlying e = some (.int k)) (hc : P.cellsOf e = 1)
    (hval : Value.okWide P W r b0 t v) (h : DataW.Trod enc P W 0 (fun _ => true) true t v d ps) :
    ∃ (A : Option Addr) (n c : Nat) (f : Nat → Int), v = .slice A n c ∧ (A = none → n = 0) ∧ n ≤ c ∧ c ≤ 9223372036854775807 ∧ Rd W W.heap.size A n (fun j => .int k (f j)) ∧ ∀ j, j < n → (Lit.int k (f j)).wf = true := by
  obtain ⟨a0, len, cap, rfl⟩ := okWide_slice ht hval
  obtain ⟨fuel, hf⟩ := h
  rcases open_ints ht he hc hf with ⟨hcs, hx⟩ | ⟨a, len', cap', zs, hcs, _, hl, hm, hz, hx, hcell, hwz⟩
  · simp [Value.cells] at hcs
    obtain ⟨rfl, rfl, rfl⟩ := hcs
    exact ⟨none, 0, 0, fun _ => 0, rfl, fun _ => rfl, by omega, by omega, Rd.nil, fun j hj => absurd hj (by omega)⟩
  · simp [Value.cells] at hcs
    obtain ⟨rfl, rfl, rfl⟩ := hcs
    simp only [if_true] at hz
    refine ⟨some a, len, cap, fun j => zs.getD j 0, rfl, (fun h => by cases h), hl, (by simpa [maxLen] using hm), ?_, ?_⟩
    · intro hn
      have h0 := hcell 0 (by omega)
      have hs := cell_spot h0
      have ea : a.add 0 = a := by simp [Addr.add]
      rw [ea] at hs
      refine ⟨a.block, a.off, ?_, hs.2, fun j hj => ?_⟩
      · cases a; simp_all
      · rw [← hcell j (by omega)]
        congr 1
        unfold Addr.add
        split
        · rename_i h; subst h; cases a; simp_all
        · cases a; simp_all
    · intro j hj
      refine hwz _ ?_
      show zs.getD j 0 ∈ zs
      have : zs.getD j 0 = zs[j]'(by omega) := by simp [List.getD, show j < zs.length by omega]
      rw [this]
      exact List.getElem_mem _
end

end Go.Proofs.Ytkandhpnenmleaa

/- The walk of BookScript. -/
namespace Go.Proofs.Ytkandhpnenmleaa
open Go.ChangeShapes Go.WideShapes Go.ChangeAt Go.RowKit Go.ChangeMaps


set_option maxRecDepth 100000 in
set_option maxHeartbeats 100000000 in
theorem BookScript_walk (W : World) (A0 : Option Addr) (n0 c0 : Nat) (f0 : Nat → Int) (_hA0 : A0 = none → n0 = 0) (_hn0 : n0 ≤ c0) (_hc0 : c0 ≤ 9223372036854775807) (hR0 : Rd W W.heap.size A0 n0 (fun j => .int .i64 (f0 j))) (hw0 : Hid (∀ j, j < n0 → (Lit.int .i64 (f0 j)).wf = true)) (a1 : Int) (_ha1 : Hid ((Lit.int .i64 a1).wf = true)) :
    Calls Try.prog 6 #[.slice A0 n0 c0, .int .i64 a1] W fun e w' => e = .returned (.bool true) ∧ Below W.heap.size W w' := by
  have HW : Hid (∀ j, j < n0 → -9223372036854775808 ≤ f0 j ∧ f0 j ≤ 9223372036854775807) := Lib.hid (fun j hj => wf_i64 (hw0.out j hj))
  have HR := Lib.hid hR0
  have hn9 : n0 ≤ 9223372036854775807 := by omega
  clear hR0 hw0
  have HNEW := Lib.hid (new_any W)
  go_enter Try.func6, Try.ntmps6
  go_wp2_with fail
  refine HNEW.out.mono ?_
  rintro e w1 ⟨V, rfl, hA1, hb1⟩
  have HA1 := Lib.hid hA1
  have HB1 := Lib.hid hb1
  obtain ⟨gb, hgb⟩ : ∃ gb, W.heap.size = gb := ⟨_, rfl⟩
  have HGB := Lib.hid hgb
  rw [hgb]
  clear hA1 hb1 hgb
  go_wp2_with fail
  obtain ⟨w2, hw2⟩ : ∃ w2, w2 = w1.alloc (.cells #[.slice none 0 0] 53) := ⟨_, rfl⟩
  rw [← hw2]
  have hb2 : Below W.heap.size W w2 := by rw [hw2]; exact HB1.out.alloc HB1.out.size _
  have hb12 : Below w1.heap.size w1 w2 := by rw [hw2]; exact (Below.refl _ _).alloc (Nat.le_refl _) _
  have hk2 : Blk w2 w1.heap.size 53 #[.slice none 0 0] := by rw [hw2]; exact Blk.new _ _ _
  obtain ⟨g, hg⟩ : ∃ g, w1.heap.size = g := ⟨_, rfl⟩
  have HP2 : Hid (Pair w2 W.heap.size ⟨gb, V, g, none, 0, 0, []⟩ book0) := Lib.hid ⟨by rw [← HGB.out]; exact HA1.out.all hb12, ref0 (by rw [← hg]; exact hk2) (by rw [← hg]; exact HB1.out.size)⟩
  have HB2 := Lib.hid hb2
  rw [hg]
  clear hw2 hb2 hb12 hk2 hg
  refine (ops_any A0 n0 c0 f0 24 24 w2 rfl (by omega) (HR.out.all HB2.out) HW hn9).mono ?_
  rintro e w3 ⟨A3, m, c3, l, rfl, hO, hm, hb3⟩
  have HO : Hid (OpsAt w3 W.heap.size A3 m c3 l) := Lib.hid ⟨own_base hO.own HB2.out.size, hO.len, hO.acc⟩
  have HF0 : Hid (FSt W.heap.size W gb g 0 ⟨gb, V, g, none, 0, 0, []⟩ book0 w3) := Lib.hid ⟨HP2.out.all hb3, Nat.zero_le _, fun k hk => absurd hk (by simp [book0]), bt HB2.out hb3, rfl, rfl⟩
  clear hO hb3
  go_wp2_with fail
  go_loopw [8] (fun iv wr => ∃ (k : Nat) (P : PS) (b : BkS), k ≤ m ∧ iv = .int .i64 (k : Int) ∧ Hid (FSt W.heap.size W gb g k P b wr) ∧ Hid (OpsAt wr W.heap.size A3 m c3 l)) (fun iv _ => m - (intOf iv).toNat)
  case atStart => exact ⟨0, _, _, Nat.zero_le _, rfl, HF0, HO⟩
  case round =>
    clear HF0 HO
    obtain ⟨k, P, b, hk, rfl, HF, HO⟩ := hrel
    rcases Nat.lt_or_ge k m with hlt | hge
    · have hii : (k : Int) < (m : Int) := by omega
      obtain ⟨go, hAo, -, hgo, e0, e1, e2, e3, e4, e5⟩ := opRow HO.out hlt
      subst hAo
      obtain ⟨x, hx⟩ : ∃ x, opAt l k = x := ⟨_, rfl⟩
      rw [hx] at e0 e1 e2 e3 e4 e5
      have HX := Lib.hid hx
      obtain ⟨gb', V', g', A', n', c', l'⟩ := P
      obtain rfl : gb' = gb := HF.out.gb
      obtain rfl : g' = g := HF.out.g
      have HLB : Hid (b.os.length < 100000) := Lib.hid (by have := HF.out.len; omega)
      clear hx
      go_wp2_with (first
        | (go_at_call 20
           (with_reducible refine (step_any W.heap.size gb' g' n' c' V' A' l' b x _ (Lib.hid HF.out.pair) HLB.out).mono ?_)
           rintro e w5 ⟨rfl, ⟨gb2, V2, g2, A2, n2, c2, l2⟩, hN⟩
           obtain rfl : gb2 = gb' := hN.gb
           obtain rfl : g2 = g' := hN.g
           have HN := Lib.hid hN
           have HO5 := Lib.hid (HO.out.mod hN.mod (fun q hq => QF.isnt HF.out.pair hq (by decide)))
           obtain ⟨go', hAo', -, -, -, -, -, -, -, e5'⟩ := opRow HO5.out hlt
           injection hAo' with hAo'
           injection hAo' with hAo' hz1 hz2
           clear hz1 hz2
           subst hAo'
           rw [HX.out] at e5'
           clear hN e0 e1 e2 e3 e4 e5)
        | (go_at_call 21
           (with_reducible refine (agrees_any W.heap.size gb2 g2 n2 c2 V2 A2 l2 (stepB b x) x.id _ (Lib.hid HN.out.pair)).mono ?_)
           rintro e w6 ⟨rfl, hb6⟩
           have HP6 := Lib.hid (HN.out.pair.all hb6)
           have HB6 := Lib.hid hb6
           clear hb6)
        | (go_at_call 21
           (with_reducible refine (agrees_any W.heap.size gb2 g2 n2 c2 V2 A2 l2 (stepB b x) a1 _ HP6).mono ?_)
           rintro e w7 ⟨rfl, hb7⟩
           have HB7 := Lib.hid (bt HB6.out hb7)
           clear hb7))
      refine ⟨⟨k + 1, ⟨gb2, V2, g2, A2, n2, c2, l2⟩, stepB b x, by omega, by go_num, Lib.hid ⟨HN.out.pair.all HB7.out, ?_, ?_, bt (HN.out.below HF.out.pair HF.out.low HF.out.low.size) HB7.out, rfl, rfl⟩, Lib.hid (HO5.out.all HB7.out)⟩, by simp [intOf]; omega⟩
      · have h1 := stepB_len b x
        have h2 := HF.out.len
        omega
      · exact stepB_noacc HF.out.acc x (by rw [← HX.out]; exact HO.out.acc_ hlt)
    · obtain rfl : k = m := by omega
      go_wp2_with (go_at_call 15
                   (with_reducible refine (lives_any _).mono ?_)
                   rintro e w9 ⟨rfl, hb9⟩)
      go_ret
      exact ⟨rfl, bt HF.out.low hb9⟩

end Go.Proofs.Ytkandhpnenmleaa

/- For every list of numbers and every number worldmintlaw26.BookScript returns true: all results and all open orders agree with the reference model. No condition. -/
namespace Go.Proofs.Ytkandhpnenmleaa
open Go.ChangeShapes Go.WideShapes Go.ChangeAt Go.RowKit Go.ChangeMaps

set_option maxRecDepth 100000 in
theorem BookScript_lifted (os : Os) (started : os.Started) (H : Type) (enc : TypeId × Value → H) :
    ReturnsInHanded {} Try.checked os 6 .any (Rows.bookScriptSpec.pre6 enc Try.prog Try.f6 Rows.bookScriptRow.domain false) (Rows.bookScriptSpec.post enc Try.prog Try.f6 false true false false) := by
  refine returnsInHanded_of_change (C := Try.checked) Try.own started (by kernel_rfl) Try.func6
    (ChangeSpec.witness6 (enc := enc) (C := Try.checked) false ⟨#[], #[.slice none 0 0, .int .i64 0], []⟩ 8 (by kernel_rfl) (by kernel_rfl) (by kernel_rfl) (by kernel_rfl)) ?_
  intro W base args ds gs before hval0 hW _ _
  have hval : ∀ (j : Nat) t v, Try.f6.params[j]? = some t → args[j]? = some v → Value.okWide Try.prog W .any base t v := hval0
  have hW' := hW
  obtain ⟨p, q, hT0, hV, rfl, hfz, hnd⟩ := hW
  have hT : DataW.TrodAll enc Try.prog W 0 (fun _ => true) true Try.f6.params.toList args.toList ds p := hT0
  rw [Try.params6] at hT hval
  obtain ⟨v0, vs0, d0, ds0, p0, q0, hargs0, rfl, rfl, h0, r0⟩ := trodAll_cons hT
  obtain ⟨v1, vs1, d1, ds1, p1, q1, hargs1, rfl, rfl, h1, r1⟩ := trodAll_cons r0
  obtain ⟨rfl, rfl, rfl⟩ := trodAll_nil r1
  obtain rfl : args = #[v0, v1] := by cases args; simp_all
  obtain ⟨A0, n0, c0, f0, rfl, hA0, hn0, hc0, hR0, hw0⟩ := open_sl Try.underlying22 Try.underlying3 (by kernel_rfl) (hval 0 22 v0 rfl rfl) h0
  obtain ⟨a1, rfl, -, -, w1⟩ := open_int Try.underlying3 (hval 1 3 v1 rfl rfl) h1
  refine (BookScript_walk W A0 n0 c0 f0 hA0 hn0 hc0 hR0 hw0 a1 w1).mono fun e W' ⟨he, hb⟩ => ?_
  subst he
  exact ⟨_, rfl, law_post Try.laidOut (by kernel_rfl) (by kernel_rfl) Try.underlying4 rfl hW' rfl hb⟩

theorem BookScript_holds : Rows.BookScriptSaid :=
  OpenClaim.holds_of_wide 6 Try.f6 rfl rfl rfl rfl rfl rfl rfl ⟨rfl, rfl, rfl, rfl, rfl⟩ rfl rfl rfl rfl rfl (by kernel_rfl) Try.func6 (by kernel_rfl)
    (of_decide_eq_true (by kernel_rfl)) (by unfold Func.isWrapper; first | (rw [if_pos (by decide +kernel)]; kernel_rfl) | (rw [if_neg (by decide +kernel)]; exact ⟨rfl, rfl⟩))
    (fun os started H enc _ => BookScript_lifted os started H enc)

end Go.Proofs.Ytkandhpnenmleaa
