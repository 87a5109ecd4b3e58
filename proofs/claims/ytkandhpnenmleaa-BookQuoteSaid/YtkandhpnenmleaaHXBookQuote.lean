/- For every list of numbers, every number and both sides worldmintlaw26.BookQuote returns true: Quote agrees with the reference model and with Place. No condition. -/
import Derived.Test.YtkandhpnenmleaaRows
import Derived.Test.YtkandhpnenmleaaHBase
import Derived.WalkKit
import Derived.ProofKit
import Derived.OpenShut
import Derived.JoinedCond
import Derived.Test.YtkandhpnenmleaaHBkQl
import Derived.Test.YtkandhpnenmleaaHBkFl
import Derived.Test.YtkandhpnenmleaaHBrAgree
import Derived.Test.YtkandhpnenmleaaHBkLives
import Derived.Test.YtkandhpnenmleaaHBrSame
import Derived.Test.YtkandhpnenmleaaHBkQuo
import Derived.Test.YtkandhpnenmleaaHBrQuo
import Derived.Test.YtkandhpnenmleaaHBkCpy

namespace Go.Proofs.Ytkandhpnenmleaa
open Go.ChangeShapes Go.WideShapes Go.ChangeAt Go.RowKit

theorem Try.own : ownKnob Try.prog.godebug = none := by kernel_rfl
theorem Try.laidOut : laidOutB Try.prog = true := by kernel_rfl

theorem wf_u8 {n : Int} (h : (Lit.int .u8 n).wf = true) : 0 ≤ n ∧ n ≤ 255 := by simpa [Lit.wf, IntKind.min, IntKind.max, IntKind.signed, IntKind.bits] using h
theorem wf_i64 {n : Int} (h : (Lit.int .i64 n).wf = true) : -9223372036854775808 ≤ n ∧ n ≤ 9223372036854775807 := by simpa [Lit.wf, IntKind.min, IntKind.max, IntKind.signed, IntKind.bits] using h
theorem wf_u64 {n : Int} (h : (Lit.int .u64 n).wf = true) : 0 ≤ n ∧ n ≤ 18446744073709551615 := by simpa [Lit.wf, IntKind.min, IntKind.max, IntKind.signed, IntKind.bits] using h
theorem bytes_wf {n : Nat} {f : Nat → Int} (h : Hid (∀ j, j < n → (Lit.int .u8 (f j)).wf = true)) : ∀ j, j < n → 0 ≤ f j ∧ f j ≤ 255 := fun j hj => wf_u8 (h.out j hj)

theorem byte_of_wf {n : Int} (h : (Lit.int .u8 n).wf = true) : ∃ b : UInt8, n = ((b.toNat : Nat) : Int) := by
  have := wf_u8 h
  exact ⟨UInt8.ofNat n.toNat, by rw [UInt8.toNat_ofNat']; omega⟩
/-- '^' on bytes, under a name that the walk does not open. -/
def xorB (x y : UInt8) : UInt8 := x ^^^ y
theorem xor_u8 (x y : UInt8) : bits BinOp.xor IntKind.u8 ((x.toNat : Nat) : Int) ((y.toNat : Nat) : Int) = (((xorB x y).toNat : Nat) : Int) := by
  unfold xorB
  show IntKind.u8.wrap ((BitVec.ofInt 8 ((x.toNat : Nat) : Int) ^^^ BitVec.ofInt 8 ((y.toNat : Nat) : Int)).toNat : Int) = _
  have e : ∀ z : UInt8, (BitVec.ofInt 8 ((z.toNat : Nat) : Int)).toNat = z.toNat := fun z => by
    rw [BitVec.ofInt_natCast, BitVec.toNat_ofNat]; exact Nat.mod_eq_of_lt z.toNat_lt
  rw [BitVec.toNat_xor, e, e, UInt8.toNat_xor]
  have hx : x.toNat ^^^ y.toNat < 2 ^ 8 := Nat.xor_lt_two_pow x.toNat_lt y.toNat_lt
  simp [IntKind.wrap, IntKind.bits, IntKind.signed]
  omega

section
variable {H : Type} {enc : TypeId × Value → H} {P : Program}

theorem trodAll_stays (hl : laidOutB P = true) {W W' : World} {sp' : Nat → Bool} : ∀ {ts : List TypeId} (_ : ts.all (fun t => P.readableRec t && decide (t < P.types.size)) = true) {vs : List Value} {ds : List (DataW H)} {ps : List MemPlace}
    (_ : DataW.TrodAll enc P W 0 (fun _ => true) true ts vs ds ps) (_ : ∀ p ∈ ps, W.sameAt W' p) (_ : ∀ p ∈ ps, sp' p.block = true), DataW.TrodAll enc P W' 0 sp' true ts vs ds ps
  | [], _, vs, ds, ps, h, _, _ => by
    obtain ⟨rfl, rfl, rfl⟩ := trodAll_nil h
    exact trodAll_mk0
  | t :: ts, hr, vs, ds, ps, h, hs, hp => by
    obtain ⟨v, vs', d, ds', p, q, rfl, rfl, rfl, h1, h2⟩ := trodAll_cons h
    simp only [List.all_cons, Bool.and_eq_true, decide_eq_true_eq] at hr
    exact trodAll_cons_mk (WideElems.Trod_stays hl hr.1.1 hr.1.2 h1 (fun x hx => hs x (by simp [hx])) (fun x hx => hp x (by simp [hx])))
      (trodAll_stays hl hr.2 h2 (fun x hx => hs x (by simp [hx])) (fun x hx => hp x (by simp [hx])))

theorem law_post {f : Func} {s : ChangeSpec} {tb : TypeId} {W W' : World} {args : Array Value} {ds gs : List (DataW H)} {before : List MemPlace} (hl : laidOutB P = true)
    (hr : f.params.toList.all (fun t => P.readableRec t && decide (t < P.types.size)) = true) (hres : f.resultTypes = #[tb]) (hb : P.underlying tb = some .bool) (hv : s.vars = [])
    (hW : DataW.Whole enc P f.params.toList s.vars false W args.toList ds gs before) (hspec : s.fn H ds = { results := [.lit (.bool true)], args := ds }) (hB : Below W.heap.size W W') :
    s.post enc P f false true false false W args (.bool true) W' := by
  have hW' := hW
  obtain ⟨p, q, hA, hV, rfl, hfz, hnd⟩ := hW
  rw [hv] at hV
  obtain ⟨rfl, rfl⟩ := trodVars_none hV
  refine ⟨ds, [], p ++ [], [], p, [], hW', ?_, ?_, ?_, hB.frame _, fun h => by cases h⟩
  · rw [hres, List.append_nil, hspec]
    exact trodAll_mk1 (shut_bool hb true)
  · rw [List.append_nil, hspec]
    exact trodAll_stays hl hr hA (fun x hx => hB.same (by simpa using hW'.lt x (by simp [hx]))) (fun x hx => by simpa using hW'.lt x (by simp [hx]))
  · rw [hv, List.append_nil, hspec]
    rfl

theorem cell_spot {w : World} {a : Addr} {v : Value} (h : w.cell? a = some v) : a.spot = none ∧ a.block < w.heap.size := by
  unfold World.cell? at h
  split at h
  · rename_i c t f hc
    refine ⟨?_, (Array.getElem?_eq_some_iff.1 hc).1⟩
    cases hs : a.spot with
    | none => rfl
    | some x => simp [hs] at h
  · cases h

/-- A slice of integers that came in. -/
theorem open_sl {t e : TypeId} {k : IntKind} {W : World} {v : Value} {d : DataW H} {ps : List MemPlace} {r : Reach} {b0 : Nat} (ht : P.underlying t = some (.slice e)) (he : P.underlying e = some (.int k)) (hc : P.cellsOf e = 1)
    (hval : Value.okWide P W r b0 t v) (h : DataW.Trod enc P W 0 (fun _ => true) true t v d ps) :
    ∃ (A : Option Addr) (n c : Nat) (f : Nat → Int), v = .slice A n c ∧ (A = none → n = 0) ∧ n ≤ c ∧ c ≤ 9223372036854775807 ∧ Rd W W.heap.size A n (fun j => .int k (f j)) ∧ ∀ j, j < n → (Lit.int k (f j)).wf = true := by
  obtain ⟨a0, len, cap, rfl⟩ := okWide_slice ht hval
  obtain ⟨fuel, hf⟩ := h
  rcases open_ints ht he hc hf with ⟨hcs, hx⟩ | ⟨a, len', cap', zs, hcs, _, hl, hm, hz, hx, hcell, hwz⟩
  · simp [Value.cells] at hcs
    obtain ⟨rfl, rfl, rfl⟩ := hcs
    exact ⟨none, 0, 0, fun _ => 0, rfl, fun _ => rfl, by omega, by omega, Rd.nil, fun j hj => absurd hj (by omega)⟩
  · simp [Value.cells] at hcs
    obtain ⟨rfl, rfl, rfl⟩ := hcs
    simp only [if_true] at hz
    refine ⟨some a, len, cap, fun j => zs.getD j 0, rfl, (fun h => by cases h), hl, (by simpa [maxLen] using hm), ?_, ?_⟩
    · intro hn
      have h0 := hcell 0 (by omega)
      have hs := cell_spot h0
      have ea : a.add 0 = a := by simp [Addr.add]
      rw [ea] at hs
      refine ⟨a.block, a.off, ?_, hs.2, fun j hj => ?_⟩
      · cases a; simp_all
      · rw [← hcell j (by omega)]
        congr 1
        unfold Addr.add
        split
        · rename_i h; subst h; cases a; simp_all
        · cases a; simp_all
    · intro j hj
      refine hwz _ ?_
      show zs.getD j 0 ∈ zs
      have : zs.getD j 0 = zs[j]'(by omega) := by simp [List.getD, show j < zs.length by omega]
      rw [this]
      exact List.getElem_mem _
end

end Go.Proofs.Ytkandhpnenmleaa

/- The walk of BookQuote. -/
namespace Go.Proofs.Ytkandhpnenmleaa
open Go.ChangeShapes Go.WideShapes Go.ChangeAt Go.RowKit Go.ChangeMaps


set_option maxRecDepth 100000 in
set_option maxHeartbeats 100000000 in
theorem BookQuote_walk (W : World) (A0 : Option Addr) (n0 c0 : Nat) (f0 : Nat → Int) (_hA0 : A0 = none → n0 = 0) (_hn0 : n0 ≤ c0) (_hc0 : c0 ≤ 9223372036854775807) (hR0 : Rd W W.heap.size A0 n0 (fun j => .int .i64 (f0 j))) (hw0 : Hid (∀ j, j < n0 → (Lit.int .i64 (f0 j)).wf = true)) (a1 : Int) (ha1 : Hid ((Lit.int .i64 a1).wf = true)) (a2 : Bool) :
    Calls Try.prog 8 #[.slice A0 n0 c0, .int .i64 a1, .bool a2] W fun e w' => e = .returned (.bool true) ∧ Below W.heap.size W w' := by
  have HW : Hid (∀ j, j < n0 → -9223372036854775808 ≤ f0 j ∧ f0 j ≤ 9223372036854775807) := Lib.hid (fun j hj => wf_i64 (hw0.out j hj))
  have HR := Lib.hid hR0
  have hn9 : n0 ≤ 9223372036854775807 := by omega
  clear hR0 hw0
  obtain ⟨p10, p11⟩ := wf_i64 ha1.out
  clear ha1
  go_enter Try.func8, Try.ntmps8
  go_wp2_with fail
  refine (filled_any A0 n0 c0 f0 W HR.out HW hn9).mono ?_
  rintro e w1 ⟨⟨gb, V, g, A, n, c, l⟩, b, rfl, hP1, hl1, hna, hb1⟩
  have HP1 := Lib.hid hP1
  have HB1 := Lib.hid hb1
  have HL1 := Lib.hid hl1
  have HNA := Lib.hid hna
  clear hP1 hb1 hl1 hna
  go_wp2_with fail
  refine (around_nat a1 120 120 _ (by rfl) p10 p11 (by decide) (by decide)).mono ?_
  rintro e w1' ⟨aa, rfl, haa, -, rfl⟩
  go_wp2_with fail
  obtain ⟨w2, hw2⟩ : ∃ w2, w2 = w1.alloc (.cells #[.int .i64 a1, .int .i64 (aa : Int), .int .i64 1099511627776] 3) := ⟨_, rfl⟩
  rw [← hw2]
  have hb2 : Below w1.heap.size w1 w2 := by rw [hw2]; exact (Below.refl _ _).alloc (Nat.le_refl _) _
  have hk2 : Blk w2 w1.heap.size 3 #[.int .i64 a1, .int .i64 (aa : Int), .int .i64 1099511627776] := by rw [hw2]; exact Blk.new _ _ _
  obtain ⟨gl, hgl⟩ : ∃ gl, w1.heap.size = gl := ⟨_, rfl⟩
  rw [hgl] at hk2 ⊢
  have HK2 := Lib.hid hk2
  have HP2 := Lib.hid (HP1.out.all hb2)
  have HB2 := Lib.hid (bt HB1.out hb2)
  clear hw2 hb2 hk2 hgl HP1 HB1
  go_loopw [10] (fun iv wr => ∃ i : Nat, i ≤ 3 ∧ iv = .int .i64 (i : Int) ∧ Hid (Below w2.heap.size w2 wr)) (fun iv _ => 3 - (intOf iv).toNat)
  case atStart => exact ⟨0, by omega, rfl, Lib.hid (Below.refl _ _)⟩
  case round =>
    obtain ⟨i, hi, rfl, HB⟩ := hrel
    rcases Nat.lt_or_ge i 3 with hlt | hge
    · have hii : (i : Int) < 3 := by omega
      have HKr := Lib.hid (HK2.out.all HB.out)
      obtain ⟨v, hv⟩ : ∃ v : Int, (#[Value.int .i64 a1, .int .i64 (aa : Int), .int .i64 1099511627776] : Array Value)[i]? = some (.int .i64 v) := by
        rcases (show i = 0 ∨ i = 1 ∨ i = 2 by omega) with rfl | rfl | rfl
        · exact ⟨_, rfl⟩
        · exact ⟨_, rfl⟩
        · exact ⟨_, rfl⟩
      have HV := Lib.hid hv
      have e0 : wr.cell? ⟨gl, i, none⟩ = some (.int .i64 v) := (HKr.out.cell i).trans hv
      clear hv
      obtain ⟨s, u, r, hE⟩ : ∃ s u r, quoteE b a2 v = (s, u, r) := ⟨_, _, _, rfl⟩
      have HQ1 : Hid (∀ w', Below w2.heap.size w2 w' → Calls Try.prog 23 #[.pointer (some ⟨gb, 0, none⟩), .bool a2, .int .i64 v] w' fun e w'' => e = .returned (.tuple #[.int .i64 s, .int .i64 u, .int .i64 r]) ∧ Below w'.heap.size w' w'') := Lib.hid (fun w' hb => by
        have := quote_any gb W.heap.size V b a2 v w' (Lib.hid (HP2.out.bk.all hb))
        rw [hE] at this
        exact this)
      have HQ2 : Hid (∀ w', Below w2.heap.size w2 w' → Calls Try.prog 24 #[.pointer (some ⟨g, 0, none⟩), .bool a2, .int .i64 v] w' fun e w'' => e = .returned (.tuple #[.int .i64 s, .int .i64 u, .int .i64 r]) ∧ Below w'.heap.size w' w'') := Lib.hid (fun w' hb => by
        have := rquote_any W.heap.size g n c A l b a2 v w' (Lib.hid (HP2.out.rf.all hb))
        unfold RQuotePost at this
        rw [hE] at this
        exact this)
      clear hE
      go_wp2_with fail
      refine (HQ1.out wr HB.out).mono ?_
      rintro e w3 ⟨rfl, hb3⟩
      have e1 : w3.cell? ⟨gl, i, none⟩ = some (.int .i64 v) := ((HKr.out.all hb3).cell i).trans HV.out
      have HB3 := Lib.hid (bt HB.out hb3)
      clear hb3 e0
      go_wp2_with fail
      refine (HQ2.out w3 HB3.out).mono ?_
      rintro e w4 ⟨rfl, hb4⟩
      have HB4 := Lib.hid (bt HB3.out hb4)
      clear hb4
      go_wp2
      exact ⟨⟨i + 1, by omega, by go_num, HB4⟩, by simp [intOf]; omega⟩
    · obtain rfl : i = 3 := by omega
      have HP3 := Lib.hid (HP2.out.all HB.out)
      have HB3 := Lib.hid (bt HB2.out HB.out)
      clear HP2 HB2 HB HK2
      go_wp2_with fail
      refine (around_nat a1 100 100 _ (by rfl) p10 p11 (by decide) (by decide)).mono ?_
      rintro e w4 ⟨ka, rfl, hka, -, rfl⟩
      go_wp2_with fail
      obtain ⟨kk, hkk⟩ : ∃ kk : Int, 1 + (ka : Int) = kk := ⟨_, rfl⟩
      rw [hkk]
      have hk1 : 1 ≤ kk := by omega
      have hk2 : kk ≤ 100 := by omega
      clear hkk
      obtain ⟨qs, qu, hqs⟩ : ∃ qs qu, quoteE b a2 kk = (qs, qu, 0) := ⟨_, _, by unfold quoteE; rw [if_neg (by omega)]⟩
      have HQE := Lib.hid hqs
      have HQ3 : Hid (Calls Try.prog 23 #[.pointer (some ⟨gb, 0, none⟩), .bool a2, .int .i64 kk] wr fun e w'' => e = .returned (.tuple #[.int .i64 qs, .int .i64 qu, .int .i64 0]) ∧ Below wr.heap.size wr w'') := Lib.hid (by
        have := quote_any gb W.heap.size V b a2 kk wr (Lib.hid HP3.out.bk)
        rw [hqs] at this
        exact this)
      clear hqs
      refine HQ3.out.mono ?_
      rintro e w5 ⟨rfl, hb5⟩
      have HP5 := Lib.hid (HP3.out.all hb5)
      have HB5 := Lib.hid (bt HB3.out hb5)
      clear hb5
      go_wp2_with fail
      obtain ⟨on, hon⟩ : ∃ on, b.openOs.length = on := ⟨_, rfl⟩
      have hon4 : on ≤ 24 := by
        have h1 := open_len HP5.out.bk.ok
        have h2 := open_few HP5.out.bk.ok
        have h3 := HL1.out
        omega
      have HON := Lib.hid hon
      have HO : Hid (Calls Try.prog 12 #[.pointer (some ⟨gb, 0, none⟩)] w5 fun e w'' => ∃ A8 c8, e = .returned (.slice A8 on c8) ∧ w''.ownsRow w5.heap.size 42 6 (.slice A8 on c8) on (b.openOs.flatMap Ord.cells) ∧ Below w5.heap.size w5 w'') := Lib.hid (by
        have := orders_any gb W.heap.size V b w5 (Lib.hid HP5.out.bk)
        unfold OrdPost at this
        rw [hon] at this
        exact this)
      clear hon
      refine HO.out.mono ?_
      rintro e w6 ⟨A8, c8, rfl, hr8, hb6⟩
      have HR8 := Lib.hid hr8
      have HP6 := Lib.hid (HP5.out.all hb6)
      have HB6 := Lib.hid (bt HB5.out hb6)
      clear hb6 hr8
      go_wp2_with fail
      go_loopw [21, 23] (fun pv iv wr => ∃ (j : Nat) (p : Int), j ≤ on ∧ iv = .int .i64 (j : Int) ∧ pv = .int .i64 p ∧ 1 ≤ p ∧ p ≤ 1099511627776 ∧ Hid ((∀ i, i < j → (ordAt b.openOs i).price ≤ p) ∧ (a2 = false → p = 1)) ∧ Hid (Below w6.heap.size w6 wr)) (fun _ iv _ => on - (intOf iv).toNat)
      case atStart => exact ⟨0, 1, Nat.zero_le _, rfl, rfl, by omega, by omega, Lib.hid ⟨fun i hi => absurd hi (by omega), fun _ => rfl⟩, Lib.hid (Below.refl _ _)⟩
      case round =>
        obtain ⟨j, p, hj, rfl, rfl, hpp1, hpp2, HPP, HB⟩ := hrel
        by_cases hgo : j < on ∧ a2 = true
        · obtain ⟨hlt, rfl⟩ := hgo
          have hjj : (j : Int) < (on : Int) := by omega
          obtain ⟨gq, hAq, -, hgq, -, -, -, q3, -, -⟩ := ordRow (own_keep HR8.out HB.out) HON.out hlt
          subst hAq
          obtain ⟨id, hid, he1, -, -, -⟩ := openOs_at HP6.out.bk.ok (j := j) (by rw [HON.out]; exact hlt)
          have hrg := HP6.out.bk.ok.rng id hid
          rw [← he1] at hrg
          obtain ⟨o, ho⟩ : ∃ o, ordAt b.openOs j = o := ⟨_, rfl⟩
          rw [ho] at q3 hrg
          have ho1 := hrg.1
          have ho2 := hrg.2.1
          have HO8 := Lib.hid ho
          clear hid he1 hrg ho
          rcases Int.lt_or_le o.price p with hop | hop
          · have hmx : max p o.price = p := Int.max_eq_left (by omega)
            have HMX := Lib.hid hmx
            clear hmx
            go_wp2
            refine ⟨⟨j + 1, p, by omega, by go_num, by rw [HMX.out], hpp1, hpp2, Lib.hid ⟨fun i hi => ?_, HPP.out.2⟩, HB⟩, by simp [intOf]; omega⟩
            rcases (show i < j ∨ i = j by omega) with h | h
            · exact HPP.out.1 i h
            · rw [h, HO8.out]; omega
          · have hmx : max p o.price = o.price := Int.max_eq_right (by omega)
            have HMX := Lib.hid hmx
            clear hmx
            go_wp2
            refine ⟨⟨j + 1, o.price, by omega, by go_num, by rw [HMX.out], by omega, ho2, Lib.hid ⟨fun i hi => ?_, fun h => by cases h⟩, HB⟩, by simp [intOf]; omega⟩
            rcases (show i < j ∨ i = j by omega) with h | h
            · have := HPP.out.1 i h
              omega
            · rw [h, HO8.out]; omega
        · have HALL : Hid ((a2 = true → ∀ i, i < b.openOs.length → (ordAt b.openOs i).price ≤ p) ∧ (a2 = false → p = 1)) := Lib.hid (by
            refine ⟨fun h i hi => ?_, HPP.out.2⟩
            rw [HON.out] at hi
            rcases Nat.lt_or_ge j on with h2 | h2
            · exact absurd ⟨h2, h⟩ hgo
            · exact HPP.out.1 i (by omega))
          have HP7 := Lib.hid (HP6.out.all HB.out)
          have HB7 := Lib.hid (bt HB6.out HB.out)
          have qn := eql_nil29
          have hways : (a2 = true ∧ ¬ ((j : Int) < (on : Int))) ∨ (a2 = false ∧ (j : Int) < (on : Int)) ∨ (a2 = false ∧ ¬ ((j : Int) < (on : Int))) := by
            cases h2 : a2 with
            | false =>
              rcases Int.lt_or_le (j : Int) (on : Int) with h | h
              · exact .inr (.inl ⟨rfl, h⟩)
              · exact .inr (.inr ⟨rfl, by omega⟩)
            | true => exact .inl ⟨rfl, fun h => hgo ⟨by omega, h2⟩⟩
          clear HPP hgo
          rcases hways with ⟨rfl, hjo⟩ | ⟨rfl, hjo⟩ | ⟨rfl, hjo⟩
          all_goals
            rcases Int.lt_or_le 1000000 p with hbig | hbig
            · go_wp2_with (go_at_call 15
                           (with_reducible refine (lives_any _).mono ?_)
                           rintro e w10 ⟨rfl, hb10⟩)
              go_ret
              exact ⟨rfl, bt HB7.out hb10⟩
            · obtain ⟨pid, ts, b', hPE, hQS, hTS, hTL⟩ := place_quote HP7.out.bk.ok HNA.out HL1.out _ (p := p) (k := kk) ⟨by omega, by omega⟩ ⟨by omega, by omega⟩ HALL.out
              obtain ⟨tk, htk⟩ : ∃ tk, ts.length = tk := ⟨_, rfl⟩
              have HPE := Lib.hid hPE
              have HTK := Lib.hid htk
              have HTS := Lib.hid hTS
              have HQS : Hid (qs = sumP ts ∧ qu = sumU ts) := Lib.hid (by
                have h1 := HQE.out
                rw [hQS] at h1
                injection h1 with h1 h2
                injection h2 with h2
                exact ⟨h1.symm, h2.symm⟩)
              have htk4 : tk ≤ 4096 := by rw [← htk]; exact hTL
              have HLT : Hid (b.os.length < 100000) := Lib.hid (by have := HL1.out; omega)
              clear hPE hQS hTS hTL htk
              rcases A8 with _ | ad
              · go_wp2_with (go_at_call 15
                             (with_reducible refine (lives_any _).mono ?_)
                             rintro e w10 ⟨rfl, hb10⟩)
                go_ret
                exact ⟨rfl, bt HB7.out hb10⟩
              · go_wp2_with fail
                refine (place_step gb W.heap.size V b _ 9 p kk _ (Lib.hid HP7.out.bk) HLT.out HPE.out HTK.out).mono ?_
                rintro e w9 ⟨A9, c9, V9, rfl, hr9, hN⟩
                have HTR := Lib.hid hr9
                have HB9 := Lib.hid (hN.mod.below HB7.out HB7.out.size (fun q hq => (HP7.out.bk.lt hq).1))
                clear hr9 hN
                go_wp2_with fail
                go_loopw [18, 19, 27] (fun sv uv iv wr => ∃ (i : Nat) (s u : Int), i ≤ tk ∧ iv = .int .i64 (i : Int) ∧ sv = .int .i64 s ∧ uv = .int .i64 u ∧ Hid (s = sumP (ts.drop i)) ∧ Hid (u = sumU (ts.drop i)) ∧ 0 ≤ s ∧ s ≤ 4503599627370496 ∧ 0 ≤ u ∧ u ≤ 4503599627370496 ∧ Hid (Below w9.heap.size w9 wr)) (fun _ _ iv _ => tk - (intOf iv).toNat)
                case atStart =>
                  have hbd := sumP_bd HTS.out
                  rw [HTK.out] at hbd
                  exact ⟨0, qs, qu, Nat.zero_le _, rfl, rfl, rfl, Lib.hid (by rw [List.drop_zero]; exact HQS.out.1), Lib.hid (by rw [List.drop_zero]; exact HQS.out.2), by rw [HQS.out.1]; omega, by rw [HQS.out.1]; omega, by rw [HQS.out.2]; omega, by rw [HQS.out.2]; omega, Lib.hid (Below.refl _ _)⟩
                case round =>
                  obtain ⟨i, s, u, hi, rfl, rfl, rfl, HS, HU, s0, s1, u0, u1, HB⟩ := hrel
                  rcases Nat.lt_or_ge i tk with hlt | hge
                  · have hii : (i : Int) < (tk : Int) := by omega
                    obtain ⟨gt, hAt, -, hgt, z0, z1, z2, z3⟩ := trdRow (own_keep HTR.out HB.out) HTK.out hlt
                    subst hAt
                    have hds := sumP_drop (ts := ts) (i := i) (by rw [HTK.out]; exact hlt)
                    have htm : trdAt ts i ∈ ts := by rw [trdAt_eq (by rw [HTK.out]; exact hlt)]; exact List.getElem_mem _
                    obtain ⟨t1, t2, t3, t4⟩ := HTS.out _ htm
                    obtain ⟨t, ht⟩ : ∃ t, trdAt ts i = t := ⟨_, rfl⟩
                    rw [ht] at hds z2 z3 t1 t2 t3 t4
                    have hbd := sumP_bd (ts := ts.drop (i + 1)) (fun v hv => HTS.out v (List.mem_of_mem_drop hv))
                    have hlen : (ts.drop (i + 1)).length ≤ 4096 := by rw [List.length_drop, HTK.out]; omega
                    have he1 : s = t.n * t.price + sumP (ts.drop (i + 1)) := by rw [HS.out]; exact hds.1
                    have he2 : u = t.n + sumU (ts.drop (i + 1)) := by rw [HU.out]; exact hds.2
                    obtain ⟨s2, hs2⟩ : ∃ s2, sumP (ts.drop (i + 1)) = s2 := ⟨_, rfl⟩
                    obtain ⟨u2, hu2⟩ : ∃ u2, sumU (ts.drop (i + 1)) = u2 := ⟨_, rfl⟩
                    rw [hs2] at he1 hbd
                    rw [hu2] at he2 hbd
                    have hw1 : IntKind.i64.wrap (t.n * t.price) = t.n * t.price := IntWalk.i64_in _ (by omega)
                    have hw2 : IntKind.i64.wrap (s - t.n * t.price) = s2 := by rw [IntWalk.i64_in _ (by omega)]; omega
                    have hw3 : IntKind.i64.wrap (u - t.n) = u2 := by rw [IntWalk.i64_in _ (by omega)]; omega
                    have q0 : 0 ≤ s2 := hbd.1
                    have q1 : s2 ≤ 4503599627370496 := by omega
                    have q2 : 0 ≤ u2 := hbd.2.2.1
                    have q3 : u2 ≤ 4503599627370496 := by omega
                    have HS2 := Lib.hid hs2
                    have HU2 := Lib.hid hu2
                    have hP1 : Below wr.heap.size wr wr.drew := below_drewN (Below.refl _ _) 1
                    have HS26 : Hid (∀ w', Below wr.heap.size wr w' → (fun w' => w'.cell? ⟨gt, i * 4 + 3, none⟩ = some (.int .i64 t.n) ∧ w'.cell? ⟨gt, i * 4 + 2, none⟩ = some (.int .i64 t.price)) w') := Lib.hid (fun w' hb => ⟨(hb.cell (p := ⟨gt, i * 4 + 3, none⟩) hgt).trans z3, (hb.cell (p := ⟨gt, i * 4 + 2, none⟩) hgt).trans z2⟩)
                    clear hds ht hbd hlen he1 he2 hs2 hu2 htm s0 s1 u0 u1 t1 t2 t3 t4 HS HU
                    go_wp2
                    refine wp_region_held_drew (S := (fun w' => w'.cell? ⟨gt, i * 4 + 3, none⟩ = some (.int .i64 t.n) ∧ w'.cell? ⟨gt, i * 4 + 2, none⟩ = some (.int .i64 t.price))) (by kernel_rfl) (HS26.out _ hP1) (fun hHeld => ?_)
                    refine takeH 0 (some 133) (v := ?_) (by rfl) (by rfl) (by kernel_rfl) (by kernel_rfl) (by kernel_rfl) (fun _ _ _ h => h) ?_ (by assumption) ?_
                    rotate_left
                    · (intro o ho w hSw; obtain ⟨z0, z1⟩ := hSw; cases ho; go_simp; try with_reducible rfl)
                    try simp only [Act.put, List.setIfInBounds_toArray, List.set_cons_zero, List.set_cons_succ]
                    refine takeH 1 (some 134) (v := ?_) (by rfl) (by rfl) (by kernel_rfl) (by kernel_rfl) (by kernel_rfl) (fun _ _ _ h => h) ?_ (by assumption) ?_
                    rotate_left
                    · (intro o ho w hSw; obtain ⟨z0, z1⟩ := hSw; cases ho; go_simp; try with_reducible rfl)
                    try simp only [Act.put, List.setIfInBounds_toArray, List.set_cons_zero, List.set_cons_succ]
                    refine takeH 2 (some 135) (v := ?_) (by rfl) (by rfl) (by kernel_rfl) (by kernel_rfl) (by kernel_rfl) (fun _ _ _ h => h) ?_ (by assumption) ?_
                    rotate_left
                    · (intro o ho w hSw; obtain ⟨z0, z1⟩ := hSw; cases ho; go_simp; try with_reducible rfl)
                    try simp only [Act.put, List.setIfInBounds_toArray, List.set_cons_zero, List.set_cons_succ]
                    refine takeH 3 (some 136) (v := ?_) (by rfl) (by rfl) (by kernel_rfl) (by kernel_rfl) (by kernel_rfl) (fun _ _ _ h => h) ?_ (by assumption) ?_
                    rotate_left
                    · (intro o ho w hSw; obtain ⟨z0, z1⟩ := hSw; cases ho; go_simp; try with_reducible rfl)
                    try simp only [Act.put, List.setIfInBounds_toArray, List.set_cons_zero, List.set_cons_succ]
                    refine takeH 4 (some 137) (v := ?_) (by rfl) (by rfl) (by kernel_rfl) (by kernel_rfl) (by kernel_rfl) (fun _ _ _ h => h) ?_ (by assumption) ?_
                    rotate_left
                    · (intro o ho w hSw; obtain ⟨z0, z1⟩ := hSw; cases ho; go_simp; try with_reducible rfl)
                    try simp only [Act.put, List.setIfInBounds_toArray, List.set_cons_zero, List.set_cons_succ]
                    refine takeH 5 (some 138) (v := ?_) (by rfl) (by rfl) (by kernel_rfl) (by kernel_rfl) (by kernel_rfl) (fun _ _ _ h => h) ?_ (by assumption) ?_
                    rotate_left
                    · (intro o ho w hSw; obtain ⟨z0, z1⟩ := hSw; cases ho; go_simp; try with_reducible rfl)
                    try simp only [Act.put, List.setIfInBounds_toArray, List.set_cons_zero, List.set_cons_succ]
                    refine takeH 6 (some 139) (v := ?_) (by rfl) (by rfl) (by kernel_rfl) (by kernel_rfl) (by kernel_rfl) (fun _ _ _ h => h) ?_ (by assumption) ?_
                    rotate_left
                    · (intro o ho w hSw; obtain ⟨z0, z1⟩ := hSw; cases ho; go_simp; try with_reducible rfl)
                    try simp only [Act.put, List.setIfInBounds_toArray, List.set_cons_zero, List.set_cons_succ]
                    refine takeH 7 (some 140) (v := ?_) (by rfl) (by rfl) (by kernel_rfl) (by kernel_rfl) (by kernel_rfl) (fun _ _ _ h => h) ?_ (by assumption) ?_
                    rotate_left
                    · (intro o ho w hSw; obtain ⟨z0, z1⟩ := hSw; cases ho; go_simp; try with_reducible rfl)
                    try simp only [Act.put, List.setIfInBounds_toArray, List.set_cons_zero, List.set_cons_succ]
                    refine takeH 8 (some 141) (v := ?_) (by rfl) (by rfl) (by kernel_rfl) (by kernel_rfl) (by kernel_rfl) (fun _ _ _ h => h) ?_ (by assumption) ?_
                    rotate_left
                    · (intro o ho w hSw; obtain ⟨z0, z1⟩ := hSw; cases ho; go_simp; try with_reducible rfl)
                    try simp only [Act.put, List.setIfInBounds_toArray, List.set_cons_zero, List.set_cons_succ]
                    refine takeH 9 (some 142) (v := ?_) (by rfl) (by rfl) (by kernel_rfl) (by kernel_rfl) (by kernel_rfl) (fun _ _ _ h => h) ?_ (by assumption) ?_
                    rotate_left
                    · (intro o ho w hSw; obtain ⟨z0, z1⟩ := hSw; cases ho; go_simp; try with_reducible rfl)
                    try simp only [Act.put, List.setIfInBounds_toArray, List.set_cons_zero, List.set_cons_succ]
                    refine takeH 10 (some 143) (v := ?_) (by rfl) (by rfl) (by kernel_rfl) (by kernel_rfl) (by kernel_rfl) (fun _ _ _ h => h) ?_ (by assumption) ?_
                    rotate_left
                    · (intro o ho w hSw; obtain ⟨z0, z1⟩ := hSw; cases ho; go_simp; try with_reducible rfl)
                    try simp only [Act.put, List.setIfInBounds_toArray, List.set_cons_zero, List.set_cons_succ]
                    refine takeH 11 (some 144) (v := ?_) (by rfl) (by rfl) (by kernel_rfl) (by kernel_rfl) (by kernel_rfl) (fun _ _ _ h => h) ?_ (by assumption) ?_
                    rotate_left
                    · (intro o ho w hSw; obtain ⟨z0, z1⟩ := hSw; cases ho; go_simp; try with_reducible rfl)
                    try simp only [Act.put, List.setIfInBounds_toArray, List.set_cons_zero, List.set_cons_succ]
                    refine takeH 12 (some 145) (v := ?_) (by rfl) (by rfl) (by kernel_rfl) (by kernel_rfl) (by kernel_rfl) (fun _ _ _ h => h) ?_ (by assumption) ?_
                    rotate_left
                    · (intro o ho w hSw; obtain ⟨z0, z1⟩ := hSw; cases ho; go_simp; try with_reducible rfl)
                    try simp only [Act.put, List.setIfInBounds_toArray, List.set_cons_zero, List.set_cons_succ]
                    refine takeH 13 (some 18) (v := ?_) (by rfl) (by rfl) (by kernel_rfl) (by kernel_rfl) (by kernel_rfl) (fun _ _ _ h => h) ?_ (by assumption) ?_
                    rotate_left
                    · (intro o ho w hSw; obtain ⟨z0, z1⟩ := hSw; cases ho; go_simp; try with_reducible rfl)
                    try simp only [Act.put, List.setIfInBounds_toArray, List.set_cons_zero, List.set_cons_succ]
                    refine wpAnyH_done (by kernel_rfl) ?_ _
                    go_wp2
                    refine ⟨⟨i + 1, s2, u2, by omega, by go_num, rfl, rfl, Lib.hid HS2.out.symm, Lib.hid HU2.out.symm, q0, q1, q2, q3, Lib.hid (bt HB.out hP1)⟩, by simp [intOf]; omega⟩
                  · obtain rfl : i = tk := by omega
                    have hz1 : s = 0 := by rw [HS.out, List.drop_of_length_le (by rw [HTK.out]; exact Nat.le_refl _)]; rfl
                    have hz2 : u = 0 := by rw [HU.out, List.drop_of_length_le (by rw [HTK.out]; exact Nat.le_refl _)]; rfl
                    subst hz1 hz2
                    go_wp2_with (go_at_call 15
                                 (with_reducible refine (lives_any _).mono ?_)
                                 rintro e w10 ⟨rfl, hb10⟩)
                    go_ret
                    exact ⟨rfl, bt (bt HB9.out HB.out) hb10⟩

end Go.Proofs.Ytkandhpnenmleaa

/- For every list of numbers, every number and both sides worldmintlaw26.BookQuote returns true: Quote agrees with the reference model and with Place. No condition. -/
namespace Go.Proofs.Ytkandhpnenmleaa
open Go.ChangeShapes Go.WideShapes Go.ChangeAt Go.RowKit Go.ChangeMaps

set_option maxRecDepth 100000 in
theorem BookQuote_lifted (os : Os) (started : os.Started) (H : Type) (enc : TypeId × Value → H) :
    ReturnsInHanded {} Try.checked os 8 .any (Rows.bookQuoteSpec.pre6 enc Try.prog Try.f8 Rows.bookQuoteRow.domain false) (Rows.bookQuoteSpec.post enc Try.prog Try.f8 false true false false) := by
  refine returnsInHanded_of_change (C := Try.checked) Try.own started (by kernel_rfl) Try.func8
    (ChangeSpec.witness6 (enc := enc) (C := Try.checked) false ⟨#[], #[.slice none 0 0, .int .i64 0, .bool false], []⟩ 8 (by kernel_rfl) (by kernel_rfl) (by kernel_rfl) (by kernel_rfl)) ?_
  intro W base args ds gs before hval0 hW _ _
  have hval : ∀ (j : Nat) t v, Try.f8.params[j]? = some t → args[j]? = some v → Value.okWide Try.prog W .any base t v := hval0
  have hW' := hW
  obtain ⟨p, q, hT0, hV, rfl, hfz, hnd⟩ := hW
  have hT : DataW.TrodAll enc Try.prog W 0 (fun _ => true) true Try.f8.params.toList args.toList ds p := hT0
  rw [Try.params8] at hT hval
  obtain ⟨v0, vs0, d0, ds0, p0, q0, hargs0, rfl, rfl, h0, r0⟩ := trodAll_cons hT
  obtain ⟨v1, vs1, d1, ds1, p1, q1, hargs1, rfl, rfl, h1, r1⟩ := trodAll_cons r0
  obtain ⟨v2, vs2, d2, ds2, p2, q2, hargs2, rfl, rfl, h2, r2⟩ := trodAll_cons r1
  obtain ⟨rfl, rfl, rfl⟩ := trodAll_nil r2
  obtain rfl : args = #[v0, v1, v2] := by cases args; simp_all
  obtain ⟨A0, n0, c0, f0, rfl, hA0, hn0, hc0, hR0, hw0⟩ := open_sl Try.underlying22 Try.underlying3 (by kernel_rfl) (hval 0 22 v0 rfl rfl) h0
  obtain ⟨a1, rfl, -, -, w1⟩ := open_int Try.underlying3 (hval 1 3 v1 rfl rfl) h1
  obtain ⟨a2, rfl, -, -⟩ := open_bool Try.underlying4 (hval 2 4 v2 rfl rfl) h2
  refine (BookQuote_walk W A0 n0 c0 f0 hA0 hn0 hc0 hR0 hw0 a1 w1 a2).mono fun e W' ⟨he, hb⟩ => ?_
  subst he
  exact ⟨_, rfl, law_post Try.laidOut (by kernel_rfl) (by kernel_rfl) Try.underlying4 rfl hW' rfl hb⟩

theorem BookQuote_holds : Rows.BookQuoteSaid :=
  OpenClaim.holds_of_wide 8 Try.f8 rfl rfl rfl rfl rfl rfl rfl ⟨rfl, rfl, rfl, rfl, rfl⟩ rfl rfl rfl rfl rfl (by kernel_rfl) Try.func8 (by kernel_rfl)
    (of_decide_eq_true (by kernel_rfl)) (by unfold Func.isWrapper; first | (rw [if_pos (by decide +kernel)]; kernel_rfl) | (rw [if_neg (by decide +kernel)]; exact ⟨rfl, rfl⟩))
    (fun os started H enc _ => BookQuote_lifted os started H enc)

end Go.Proofs.Ytkandhpnenmleaa
