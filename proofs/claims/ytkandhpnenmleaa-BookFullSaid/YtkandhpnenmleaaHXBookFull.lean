/- For every list of numbers worldmintlaw26.BookFull returns true: a full book refuses orders. No condition. -/
import Derived.Test.YtkandhpnenmleaaRows
import Derived.Test.YtkandhpnenmleaaHBase
import Derived.WalkKit
import Derived.ProofKit
import Derived.OpenShut
import Derived.JoinedCond
import Derived.Test.YtkandhpnenmleaaHBkFl
import Derived.Test.YtkandhpnenmleaaHBkLives
import Derived.Test.YtkandhpnenmleaaHBkCan

namespace Go.Proofs.Ytkandhpnenmleaa
open Go.ChangeShapes Go.WideShapes Go.ChangeAt Go.RowKit

theorem Try.own : ownKnob Try.prog.godebug = none := by kernel_rfl
theorem Try.laidOut : laidOutB Try.prog = true := by kernel_rfl

theorem wf_u8 {n : Int} (h : (Lit.int .u8 n).wf = true) : 0 ≤ n ∧ n ≤ 255 := by simpa [Lit.wf, IntKind.min, IntKind.max, IntKind.signed, IntKind.bits] using h
theorem wf_i64 {n : Int} (h : (Lit.int .i64 n).wf = true) : -9223372036854775808 ≤ n ∧ n ≤ 9223372036854775807 := by simpa [Lit.wf, IntKind.min, IntKind.max, IntKind.signed, IntKind.bits] using h
theorem wf_u64 {n : Int} (h : (Lit.int .u64 n).wf = true) : 0 ≤ n ∧ n ≤ 18446744073709551615 := by simpa [Lit.wf, IntKind.min, IntKind.max, IntKind.signed, IntKind.bits] using h
theorem bytes_wf {n : Nat} {f : Nat → Int} (h : Hid (∀ j, j < n → (Lit.int .u8 (f j)).wf = true)) : ∀ j, j < n → 0 ≤ f j ∧ f j ≤ 255 := fun j hj => wf_u8 (h.out j hj)

theorem byte_of_wf {n : Int} (h : (Lit.int .u8 n).wf = true) : ∃ b : UInt8, n = ((b.toNat : Nat) : Int) := by
  have := wf_u8 h
  exact ⟨UInt8.ofNat n.toNat, by rw [UInt8.toNat_ofNat']; omega⟩
/-- '^' on bytes, under a name that the walk does not open. -/
def xorB (x y : UInt8) : UInt8 := x ^^^ y
theorem xor_u8 (x y : UInt8) : bits BinOp.xor IntKind.u8 ((x.toNat : Nat) : Int) ((y.toNat : Nat) : Int) = (((xorB x y).toNat : Nat) : Int) := by
  unfold xorB
  show IntKind.u8.wrap ((BitVec.ofInt 8 ((x.toNat : Nat) : Int) ^^^ BitVec.ofInt 8 ((y.toNat : Nat) : Int)).toNat : Int) = _
  have e : ∀ z : UInt8, (BitVec.ofInt 8 ((z.toNat : Nat) : Int)).toNat = z.toNat := fun z => by
    rw [BitVec.ofInt_natCast, BitVec.toNat_ofNat]; exact Nat.mod_eq_of_lt z.toNat_lt
  rw [BitVec.toNat_xor, e, e, UInt8.toNat_xor]
  have hx : x.toNat ^^^ y.toNat < 2 ^ 8 := Nat.xor_lt_two_pow x.toNat_lt y.toNat_lt
  simp [IntKind.wrap, IntKind.bits, IntKind.signed]
  omega

section
variable {H : Type} {enc : TypeId × Value → H} {P : Program}

theorem trodAll_stays (hl : laidOutB P = true) {W W' : World} {sp' : Nat → Bool} : ∀ {ts : List TypeId} (_ : ts.all (fun t => P.readableRec t && decide (t < P.types.size)) = true) {vs : List Value} {ds : List (DataW H)} {ps : List MemPlace}
    (_ : DataW.TrodAll enc P W 0 (fun _ => true) true ts vs ds ps) (_ : ∀ p ∈ ps, W.sameAt W' p) (_ : ∀ p ∈ ps, sp' p.block = true), DataW.TrodAll enc P W' 0 sp' true ts vs ds ps
  | [], _, vs, ds, ps, h, _, _ => by
    obtain ⟨rfl, rfl, rfl⟩ := trodAll_nil h
    exact trodAll_mk0
  | t :: ts, hr, vs, ds, ps, h, hs, hp => by
    obtain ⟨v, vs', d, ds', p, q, rfl, rfl, rfl, h1, h2⟩ := trodAll_cons h
    simp only [List.all_cons, Bool.and_eq_true, decide_eq_true_eq] at hr
    exact trodAll_cons_mk (WideElems.Trod_stays hl hr.1.1 hr.1.2 h1 (fun x hx => hs x (by simp [hx])) (fun x hx => hp x (by simp [hx])))
      (trodAll_stays hl hr.2 h2 (fun x hx => hs x (by simp [hx])) (fun x hx => hp x (by simp [hx])))

theorem law_post {f : Func} {s : ChangeSpec} {tb : TypeId} {W W' : World} {args : Array Value} {ds gs : List (DataW H)} {before : List MemPlace} (hl : laidOutB P = true)
    (hr : f.params.toList.all (fun t => P.readableRec t && decide (t < P.types.size)) = true) (hres : f.resultTypes = #[tb]) (hb : P.underlying tb = some .bool) (hv : s.vars = [])
    (hW : DataW.Whole enc P f.params.toList s.vars false W args.toList ds gs before) (hspec : s.fn H ds = { results := [.lit (.bool true)], args := ds }) (hB : Below W.heap.size W W') :
    s.post enc P f false true false false W args (.bool true) W' := by
  have hW' := hW
  obtain ⟨p, q, hA, hV, rfl, hfz, hnd⟩ := hW
  rw [hv] at hV
  obtain ⟨rfl, rfl⟩ := trodVars_none hV
  refine ⟨ds, [], p ++ [], [], p, [], hW', ?_, ?_, ?_, hB.frame _, fun h => by cases h⟩
  · rw [hres, List.append_nil, hspec]
    exact trodAll_mk1 (shut_bool hb true)
  · rw [List.append_nil, hspec]
    exact trodAll_stays hl hr hA (fun x hx => hB.same (by simpa using hW'.lt x (by simp [hx]))) (fun x hx => by simpa using hW'.lt x (by simp [hx]))
  · rw [hv, List.append_nil, hspec]
    rfl

theorem cell_spot {w : World} {a : Addr} {v : Value} (h : w.cell? a = some v) : a.spot = none ∧ a.block < w.heap.size := by
  unfold World.cell? at h
  split at h
  · rename_i c t f hc
    refine ⟨?_, (Array.getElem?_eq_some_iff.1 hc).1⟩
    cases hs : a.spot with
    | none => rfl
    | some x => simp [hs] at h
  · cases h

/-- A slice of integers that came in. -/
theorem open_sl {t e : TypeId} {k : IntKind} {W : World} {v : Value} {d : DataW H} {ps : List MemPlace} {r : Reach} {b0 : Nat} (ht : P.underlying t = some (.slice e)) (he : P.underlying e = some (.int k)) (hc : P.cellsOf e = 1)
    (hval : Value.okWide P W r b0 t v) (h : DataW.Trod enc P W 0 (fun _ => true) true t v d ps) :
    ∃ (A : Option Addr) (n c : Nat) (f : Nat → Int), v = .slice A n c ∧ (A = none → n = 0) ∧ n ≤ c ∧ c ≤ 9223372036854775807 ∧ Rd W W.heap.size A n (fun j => .int k (f j)) ∧ ∀ j, j < n → (Lit.int k (f j)).wf = true := by
  obtain ⟨a0, len, cap, rfl⟩ := okWide_slice ht hval
  obtain ⟨fuel, hf⟩ := h
  rcases open_ints ht he hc hf with ⟨hcs, hx⟩ | ⟨a, len', cap', zs, hcs, _, hl, hm, hz, hx, hcell, hwz⟩
  · simp [Value.cells] at hcs
    obtain ⟨rfl, rfl, rfl⟩ := hcs
    exact ⟨none, 0, 0, fun _ => 0, rfl, fun _ => rfl, by omega, by omega, Rd.nil, fun j hj => absurd hj (by omega)⟩
  · simp [Value.cells] at hcs
    obtain ⟨rfl, rfl, rfl⟩ := hcs
    simp only [if_true] at hz
    refine ⟨some a, len, cap, fun j => zs.getD j 0, rfl, (fun h => by cases h), hl, (by simpa [maxLen] using hm), ?_, ?_⟩
    · intro hn
      have h0 := hcell 0 (by omega)
      have hs := cell_spot h0
      have ea : a.add 0 = a := by simp [Addr.add]
      rw [ea] at hs
      refine ⟨a.block, a.off, ?_, hs.2, fun j hj => ?_⟩
      · cases a; simp_all
      · rw [← hcell j (by omega)]
        congr 1
        unfold Addr.add
        split
        · rename_i h; subst h; cases a; simp_all
        · cases a; simp_all
    · intro j hj
      refine hwz _ ?_
      show zs.getD j 0 ∈ zs
      have : zs.getD j 0 = zs[j]'(by omega) := by simp [List.getD, show j < zs.length by omega]
      rw [this]
      exact List.getElem_mem _
end

end Go.Proofs.Ytkandhpnenmleaa

/- The walk of BookFull. -/
namespace Go.Proofs.Ytkandhpnenmleaa
open Go.ChangeShapes Go.WideShapes Go.ChangeAt Go.RowKit Go.ChangeMaps


set_option maxRecDepth 100000 in
set_option maxHeartbeats 100000000 in
theorem BookFull_walk (W : World) (A0 : Option Addr) (n0 c0 : Nat) (f0 : Nat → Int) (_hA0 : A0 = none → n0 = 0) (_hn0 : n0 ≤ c0) (_hc0 : c0 ≤ 9223372036854775807) (hR0 : Rd W W.heap.size A0 n0 (fun j => .int .i64 (f0 j))) (hw0 : Hid (∀ j, j < n0 → (Lit.int .i64 (f0 j)).wf = true)) :
    Calls Try.prog 3 #[.slice A0 n0 c0] W fun e w' => e = .returned (.bool true) ∧ Below W.heap.size W w' := by
  have HW : Hid (∀ j, j < n0 → -9223372036854775808 ≤ f0 j ∧ f0 j ≤ 9223372036854775807) := Lib.hid (fun j hj => wf_i64 (hw0.out j hj))
  have HR := Lib.hid hR0
  have hn9 : n0 ≤ 9223372036854775807 := by omega
  clear hR0 hw0
  have HNEW := Lib.hid (new_any W)
  go_enter Try.func3, Try.ntmps3
  go_wp2_with fail
  refine HNEW.out.mono ?_
  rintro e w1 ⟨V, rfl, hA1, hb1⟩
  obtain ⟨gb, hgb⟩ : ∃ gb, W.heap.size = gb := ⟨_, rfl⟩
  have HA1 : Hid (BkAt w1 W.heap.size gb V (fullB 0)) := Lib.hid (by rw [← hgb]; exact hA1)
  have HB1 := Lib.hid hb1
  rw [hgb]
  clear hA1 hb1 hgb
  go_wp2_with fail
  go_loopw [4] (fun iv wr => ∃ (i : Nat) (V : BkV), i ≤ 4090 ∧ iv = .int .i64 (i : Int) ∧ Hid (BkAt wr W.heap.size gb V (fullB i)) ∧ Hid (Below W.heap.size W wr)) (fun iv _ => 4090 - (intOf iv).toNat)
  case atStart => exact ⟨0, V, Nat.zero_le _, rfl, HA1, HB1⟩
  case round =>
    clear HA1 HB1
    obtain ⟨i, V, hi, rfl, HA, HB⟩ := hrel
    rcases Nat.lt_or_ge i 4090 with hlt | hge
    · have hii : (i : Int) < 4090 := by omega
      have HPE : Hid (placeE (fullB i) 1 true 1 1 = ((i : Int), [], 0, fullB (i + 1))) := Lib.hid (full_place (by omega))
      have HL : Hid ((fullB i).os.length < 100000) := Lib.hid (by rw [fullB_os, fullOs_len]; omega)
      go_wp2_with (go_at_call 11
                   (with_reducible refine (place_step gb W.heap.size V (fullB i) true 1 1 1 _ HA HL.out HPE.out (k := 0) rfl).mono ?_)
                   rintro e w2 ⟨A2, c2, V2, rfl, -, hN⟩
                   have HN := Lib.hid hN
                   clear hN)
      exact ⟨⟨i + 1, V2, by omega, by go_num, Lib.hid HN.out.bk, Lib.hid (HN.out.mod.below HB.out HB.out.size (fun q hq => (HA.out.lt hq).1))⟩, by simp [intOf]; omega⟩
    · have HI : Hid (i = 4090) := Lib.hid (by omega)
      have HF : Hid (F2 0 (fullB i)) := Lib.hid (F2.start' HI.out HA.out.ok)
      have hii : ¬ (i : Int) < 4090 := by omega
      go_wp2_with fail
      obtain ⟨b0, hb0⟩ : ∃ b0, fullB i = b0 := ⟨_, rfl⟩
      rw [hb0] at HF HA
      clear hb0 hii HI
      go_loopw [8] (fun iv wr => ∃ (k : Nat) (V : BkV) (b : BkS), k ≤ 20 ∧ iv = .int .i64 (k : Int) ∧ Hid (F2 k b) ∧ Hid (BkAt wr W.heap.size gb V b) ∧ Hid (Below W.heap.size W wr)) (fun iv _ => 20 - (intOf iv).toNat)
      case atStart => exact ⟨0, V, b0, by omega, rfl, HF, HA, HB⟩
      case round =>
        clear HF HA HB
        obtain ⟨k, V, b, hk, rfl, HF, HA, HB⟩ := hrel
        by_cases hkn : k < n0 ∧ k < 20
        · obtain ⟨h1, h2⟩ := hkn
          have h1i : (k : Int) < (n0 : Int) := by omega
          have h2i : (k : Int) < 20 := by omega
          obtain ⟨bb, off, hAz, hbl, hcell⟩ := (HR.out.all HB.out) (by omega)
          subst hAz
          have e0 := hcell k h1
          obtain ⟨f00, f01⟩ := HW.out k h1
          dsimp only at e0
          obtain ⟨y, hy⟩ : ∃ y, f0 k = y := ⟨_, rfl⟩
          rw [hy] at e0 f00 f01
          obtain ⟨many, hmany⟩ : ∃ many, b.openOs.length = many := ⟨_, rfl⟩
          have HMY := Lib.hid hmany
          have hm4 : many ≤ 4096 := by
            have h3 := open_len HA.out.ok
            have h4 := HA.out.ok.few
            omega
          have HL : Hid (b.os.length < 100000) := Lib.hid (by have := HF.out.len; omega)
          clear hcell hy hmany
          go_wp2_with fail
          refine (orders_any gb W.heap.size V b wr HA).mono ?_
          rintro e w1 ⟨A6, c6, rfl, -, hb6⟩
          rw [HMY.out]
          have HA1 := Lib.hid (HA.out.all hb6)
          have HB1 := Lib.hid (bt HB.out hb6)
          have e0' := (hb6.cell (p := ⟨bb, off + k, none⟩) hbl).trans e0
          have hbl' : bb < w1.heap.size := Nat.lt_of_lt_of_le hbl hb6.size
          clear hb6 e0
          by_cases hz : y.tmod 5 = 0
          · have hzb : (y.tmod 5 == 0) = true := by simp [hz]
            obtain ⟨b', hE, hF'⟩ := HF.out.cancel h2
            have HE := Lib.hid hE
            have HF' := Lib.hid hF'
            clear hE hF' hz
            have HC : Hid (Calls Try.prog 13 #[.pointer (some ⟨gb, 0, none⟩), .int .i64 1, .int .i64 (k : Int)] w1 fun e w' => e = .returned (.tuple #[.int .i64 1, .int .i64 0]) ∧ ∃ V', BkNext gb W.heap.size V b w1 V' b' w') := Lib.hid (by
              refine (cancel_any gb W.heap.size V b 1 k w1 HA1).mono ?_
              rintro e w' ⟨h1, h2⟩
              rw [HE.out] at h1 h2
              exact ⟨h1, h2.next⟩)
            go_wp2_with fail
            refine HC.out.mono ?_
            rintro e w2 ⟨rfl, V2, hN⟩
            have HN := Lib.hid hN
            have HF2 := Lib.hid (HF'.out hN.bk.ok)
            have HB2 := Lib.hid (hN.mod.below HB1.out HB1.out.size (fun q hq => (HA1.out.lt hq).1))
            clear hN
            have hm1 : b'.openOs.length + 1 = many := by rw [← HMY.out]; exact HF2.out.2
            obtain ⟨m2, hm2⟩ : ∃ m2, b'.openOs.length = m2 := ⟨_, rfl⟩
            rw [hm2] at hm1
            have HM2 := Lib.hid hm2
            clear hm2
            obtain rfl : many = m2 + 1 := hm1.symm
            go_wp2_with fail
            refine (orders_any gb W.heap.size V2 b' w2 (Lib.hid HN.out.bk)).mono ?_
            rintro e w3 ⟨A7, c7, rfl, -, hb7⟩
            rw [HM2.out]
            have HB7 := Lib.hid hb7
            clear hb7
            go_wp2
            exact ⟨⟨k + 1, V2, b', by omega, by go_num, Lib.hid HF2.out.1, Lib.hid (HN.out.bk.all HB7.out), Lib.hid (bt HB2.out HB7.out)⟩, by simp [intOf]; omega⟩
          · have hzb : (y.tmod 5 == 0) = false := by simp [hz]
            clear hz
            go_wp2_with fail
            refine (around_nat y 9 9 _ (by rfl) f00 f01 (by decide) (by decide)).mono ?_
            rintro e w2 ⟨a, rfl, ha, -, rfl⟩
            go_wp2_with fail
            by_cases h4 : 4096 ≤ many
            · obtain ⟨hE, hF'⟩ := HF.out.full (p := 2 + (a : Int)) (by omega) (by rw [HMY.out]; exact h4)
              have HE := Lib.hid hE
              have HF' := Lib.hid hF'
              clear hE hF'
              have h4i : (4096 : Int) ≤ (many : Int) := by omega
              refine (place_step gb W.heap.size V b true 2 (2 + (a : Int)) 1 w1 HA1 HL.out HE.out (k := 0) rfl).mono ?_
              rintro e w3 ⟨A7, c7, V3, rfl, -, hN⟩
              have HN := Lib.hid hN
              clear hN
              go_wp2
              exact ⟨⟨k + 1, V3, b, by omega, by go_num, HF', Lib.hid HN.out.bk, Lib.hid (HN.out.mod.below HB1.out HB1.out.size (fun q hq => (HA1.out.lt hq).1))⟩, by simp [intOf]; omega⟩
            · obtain ⟨id, b', hE, hF'⟩ := HF.out.place (p := 2 + (a : Int)) (by omega) (by rw [HMY.out]; omega)
              have HE := Lib.hid hE
              have HF' := Lib.hid hF'
              clear hE hF'
              have h4i : ¬ (4096 : Int) ≤ (many : Int) := by omega
              refine (place_step gb W.heap.size V b true 2 (2 + (a : Int)) 1 w1 HA1 HL.out HE.out (k := 0) rfl).mono ?_
              rintro e w3 ⟨A7, c7, V3, rfl, -, hN⟩
              have HN := Lib.hid hN
              clear hN
              go_wp2
              exact ⟨⟨k + 1, V3, b', by omega, by go_num, Lib.hid (HF'.out HN.out.bk.ok), Lib.hid HN.out.bk, Lib.hid (HN.out.mod.below HB1.out HB1.out.size (fun q hq => (HA1.out.lt hq).1))⟩, by simp [intOf]; omega⟩
        · rcases Nat.lt_or_ge k n0 with h1 | h1
          · obtain rfl : k = 20 := by omega
            go_wp2_with (go_at_call 15
                         (with_reducible refine (lives_any _).mono ?_)
                         rintro e w9 ⟨rfl, hb9⟩)
            go_ret
            exact ⟨rfl, bt HB.out hb9⟩
          · have h1i : ¬ (k : Int) < (n0 : Int) := by omega
            go_wp2_with (go_at_call 15
                         (with_reducible refine (lives_any _).mono ?_)
                         rintro e w9 ⟨rfl, hb9⟩)
            go_ret
            exact ⟨rfl, bt HB.out hb9⟩

end Go.Proofs.Ytkandhpnenmleaa

/- For every list of numbers worldmintlaw26.BookFull returns true: a full book refuses orders. No condition. -/
namespace Go.Proofs.Ytkandhpnenmleaa
open Go.ChangeShapes Go.WideShapes Go.ChangeAt Go.RowKit Go.ChangeMaps

set_option maxRecDepth 100000 in
theorem BookFull_lifted (os : Os) (started : os.Started) (H : Type) (enc : TypeId × Value → H) :
    ReturnsInHanded {} Try.checked os 3 .any (Rows.bookFullSpec.pre6 enc Try.prog Try.f3 Rows.bookFullRow.domain false) (Rows.bookFullSpec.post enc Try.prog Try.f3 false true false false) := by
  refine returnsInHanded_of_change (C := Try.checked) Try.own started (by kernel_rfl) Try.func3
    (ChangeSpec.witness6 (enc := enc) (C := Try.checked) false ⟨#[], #[.slice none 0 0], []⟩ 8 (by kernel_rfl) (by kernel_rfl) (by kernel_rfl) (by kernel_rfl)) ?_
  intro W base args ds gs before hval0 hW _ _
  have hval : ∀ (j : Nat) t v, Try.f3.params[j]? = some t → args[j]? = some v → Value.okWide Try.prog W .any base t v := hval0
  have hW' := hW
  obtain ⟨p, q, hT0, hV, rfl, hfz, hnd⟩ := hW
  have hT : DataW.TrodAll enc Try.prog W 0 (fun _ => true) true Try.f3.params.toList args.toList ds p := hT0
  rw [Try.params3] at hT hval
  obtain ⟨v0, vs0, d0, ds0, p0, q0, hargs0, rfl, rfl, h0, r0⟩ := trodAll_cons hT
  obtain ⟨rfl, rfl, rfl⟩ := trodAll_nil r0
  obtain rfl : args = #[v0] := by cases args; simp_all
  obtain ⟨A0, n0, c0, f0, rfl, hA0, hn0, hc0, hR0, hw0⟩ := open_sl Try.underlying22 Try.underlying3 (by kernel_rfl) (hval 0 22 v0 rfl rfl) h0
  refine (BookFull_walk W A0 n0 c0 f0 hA0 hn0 hc0 hR0 hw0).mono fun e W' ⟨he, hb⟩ => ?_
  subst he
  exact ⟨_, rfl, law_post Try.laidOut (by kernel_rfl) (by kernel_rfl) Try.underlying4 rfl hW' rfl hb⟩

theorem BookFull_holds : Rows.BookFullSaid :=
  OpenClaim.holds_of_wide 3 Try.f3 rfl rfl rfl rfl rfl rfl rfl ⟨rfl, rfl, rfl, rfl, rfl⟩ rfl rfl rfl rfl rfl (by kernel_rfl) Try.func3 (by kernel_rfl)
    (of_decide_eq_true (by kernel_rfl)) (by unfold Func.isWrapper; first | (rw [if_pos (by decide +kernel)]; kernel_rfl) | (rw [if_neg (by decide +kernel)]; exact ⟨rfl, rfl⟩))
    (fun os started H enc _ => BookFull_lifted os started H enc)

end Go.Proofs.Ytkandhpnenmleaa
