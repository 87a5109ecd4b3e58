/- For every list of numbers, both sides and all numbers worldmintlaw26.BookPriority returns true: the counterparts of a new order are the best ones. No condition. -/
import Derived.Test.YtkandhpnenmleaaRows
import Derived.Test.YtkandhpnenmleaaHBase
import Derived.WalkKit
import Derived.ProofKit
import Derived.OpenShut
import Derived.JoinedCond
import Derived.Deep.QuietTactic
import Derived.BigQuiet
import Derived.Deep.LoopGhost
import Derived.Deep.CutBlock
import Derived.Deep.DeepCutAuto
import Derived.Test.YtkandhpnenmleaaHBkPj
import Derived.Test.YtkandhpnenmleaaHBkFl
import Derived.Test.YtkandhpnenmleaaHBkLives

namespace Go.Proofs.Ytkandhpnenmleaa
open Go.ChangeShapes Go.WideShapes Go.ChangeAt Go.RowKit

theorem Try.own : ownKnob Try.prog.godebug = none := by kernel_rfl
theorem Try.laidOut : laidOutB Try.prog = true := by kernel_rfl

theorem wf_u8 {n : Int} (h : (Lit.int .u8 n).wf = true) : 0 ≤ n ∧ n ≤ 255 := by simpa [Lit.wf, IntKind.min, IntKind.max, IntKind.signed, IntKind.bits] using h
theorem wf_i64 {n : Int} (h : (Lit.int .i64 n).wf = true) : -9223372036854775808 ≤ n ∧ n ≤ 9223372036854775807 := by simpa [Lit.wf, IntKind.min, IntKind.max, IntKind.signed, IntKind.bits] using h
theorem wf_u64 {n : Int} (h : (Lit.int .u64 n).wf = true) : 0 ≤ n ∧ n ≤ 18446744073709551615 := by simpa [Lit.wf, IntKind.min, IntKind.max, IntKind.signed, IntKind.bits] using h
theorem bytes_wf {n : Nat} {f : Nat → Int} (h : Hid (∀ j, j < n → (Lit.int .u8 (f j)).wf = true)) : ∀ j, j < n → 0 ≤ f j ∧ f j ≤ 255 := fun j hj => wf_u8 (h.out j hj)

theorem byte_of_wf {n : Int} (h : (Lit.int .u8 n).wf = true) : ∃ b : UInt8, n = ((b.toNat : Nat) : Int) := by
  have := wf_u8 h
  exact ⟨UInt8.ofNat n.toNat, by rw [UInt8.toNat_ofNat']; omega⟩
/-- '^' on bytes, under a name that the walk does not open. -/
def xorB (x y : UInt8) : UInt8 := x ^^^ y
theorem xor_u8 (x y : UInt8) : bits BinOp.xor IntKind.u8 ((x.toNat : Nat) : Int) ((y.toNat : Nat) : Int) = (((xorB x y).toNat : Nat) : Int) := by
  unfold xorB
  show IntKind.u8.wrap ((BitVec.ofInt 8 ((x.toNat : Nat) : Int) ^^^ BitVec.ofInt 8 ((y.toNat : Nat) : Int)).toNat : Int) = _
  have e : ∀ z : UInt8, (BitVec.ofInt 8 ((z.toNat : Nat) : Int)).toNat = z.toNat := fun z => by
    rw [BitVec.ofInt_natCast, BitVec.toNat_ofNat]; exact Nat.mod_eq_of_lt z.toNat_lt
  rw [BitVec.toNat_xor, e, e, UInt8.toNat_xor]
  have hx : x.toNat ^^^ y.toNat < 2 ^ 8 := Nat.xor_lt_two_pow x.toNat_lt y.toNat_lt
  simp [IntKind.wrap, IntKind.bits, IntKind.signed]
  omega

section
variable {H : Type} {enc : TypeId × Value → H} {P : Program}

theorem trodAll_stays (hl : laidOutB P = true) {W W' : World} {sp' : Nat → Bool} : ∀ {ts : List TypeId} (_ : ts.all (fun t => P.readableRec t && decide (t < P.types.size)) = true) {vs : List Value} {ds : List (DataW H)} {ps : List MemPlace}
    (_ : DataW.TrodAll enc P W 0 (fun _ => true) true ts vs ds ps) (_ : ∀ p ∈ ps, W.sameAt W' p) (_ : ∀ p ∈ ps, sp' p.block = true), DataW.TrodAll enc P W' 0 sp' true ts vs ds ps
  | [], _, vs, ds, ps, h, _, _ => by
    obtain ⟨rfl, rfl, rfl⟩ := trodAll_nil h
    exact trodAll_mk0
  | t :: ts, hr, vs, ds, ps, h, hs, hp => by
    obtain ⟨v, vs', d, ds', p, q, rfl, rfl, rfl, h1, h2⟩ := trodAll_cons h
    simp only [List.all_cons, Bool.and_eq_true, decide_eq_true_eq] at hr
    exact trodAll_cons_mk (WideElems.Trod_stays hl hr.1.1 hr.1.2 h1 (fun x hx => hs x (by simp [hx])) (fun x hx => hp x (by simp [hx])))
      (trodAll_stays hl hr.2 h2 (fun x hx => hs x (by simp [hx])) (fun x hx => hp x (by simp [hx])))

theorem law_post {f : Func} {s : ChangeSpec} {tb : TypeId} {W W' : World} {args : Array Value} {ds gs : List (DataW H)} {before : List MemPlace} (hl : laidOutB P = true)
    (hr : f.params.toList.all (fun t => P.readableRec t && decide (t < P.types.size)) = true) (hres : f.resultTypes = #[tb]) (hb : P.underlying tb = some .bool) (hv : s.vars = [])
    (hW : DataW.Whole enc P f.params.toList s.vars false W args.toList ds gs before) (hspec : s.fn H ds = { results := [.lit (.bool true)], args := ds }) (hB : Below W.heap.size W W') :
    s.post enc P f false true false false W args (.bool true) W' := by
  have hW' := hW
  obtain ⟨p, q, hA, hV, rfl, hfz, hnd⟩ := hW
  rw [hv] at hV
  obtain ⟨rfl, rfl⟩ := trodVars_none hV
  refine ⟨ds, [], p ++ [], [], p, [], hW', ?_, ?_, ?_, hB.frame _, fun h => by cases h⟩
  · rw [hres, List.append_nil, hspec]
    exact trodAll_mk1 (shut_bool hb true)
  · rw [List.append_nil, hspec]
    exact trodAll_stays hl hr hA (fun x hx => hB.same (by simpa using hW'.lt x (by simp [hx]))) (fun x hx => by simpa using hW'.lt x (by simp [hx]))
  · rw [hv, List.append_nil, hspec]
    rfl

theorem cell_spot {w : World} {a : Addr} {v : Value} (h : w.cell? a = some v) : a.spot = none ∧ a.block < w.heap.size := by
  unfold World.cell? at h
  split at h
  · rename_i c t f hc
    refine ⟨?_, (Array.getElem?_eq_some_iff.1 hc).1⟩
    cases hs : a.spot with
    | none => rfl
    | some x => simp [hs] at h
  · cases h

/-- A slice of integers that came in. -/
theorem open_sl {t e : TypeId} {k : IntKind} {W : World} {v : Value} {d : DataW H} {ps : List MemPlace} {r : Reach} {b0 : Nat} (ht : P.underlying t = some (.slice e)) (he : P.underlying e = some (.int k)) (hc : P.cellsOf e = 1)
    (hval : Value.okWide P W r b0 t v) (h : DataW.Trod enc P W 0 (fun _ => true) true t v d ps) :
    ∃ (A : Option Addr) (n c : Nat) (f : Nat → Int), v = .slice A n c ∧ (A = none → n = 0) ∧ n ≤ c ∧ c ≤ 9223372036854775807 ∧ Rd W W.heap.size A n (fun j => .int k (f j)) ∧ ∀ j, j < n → (Lit.int k (f j)).wf = true := by
  obtain ⟨a0, len, cap, rfl⟩ := okWide_slice ht hval
  obtain ⟨fuel, hf⟩ := h
  rcases open_ints ht he hc hf with ⟨hcs, hx⟩ | ⟨a, len', cap', zs, hcs, _, hl, hm, hz, hx, hcell, hwz⟩
  · simp [Value.cells] at hcs
    obtain ⟨rfl, rfl, rfl⟩ := hcs
    exact ⟨none, 0, 0, fun _ => 0, rfl, fun _ => rfl, by omega, by omega, Rd.nil, fun j hj => absurd hj (by omega)⟩
  · simp [Value.cells] at hcs
    obtain ⟨rfl, rfl, rfl⟩ := hcs
    simp only [if_true] at hz
    refine ⟨some a, len, cap, fun j => zs.getD j 0, rfl, (fun h => by cases h), hl, (by simpa [maxLen] using hm), ?_, ?_⟩
    · intro hn
      have h0 := hcell 0 (by omega)
      have hs := cell_spot h0
      have ea : a.add 0 = a := by simp [Addr.add]
      rw [ea] at hs
      refine ⟨a.block, a.off, ?_, hs.2, fun j hj => ?_⟩
      · cases a; simp_all
      · rw [← hcell j (by omega)]
        congr 1
        unfold Addr.add
        split
        · rename_i h; subst h; cases a; simp_all
        · cases a; simp_all
    · intro j hj
      refine hwz _ ?_
      show zs.getD j 0 ∈ zs
      have : zs.getD j 0 = zs[j]'(by omega) := by simp [List.getD, show j < zs.length by omega]
      rw [this]
      exact List.getElem_mem _
end

end Go.Proofs.Ytkandhpnenmleaa

/- The walk of BookPriority. -/
namespace Go.Proofs.Ytkandhpnenmleaa
open Go.ChangeShapes Go.WideShapes Go.ChangeAt Go.RowKit Go.ChangeMaps


set_option maxRecDepth 100000 in
set_option maxHeartbeats 100000000 in
theorem BookPriority_walk (W : World) (A0 : Option Addr) (n0 c0 : Nat) (f0 : Nat → Int) (_hA0 : A0 = none → n0 = 0) (_hn0 : n0 ≤ c0) (_hc0 : c0 ≤ 9223372036854775807) (hR0 : Rd W W.heap.size A0 n0 (fun j => .int .i64 (f0 j))) (hw0 : Hid (∀ j, j < n0 → (Lit.int .i64 (f0 j)).wf = true)) (a1 : Bool) (a2 : Int) (ha2 : Hid ((Lit.int .i64 a2).wf = true)) (a3 : Int) (ha3 : Hid ((Lit.int .i64 a3).wf = true)) :
    Calls Try.prog 5 #[.slice A0 n0 c0, .bool a1, .int .i64 a2, .int .i64 a3] W fun e w' => e = .returned (.bool true) ∧ Below W.heap.size W w' := by
  have HW : Hid (∀ j, j < n0 → -9223372036854775808 ≤ f0 j ∧ f0 j ≤ 9223372036854775807) := Lib.hid (fun j hj => wf_i64 (hw0.out j hj))
  have HR := Lib.hid hR0
  have hn9 : n0 ≤ 9223372036854775807 := by omega
  clear hR0 hw0
  obtain ⟨p20, p21⟩ := wf_i64 ha2.out
  obtain ⟨p30, p31⟩ := wf_i64 ha3.out
  clear ha2 ha3
  go_enter Try.func5, Try.ntmps5
  go_wp2_with fail
  refine (filled_any A0 n0 c0 f0 W HR.out HW hn9).mono ?_
  rintro e w1 ⟨⟨gb, V, g, A, n, c, l⟩, b, rfl, hP1, hl1, hna, hb1⟩
  have HP1 := Lib.hid hP1
  have HB1 := Lib.hid hb1
  have HL1 := Lib.hid hl1
  have HNA := Lib.hid hna
  clear hP1 hb1 hl1 hna
  go_wp2_with fail
  obtain ⟨on, hon⟩ : ∃ on, b.openOs.length = on := ⟨_, rfl⟩
  obtain ⟨w5, hw5⟩ : ∃ w5, w5 = w1 := ⟨_, rfl⟩
  have HW5 : Hid (W.heap.size ≤ w5.heap.size) := Lib.hid (by rw [hw5]; exact HB1.out.size)
  have HO : Hid (Calls Try.prog 12 #[.pointer (some ⟨gb, 0, none⟩)] w1 fun e w'' => ∃ A8 c8, e = .returned (.slice A8 on c8) ∧ w''.ownsRow w5.heap.size 42 6 (.slice A8 on c8) on ((priL b b.os).flatMap Ord.cells) ∧ Below w1.heap.size w1 w'') := Lib.hid (by
    have := orders_any gb W.heap.size V b w1 (Lib.hid HP1.out.bk)
    unfold OrdPost at this
    rw [hon] at this
    rw [hw5]
    exact this)
  have HON : Hid (b.openIds.length = on) := Lib.hid (by rw [← hon]; unfold BkS.openOs; simp)
  have hon4 : on ≤ 24 := by
    have h1 := open_len HP1.out.bk.ok
    have h2 := open_few HP1.out.bk.ok
    have h3 := HL1.out
    omega
  have HNI0 : Hid (∀ q, w5.heap.size ≤ q → ¬ BkF gb V b.os.length q) := Lib.hid (fun q hq hf => by
    have := (HP1.out.bk.lt hf).2
    rw [hw5] at hq
    omega)
  clear hon hw5
  refine HO.out.mono ?_
  rintro e w6 ⟨A8, c8, rfl, hr8, hb6⟩
  have HR6 := Lib.hid hr8
  have HP6 := Lib.hid (HP1.out.all hb6)
  have HB6 := Lib.hid (bt HB1.out hb6)
  have HNI : Hid (∀ q, (Value.slice A8 on c8).ownBlock = some q → ¬ BkF gb V b.os.length q) := Lib.hid (fun q hq => HNI0.out q (own_ge hr8 hq).1)
  clear hb6 hr8
  go_wp2_with fail
  refine (around_nat a3 60 60 _ (by rfl) p30 p31 (by decide) (by decide)).mono ?_
  rintro e w7 ⟨ka, rfl, hka, -, rfl⟩
  go_wp2_with fail
  refine (around_nat a2 16 16 _ (by rfl) p20 p21 (by decide) (by decide)).mono ?_
  rintro e w7 ⟨pa, rfl, hpa, -, rfl⟩
  go_wp2_with fail
  obtain ⟨kk, hkk⟩ : ∃ kk : Int, 1 + (ka : Int) = kk := ⟨_, rfl⟩
  rw [hkk]
  have hk1 : 1 ≤ kk := by omega
  have hk2 : kk ≤ 60 := by omega
  obtain ⟨pp, hpp⟩ : ∃ pp : Int, 93 + (pa : Int) = pp := ⟨_, rfl⟩
  rw [hpp]
  have hp1 : 93 ≤ pp := by omega
  have hp2 : pp ≤ 108 := by omega
  clear hkk hpp
  cases a1
  · obtain ⟨ts, b', hPE, hts, hget, hhas, htl⟩ := place_ok9 HP1.out.bk.ok HL1.out false (p := pp) (k := kk) ⟨by omega, by omega⟩ ⟨by omega, by omega⟩
    obtain ⟨o0, ho0⟩ : ∃ o0 : Ord, o0 = ⟨b.os.length, 9, false, pp, kk, kk⟩ := ⟨_, rfl⟩
    rw [← ho0] at hts hget
    obtain ⟨tk, htk⟩ : ∃ tk, ts.length = tk := ⟨_, rfl⟩
    have htk4 : tk ≤ 4096 := by rw [← htk]; exact htl
    have HO0 := Lib.hid ho0
    have HPE := Lib.hid hPE
    have HTK := Lib.hid htk
    have HGET := Lib.hid hget
    have HHAS := Lib.hid hhas
    have HPRI : Hid (Pri b false o0 ts 0 b.os o0 (b.side (!false))) := Lib.hid (by rw [hts]; exact Pri.start HP1.out.bk.ok false o0 (by rw [ho0]; show 0 ≤ kk; omega))
    have HLT : Hid (b.os.length < 100000) := Lib.hid (by have := HL1.out; omega)
    obtain ⟨nn, hnn⟩ : ∃ nn, b.os.length = nn := ⟨_, rfl⟩
    have HNN := Lib.hid hnn
    clear ho0 hPE hts hget hhas htl htk hnn
    refine (place_step gb W.heap.size V b false 9 pp kk w6 (Lib.hid HP6.out.bk) HLT.out HPE.out HTK.out).mono ?_
    rintro e w9 ⟨A9, c9, V', rfl, hr9, hN⟩
    rw [HNN.out]
    obtain ⟨w8, hw8⟩ : ∃ w8, w8 = w6 := ⟨_, rfl⟩
    have HST : Hid (PrSt W.heap.size w5.heap.size w8.heap.size gb W V' b b' A8 on c8 A9 tk c9 ts b.os w9) := Lib.hid ⟨hN.bk, hN.mod.own HR6.out (fun q hq => HNI.out q hq), fun q hq hf => by
      rcases hN.new q hf with h | h
      · exact HNI.out q hq h
      · have := (own_ge HR6.out hq).2
        omega, by rw [hw8]; exact hr9, hN.mod.below HB6.out HB6.out.size (fun q hq => (HP6.out.bk.lt hq).1), HW5.out⟩
    have HSZ : Hid (W.heap.size ≤ w9.heap.size) := Lib.hid HST.out.low.size
    clear hr9 hN hw8
    go_wp2_with fail
    go_loopg [17, 18] tk (fun gk lv iv wr => ∃ (i : Nat) (os : List Ord) (o : Ord) (l : List Nat) (lf : Int), i + gk = tk ∧ iv = .int .i64 (i : Int) ∧ lv = .int .i64 lf ∧ lf ≤ 60 ∧ Hid (lf = o.left) ∧ Hid (Pri b false o0 ts i os o l) ∧ Hid (PrSt W.heap.size w5.heap.size w8.heap.size gb W V' b b' A8 on c8 A9 tk c9 ts os wr) ∧ Hid (W.heap.size ≤ wr.heap.size))
    case atStart => exact ⟨0, b.os, o0, b.side (!false), kk, by omega, rfl, rfl, hk2, Lib.hid (by rw [HO0.out]), HPRI, HST, HSZ⟩
    case round =>
      clear HPRI HST HSZ
      obtain ⟨i, os, o, l, lf, hik, rfl, rfl, hlf60, HLF, HPI, HST, HSZ⟩ := hrel
      have HIK := Lib.hid hik
      have hi : i ≤ tk := by omega
      clear hik
      rcases Nat.lt_or_ge i tk with hlt | hge
      · have hii : (i : Int) < (tk : Int) := by omega
        obtain ⟨id, t', hl, hm0, htr, hidb, hin, hbu, l2, hpri2⟩ := HPI.out.step HP1.out.bk.ok (by rw [HTK.out]; exact hlt) (by rw [HO0.out]; exact HNA.out)
        subst hl
        obtain ⟨jb, hjb, hpn, hje⟩ := HPI.out.search HP1.out.bk.ok
        rw [HON.out] at hpn
        have hjb2 : jb < on := by rw [← HON.out]; exact hjb
        obtain ⟨xo, hxo⟩ : ∃ xo, ordAt os id = xo := ⟨_, rfl⟩
        rw [hxo] at hm0 htr hpri2
        rw [← HLF.out] at hm0 htr hpri2
        obtain ⟨M, hM⟩ : ∃ M, min lf xo.left = M := ⟨_, rfl⟩
        rw [hM] at hm0 htr hpri2
        have hxid : xo.id = (id : Int) := by rw [← hxo, (HPI.out.like id).1]; exact HP1.out.bk.ok.ids id hidb
        have hoid : o.id = (nn : Int) := by rw [HPI.out.olike.1, HO0.out]; show (b.os.length : Int) = _; rw [HNN.out]
        have hobu : o.buy = false := by rw [HPI.out.olike.2.2.1, HO0.out]
        have hlf0 : 0 ≤ lf := by rw [HLF.out]; exact HPI.out.left
        have hxl0 : 0 ≤ xo.left := by rw [← hxo]; exact (HPI.out.pos id (by rw [HPI.out.len]; exact hidb)).1
        have hxl1 : xo.left ≤ 1099511627776 := by
          have h1 := (HPI.out.pos id (by rw [HPI.out.len]; exact hidb)).2
          have h2 := HP1.out.bk.ok.rng id hidb
          rw [hxo] at h1
          omega
        obtain ⟨gt, hAt, -, hgt, z0, z1, z2, z3⟩ := trdRow HST.out.tr HTK.out hlt
        subst hAt
        obtain ⟨t, ht⟩ : ∃ t, trdAt ts i = t := ⟨_, rfl⟩
        rw [ht] at z0 z1 z2 z3 htr
        have htb : t.sell = (nn : Int) ∧ t.buy = xo.id ∧ t.n = M ∧ t.price = xo.price := by
          rw [htr]
          unfold trdOf
          rw [hobu]
          exact ⟨hoid, rfl, rfl, rfl⟩
        obtain ⟨hb1, hb2, hb3, hb4⟩ := htb
        have HXO := Lib.hid hxo
        have HJE := Lib.hid hje
        have HPN := Lib.hid hpn
        have HPR2 := Lib.hid hpri2
        have HIDS : Hid (∀ a c, a < c → c < on → (ordAt (priL b os) a).id < (ordAt (priL b os) c).id) := Lib.hid (fun a c hac hc => by
          have hl2 := HON.out
          rw [priL_at (by omega), priL_at (by omega), (HPI.out.like _).1, (HPI.out.like _).1]
          have e1 : ∀ z (hz : z < b.openIds.length), b.openIds[z] < b.os.length := fun z hz => by
            have := (BkS.mem_openIds HP1.out.bk.ok).1 (List.getElem_mem hz)
            rcases this with hh | hh
            · exact (HP1.out.bk.ok.mem true _ hh).1
            · exact (HP1.out.bk.ok.mem false _ hh).1
          rw [HP1.out.bk.ok.ids _ (e1 a (by omega)), HP1.out.bk.ok.ids _ (e1 c (by omega))]
          have := List.pairwise_iff_getElem.1 b.openIds_pw a c (by omega) (by omega) hac
          omega)
        have HPL : Hid ((priL b os).length = on) := Lib.hid (by rw [priL_len]; exact HON.out)
        have HM := Lib.hid hM
        have HXID := Lib.hid hxid
        have HTT := Lib.hid ht
        have HIDB := Lib.hid hidb
        clear hxo hje hpn hpri2 hM hxid hoid hobu ht htr hidb hin hbu hlf0
        obtain ⟨w4, rfl⟩ : ∃ w : World, w = wr := ⟨_, rfl⟩
        go_wp2_with fail
        go_loopg [19, 20] on (fun gj kv jv wr => ∃ (j : Nat) (K : Int), j + gj = on ∧ jv = .int .i64 (j : Int) ∧ kv = .int .i64 K ∧ Hid (K = priN (priL b os) false j) ∧ Hid (Below w4.heap.size w4 wr))
        case atStart => exact ⟨0, -1, by omega, rfl, rfl, Lib.hid rfl, Lib.hid (Below.refl _ _)⟩
        case round =>
          obtain ⟨j, K, hjo, rfl, rfl, HK, HB⟩ := hrel
          have HJO := Lib.hid hjo
          have hj : j ≤ on := by omega
          clear hjo
          have hklo := priN_lo (priL b os) false j
          rw [← HK.out] at hklo
          obtain ⟨hk5, hk6⟩ := hklo
          rcases Nat.lt_or_ge j on with hlj | hgj
          · have hjj : (j : Int) < (on : Int) := by omega
            have HRr := Lib.hid (own_keep HST.out.row HB.out)
            obtain ⟨gq, hAq, -, hgq, x0, x1, x2, x3, x4, x5⟩ := ordRow HRr.out HPL.out hlj
            subst hAq
            obtain ⟨x, hx⟩ : ∃ x, ordAt (priL b os) j = x := ⟨_, rfl⟩
            rw [hx] at x0 x1 x2 x3 x4 x5
            have HXL := Lib.hid hx
            obtain ⟨W2, hW2⟩ : ∃ W2, W2 = wr.alloc (.cells #[.int .i64 x.id, .int .i64 x.acc, .bool x.buy, .int .i64 x.price, .int .i64 x.n, .int .i64 x.left] 42) := ⟨_, rfl⟩
            have hb9 : Below wr.heap.size wr W2 := by rw [hW2]; exact (Below.refl _ _).alloc (Nat.le_refl _) _
            have k21 : Blk W2 wr.heap.size 42 #[.int .i64 x.id, .int .i64 x.acc, .bool x.buy, .int .i64 x.price, .int .i64 x.n, .int .i64 x.left] := by rw [hW2]; exact Blk.new _ _ _
            have HW2 := Lib.hid hW2
            obtain ⟨g21, hg21⟩ : ∃ g21, wr.heap.size = g21 := ⟨_, rfl⟩
            have HG21 := Lib.hid hg21
            rw [hg21] at k21
            have HRz := Lib.hid (own_keep HRr.out hb9)
            have HBz := Lib.hid (bt HB.out hb9)
            have t0 := k21.cell 0
            have t2 := k21.cell 2
            have t3 := k21.cell 3
            have t5 := k21.cell 5
            simp only [List.getElem?_toArray, List.getElem?_cons_zero, List.getElem?_cons_succ] at t0 t2 t3 t5
            clear hW2 hg21 k21 hb9 hx z0 z1 z2 z3
            go_upto_region 19 with (fail)
            rw [← HW2.out, HG21.out]
            clear x0 x1 x2 x3 x4 x5
            by_cases hsk : x.buy = false ∨ x.left = 0
            · have HPN : Hid (priN (priL b os) false (j + 1) = K) := Lib.hid (by rw [priN, HXL.out, if_pos hsk]; exact HK.out.symm)
              by_cases hsb : x.buy = false
              · have s1 : (x.buy == false) = true := by simp [hsb]
                clear hsk hsb
                go_wp2
                go_roundg (on - (j + 1))
                case measure => have := HJO.out; omega
                case rel => exact ⟨j + 1, K, by have := HJO.out; omega, by go_num, rfl, Lib.hid HPN.out.symm, HBz⟩
              · have s1 : (x.buy == false) = false := by simp [hsb]
                have s2 : (x.left == 0) = true := by simp [hsk.resolve_left hsb]
                clear hsk hsb
                go_wp2
                go_roundg (on - (j + 1))
                case measure => have := HJO.out; omega
                case rel => exact ⟨j + 1, K, by have := HJO.out; omega, by go_num, rfl, Lib.hid HPN.out.symm, HBz⟩
            · have s1 : (x.buy == false) = false := beq_eq_false_iff_ne.2 (fun e => hsk (.inl e))
              have s2 : (x.left == 0) = false := by simp; exact fun e => hsk (.inr e)
              rcases Int.lt_or_le K 0 with hK | hK
              · have HPN : Hid (priN (priL b os) false (j + 1) = (j : Int)) := Lib.hid (by rw [priN, HXL.out, if_neg hsk, if_pos (.inl (by rw [← HK.out]; exact hK))])
                have r1 : decide (0 ≤ K) = false := decide_eq_false (by omega)
                have r2 : decide (K < 0) = true := decide_eq_true hK
                clear hsk
                as_aux_lemma =>
                  go_wp2
                  go_quiet (fail)
                  go_wp2
                  go_quiet (fail)
                  go_wp2
                  go_roundg (on - (j + 1))
                  case measure => have := HJO.out; omega
                  case rel => exact ⟨j + 1, (j : Int), by have := HJO.out; omega, by go_num, rfl, Lib.hid (HPN.out.symm), Lib.hid (below_drewN HBz.out _)⟩
              · obtain ⟨kb, rfl⟩ : ∃ kb : Nat, K = (kb : Int) := ⟨K.toNat, by omega⟩
                have r1 : decide (0 ≤ (kb : Int)) = true := decide_eq_true hK
                have r2 : decide ((kb : Int) < 0) = false := decide_eq_false (by omega)
                have hkb : kb < on := by omega
                have hkbi : (kb : Int) < (on : Int) := by omega
                obtain ⟨g', hg', -, -, y0, -, -, y3, -, -⟩ := ordRow HRz.out HPL.out hkb
                injection hg' with hg'
                injection hg' with hg' hz1 hz2
                clear hz1 hz2
                subst hg'
                obtain ⟨y, hy⟩ : ∃ y, ordAt (priL b os) kb = y := ⟨_, rfl⟩
                have hids := HIDS.out kb j (by omega) hlj
                rw [hy, HXL.out] at hids
                rw [hy] at y0 y3
                have hpn : priN (priL b os) false (j + 1) = if betterB (!false) x y = true then (j : Int) else (kb : Int) := by
                  rw [priN, HXL.out, if_neg hsk, ← HK.out, Int.toNat_natCast, hy]
                  by_cases hb : betterB (!false) x y = true
                  · rw [if_pos (.inr hb), if_pos hb]
                  · rw [if_neg hb, if_neg (by rintro (h | h); · omega
                                              · exact hb h)]
                have q5 : decide (y.id < x.id) = true := decide_eq_true hids
                clear hsk hy
                rcases Int.lt_trichotomy x.price y.price with hp | hp | hp
                · have q1 : decide (y.price < x.price) = false := by simp; omega
                  have q2 : decide (x.price < y.price) = true := by simp; omega
                  have q3 : (x.price == y.price) = false := by simp; omega
                  have HPN : Hid (priN (priL b os) false (j + 1) = (kb : Int)) := Lib.hid (by
                    have hb : betterB (!false) x y = false := by
                      unfold betterB
                      simp
                      omega
                    rw [hpn, hb]
                    rfl)
                  clear hpn hids hp
                  as_aux_lemma =>
                    go_wp2
                    go_quiet (fail)
                    go_wp2
                    go_quiet (fail)
                    go_wp2
                    go_roundg (on - (j + 1))
                    case measure => have := HJO.out; omega
                    case rel => exact ⟨j + 1, (kb : Int), by have := HJO.out; omega, by go_num, rfl, Lib.hid (HPN.out.symm), Lib.hid (below_drewN HBz.out _)⟩
                · have q1 : decide (y.price < x.price) = false := by simp; omega
                  have q2 : decide (x.price < y.price) = false := by simp; omega
                  have q3 : (x.price == y.price) = true := by simp; omega
                  have HPN : Hid (priN (priL b os) false (j + 1) = (kb : Int)) := Lib.hid (by
                    have hb : betterB (!false) x y = false := by
                      unfold betterB
                      simp
                      omega
                    rw [hpn, hb]
                    rfl)
                  clear hpn hids hp
                  as_aux_lemma =>
                    go_wp2
                    go_quiet (fail)
                    go_wp2
                    go_quiet (fail)
                    go_wp2
                    go_roundg (on - (j + 1))
                    case measure => have := HJO.out; omega
                    case rel => exact ⟨j + 1, (kb : Int), by have := HJO.out; omega, by go_num, rfl, Lib.hid (HPN.out.symm), Lib.hid (below_drewN HBz.out _)⟩
                · have q1 : decide (y.price < x.price) = true := by simp; omega
                  have q2 : decide (x.price < y.price) = false := by simp; omega
                  have q3 : (x.price == y.price) = false := by simp; omega
                  have HPN : Hid (priN (priL b os) false (j + 1) = (j : Int)) := Lib.hid (by
                    have hb : betterB (!false) x y = true := by
                      unfold betterB
                      simp
                      omega
                    rw [hpn, hb]
                    rfl)
                  clear hpn hids hp
                  as_aux_lemma =>
                    go_wp2
                    go_quiet (fail)
                    go_wp2
                    go_quiet (fail)
                    go_wp2
                    go_roundg (on - (j + 1))
                    case measure => have := HJO.out; omega
                    case rel => exact ⟨j + 1, (j : Int), by have := HJO.out; omega, by go_num, rfl, Lib.hid (HPN.out.symm), Lib.hid (below_drewN HBz.out _)⟩
          · obtain rfl : j = on := by omega
            have hKj : K = (jb : Int) := by rw [HK.out]; exact HPN.out
            subst hKj
            have r2 : decide ((jb : Int) < 0) = false := decide_eq_false (by omega)
            have hjj : ¬ (j : Int) < (j : Int) := by omega
            have hjbi : (jb : Int) < (j : Int) := by omega
            have HST2 := Lib.hid (HST.out.all HSZ.out HB.out)
            have HSZ2 : Hid (W.heap.size ≤ wr.heap.size) := Lib.hid (Nat.le_trans HSZ.out HB.out.size)
            obtain ⟨gq, hAq, -, hgq, x0, x1, x2, x3, x4, x5⟩ := ordRow HST2.out.row HPL.out hjb2
            subst hAq
            have hpx : ordAt (priL b os) jb = xo := by rw [priL_at (by rw [HON.out]; exact hjb2), HJE.out]; exact HXO.out
            rw [hpx] at x0 x1 x2 x3 x4 x5
            obtain ⟨W3, hW3⟩ : ∃ W3, W3 = wr.alloc (.cells #[.int .i64 xo.id, .int .i64 xo.acc, .bool xo.buy, .int .i64 xo.price, .int .i64 xo.n, .int .i64 xo.left] 42) := ⟨_, rfl⟩
            have hb9 : Below wr.heap.size wr W3 := by rw [hW3]; exact (Below.refl _ _).alloc (Nat.le_refl _) _
            have k24 : Blk W3 wr.heap.size 42 #[.int .i64 xo.id, .int .i64 xo.acc, .bool xo.buy, .int .i64 xo.price, .int .i64 xo.n, .int .i64 xo.left] := by rw [hW3]; exact Blk.new _ _ _
            have HW3 := Lib.hid hW3
            obtain ⟨g24, hg24⟩ : ∃ g24, wr.heap.size = g24 := ⟨_, rfl⟩
            have HG24 := Lib.hid hg24
            rw [hg24] at k24
            have HST3 := Lib.hid (HST2.out.all HSZ2.out hb9)
            have HSZ3 : Hid (W.heap.size ≤ W3.heap.size) := Lib.hid (Nat.le_trans HSZ2.out hb9.size)
            have u0 := k24.cell 0
            have u3 := k24.cell 3
            have u5 := k24.cell 5
            simp only [List.getElem?_toArray, List.getElem?_cons_zero, List.getElem?_cons_succ] at u0 u3 u5
            obtain ⟨gt', hAt', -, -, z0', z1', z2', z3'⟩ := trdRow HST3.out.tr HTK.out hlt
            injection hAt' with hAt'
            injection hAt' with hAt' hz1 hz2
            clear hz1 hz2
            subst hAt'
            rw [HTT.out] at z0' z1' z2' z3'
            have hidn : id < nn := by rw [← HNN.out]; exact HIDB.out
            have w5' := (hb9.cell (p := ⟨gq, jb * 6 + 5, none⟩) hgq).trans x5
            have f5' : W3.frozen? ⟨gq, jb * 6 + 5, none⟩ = false := by
              obtain ⟨g', cur, e1, -, -, -, e5, -⟩ := rown_ge HST3.out.row (by omega)
              injection e1 with e1
              injection e1 with e1
              subst e1
              simp [World.frozen?, e5]
            have hset := HST3.out.set HSZ3.out rfl HON.out hjb2 (by rw [HJE.out, HPI.out.len]; exact HIDB.out) M
            rw [HJE.out, HXO.out] at hset
            have HSET := Lib.hid hset
            have q1 : (t.buy == (nn : Int)) = false := by have := HXID.out; simp; omega
            have q2 : (t.buy != xo.id) = false := by simp [hb2]
            have q3 : (t.n != M) = false := by simp [hb3]
            have q4 : (t.price != xo.price) = false := by simp [hb4]
            have hM := HM.out
            have hMl : M ≤ lf := by omega
            have hMx : M ≤ xo.left := by omega
            have hw1 : IntKind.i64.wrap (xo.left - M) = xo.left - M := IntWalk.i64_in _ (by omega)
            have hw2 : IntKind.i64.wrap (lf - M) = lf - M := IntWalk.i64_in _ (by omega)
            have q5 : (0 : Int) ≤ (jb : Int) := by omega
            clear hset hg24 k24 hW3 hpx hb1 hb2 hb3 hb4 hidn z0 z1 z2 z3
            go_upto_region 27 with (fail)
            rw [← HW3.out, HG24.out]
            clear x0 x1 x2 x3 x4 x5
            go_wp2
            go_quiet (fail)
            go_wp2
            go_roundg (tk - (i + 1))
            case measure => have := HIK.out; omega
            case rel =>
              refine ⟨i + 1, os.set id (xo.less M), o.less M, l2, lf - M, by have := HIK.out; omega, by go_num, rfl, by omega, Lib.hid (by rw [HLF.out]; rfl), HPR2, Lib.hid ?_, Lib.hid ?_⟩
              · first
                | exact HSET.out.all (by simpa using HSZ3.out) (below_drewN (Below.refl _ _) _)
                | exact HSET.out
              · have := HSZ3.out
                simpa using this
      · obtain rfl : i = tk := by omega
        have hdr : (matchP os o l).1 = [] := by rw [← HPI.out.rest, List.drop_of_length_le (by rw [HTK.out]; exact Nat.le_refl _)]
        have hfo : getO b'.os (nn : Int) = o := by rw [← HNN.out, HGET.out, HPI.out.fin]; exact matchP_nil _ _ _ hdr
        have HG : Hid (Calls Try.prog 18 #[.pointer (some ⟨gb, 0, none⟩), .int .i64 (nn : Int)] wr fun e w'' => e = .returned (.tuple #[.agg #[.int .i64 o.id, .int .i64 o.acc, .bool o.buy, .int .i64 o.price, .int .i64 o.n, .int .i64 o.left], .bool true]) ∧ Below wr.heap.size wr w'') := Lib.hid (by
          have := get_any gb W.heap.size V' b' (nn : Int) wr (Lib.hid HST.out.bk)
          rw [hfo, ← HNN.out, HHAS.out, HNN.out] at this
          exact this)
        have q1 : (o.left == lf) = true := by rw [HLF.out]; simp
        have hii : ¬ (i : Int) < (i : Int) := by omega
        clear hdr hfo
        go_wp2_with fail
        refine HG.out.mono ?_
        rintro e wz ⟨rfl, hbz⟩
        have HBZ := Lib.hid hbz
        clear hbz
        go_upto_region 37 with (fail)
        obtain ⟨W3, hW3⟩ : ∃ W3, W3 = wz.alloc (.cells #[.int .i64 o.id, .int .i64 o.acc, .bool o.buy, .int .i64 o.price, .int .i64 o.n, .int .i64 o.left] 42) := ⟨_, rfl⟩
        have hb7 : Below wz.heap.size wz W3 := by rw [hW3]; exact (Below.refl _ _).alloc (Nat.le_refl _) _
        have k28 : Blk W3 wz.heap.size 42 #[.int .i64 o.id, .int .i64 o.acc, .bool o.buy, .int .i64 o.price, .int .i64 o.n, .int .i64 o.left] := by rw [hW3]; exact Blk.new _ _ _
        rw [← hW3]
        obtain ⟨g28, hg28⟩ : ∃ g28, wz.heap.size = g28 := ⟨_, rfl⟩
        rw [hg28] at k28 ⊢
        have u5 := k28.cell 5
        simp only [List.getElem?_toArray, List.getElem?_cons_zero, List.getElem?_cons_succ] at u5
        have HB7 := Lib.hid (bt HBZ.out hb7)
        clear hW3 hb7 hg28 k28
        go_wp2_with (first
          | (go_at_call 15
             (with_reducible refine (lives_any _).mono ?_)
             rintro e w10 ⟨rfl, hb10⟩))
        go_ret
        exact ⟨rfl, bt (HST.out.low.trans (HB7.out.mono HST.out.low.size)) hb10⟩
  · obtain ⟨ts, b', hPE, hts, hget, hhas, htl⟩ := place_ok9 HP1.out.bk.ok HL1.out true (p := pp) (k := kk) ⟨by omega, by omega⟩ ⟨by omega, by omega⟩
    obtain ⟨o0, ho0⟩ : ∃ o0 : Ord, o0 = ⟨b.os.length, 9, true, pp, kk, kk⟩ := ⟨_, rfl⟩
    rw [← ho0] at hts hget
    obtain ⟨tk, htk⟩ : ∃ tk, ts.length = tk := ⟨_, rfl⟩
    have htk4 : tk ≤ 4096 := by rw [← htk]; exact htl
    have HO0 := Lib.hid ho0
    have HPE := Lib.hid hPE
    have HTK := Lib.hid htk
    have HGET := Lib.hid hget
    have HHAS := Lib.hid hhas
    have HPRI : Hid (Pri b true o0 ts 0 b.os o0 (b.side (!true))) := Lib.hid (by rw [hts]; exact Pri.start HP1.out.bk.ok true o0 (by rw [ho0]; show 0 ≤ kk; omega))
    have HLT : Hid (b.os.length < 100000) := Lib.hid (by have := HL1.out; omega)
    obtain ⟨nn, hnn⟩ : ∃ nn, b.os.length = nn := ⟨_, rfl⟩
    have HNN := Lib.hid hnn
    clear ho0 hPE hts hget hhas htl htk hnn
    refine (place_step gb W.heap.size V b true 9 pp kk w6 (Lib.hid HP6.out.bk) HLT.out HPE.out HTK.out).mono ?_
    rintro e w9 ⟨A9, c9, V', rfl, hr9, hN⟩
    rw [HNN.out]
    obtain ⟨w8, hw8⟩ : ∃ w8, w8 = w6 := ⟨_, rfl⟩
    have HST : Hid (PrSt W.heap.size w5.heap.size w8.heap.size gb W V' b b' A8 on c8 A9 tk c9 ts b.os w9) := Lib.hid ⟨hN.bk, hN.mod.own HR6.out (fun q hq => HNI.out q hq), fun q hq hf => by
      rcases hN.new q hf with h | h
      · exact HNI.out q hq h
      · have := (own_ge HR6.out hq).2
        omega, by rw [hw8]; exact hr9, hN.mod.below HB6.out HB6.out.size (fun q hq => (HP6.out.bk.lt hq).1), HW5.out⟩
    have HSZ : Hid (W.heap.size ≤ w9.heap.size) := Lib.hid HST.out.low.size
    clear hr9 hN hw8
    go_wp2_with fail
    go_loopg [17, 18] tk (fun gk lv iv wr => ∃ (i : Nat) (os : List Ord) (o : Ord) (l : List Nat) (lf : Int), i + gk = tk ∧ iv = .int .i64 (i : Int) ∧ lv = .int .i64 lf ∧ lf ≤ 60 ∧ Hid (lf = o.left) ∧ Hid (Pri b true o0 ts i os o l) ∧ Hid (PrSt W.heap.size w5.heap.size w8.heap.size gb W V' b b' A8 on c8 A9 tk c9 ts os wr) ∧ Hid (W.heap.size ≤ wr.heap.size))
    case atStart => exact ⟨0, b.os, o0, b.side (!true), kk, by omega, rfl, rfl, hk2, Lib.hid (by rw [HO0.out]), HPRI, HST, HSZ⟩
    case round =>
      clear HPRI HST HSZ
      obtain ⟨i, os, o, l, lf, hik, rfl, rfl, hlf60, HLF, HPI, HST, HSZ⟩ := hrel
      have HIK := Lib.hid hik
      have hi : i ≤ tk := by omega
      clear hik
      rcases Nat.lt_or_ge i tk with hlt | hge
      · have hii : (i : Int) < (tk : Int) := by omega
        obtain ⟨id, t', hl, hm0, htr, hidb, hin, hbu, l2, hpri2⟩ := HPI.out.step HP1.out.bk.ok (by rw [HTK.out]; exact hlt) (by rw [HO0.out]; exact HNA.out)
        subst hl
        obtain ⟨jb, hjb, hpn, hje⟩ := HPI.out.search HP1.out.bk.ok
        rw [HON.out] at hpn
        have hjb2 : jb < on := by rw [← HON.out]; exact hjb
        obtain ⟨xo, hxo⟩ : ∃ xo, ordAt os id = xo := ⟨_, rfl⟩
        rw [hxo] at hm0 htr hpri2
        rw [← HLF.out] at hm0 htr hpri2
        obtain ⟨M, hM⟩ : ∃ M, min lf xo.left = M := ⟨_, rfl⟩
        rw [hM] at hm0 htr hpri2
        have hxid : xo.id = (id : Int) := by rw [← hxo, (HPI.out.like id).1]; exact HP1.out.bk.ok.ids id hidb
        have hoid : o.id = (nn : Int) := by rw [HPI.out.olike.1, HO0.out]; show (b.os.length : Int) = _; rw [HNN.out]
        have hobu : o.buy = true := by rw [HPI.out.olike.2.2.1, HO0.out]
        have hlf0 : 0 ≤ lf := by rw [HLF.out]; exact HPI.out.left
        have hxl0 : 0 ≤ xo.left := by rw [← hxo]; exact (HPI.out.pos id (by rw [HPI.out.len]; exact hidb)).1
        have hxl1 : xo.left ≤ 1099511627776 := by
          have h1 := (HPI.out.pos id (by rw [HPI.out.len]; exact hidb)).2
          have h2 := HP1.out.bk.ok.rng id hidb
          rw [hxo] at h1
          omega
        obtain ⟨gt, hAt, -, hgt, z0, z1, z2, z3⟩ := trdRow HST.out.tr HTK.out hlt
        subst hAt
        obtain ⟨t, ht⟩ : ∃ t, trdAt ts i = t := ⟨_, rfl⟩
        rw [ht] at z0 z1 z2 z3 htr
        have htb : t.buy = (nn : Int) ∧ t.sell = xo.id ∧ t.n = M ∧ t.price = xo.price := by
          rw [htr]
          unfold trdOf
          rw [hobu]
          exact ⟨hoid, rfl, rfl, rfl⟩
        obtain ⟨hb1, hb2, hb3, hb4⟩ := htb
        have HXO := Lib.hid hxo
        have HJE := Lib.hid hje
        have HPN := Lib.hid hpn
        have HPR2 := Lib.hid hpri2
        have HIDS : Hid (∀ a c, a < c → c < on → (ordAt (priL b os) a).id < (ordAt (priL b os) c).id) := Lib.hid (fun a c hac hc => by
          have hl2 := HON.out
          rw [priL_at (by omega), priL_at (by omega), (HPI.out.like _).1, (HPI.out.like _).1]
          have e1 : ∀ z (hz : z < b.openIds.length), b.openIds[z] < b.os.length := fun z hz => by
            have := (BkS.mem_openIds HP1.out.bk.ok).1 (List.getElem_mem hz)
            rcases this with hh | hh
            · exact (HP1.out.bk.ok.mem true _ hh).1
            · exact (HP1.out.bk.ok.mem false _ hh).1
          rw [HP1.out.bk.ok.ids _ (e1 a (by omega)), HP1.out.bk.ok.ids _ (e1 c (by omega))]
          have := List.pairwise_iff_getElem.1 b.openIds_pw a c (by omega) (by omega) hac
          omega)
        have HPL : Hid ((priL b os).length = on) := Lib.hid (by rw [priL_len]; exact HON.out)
        have HM := Lib.hid hM
        have HXID := Lib.hid hxid
        have HTT := Lib.hid ht
        have HIDB := Lib.hid hidb
        clear hxo hje hpn hpri2 hM hxid hoid hobu ht htr hidb hin hbu hlf0
        obtain ⟨w4, rfl⟩ : ∃ w : World, w = wr := ⟨_, rfl⟩
        go_wp2_with fail
        go_loopg [19, 20] on (fun gj kv jv wr => ∃ (j : Nat) (K : Int), j + gj = on ∧ jv = .int .i64 (j : Int) ∧ kv = .int .i64 K ∧ Hid (K = priN (priL b os) true j) ∧ Hid (Below w4.heap.size w4 wr))
        case atStart => exact ⟨0, -1, by omega, rfl, rfl, Lib.hid rfl, Lib.hid (Below.refl _ _)⟩
        case round =>
          obtain ⟨j, K, hjo, rfl, rfl, HK, HB⟩ := hrel
          have HJO := Lib.hid hjo
          have hj : j ≤ on := by omega
          clear hjo
          have hklo := priN_lo (priL b os) true j
          rw [← HK.out] at hklo
          obtain ⟨hk5, hk6⟩ := hklo
          rcases Nat.lt_or_ge j on with hlj | hgj
          · have hjj : (j : Int) < (on : Int) := by omega
            have HRr := Lib.hid (own_keep HST.out.row HB.out)
            obtain ⟨gq, hAq, -, hgq, x0, x1, x2, x3, x4, x5⟩ := ordRow HRr.out HPL.out hlj
            subst hAq
            obtain ⟨x, hx⟩ : ∃ x, ordAt (priL b os) j = x := ⟨_, rfl⟩
            rw [hx] at x0 x1 x2 x3 x4 x5
            have HXL := Lib.hid hx
            obtain ⟨W2, hW2⟩ : ∃ W2, W2 = wr.alloc (.cells #[.int .i64 x.id, .int .i64 x.acc, .bool x.buy, .int .i64 x.price, .int .i64 x.n, .int .i64 x.left] 42) := ⟨_, rfl⟩
            have hb9 : Below wr.heap.size wr W2 := by rw [hW2]; exact (Below.refl _ _).alloc (Nat.le_refl _) _
            have k21 : Blk W2 wr.heap.size 42 #[.int .i64 x.id, .int .i64 x.acc, .bool x.buy, .int .i64 x.price, .int .i64 x.n, .int .i64 x.left] := by rw [hW2]; exact Blk.new _ _ _
            have HW2 := Lib.hid hW2
            obtain ⟨g21, hg21⟩ : ∃ g21, wr.heap.size = g21 := ⟨_, rfl⟩
            have HG21 := Lib.hid hg21
            rw [hg21] at k21
            have HRz := Lib.hid (own_keep HRr.out hb9)
            have HBz := Lib.hid (bt HB.out hb9)
            have t0 := k21.cell 0
            have t2 := k21.cell 2
            have t3 := k21.cell 3
            have t5 := k21.cell 5
            simp only [List.getElem?_toArray, List.getElem?_cons_zero, List.getElem?_cons_succ] at t0 t2 t3 t5
            clear hW2 hg21 k21 hb9 hx z0 z1 z2 z3
            go_upto_region 19 with (fail)
            rw [← HW2.out, HG21.out]
            clear x0 x1 x2 x3 x4 x5
            by_cases hsk : x.buy = true ∨ x.left = 0
            · have HPN : Hid (priN (priL b os) true (j + 1) = K) := Lib.hid (by rw [priN, HXL.out, if_pos hsk]; exact HK.out.symm)
              by_cases hsb : x.buy = true
              · have s1 : (x.buy == true) = true := by simp [hsb]
                clear hsk hsb
                go_wp2
                go_roundg (on - (j + 1))
                case measure => have := HJO.out; omega
                case rel => exact ⟨j + 1, K, by have := HJO.out; omega, by go_num, rfl, Lib.hid HPN.out.symm, HBz⟩
              · have s1 : (x.buy == true) = false := by simp [hsb]
                have s2 : (x.left == 0) = true := by simp [hsk.resolve_left hsb]
                clear hsk hsb
                go_wp2
                go_roundg (on - (j + 1))
                case measure => have := HJO.out; omega
                case rel => exact ⟨j + 1, K, by have := HJO.out; omega, by go_num, rfl, Lib.hid HPN.out.symm, HBz⟩
            · have s1 : (x.buy == true) = false := beq_eq_false_iff_ne.2 (fun e => hsk (.inl e))
              have s2 : (x.left == 0) = false := by simp; exact fun e => hsk (.inr e)
              rcases Int.lt_or_le K 0 with hK | hK
              · have HPN : Hid (priN (priL b os) true (j + 1) = (j : Int)) := Lib.hid (by rw [priN, HXL.out, if_neg hsk, if_pos (.inl (by rw [← HK.out]; exact hK))])
                have r1 : decide (0 ≤ K) = false := decide_eq_false (by omega)
                have r2 : decide (K < 0) = true := decide_eq_true hK
                clear hsk
                as_aux_lemma =>
                  go_wp2
                  go_quiet (fail)
                  go_wp2
                  go_quiet (fail)
                  go_wp2
                  go_roundg (on - (j + 1))
                  case measure => have := HJO.out; omega
                  case rel => exact ⟨j + 1, (j : Int), by have := HJO.out; omega, by go_num, rfl, Lib.hid (HPN.out.symm), Lib.hid (below_drewN HBz.out _)⟩
              · obtain ⟨kb, rfl⟩ : ∃ kb : Nat, K = (kb : Int) := ⟨K.toNat, by omega⟩
                have r1 : decide (0 ≤ (kb : Int)) = true := decide_eq_true hK
                have r2 : decide ((kb : Int) < 0) = false := decide_eq_false (by omega)
                have hkb : kb < on := by omega
                have hkbi : (kb : Int) < (on : Int) := by omega
                obtain ⟨g', hg', -, -, y0, -, -, y3, -, -⟩ := ordRow HRz.out HPL.out hkb
                injection hg' with hg'
                injection hg' with hg' hz1 hz2
                clear hz1 hz2
                subst hg'
                obtain ⟨y, hy⟩ : ∃ y, ordAt (priL b os) kb = y := ⟨_, rfl⟩
                have hids := HIDS.out kb j (by omega) hlj
                rw [hy, HXL.out] at hids
                rw [hy] at y0 y3
                have hpn : priN (priL b os) true (j + 1) = if betterB (!true) x y = true then (j : Int) else (kb : Int) := by
                  rw [priN, HXL.out, if_neg hsk, ← HK.out, Int.toNat_natCast, hy]
                  by_cases hb : betterB (!true) x y = true
                  · rw [if_pos (.inr hb), if_pos hb]
                  · rw [if_neg hb, if_neg (by rintro (h | h); · omega
                                              · exact hb h)]
                have q5 : decide (y.id < x.id) = true := decide_eq_true hids
                clear hsk hy
                rcases Int.lt_trichotomy x.price y.price with hp | hp | hp
                · have q1 : decide (y.price < x.price) = false := by simp; omega
                  have q2 : decide (x.price < y.price) = true := by simp; omega
                  have q3 : (x.price == y.price) = false := by simp; omega
                  have HPN : Hid (priN (priL b os) true (j + 1) = (j : Int)) := Lib.hid (by
                    have hb : betterB (!true) x y = true := by
                      unfold betterB
                      simp
                      omega
                    rw [hpn, hb]
                    rfl)
                  clear hpn hids hp
                  as_aux_lemma =>
                    go_wp2
                    go_quiet (fail)
                    go_wp2
                    go_quiet (fail)
                    go_wp2
                    go_roundg (on - (j + 1))
                    case measure => have := HJO.out; omega
                    case rel => exact ⟨j + 1, (j : Int), by have := HJO.out; omega, by go_num, rfl, Lib.hid (HPN.out.symm), Lib.hid (below_drewN HBz.out _)⟩
                · have q1 : decide (y.price < x.price) = false := by simp; omega
                  have q2 : decide (x.price < y.price) = false := by simp; omega
                  have q3 : (x.price == y.price) = true := by simp; omega
                  have HPN : Hid (priN (priL b os) true (j + 1) = (kb : Int)) := Lib.hid (by
                    have hb : betterB (!true) x y = false := by
                      unfold betterB
                      simp
                      omega
                    rw [hpn, hb]
                    rfl)
                  clear hpn hids hp
                  as_aux_lemma =>
                    go_wp2
                    go_quiet (fail)
                    go_wp2
                    go_quiet (fail)
                    go_wp2
                    go_roundg (on - (j + 1))
                    case measure => have := HJO.out; omega
                    case rel => exact ⟨j + 1, (kb : Int), by have := HJO.out; omega, by go_num, rfl, Lib.hid (HPN.out.symm), Lib.hid (below_drewN HBz.out _)⟩
                · have q1 : decide (y.price < x.price) = true := by simp; omega
                  have q2 : decide (x.price < y.price) = false := by simp; omega
                  have q3 : (x.price == y.price) = false := by simp; omega
                  have HPN : Hid (priN (priL b os) true (j + 1) = (kb : Int)) := Lib.hid (by
                    have hb : betterB (!true) x y = false := by
                      unfold betterB
                      simp
                      omega
                    rw [hpn, hb]
                    rfl)
                  clear hpn hids hp
                  as_aux_lemma =>
                    go_wp2
                    go_quiet (fail)
                    go_wp2
                    go_quiet (fail)
                    go_wp2
                    go_roundg (on - (j + 1))
                    case measure => have := HJO.out; omega
                    case rel => exact ⟨j + 1, (kb : Int), by have := HJO.out; omega, by go_num, rfl, Lib.hid (HPN.out.symm), Lib.hid (below_drewN HBz.out _)⟩
          · obtain rfl : j = on := by omega
            have hKj : K = (jb : Int) := by rw [HK.out]; exact HPN.out
            subst hKj
            have r2 : decide ((jb : Int) < 0) = false := decide_eq_false (by omega)
            have hjj : ¬ (j : Int) < (j : Int) := by omega
            have hjbi : (jb : Int) < (j : Int) := by omega
            have HST2 := Lib.hid (HST.out.all HSZ.out HB.out)
            have HSZ2 : Hid (W.heap.size ≤ wr.heap.size) := Lib.hid (Nat.le_trans HSZ.out HB.out.size)
            obtain ⟨gq, hAq, -, hgq, x0, x1, x2, x3, x4, x5⟩ := ordRow HST2.out.row HPL.out hjb2
            subst hAq
            have hpx : ordAt (priL b os) jb = xo := by rw [priL_at (by rw [HON.out]; exact hjb2), HJE.out]; exact HXO.out
            rw [hpx] at x0 x1 x2 x3 x4 x5
            obtain ⟨W3, hW3⟩ : ∃ W3, W3 = wr.alloc (.cells #[.int .i64 xo.id, .int .i64 xo.acc, .bool xo.buy, .int .i64 xo.price, .int .i64 xo.n, .int .i64 xo.left] 42) := ⟨_, rfl⟩
            have hb9 : Below wr.heap.size wr W3 := by rw [hW3]; exact (Below.refl _ _).alloc (Nat.le_refl _) _
            have k24 : Blk W3 wr.heap.size 42 #[.int .i64 xo.id, .int .i64 xo.acc, .bool xo.buy, .int .i64 xo.price, .int .i64 xo.n, .int .i64 xo.left] := by rw [hW3]; exact Blk.new _ _ _
            have HW3 := Lib.hid hW3
            obtain ⟨g24, hg24⟩ : ∃ g24, wr.heap.size = g24 := ⟨_, rfl⟩
            have HG24 := Lib.hid hg24
            rw [hg24] at k24
            have HST3 := Lib.hid (HST2.out.all HSZ2.out hb9)
            have HSZ3 : Hid (W.heap.size ≤ W3.heap.size) := Lib.hid (Nat.le_trans HSZ2.out hb9.size)
            have u0 := k24.cell 0
            have u3 := k24.cell 3
            have u5 := k24.cell 5
            simp only [List.getElem?_toArray, List.getElem?_cons_zero, List.getElem?_cons_succ] at u0 u3 u5
            obtain ⟨gt', hAt', -, -, z0', z1', z2', z3'⟩ := trdRow HST3.out.tr HTK.out hlt
            injection hAt' with hAt'
            injection hAt' with hAt' hz1 hz2
            clear hz1 hz2
            subst hAt'
            rw [HTT.out] at z0' z1' z2' z3'
            have hidn : id < nn := by rw [← HNN.out]; exact HIDB.out
            have w5' := (hb9.cell (p := ⟨gq, jb * 6 + 5, none⟩) hgq).trans x5
            have f5' : W3.frozen? ⟨gq, jb * 6 + 5, none⟩ = false := by
              obtain ⟨g', cur, e1, -, -, -, e5, -⟩ := rown_ge HST3.out.row (by omega)
              injection e1 with e1
              injection e1 with e1
              subst e1
              simp [World.frozen?, e5]
            have hset := HST3.out.set HSZ3.out rfl HON.out hjb2 (by rw [HJE.out, HPI.out.len]; exact HIDB.out) M
            rw [HJE.out, HXO.out] at hset
            have HSET := Lib.hid hset
            have q1 : (t.buy == (nn : Int)) = true := by simp [hb1]
            have q2 : (t.sell != xo.id) = false := by simp [hb2]
            have q3 : (t.n != M) = false := by simp [hb3]
            have q4 : (t.price != xo.price) = false := by simp [hb4]
            have hM := HM.out
            have hMl : M ≤ lf := by omega
            have hMx : M ≤ xo.left := by omega
            have hw1 : IntKind.i64.wrap (xo.left - M) = xo.left - M := IntWalk.i64_in _ (by omega)
            have hw2 : IntKind.i64.wrap (lf - M) = lf - M := IntWalk.i64_in _ (by omega)
            have q5 : (0 : Int) ≤ (jb : Int) := by omega
            clear hset hg24 k24 hW3 hpx hb1 hb2 hb3 hb4 hidn z0 z1 z2 z3
            go_upto_region 27 with (fail)
            rw [← HW3.out, HG24.out]
            clear x0 x1 x2 x3 x4 x5
            go_wp2
            go_quiet (fail)
            go_wp2
            go_roundg (tk - (i + 1))
            case measure => have := HIK.out; omega
            case rel =>
              refine ⟨i + 1, os.set id (xo.less M), o.less M, l2, lf - M, by have := HIK.out; omega, by go_num, rfl, by omega, Lib.hid (by rw [HLF.out]; rfl), HPR2, Lib.hid ?_, Lib.hid ?_⟩
              · first
                | exact HSET.out.all (by simpa using HSZ3.out) (below_drewN (Below.refl _ _) _)
                | exact HSET.out
              · have := HSZ3.out
                simpa using this
      · obtain rfl : i = tk := by omega
        have hdr : (matchP os o l).1 = [] := by rw [← HPI.out.rest, List.drop_of_length_le (by rw [HTK.out]; exact Nat.le_refl _)]
        have hfo : getO b'.os (nn : Int) = o := by rw [← HNN.out, HGET.out, HPI.out.fin]; exact matchP_nil _ _ _ hdr
        have HG : Hid (Calls Try.prog 18 #[.pointer (some ⟨gb, 0, none⟩), .int .i64 (nn : Int)] wr fun e w'' => e = .returned (.tuple #[.agg #[.int .i64 o.id, .int .i64 o.acc, .bool o.buy, .int .i64 o.price, .int .i64 o.n, .int .i64 o.left], .bool true]) ∧ Below wr.heap.size wr w'') := Lib.hid (by
          have := get_any gb W.heap.size V' b' (nn : Int) wr (Lib.hid HST.out.bk)
          rw [hfo, ← HNN.out, HHAS.out, HNN.out] at this
          exact this)
        have q1 : (o.left == lf) = true := by rw [HLF.out]; simp
        have hii : ¬ (i : Int) < (i : Int) := by omega
        clear hdr hfo
        go_wp2_with fail
        refine HG.out.mono ?_
        rintro e wz ⟨rfl, hbz⟩
        have HBZ := Lib.hid hbz
        clear hbz
        go_upto_region 37 with (fail)
        obtain ⟨W3, hW3⟩ : ∃ W3, W3 = wz.alloc (.cells #[.int .i64 o.id, .int .i64 o.acc, .bool o.buy, .int .i64 o.price, .int .i64 o.n, .int .i64 o.left] 42) := ⟨_, rfl⟩
        have hb7 : Below wz.heap.size wz W3 := by rw [hW3]; exact (Below.refl _ _).alloc (Nat.le_refl _) _
        have k28 : Blk W3 wz.heap.size 42 #[.int .i64 o.id, .int .i64 o.acc, .bool o.buy, .int .i64 o.price, .int .i64 o.n, .int .i64 o.left] := by rw [hW3]; exact Blk.new _ _ _
        rw [← hW3]
        obtain ⟨g28, hg28⟩ : ∃ g28, wz.heap.size = g28 := ⟨_, rfl⟩
        rw [hg28] at k28 ⊢
        have u5 := k28.cell 5
        simp only [List.getElem?_toArray, List.getElem?_cons_zero, List.getElem?_cons_succ] at u5
        have HB7 := Lib.hid (bt HBZ.out hb7)
        clear hW3 hb7 hg28 k28
        go_wp2_with (first
          | (go_at_call 15
             (with_reducible refine (lives_any _).mono ?_)
             rintro e w10 ⟨rfl, hb10⟩))
        go_ret
        exact ⟨rfl, bt (HST.out.low.trans (HB7.out.mono HST.out.low.size)) hb10⟩

end Go.Proofs.Ytkandhpnenmleaa

/- For every list of numbers, both sides and all numbers worldmintlaw26.BookPriority returns true: the counterparts of a new order are the best ones. No condition. -/
namespace Go.Proofs.Ytkandhpnenmleaa
open Go.ChangeShapes Go.WideShapes Go.ChangeAt Go.RowKit Go.ChangeMaps

set_option maxRecDepth 100000 in
theorem BookPriority_lifted (os : Os) (started : os.Started) (H : Type) (enc : TypeId × Value → H) :
    ReturnsInHanded {} Try.checked os 5 .any (Rows.bookPrioritySpec.pre6 enc Try.prog Try.f5 Rows.bookPriorityRow.domain false) (Rows.bookPrioritySpec.post enc Try.prog Try.f5 false true false false) := by
  refine returnsInHanded_of_change (C := Try.checked) Try.own started (by kernel_rfl) Try.func5
    (ChangeSpec.witness6 (enc := enc) (C := Try.checked) false ⟨#[], #[.slice none 0 0, .bool false, .int .i64 0, .int .i64 0], []⟩ 8 (by kernel_rfl) (by kernel_rfl) (by kernel_rfl) (by kernel_rfl)) ?_
  intro W base args ds gs before hval0 hW _ _
  have hval : ∀ (j : Nat) t v, Try.f5.params[j]? = some t → args[j]? = some v → Value.okWide Try.prog W .any base t v := hval0
  have hW' := hW
  obtain ⟨p, q, hT0, hV, rfl, hfz, hnd⟩ := hW
  have hT : DataW.TrodAll enc Try.prog W 0 (fun _ => true) true Try.f5.params.toList args.toList ds p := hT0
  rw [Try.params5] at hT hval
  obtain ⟨v0, vs0, d0, ds0, p0, q0, hargs0, rfl, rfl, h0, r0⟩ := trodAll_cons hT
  obtain ⟨v1, vs1, d1, ds1, p1, q1, hargs1, rfl, rfl, h1, r1⟩ := trodAll_cons r0
  obtain ⟨v2, vs2, d2, ds2, p2, q2, hargs2, rfl, rfl, h2, r2⟩ := trodAll_cons r1
  obtain ⟨v3, vs3, d3, ds3, p3, q3, hargs3, rfl, rfl, h3, r3⟩ := trodAll_cons r2
  obtain ⟨rfl, rfl, rfl⟩ := trodAll_nil r3
  obtain rfl : args = #[v0, v1, v2, v3] := by cases args; simp_all
  obtain ⟨A0, n0, c0, f0, rfl, hA0, hn0, hc0, hR0, hw0⟩ := open_sl Try.underlying22 Try.underlying3 (by kernel_rfl) (hval 0 22 v0 rfl rfl) h0
  obtain ⟨a1, rfl, -, -⟩ := open_bool Try.underlying4 (hval 1 4 v1 rfl rfl) h1
  obtain ⟨a2, rfl, -, -, w2⟩ := open_int Try.underlying3 (hval 2 3 v2 rfl rfl) h2
  obtain ⟨a3, rfl, -, -, w3⟩ := open_int Try.underlying3 (hval 3 3 v3 rfl rfl) h3
  refine (BookPriority_walk W A0 n0 c0 f0 hA0 hn0 hc0 hR0 hw0 a1 a2 w2 a3 w3).mono fun e W' ⟨he, hb⟩ => ?_
  subst he
  exact ⟨_, rfl, law_post Try.laidOut (by kernel_rfl) (by kernel_rfl) Try.underlying4 rfl hW' rfl hb⟩

theorem BookPriority_holds : Rows.BookPrioritySaid :=
  OpenClaim.holds_of_wide 5 Try.f5 rfl rfl rfl rfl rfl rfl rfl ⟨rfl, rfl, rfl, rfl, rfl⟩ rfl rfl rfl rfl rfl (by kernel_rfl) Try.func5 (by kernel_rfl)
    (of_decide_eq_true (by kernel_rfl)) (by unfold Func.isWrapper; first | (rw [if_pos (by decide +kernel)]; kernel_rfl) | (rw [if_neg (by decide +kernel)]; exact ⟨rfl, rfl⟩))
    (fun os started H enc _ => BookPriority_lifted os started H enc)

end Go.Proofs.Ytkandhpnenmleaa
