/- For every list of numbers worldmintlaw26.BookCrossed returns true: no open order accepts one of the opposite side. No condition. -/
import Derived.Test.YtkandhpnenmleaaRows
import Derived.Test.YtkandhpnenmleaaHBase
import Derived.WalkKit
import Derived.ProofKit
import Derived.OpenShut
import Derived.JoinedCond
import Derived.Deep.QuietTactic
import Derived.BigQuiet
import Derived.Deep.LoopGhost
import Derived.Deep.CutBlock
import Derived.Deep.DeepCutAuto
import Derived.Test.YtkandhpnenmleaaHNc
import Derived.Test.YtkandhpnenmleaaHBkFl
import Derived.Test.YtkandhpnenmleaaHBkLives

namespace Go.Proofs.Ytkandhpnenmleaa
open Go.ChangeShapes Go.WideShapes Go.ChangeAt Go.RowKit

theorem Try.own : ownKnob Try.prog.godebug = none := by kernel_rfl
theorem Try.laidOut : laidOutB Try.prog = true := by kernel_rfl

theorem wf_u8 {n : Int} (h : (Lit.int .u8 n).wf = true) : 0 ≤ n ∧ n ≤ 255 := by simpa [Lit.wf, IntKind.min, IntKind.max, IntKind.signed, IntKind.bits] using h
theorem wf_i64 {n : Int} (h : (Lit.int .i64 n).wf = true) : -9223372036854775808 ≤ n ∧ n ≤ 9223372036854775807 := by simpa [Lit.wf, IntKind.min, IntKind.max, IntKind.signed, IntKind.bits] using h
theorem wf_u64 {n : Int} (h : (Lit.int .u64 n).wf = true) : 0 ≤ n ∧ n ≤ 18446744073709551615 := by simpa [Lit.wf, IntKind.min, IntKind.max, IntKind.signed, IntKind.bits] using h
theorem bytes_wf {n : Nat} {f : Nat → Int} (h : Hid (∀ j, j < n → (Lit.int .u8 (f j)).wf = true)) : ∀ j, j < n → 0 ≤ f j ∧ f j ≤ 255 := fun j hj => wf_u8 (h.out j hj)

theorem byte_of_wf {n : Int} (h : (Lit.int .u8 n).wf = true) : ∃ b : UInt8, n = ((b.toNat : Nat) : Int) := by
  have := wf_u8 h
  exact ⟨UInt8.ofNat n.toNat, by rw [UInt8.toNat_ofNat']; omega⟩
/-- '^' on bytes, under a name that the walk does not open. -/
def xorB (x y : UInt8) : UInt8 := x ^^^ y
theorem xor_u8 (x y : UInt8) : bits BinOp.xor IntKind.u8 ((x.toNat : Nat) : Int) ((y.toNat : Nat) : Int) = (((xorB x y).toNat : Nat) : Int) := by
  unfold xorB
  show IntKind.u8.wrap ((BitVec.ofInt 8 ((x.toNat : Nat) : Int) ^^^ BitVec.ofInt 8 ((y.toNat : Nat) : Int)).toNat : Int) = _
  have e : ∀ z : UInt8, (BitVec.ofInt 8 ((z.toNat : Nat) : Int)).toNat = z.toNat := fun z => by
    rw [BitVec.ofInt_natCast, BitVec.toNat_ofNat]; exact Nat.mod_eq_of_lt z.toNat_lt
  rw [BitVec.toNat_xor, e, e, UInt8.toNat_xor]
  have hx : x.toNat ^^^ y.toNat < 2 ^ 8 := Nat.xor_lt_two_pow x.toNat_lt y.toNat_lt
  simp [IntKind.wrap, IntKind.bits, IntKind.signed]
  omega

section
variable {H : Type} {enc : TypeId × Value → H} {P : Program}

theorem trodAll_stays (hl : laidOutB P = true) {W W' : World} {sp' : Nat → Bool} : ∀ {ts : List TypeId} (_ : ts.all (fun t => P.readableRec t && decide (t < P.types.size)) = true) {vs : List Value} {ds : List (DataW H)} {ps : List MemPlace}
    (_ : DataW.TrodAll enc P W 0 (fun _ => true) true ts vs ds ps) (_ : ∀ p ∈ ps, W.sameAt W' p) (_ : ∀ p ∈ ps, sp' p.block = true), DataW.TrodAll enc P W' 0 sp' true ts vs ds ps
  | [], _, vs, ds, ps, h, _, _ => by
    obtain ⟨rfl, rfl, rfl⟩ := trodAll_nil h
    exact trodAll_mk0
  | t :: ts, hr, vs, ds, ps, h, hs, hp => by
    obtain ⟨v, vs', d, ds', p, q, rfl, rfl, rfl, h1, h2⟩ := trodAll_cons h
    simp only [List.all_cons, Bool.and_eq_true, decide_eq_true_eq] at hr
    exact trodAll_cons_mk (WideElems.Trod_stays hl hr.1.1 hr.1.2 h1 (fun x hx => hs x (by simp [hx])) (fun x hx => hp x (by simp [hx])))
      (trodAll_stays hl hr.2 h2 (fun x hx => hs x (by simp [hx])) (fun x hx => hp x (by simp [hx])))

theorem law_post {f : Func} {s : ChangeSpec} {tb : TypeId} {W W' : World} {args : Array Value} {ds gs : List (DataW H)} {before : List MemPlace} (hl : laidOutB P = true)
    (hr : f.params.toList.all (fun t => P.readableRec t && decide (t < P.types.size)) = true) (hres : f.resultTypes = #[tb]) (hb : P.underlying tb = some .bool) (hv : s.vars = [])
    (hW : DataW.Whole enc P f.params.toList s.vars false W args.toList ds gs before) (hspec : s.fn H ds = { results := [.lit (.bool true)], args := ds }) (hB : Below W.heap.size W W') :
    s.post enc P f false true false false W args (.bool true) W' := by
  have hW' := hW
  obtain ⟨p, q, hA, hV, rfl, hfz, hnd⟩ := hW
  rw [hv] at hV
  obtain ⟨rfl, rfl⟩ := trodVars_none hV
  refine ⟨ds, [], p ++ [], [], p, [], hW', ?_, ?_, ?_, hB.frame _, fun h => by cases h⟩
  · rw [hres, List.append_nil, hspec]
    exact trodAll_mk1 (shut_bool hb true)
  · rw [List.append_nil, hspec]
    exact trodAll_stays hl hr hA (fun x hx => hB.same (by simpa using hW'.lt x (by simp [hx]))) (fun x hx => by simpa using hW'.lt x (by simp [hx]))
  · rw [hv, List.append_nil, hspec]
    rfl

theorem cell_spot {w : World} {a : Addr} {v : Value} (h : w.cell? a = some v) : a.spot = none ∧ a.block < w.heap.size := by
  unfold World.cell? at h
  split at h
  · rename_i c t f hc
    refine ⟨?_, (Array.getElem?_eq_some_iff.1 hc).1⟩
    cases hs : a.spot with
    | none => rfl
    | some x => simp [hs] at h
  · cases h

/-- A slice of integers that came in. -/
theorem open_sl {t e : TypeId} {k : IntKind} {W : World} {v : Value} {d : DataW H} {ps : List MemPlace} {r : Reach} {b0 : Nat} (ht : P.underlying t = some (.slice e)) (he : P.underlying e = some (.int k)) (hc : P.cellsOf e = 1)
    (hval : Value.okWide P W r b0 t v) (h : DataW.Trod enc P W 0 (fun _ => true) true t v d ps) :
    ∃ (A : Option Addr) (n c : Nat) (f : Nat → Int), v = .slice A n c ∧ (A = none → n = 0) ∧ n ≤ c ∧ c ≤ 9223372036854775807 ∧ Rd W W.heap.size A n (fun j => .int k (f j)) ∧ ∀ j, j < n → (Lit.int k (f j)).wf = true := by
  obtain ⟨a0, len, cap, rfl⟩ := okWide_slice ht hval
  obtain ⟨fuel, hf⟩ := h
  rcases open_ints ht he hc hf with ⟨hcs, hx⟩ | ⟨a, len', cap', zs, hcs, _, hl, hm, hz, hx, hcell, hwz⟩
  · simp [Value.cells] at hcs
    obtain ⟨rfl, rfl, rfl⟩ := hcs
    exact ⟨none, 0, 0, fun _ => 0, rfl, fun _ => rfl, by omega, by omega, Rd.nil, fun j hj => absurd hj (by omega)⟩
  · simp [Value.cells] at hcs
    obtain ⟨rfl, rfl, rfl⟩ := hcs
    simp only [if_true] at hz
    refine ⟨some a, len, cap, fun j => zs.getD j 0, rfl, (fun h => by cases h), hl, (by simpa [maxLen] using hm), ?_, ?_⟩
    · intro hn
      have h0 := hcell 0 (by omega)
      have hs := cell_spot h0
      have ea : a.add 0 = a := by simp [Addr.add]
      rw [ea] at hs
      refine ⟨a.block, a.off, ?_, hs.2, fun j hj => ?_⟩
      · cases a; simp_all
      · rw [← hcell j (by omega)]
        congr 1
        unfold Addr.add
        split
        · rename_i h; subst h; cases a; simp_all
        · cases a; simp_all
    · intro j hj
      refine hwz _ ?_
      show zs.getD j 0 ∈ zs
      have : zs.getD j 0 = zs[j]'(by omega) := by simp [List.getD, show j < zs.length by omega]
      rw [this]
      exact List.getElem_mem _
end

end Go.Proofs.Ytkandhpnenmleaa

/- The walk of BookCrossed. -/
namespace Go.Proofs.Ytkandhpnenmleaa
open Go.ChangeShapes Go.WideShapes Go.ChangeAt Go.RowKit Go.ChangeMaps


set_option maxRecDepth 100000 in
set_option maxHeartbeats 100000000 in
theorem BookCrossed_walk (W : World) (A0 : Option Addr) (n0 c0 : Nat) (f0 : Nat → Int) (_hA0 : A0 = none → n0 = 0) (_hn0 : n0 ≤ c0) (_hc0 : c0 ≤ 9223372036854775807) (hR0 : Rd W W.heap.size A0 n0 (fun j => .int .i64 (f0 j))) (hw0 : Hid (∀ j, j < n0 → (Lit.int .i64 (f0 j)).wf = true)) :
    Calls Try.prog 7 #[.slice A0 n0 c0] W fun e w' => e = .returned (.bool true) ∧ Below W.heap.size W w' := by
  have HW : Hid (∀ j, j < n0 → -9223372036854775808 ≤ f0 j ∧ f0 j ≤ 9223372036854775807) := Lib.hid (fun j hj => wf_i64 (hw0.out j hj))
  have HR := Lib.hid hR0
  have hn9 : n0 ≤ 9223372036854775807 := by omega
  clear hR0 hw0
  have HNEW := Lib.hid (new_any W)
  go_enter Try.func7, Try.ntmps7
  go_wp2_with fail
  refine HNEW.out.mono ?_
  rintro e w1 ⟨V, rfl, hA1, hb1⟩
  have HA1 := Lib.hid hA1
  have HB1 := Lib.hid hb1
  obtain ⟨gb, hgb⟩ : ∃ gb, W.heap.size = gb := ⟨_, rfl⟩
  have HGB := Lib.hid hgb
  rw [hgb]
  clear hA1 hb1 hgb
  go_wp2_with fail
  refine (ops_any A0 n0 c0 f0 24 24 w1 rfl (by omega) (HR.out.all HB1.out) HW hn9).mono ?_
  rintro e w3 ⟨A3, m, c3, l, rfl, hO, hm, hb3⟩
  have HO : Hid (OpsAt w3 W.heap.size A3 m c3 l) := Lib.hid ⟨own_base hO.own HB1.out.size, hO.len, hO.acc⟩
  have HC0 : Hid (CSt W.heap.size W gb 0 V book0 w3) := Lib.hid ⟨by rw [← HGB.out]; exact HA1.out.all hb3, fun i hi => absurd hi (by simp [book0]), Nat.zero_le _, bt HB1.out hb3⟩
  have HSZ : Hid (W.heap.size ≤ w3.heap.size) := Lib.hid (Nat.le_trans HB1.out.size hb3.size)
  clear hO hb3
  go_wp2_with fail
  go_loopg [5] m (fun gk iv wr => ∃ (k : Nat) (V : BkV) (b : BkS), k + gk = m ∧ iv = .int .i64 (k : Int) ∧ Hid (CSt W.heap.size W gb k V b wr) ∧ Hid (OpsAt wr W.heap.size A3 m c3 l) ∧ Hid (W.heap.size ≤ wr.heap.size))
  case atStart => exact ⟨0, _, _, by omega, rfl, HC0, HO, HSZ⟩
  case round =>
    clear HC0 HO HSZ
    obtain ⟨k, V, b, hkm, rfl, HC, HO, HSZ⟩ := hrel
    have HKM := Lib.hid hkm
    have hk : k ≤ m := by omega
    clear hkm
    rcases Nat.lt_or_ge k m with hlt | hge
    · have hii : (k : Int) < (m : Int) := by omega
      obtain ⟨go, hAo, -, hgo, e0, e1, e2, e3, e4, e5⟩ := opRow HO.out hlt
      subst hAo
      obtain ⟨x, hx⟩ : ∃ x, opAt l k = x := ⟨_, rfl⟩
      rw [hx] at e0 e1 e2 e3 e4 e5
      have HX := Lib.hid hx
      clear hx
      have hkd : x.kind = 6 ∨ x.kind = 7 ∨ (x.kind ≠ 6 ∧ x.kind ≠ 7) := by omega
      have HSOM : Hid (∀ w', OpsAt w' W.heap.size (some ⟨go, 0, none⟩) m c3 l → (fun w' => w'.cell? ⟨go, k * 6 + 1, none⟩ = some (.int .i64 x.acc) ∧ w'.cell? ⟨go, k * 6 + 5, none⟩ = some (.int .i64 x.id)) w' ∧ (fun w' => w'.cell? ⟨go, k * 6 + 1, none⟩ = some (.int .i64 x.acc) ∧ w'.cell? ⟨go, k * 6 + 2, none⟩ = some (.bool x.buy) ∧ w'.cell? ⟨go, k * 6 + 3, none⟩ = some (.int .i64 x.price) ∧ w'.cell? ⟨go, k * 6 + 4, none⟩ = some (.int .i64 x.n)) w') := Lib.hid (fun w' h => by
        obtain ⟨g', hg', -, -, y0, y1, y2, y3, y4, y5⟩ := opRow h hlt
        injection hg' with hg'
        injection hg' with hg'
        subst hg'
        rw [HX.out] at y1 y2 y3 y4 y5
        exact ⟨⟨y1, y5⟩, ⟨y1, y2, y3, y4⟩⟩)
      have HLB : Hid (b.os.length < 100000) := Lib.hid (by have := HC.out.len; omega)
      have hP1 : Below wr.heap.size wr wr.drew := below_drewN (Below.refl _ _) 1
      have HOD := HSOM.out _ (HO.out.all hP1)
      have HOD := Lib.hid HOD
      go_upto_block 2 with (fail)
      go_cut [] (fun wx => ∃ (V2 : BkV), Hid (CSt W.heap.size W gb (k + 1) V2 (stepB b x) wx) ∧ Hid (OpsAt wx W.heap.size (some ⟨go, 0, none⟩) m c3 l) ∧ Hid (W.heap.size ≤ wx.heap.size))
      case first =>
        rcases hkd with h6 | h7 | ⟨h6, h7⟩
        · have HK6 := Lib.hid h6
          have hk6 : (x.kind == 6) = true := by simp [h6]
          clear h6
          go_upto_region 11 with (fail)
          refine wp_region_held_drew (S := (fun w' => w'.cell? ⟨go, k * 6 + 1, none⟩ = some (.int .i64 x.acc) ∧ w'.cell? ⟨go, k * 6 + 5, none⟩ = some (.int .i64 x.id))) (by kernel_rfl) HOD.out.1 (fun hHeld => ?_)
          refine takeH 0 (some 54) (v := ?_) (by rfl) (by rfl) (by kernel_rfl) (by kernel_rfl) (by kernel_rfl) (fun _ _ _ h => h) ?_ (by assumption) ?_
          rotate_left
          · (intro o ho w hSw; obtain ⟨z0, z1⟩ := hSw; cases ho; go_simp; try with_reducible rfl)
          try simp only [Act.put, List.setIfInBounds_toArray, List.set_cons_zero, List.set_cons_succ]
          refine takeH 1 (some 55) (v := ?_) (by rfl) (by rfl) (by kernel_rfl) (by kernel_rfl) (by kernel_rfl) (fun _ _ _ h => h) ?_ (by assumption) ?_
          rotate_left
          · (intro o ho w hSw; obtain ⟨z0, z1⟩ := hSw; cases ho; go_simp; try with_reducible rfl)
          try simp only [Act.put, List.setIfInBounds_toArray, List.set_cons_zero, List.set_cons_succ]
          refine takeH 2 (some 56) (v := ?_) (by rfl) (by rfl) (by kernel_rfl) (by kernel_rfl) (by kernel_rfl) (fun _ _ _ h => h) ?_ (by assumption) ?_
          rotate_left
          · (intro o ho w hSw; obtain ⟨z0, z1⟩ := hSw; cases ho; go_simp; try with_reducible rfl)
          try simp only [Act.put, List.setIfInBounds_toArray, List.set_cons_zero, List.set_cons_succ]
          refine takeH 3 (some 57) (v := ?_) (by rfl) (by rfl) (by kernel_rfl) (by kernel_rfl) (by kernel_rfl) (fun _ _ _ h => h) ?_ (by assumption) ?_
          rotate_left
          · (intro o ho w hSw; obtain ⟨z0, z1⟩ := hSw; cases ho; go_simp; try with_reducible rfl)
          try simp only [Act.put, List.setIfInBounds_toArray, List.set_cons_zero, List.set_cons_succ]
          refine takeH 4 (some 58) (v := ?_) (by rfl) (by rfl) (by kernel_rfl) (by kernel_rfl) (by kernel_rfl) (fun _ _ _ h => h) ?_ (by assumption) ?_
          rotate_left
          · (intro o ho w hSw; obtain ⟨z0, z1⟩ := hSw; cases ho; go_simp; try with_reducible rfl)
          try simp only [Act.put, List.setIfInBounds_toArray, List.set_cons_zero, List.set_cons_succ]
          refine takeH 5 (some 59) (v := ?_) (by rfl) (by rfl) (by kernel_rfl) (by kernel_rfl) (by kernel_rfl) (fun _ _ _ h => h) ?_ (by assumption) ?_
          rotate_left
          · (intro o ho w hSw; obtain ⟨z0, z1⟩ := hSw; cases ho; go_simp; try with_reducible rfl)
          try simp only [Act.put, List.setIfInBounds_toArray, List.set_cons_zero, List.set_cons_succ]
          refine takeH 6 (some 60) (v := ?_) (by rfl) (by rfl) (by kernel_rfl) (by kernel_rfl) (by kernel_rfl) (fun _ _ _ h => h) ?_ (by assumption) ?_
          rotate_left
          · (intro o ho w hSw; obtain ⟨z0, z1⟩ := hSw; cases ho; go_simp; try with_reducible rfl)
          try simp only [Act.put, List.setIfInBounds_toArray, List.set_cons_zero, List.set_cons_succ]
          refine takeH 7 (some 61) (v := ?_) (by rfl) (by rfl) (by kernel_rfl) (by kernel_rfl) (by kernel_rfl) (fun _ _ _ h => h) ?_ (by assumption) ?_
          rotate_left
          · (intro o ho w hSw; obtain ⟨z0, z1⟩ := hSw; cases ho; go_simp; try with_reducible rfl)
          try simp only [Act.put, List.setIfInBounds_toArray, List.set_cons_zero, List.set_cons_succ]
          refine takeH 8 (some 62) (v := ?_) (by rfl) (by rfl) (by kernel_rfl) (by kernel_rfl) (by kernel_rfl) (fun _ _ _ h => h) ?_ (by assumption) ?_
          rotate_left
          · (intro o ho w hSw; obtain ⟨z0, z1⟩ := hSw; cases ho; go_simp; try with_reducible rfl)
          try simp only [Act.put, List.setIfInBounds_toArray, List.set_cons_zero, List.set_cons_succ]
          refine takeH 9 (some 63) (v := ?_) (by rfl) (by rfl) (by kernel_rfl) (by kernel_rfl) (by kernel_rfl) (fun _ _ _ h => h) ?_ (by assumption) ?_
          rotate_left
          · (intro o ho w hSw; obtain ⟨z0, z1⟩ := hSw; cases ho; go_simp; try with_reducible rfl)
          try simp only [Act.put, List.setIfInBounds_toArray, List.set_cons_zero, List.set_cons_succ]
          refine takeH 10 (some 64) (v := ?_) (by rfl) (by rfl) (by kernel_rfl) (by kernel_rfl) (by kernel_rfl) (fun _ _ _ h => h) ?_ (by assumption) ?_
          rotate_left
          · (intro o ho w hSw; obtain ⟨z0, z1⟩ := hSw; cases ho; go_simp; try with_reducible rfl)
          try simp only [Act.put, List.setIfInBounds_toArray, List.set_cons_zero, List.set_cons_succ]
          refine wpAnyH_ready (rs := [11]) (by kernel_rfl) (by simp) ?_
          refine AllReadyH.cons rfl (fun K hK => ?_) AllReadyH.nil
          go_simp
          go_at_call 13
          (with_reducible refine (cancel_any gb W.heap.size V b x.acc x.id _ (Lib.hid (HC.out.bk.all hP1))).mono ?_)
          rintro e w5 ⟨rfl, hp5⟩
          obtain ⟨V', hN⟩ := hp5.next
          have HN : Hid (BkNext gb W.heap.size V b wr V' (stepB b x) w5) := Lib.hid (by
            have h : (cancelE b x.acc x.id).2.2 = stepB b x := by unfold stepB; rw [if_pos HK6.out]
            rw [← h]
            exact ⟨hN.bk, (Mod.of_below (BkF gb V b.os.length) hP1).trans hN.mod (fun _ hq => .inl hq), hN.new⟩)
          have HO5 : Hid (OpsAt w5 W.heap.size (some ⟨go, 0, none⟩) m c3 l) := Lib.hid (HO.out.mod HN.out.mod (fun q hq => bk_isOp HC.out.bk hq))
          clear hN hp5
          go_wp2
          refine hK.out _ _ ?_ (fun hH5 => ?_)
          · exact (HSOM.out _ HO5.out).1
          clear hK K
          try simp only [Act.put, List.setIfInBounds_toArray, List.set_cons_zero, List.set_cons_succ]
          refine wpAnyH_done (by kernel_rfl) ?_ _
          go_wp2_with fail
          go_meet
          exact ⟨V', Lib.hid (HC.out.next HSZ.out HN.out), HO5, Lib.hid (Nat.le_trans HSZ.out HN.out.mod.size)⟩
        · have HK6 : Hid (¬ x.kind = 6) := Lib.hid (by omega)
          have HK7 := Lib.hid h7
          have hk6 : (x.kind == 6) = false := by simp [h7]
          have hk7 : (x.kind == 7) = true := by simp [h7]
          clear h7
          go_wp2_with (first
              | (go_at_call 17
                 (with_reducible refine (void_any gb W.heap.size V b x.acc _ (Lib.hid HC.out.bk)).mono ?_)
                 rintro e w5 ⟨A5, c5, rfl, -, hp5⟩
                 obtain ⟨V', hN⟩ := hp5.next
                 have HN : Hid (BkNext gb W.heap.size V b wr V' (stepB b x) w5) := Lib.hid (by
                   have h : voidB b x.acc = stepB b x := by unfold stepB; rw [if_neg HK6.out, if_pos HK7.out]
                   rw [← h]
                   exact ⟨hN.bk, (Mod.refl (BkF gb V b.os.length) wr).trans hN.mod (fun _ hq => .inl hq), hN.new⟩)
                 have HO5 : Hid (OpsAt w5 W.heap.size (some ⟨go, 0, none⟩) m c3 l) := Lib.hid (HO.out.mod HN.out.mod (fun q hq => bk_isOp HC.out.bk hq))
                 clear hN hp5))
          go_wp2_with fail
          go_meet
          exact ⟨V', Lib.hid (HC.out.next HSZ.out HN.out), HO5, Lib.hid (Nat.le_trans HSZ.out HN.out.mod.size)⟩
        · have HK6 := Lib.hid h6
          have HK7 := Lib.hid h7
          have hk6 : (x.kind == 6) = false := by simp [h6]
          have hk7 : (x.kind == 7) = false := by simp [h7]
          obtain ⟨pid, ts, perr, b', hE⟩ : ∃ pid ts perr b', placeE b x.acc x.buy x.price x.n = (pid, ts, perr, b') := ⟨_, _, _, _, rfl⟩
          obtain ⟨tk, htk⟩ : ∃ tk, ts.length = tk := ⟨_, rfl⟩
          have HPE := Lib.hid hE
          have HTK := Lib.hid htk
          clear h6 h7 hE htk
          go_upto_region 9 with (fail)
          refine wp_region_held_drew (S := (fun w' => w'.cell? ⟨go, k * 6 + 1, none⟩ = some (.int .i64 x.acc) ∧ w'.cell? ⟨go, k * 6 + 2, none⟩ = some (.bool x.buy) ∧ w'.cell? ⟨go, k * 6 + 3, none⟩ = some (.int .i64 x.price) ∧ w'.cell? ⟨go, k * 6 + 4, none⟩ = some (.int .i64 x.n))) (by kernel_rfl) HOD.out.2 (fun hHeld => ?_)
          refine takeH 0 (some 30) (v := ?_) (by rfl) (by rfl) (by kernel_rfl) (by kernel_rfl) (by kernel_rfl) (fun _ _ _ h => h) ?_ (by assumption) ?_
          rotate_left
          · (intro o ho w hSw; obtain ⟨z0, z1, z2, z3⟩ := hSw; cases ho; go_simp; try with_reducible rfl)
          try simp only [Act.put, List.setIfInBounds_toArray, List.set_cons_zero, List.set_cons_succ]
          refine takeH 1 (some 31) (v := ?_) (by rfl) (by rfl) (by kernel_rfl) (by kernel_rfl) (by kernel_rfl) (fun _ _ _ h => h) ?_ (by assumption) ?_
          rotate_left
          · (intro o ho w hSw; obtain ⟨z0, z1, z2, z3⟩ := hSw; cases ho; go_simp; try with_reducible rfl)
          try simp only [Act.put, List.setIfInBounds_toArray, List.set_cons_zero, List.set_cons_succ]
          refine takeH 2 (some 32) (v := ?_) (by rfl) (by rfl) (by kernel_rfl) (by kernel_rfl) (by kernel_rfl) (fun _ _ _ h => h) ?_ (by assumption) ?_
          rotate_left
          · (intro o ho w hSw; obtain ⟨z0, z1, z2, z3⟩ := hSw; cases ho; go_simp; try with_reducible rfl)
          try simp only [Act.put, List.setIfInBounds_toArray, List.set_cons_zero, List.set_cons_succ]
          refine takeH 3 (some 33) (v := ?_) (by rfl) (by rfl) (by kernel_rfl) (by kernel_rfl) (by kernel_rfl) (fun _ _ _ h => h) ?_ (by assumption) ?_
          rotate_left
          · (intro o ho w hSw; obtain ⟨z0, z1, z2, z3⟩ := hSw; cases ho; go_simp; try with_reducible rfl)
          try simp only [Act.put, List.setIfInBounds_toArray, List.set_cons_zero, List.set_cons_succ]
          refine takeH 4 (some 34) (v := ?_) (by rfl) (by rfl) (by kernel_rfl) (by kernel_rfl) (by kernel_rfl) (fun _ _ _ h => h) ?_ (by assumption) ?_
          rotate_left
          · (intro o ho w hSw; obtain ⟨z0, z1, z2, z3⟩ := hSw; cases ho; go_simp; try with_reducible rfl)
          try simp only [Act.put, List.setIfInBounds_toArray, List.set_cons_zero, List.set_cons_succ]
          refine takeH 5 (some 35) (v := ?_) (by rfl) (by rfl) (by kernel_rfl) (by kernel_rfl) (by kernel_rfl) (fun _ _ _ h => h) ?_ (by assumption) ?_
          rotate_left
          · (intro o ho w hSw; obtain ⟨z0, z1, z2, z3⟩ := hSw; cases ho; go_simp; try with_reducible rfl)
          try simp only [Act.put, List.setIfInBounds_toArray, List.set_cons_zero, List.set_cons_succ]
          refine takeH 6 (some 36) (v := ?_) (by rfl) (by rfl) (by kernel_rfl) (by kernel_rfl) (by kernel_rfl) (fun _ _ _ h => h) ?_ (by assumption) ?_
          rotate_left
          · (intro o ho w hSw; obtain ⟨z0, z1, z2, z3⟩ := hSw; cases ho; go_simp; try with_reducible rfl)
          try simp only [Act.put, List.setIfInBounds_toArray, List.set_cons_zero, List.set_cons_succ]
          refine takeH 7 (some 37) (v := ?_) (by rfl) (by rfl) (by kernel_rfl) (by kernel_rfl) (by kernel_rfl) (fun _ _ _ h => h) ?_ (by assumption) ?_
          rotate_left
          · (intro o ho w hSw; obtain ⟨z0, z1, z2, z3⟩ := hSw; cases ho; go_simp; try with_reducible rfl)
          try simp only [Act.put, List.setIfInBounds_toArray, List.set_cons_zero, List.set_cons_succ]
          refine takeH 8 (some 38) (v := ?_) (by rfl) (by rfl) (by kernel_rfl) (by kernel_rfl) (by kernel_rfl) (fun _ _ _ h => h) ?_ (by assumption) ?_
          rotate_left
          · (intro o ho w hSw; obtain ⟨z0, z1, z2, z3⟩ := hSw; cases ho; go_simp; try with_reducible rfl)
          try simp only [Act.put, List.setIfInBounds_toArray, List.set_cons_zero, List.set_cons_succ]
          refine takeH 9 (some 39) (v := ?_) (by rfl) (by rfl) (by kernel_rfl) (by kernel_rfl) (by kernel_rfl) (fun _ _ _ h => h) ?_ (by assumption) ?_
          rotate_left
          · (intro o ho w hSw; obtain ⟨z0, z1, z2, z3⟩ := hSw; cases ho; go_simp; try with_reducible rfl)
          try simp only [Act.put, List.setIfInBounds_toArray, List.set_cons_zero, List.set_cons_succ]
          refine takeH 10 (some 40) (v := ?_) (by rfl) (by rfl) (by kernel_rfl) (by kernel_rfl) (by kernel_rfl) (fun _ _ _ h => h) ?_ (by assumption) ?_
          rotate_left
          · (intro o ho w hSw; obtain ⟨z0, z1, z2, z3⟩ := hSw; cases ho; go_simp; try with_reducible rfl)
          try simp only [Act.put, List.setIfInBounds_toArray, List.set_cons_zero, List.set_cons_succ]
          refine takeH 11 (some 41) (v := ?_) (by rfl) (by rfl) (by kernel_rfl) (by kernel_rfl) (by kernel_rfl) (fun _ _ _ h => h) ?_ (by assumption) ?_
          rotate_left
          · (intro o ho w hSw; obtain ⟨z0, z1, z2, z3⟩ := hSw; cases ho; go_simp; try with_reducible rfl)
          try simp only [Act.put, List.setIfInBounds_toArray, List.set_cons_zero, List.set_cons_succ]
          refine takeH 12 (some 42) (v := ?_) (by rfl) (by rfl) (by kernel_rfl) (by kernel_rfl) (by kernel_rfl) (fun _ _ _ h => h) ?_ (by assumption) ?_
          rotate_left
          · (intro o ho w hSw; obtain ⟨z0, z1, z2, z3⟩ := hSw; cases ho; go_simp; try with_reducible rfl)
          try simp only [Act.put, List.setIfInBounds_toArray, List.set_cons_zero, List.set_cons_succ]
          refine takeH 13 (some 43) (v := ?_) (by rfl) (by rfl) (by kernel_rfl) (by kernel_rfl) (by kernel_rfl) (fun _ _ _ h => h) ?_ (by assumption) ?_
          rotate_left
          · (intro o ho w hSw; obtain ⟨z0, z1, z2, z3⟩ := hSw; cases ho; go_simp; try with_reducible rfl)
          try simp only [Act.put, List.setIfInBounds_toArray, List.set_cons_zero, List.set_cons_succ]
          refine takeH 14 (some 44) (v := ?_) (by rfl) (by rfl) (by kernel_rfl) (by kernel_rfl) (by kernel_rfl) (fun _ _ _ h => h) ?_ (by assumption) ?_
          rotate_left
          · (intro o ho w hSw; obtain ⟨z0, z1, z2, z3⟩ := hSw; cases ho; go_simp; try with_reducible rfl)
          try simp only [Act.put, List.setIfInBounds_toArray, List.set_cons_zero, List.set_cons_succ]
          refine takeH 15 (some 45) (v := ?_) (by rfl) (by rfl) (by kernel_rfl) (by kernel_rfl) (by kernel_rfl) (fun _ _ _ h => h) ?_ (by assumption) ?_
          rotate_left
          · (intro o ho w hSw; obtain ⟨z0, z1, z2, z3⟩ := hSw; cases ho; go_simp; try with_reducible rfl)
          try simp only [Act.put, List.setIfInBounds_toArray, List.set_cons_zero, List.set_cons_succ]
          refine takeH 16 (some 46) (v := ?_) (by rfl) (by rfl) (by kernel_rfl) (by kernel_rfl) (by kernel_rfl) (fun _ _ _ h => h) ?_ (by assumption) ?_
          rotate_left
          · (intro o ho w hSw; obtain ⟨z0, z1, z2, z3⟩ := hSw; cases ho; go_simp; try with_reducible rfl)
          try simp only [Act.put, List.setIfInBounds_toArray, List.set_cons_zero, List.set_cons_succ]
          refine takeH 17 (some 47) (v := ?_) (by rfl) (by rfl) (by kernel_rfl) (by kernel_rfl) (by kernel_rfl) (fun _ _ _ h => h) ?_ (by assumption) ?_
          rotate_left
          · (intro o ho w hSw; obtain ⟨z0, z1, z2, z3⟩ := hSw; cases ho; go_simp; try with_reducible rfl)
          try simp only [Act.put, List.setIfInBounds_toArray, List.set_cons_zero, List.set_cons_succ]
          refine takeH 18 (some 48) (v := ?_) (by rfl) (by rfl) (by kernel_rfl) (by kernel_rfl) (by kernel_rfl) (fun _ _ _ h => h) ?_ (by assumption) ?_
          rotate_left
          · (intro o ho w hSw; obtain ⟨z0, z1, z2, z3⟩ := hSw; cases ho; go_simp; try with_reducible rfl)
          try simp only [Act.put, List.setIfInBounds_toArray, List.set_cons_zero, List.set_cons_succ]
          refine takeH 19 (some 49) (v := ?_) (by rfl) (by rfl) (by kernel_rfl) (by kernel_rfl) (by kernel_rfl) (fun _ _ _ h => h) ?_ (by assumption) ?_
          rotate_left
          · (intro o ho w hSw; obtain ⟨z0, z1, z2, z3⟩ := hSw; cases ho; go_simp; try with_reducible rfl)
          try simp only [Act.put, List.setIfInBounds_toArray, List.set_cons_zero, List.set_cons_succ]
          refine takeH 20 (some 50) (v := ?_) (by rfl) (by rfl) (by kernel_rfl) (by kernel_rfl) (by kernel_rfl) (fun _ _ _ h => h) ?_ (by assumption) ?_
          rotate_left
          · (intro o ho w hSw; obtain ⟨z0, z1, z2, z3⟩ := hSw; cases ho; go_simp; try with_reducible rfl)
          try simp only [Act.put, List.setIfInBounds_toArray, List.set_cons_zero, List.set_cons_succ]
          refine wpAnyH_ready (rs := [21]) (by kernel_rfl) (by simp) ?_
          refine AllReadyH.cons rfl (fun K hK => ?_) AllReadyH.nil
          go_simp
          go_at_call 11
          (with_reducible refine (place_step gb W.heap.size V b x.buy x.acc x.price x.n _ (Lib.hid (HC.out.bk.all hP1)) HLB.out HPE.out HTK.out).mono ?_)
          rintro e w5 ⟨A5, c5, V', rfl, hr5, hN⟩
          have HN : Hid (BkNext gb W.heap.size V b wr V' (stepB b x) w5) := Lib.hid (by
            have h : b' = stepB b x := by unfold stepB; rw [if_neg HK6.out, if_neg HK7.out, HPE.out]
            rw [← h]
            exact ⟨hN.bk, (Mod.of_below (BkF gb V b.os.length) hP1).trans hN.mod (fun _ hq => .inl hq), hN.new⟩)
          have HO5 : Hid (OpsAt w5 W.heap.size (some ⟨go, 0, none⟩) m c3 l) := Lib.hid (HO.out.mod HN.out.mod (fun q hq => bk_isOp HC.out.bk hq))
          have HTR := Lib.hid hr5
          clear hN hr5
          go_wp2
          refine hK.out _ _ ?_ (fun hH5 => ?_)
          · exact (HSOM.out _ HO5.out).2
          clear hK K
          try simp only [Act.put, List.setIfInBounds_toArray, List.set_cons_zero, List.set_cons_succ]
          refine wpAnyH_done (by kernel_rfl) ?_ _
          go_wp2_with fail
          go_meet
          exact ⟨V', Lib.hid (HC.out.next HSZ.out HN.out), HO5, Lib.hid (Nat.le_trans HSZ.out HN.out.mod.size)⟩
      case rest =>
        obtain ⟨V5, HC5, HO5, HSZ5⟩ := hcut
        obtain ⟨w5, rfl⟩ : ∃ w : World, w = wc := ⟨_, rfl⟩
        obtain ⟨b5, hb5⟩ : ∃ b5, stepB b x = b5 := ⟨_, rfl⟩
        rw [hb5] at HC5
        clear hb5 HC HO HSZ HSOM HOD HLB hP1 e0 e1 e2 e3 e4 e5
        obtain ⟨on, hon⟩ : ∃ on, b5.openOs.length = on := ⟨_, rfl⟩
        have hon4 : on ≤ 4096 := by
          have h1 := open_len HC5.out.bk.ok
          have h2 := HC5.out.bk.ok.few
          omega
        have HON := Lib.hid hon
        obtain ⟨o1, ho1⟩ : ∃ o, bestO b5.os (b5.side true) = o := ⟨_, rfl⟩
        obtain ⟨o2, ho2⟩ : ∃ o, bestO b5.os (b5.side false) = o := ⟨_, rfl⟩
        obtain ⟨p1, hp1⟩ : ∃ p, (!(b5.side true).isEmpty) = p := ⟨_, rfl⟩
        obtain ⟨p2, hp2⟩ : ∃ p, (!(b5.side false).isEmpty) = p := ⟨_, rfl⟩
        have HPQ := Lib.hid (And.intro (And.intro ho1 ho2) (And.intro hp1 hp2))
        have HO6 : Hid (∀ w', Below w5.heap.size w5 w' → Calls Try.prog 12 #[.pointer (some ⟨gb, 0, none⟩)] w' fun e w'' => ∃ A8 c8, e = .returned (.slice A8 on c8) ∧ w''.ownsRow w'.heap.size 42 6 (.slice A8 on c8) on (b5.openOs.flatMap Ord.cells) ∧ Below w'.heap.size w' w'') := Lib.hid (fun w' hb => by
          have := orders_any gb W.heap.size V5 b5 w' (Lib.hid (HC5.out.bk.all hb))
          unfold OrdPost at this
          rw [hon] at this
          exact this)
        have HBB : Hid (∀ w', Below w5.heap.size w5 w' → Calls Try.prog 22 #[.pointer (some ⟨gb, 0, none⟩)] w' fun e w'' => e = .returned (.tuple #[.agg #[.int .i64 o1.id, .int .i64 o1.acc, .bool o1.buy, .int .i64 o1.price, .int .i64 o1.n, .int .i64 o1.left], .agg #[.int .i64 o2.id, .int .i64 o2.acc, .bool o2.buy, .int .i64 o2.price, .int .i64 o2.n, .int .i64 o2.left], .bool p1, .bool p2]) ∧ Below w'.heap.size w' w'') := Lib.hid (fun w' hb => by
          have := Best_any gb W.heap.size V5 b5 w' (Lib.hid (HC5.out.bk.all hb))
          rw [ho1, ho2, hp1, hp2] at this
          exact this)
        clear hon ho1 ho2 hp1 hp2
        go_wp2_with fail
        refine (HO6.out w5 (Below.refl _ _)).mono ?_
        rintro e w6 ⟨A8, c8, rfl, hr8, hb6⟩
        have HR8 := Lib.hid hr8
        have HB6 := Lib.hid hb6
        clear hr8 hb6
        go_wp2_with fail
        refine (HBB.out w6 HB6.out).mono ?_
        rintro e w7 ⟨rfl, hb7⟩
        have HB7 := Lib.hid (bt HB6.out hb7)
        have HR87 := Lib.hid (own_keep HR8.out hb7)
        clear hb7 HR8
        go_upto_region 16 with (fail)
        obtain ⟨W1, hW1⟩ : ∃ W1, W1 = (w7.alloc (.cells #[.int .i64 o1.id, .int .i64 o1.acc, .bool o1.buy, .int .i64 o1.price, .int .i64 o1.n, .int .i64 o1.left] 42)).alloc (.cells #[.int .i64 o2.id, .int .i64 o2.acc, .bool o2.buy, .int .i64 o2.price, .int .i64 o2.n, .int .i64 o2.left] 42) := ⟨_, rfl⟩
        rw [← hW1]
        have hb8 : Below w7.heap.size w7 W1 := by rw [hW1]; exact ((Below.refl _ _).alloc (Nat.le_refl _) _).alloc (by simp) _
        have k7 : Blk W1 w7.heap.size 42 #[.int .i64 o1.id, .int .i64 o1.acc, .bool o1.buy, .int .i64 o1.price, .int .i64 o1.n, .int .i64 o1.left] := by rw [hW1]; exact (Blk.new _ _ _).alloc _
        have k8 : Blk W1 (w7.heap.size + 1) 42 #[.int .i64 o2.id, .int .i64 o2.acc, .bool o2.buy, .int .i64 o2.price, .int .i64 o2.n, .int .i64 o2.left] := by rw [hW1]; exact Blk.new' _ _ _ (by simp)
        clear hW1
        obtain ⟨g8, hg8⟩ : ∃ g8, w7.heap.size + 1 = g8 := ⟨_, rfl⟩
        rw [hg8] at k8 ⊢
        clear hg8
        have HB8 := Lib.hid (bt HB7.out hb8)
        have HRW := Lib.hid (own_keep HR87.out hb8)
        obtain ⟨g7, hg7⟩ : ∃ g7, w7.heap.size = g7 := ⟨_, rfl⟩
        rw [hg7] at k7 ⊢
        have d0 := k7.cell 0
        have d3 := k7.cell 3
        have c0' := k8.cell 0
        have c3' := k8.cell 3
        simp only [List.getElem?_toArray, List.getElem?_cons_zero, List.getElem?_cons_succ] at d0 d3 c0' c3'
        have HK7 := Lib.hid (And.intro k7 k8)
        have HNB : Hid (p1 = true → p2 = true → o1.price < o2.price) := Lib.hid (fun h1 h2 => by
          obtain ⟨⟨q1, q2⟩, q3, q4⟩ := HPQ.out
          rw [← q1, ← q2]
          exact HC5.out.nc.best (by rw [h1] at q3; simpa using q3) (by rw [h2] at q4; simpa using q4))
        clear hg7 hb8 k7 k8 HR87 HBB HO6
        go_cut [94] (fun v wx => v = .bool false ∧ wx = W1)
        case first =>
          cases p1
          · go_wp2
            go_meet
            exact ⟨rfl, rfl⟩
          · cases p2
            · go_wp2
              go_meet
              exact ⟨rfl, rfl⟩
            · have hnb := HNB.out rfl rfl
              have hnb2 : decide (o2.price ≤ o1.price) = false := decide_eq_false (by omega)
              go_wp2
              go_meet
              exact ⟨rfl, rfl⟩
        case rest =>
          obtain ⟨rfl, rfl⟩ := hcut
          obtain ⟨w8, rfl⟩ : ∃ w : World, w = wc := ⟨_, rfl⟩
          clear HNB
          go_wp2_with fail
          go_loopg [11] on (fun gj iv wr => ∃ j : Nat, j + gj = on ∧ iv = .int .i64 (j : Int) ∧ Hid (Below w8.heap.size w8 wr))
          case atStart => exact ⟨0, by omega, rfl, Lib.hid (Below.refl _ _)⟩
          case round =>
            obtain ⟨j, hjo, rfl, HB⟩ := hrel
            have HJO := Lib.hid hjo
            have hj : j ≤ on := by omega
            clear hjo
            rcases Nat.lt_or_ge j on with hlj | hgj
            · have hjj : (j : Int) < (on : Int) := by omega
              have HRr := Lib.hid (own_keep HRW.out HB.out)
              obtain ⟨gq, hAq, -, hgq, z0, z1, z2, z3, z4, z5⟩ := ordRow HRr.out HON.out hlj
              subst hAq
              have hop := open_left HC5.out.bk.ok (j := j) (by rw [HON.out]; exact hlj)
              have hbest := best_of HC5.out.bk.ok (j := j) (by rw [HON.out]; exact hlj)
              have hsuc : ∀ i, i + 1 = j → (ordAt b5.openOs i).id < (ordAt b5.openOs j).id := by
                rintro i rfl
                exact openOs_lt HC5.out.bk.ok (by rw [HON.out]; exact hlj)
              obtain ⟨⟨y1, y2⟩, y3, y4⟩ := HPQ.out
              rw [y1, y2] at hbest
              obtain ⟨o, ho⟩ : ∃ o, ordAt b5.openOs j = o := ⟨_, rfl⟩
              rw [ho] at z0 z1 z2 z3 z4 z5 hop hbest hsuc
              have HP12 : Hid ((o.buy = true → p1 = true) ∧ (o.buy = false → p2 = true)) := Lib.hid (by
                refine ⟨fun h => ?_, fun h => ?_⟩
                · rw [← y3]
                  rw [h] at hbest
                  simp [hbest.1]
                · rw [← y4]
                  rw [h] at hbest
                  simp [hbest.1])
              have HBE := Lib.hid hbest.2
              have HSU := Lib.hid hsuc
              obtain ⟨op1, op2⟩ := hop
              have HKr := Lib.hid (And.intro (HK7.out.1.all HB.out) (HK7.out.2.all HB.out))
              obtain ⟨W2, hW2⟩ : ∃ W2, W2 = wr.alloc (.cells #[.int .i64 o.id, .int .i64 o.acc, .bool o.buy, .int .i64 o.price, .int .i64 o.n, .int .i64 o.left] 42) := ⟨_, rfl⟩
              have hb9 : Below wr.heap.size wr W2 := by rw [hW2]; exact (Below.refl _ _).alloc (Nat.le_refl _) _
              have k12 : Blk W2 wr.heap.size 42 #[.int .i64 o.id, .int .i64 o.acc, .bool o.buy, .int .i64 o.price, .int .i64 o.n, .int .i64 o.left] := by rw [hW2]; exact Blk.new _ _ _
              have HW2 := Lib.hid hW2
              obtain ⟨g12, hg12⟩ : ∃ g12, wr.heap.size = g12 := ⟨_, rfl⟩
              have HG12 := Lib.hid hg12
              rw [hg12] at k12
              have HRz := Lib.hid (own_keep HRr.out hb9)
              have HBz := Lib.hid (bt HB.out hb9)
              have v0 := (HKr.out.1.all hb9).cell 0
              have v3 := (HKr.out.1.all hb9).cell 3
              have u0 := (HKr.out.2.all hb9).cell 0
              have u3 := (HKr.out.2.all hb9).cell 3
              have t0 := k12.cell 0
              have t2 := k12.cell 2
              have t3 := k12.cell 3
              simp only [List.getElem?_toArray, List.getElem?_cons_zero, List.getElem?_cons_succ] at v0 v3 u0 u3 t0 t2 t3
              have HK12 := Lib.hid k12
              clear hW2 hg12 k12 hb9 ho hbest hsuc y1 y2 y3 y4
              go_upto_region 22 with (fail)
              rw [← HW2.out, HG12.out]
              clear z0 z1 z2 z3 z4 z5
              have t4 := HK12.out.cell 4
              have t5 := HK12.out.cell 5
              simp only [List.getElem?_toArray, List.getElem?_cons_zero, List.getElem?_cons_succ] at t4 t5
              have w1' : decide (o.left < 1) = false := decide_eq_false (by omega)
              have w2' : decide (o.n < o.left) = false := decide_eq_false (by omega)
              rcases j with _ | i
              · clear HRz HRr hgq HSU
                cases hob : o.buy
                · rw [hob] at t2
                  obtain rfl := HP12.out.2 hob
                  have hbe := HBE.out
                  rw [hob] at hbe
                  simp only [Bool.false_eq_true, if_false] at hbe
                  rcases hbe with hbe | ⟨hbe, hid⟩
                  · have q1 : decide (o.price < o2.price) = false := decide_eq_false (by omega)
                    have q2 : (o.price == o2.price) = false := by simp; omega
                    clear hob hbe
                    as_aux_lemma =>
                      go_wp2
                      go_quiet (fail)
                      go_wp2
                      go_roundg (on - (1))
                      case measure => have := HJO.out; omega
                      case rel => exact ⟨1, by have := HJO.out; omega, by first | rfl | go_num, Lib.hid (below_drewN HBz.out _)⟩
                  · have q1 : decide (o.price < o2.price) = false := decide_eq_false (by omega)
                    have q2 : (o.price == o2.price) = true := by simp; omega
                    have q3 : decide (o.id < o2.id) = false := decide_eq_false (by omega)
                    clear hob hbe hid
                    as_aux_lemma =>
                      go_wp2
                      go_quiet (fail)
                      go_wp2
                      go_roundg (on - (1))
                      case measure => have := HJO.out; omega
                      case rel => exact ⟨1, by have := HJO.out; omega, by first | rfl | go_num, Lib.hid (below_drewN HBz.out _)⟩
                · rw [hob] at t2
                  obtain rfl := HP12.out.1 hob
                  have hbe := HBE.out
                  rw [hob] at hbe
                  simp only [if_true] at hbe
                  rcases hbe with hbe | ⟨hbe, hid⟩
                  · have q1 : decide (o1.price < o.price) = false := decide_eq_false (by omega)
                    have q2 : (o.price == o1.price) = false := by simp; omega
                    clear hob hbe
                    as_aux_lemma =>
                      go_wp2
                      go_quiet (fail)
                      go_wp2
                      go_roundg (on - (1))
                      case measure => have := HJO.out; omega
                      case rel => exact ⟨1, by have := HJO.out; omega, by first | rfl | go_num, Lib.hid (below_drewN HBz.out _)⟩
                  · have q1 : decide (o1.price < o.price) = false := decide_eq_false (by omega)
                    have q2 : (o.price == o1.price) = true := by simp; omega
                    have q3 : decide (o.id < o1.id) = false := decide_eq_false (by omega)
                    clear hob hbe hid
                    as_aux_lemma =>
                      go_wp2
                      go_quiet (fail)
                      go_wp2
                      go_roundg (on - (1))
                      case measure => have := HJO.out; omega
                      case rel => exact ⟨1, by have := HJO.out; omega, by first | rfl | go_num, Lib.hid (below_drewN HBz.out _)⟩
              · obtain ⟨q, hq⟩ : ∃ q, ordAt b5.openOs i = q := ⟨_, rfl⟩
                have hqs := HSU.out i rfl
                rw [hq] at hqs
                have w3' : decide (o.id ≤ q.id) = false := decide_eq_false (by omega)
                have w4' : IntKind.i64.wrap ((i : Int) + 1 - 1) = (i : Int) := by rw [IntWalk.i64_in _ (by omega)]; omega
                have w7' : IntKind.i64.wrap (i : Int) = (i : Int) := IntWalk.i64_in _ (by omega)
                have w5' : (0 : Int) ≤ (i : Int) := by omega
                have w6' : (i : Int) < (on : Int) := by omega
                obtain ⟨g', hg', -, -, y0, -⟩ := ordRow HRz.out HON.out (k := i) (by omega)
                injection hg' with hg'
                injection hg' with hg' hz1 hz2
                clear hz1 hz2
                subst hg'
                rw [hq] at y0
                clear hq hqs HRz HRr hgq HSU
                cases hob : o.buy
                · rw [hob] at t2
                  obtain rfl := HP12.out.2 hob
                  have hbe := HBE.out
                  rw [hob] at hbe
                  simp only [Bool.false_eq_true, if_false] at hbe
                  rcases hbe with hbe | ⟨hbe, hid⟩
                  · have q1 : decide (o.price < o2.price) = false := decide_eq_false (by omega)
                    have q2 : (o.price == o2.price) = false := by simp; omega
                    clear hob hbe
                    as_aux_lemma =>
                      go_wp2
                      go_quiet (fail)
                      go_wp2
                      go_roundg (on - (i + 1 + 1))
                      case measure => have := HJO.out; omega
                      case rel => exact ⟨i + 1 + 1, by have := HJO.out; omega, by first | rfl | go_num, Lib.hid (below_drewN HBz.out _)⟩
                  · have q1 : decide (o.price < o2.price) = false := decide_eq_false (by omega)
                    have q2 : (o.price == o2.price) = true := by simp; omega
                    have q3 : decide (o.id < o2.id) = false := decide_eq_false (by omega)
                    clear hob hbe hid
                    as_aux_lemma =>
                      go_wp2
                      go_quiet (fail)
                      go_wp2
                      go_roundg (on - (i + 1 + 1))
                      case measure => have := HJO.out; omega
                      case rel => exact ⟨i + 1 + 1, by have := HJO.out; omega, by first | rfl | go_num, Lib.hid (below_drewN HBz.out _)⟩
                · rw [hob] at t2
                  obtain rfl := HP12.out.1 hob
                  have hbe := HBE.out
                  rw [hob] at hbe
                  simp only [if_true] at hbe
                  rcases hbe with hbe | ⟨hbe, hid⟩
                  · have q1 : decide (o1.price < o.price) = false := decide_eq_false (by omega)
                    have q2 : (o.price == o1.price) = false := by simp; omega
                    clear hob hbe
                    as_aux_lemma =>
                      go_wp2
                      go_quiet (fail)
                      go_wp2
                      go_roundg (on - (i + 1 + 1))
                      case measure => have := HJO.out; omega
                      case rel => exact ⟨i + 1 + 1, by have := HJO.out; omega, by first | rfl | go_num, Lib.hid (below_drewN HBz.out _)⟩
                  · have q1 : decide (o1.price < o.price) = false := decide_eq_false (by omega)
                    have q2 : (o.price == o1.price) = true := by simp; omega
                    have q3 : decide (o.id < o1.id) = false := decide_eq_false (by omega)
                    clear hob hbe hid
                    as_aux_lemma =>
                      go_wp2
                      go_quiet (fail)
                      go_wp2
                      go_roundg (on - (i + 1 + 1))
                      case measure => have := HJO.out; omega
                      case rel => exact ⟨i + 1 + 1, by have := HJO.out; omega, by first | rfl | go_num, Lib.hid (below_drewN HBz.out _)⟩
            · obtain rfl : j = on := by omega
              have hjj : ¬ (j : Int) < (j : Int) := by omega
              go_wp2
              go_roundg (m - (k + 1))
              case measure => have := HKM.out; omega
              case rel => exact ⟨k + 1, V5, b5, by have := HKM.out; omega, by go_num, Lib.hid ((HC5.out.all HSZ5.out (bt HB8.out HB.out))), Lib.hid (HO5.out.all (bt HB8.out HB.out)), Lib.hid (Nat.le_trans HSZ5.out (bt HB8.out HB.out).size)⟩
    · obtain rfl : k = m := by omega
      go_wp2_with (go_at_call 15
                   (with_reducible refine (lives_any _).mono ?_)
                   rintro e w9 ⟨rfl, hb9⟩)
      go_ret
      exact ⟨rfl, bt HC.out.low hb9⟩

end Go.Proofs.Ytkandhpnenmleaa

/- For every list of numbers worldmintlaw26.BookCrossed returns true: no open order accepts one of the opposite side. No condition. -/
namespace Go.Proofs.Ytkandhpnenmleaa
open Go.ChangeShapes Go.WideShapes Go.ChangeAt Go.RowKit Go.ChangeMaps

set_option maxRecDepth 100000 in
theorem BookCrossed_lifted (os : Os) (started : os.Started) (H : Type) (enc : TypeId × Value → H) :
    ReturnsInHanded {} Try.checked os 7 .any (Rows.bookCrossedSpec.pre6 enc Try.prog Try.f7 Rows.bookCrossedRow.domain false) (Rows.bookCrossedSpec.post enc Try.prog Try.f7 false true false false) := by
  refine returnsInHanded_of_change (C := Try.checked) Try.own started (by kernel_rfl) Try.func7
    (ChangeSpec.witness6 (enc := enc) (C := Try.checked) false ⟨#[], #[.slice none 0 0], []⟩ 8 (by kernel_rfl) (by kernel_rfl) (by kernel_rfl) (by kernel_rfl)) ?_
  intro W base args ds gs before hval0 hW _ _
  have hval : ∀ (j : Nat) t v, Try.f7.params[j]? = some t → args[j]? = some v → Value.okWide Try.prog W .any base t v := hval0
  have hW' := hW
  obtain ⟨p, q, hT0, hV, rfl, hfz, hnd⟩ := hW
  have hT : DataW.TrodAll enc Try.prog W 0 (fun _ => true) true Try.f7.params.toList args.toList ds p := hT0
  rw [Try.params7] at hT hval
  obtain ⟨v0, vs0, d0, ds0, p0, q0, hargs0, rfl, rfl, h0, r0⟩ := trodAll_cons hT
  obtain ⟨rfl, rfl, rfl⟩ := trodAll_nil r0
  obtain rfl : args = #[v0] := by cases args; simp_all
  obtain ⟨A0, n0, c0, f0, rfl, hA0, hn0, hc0, hR0, hw0⟩ := open_sl Try.underlying22 Try.underlying3 (by kernel_rfl) (hval 0 22 v0 rfl rfl) h0
  refine (BookCrossed_walk W A0 n0 c0 f0 hA0 hn0 hc0 hR0 hw0).mono fun e W' ⟨he, hb⟩ => ?_
  subst he
  exact ⟨_, rfl, law_post Try.laidOut (by kernel_rfl) (by kernel_rfl) Try.underlying4 rfl hW' rfl hb⟩

theorem BookCrossed_holds : Rows.BookCrossedSaid :=
  OpenClaim.holds_of_wide 7 Try.f7 rfl rfl rfl rfl rfl rfl rfl ⟨rfl, rfl, rfl, rfl, rfl⟩ rfl rfl rfl rfl rfl (by kernel_rfl) Try.func7 (by kernel_rfl)
    (of_decide_eq_true (by kernel_rfl)) (by unfold Func.isWrapper; first | (rw [if_pos (by decide +kernel)]; kernel_rfl) | (rw [if_neg (by decide +kernel)]; exact ⟨rfl, rfl⟩))
    (fun os started H enc _ => BookCrossed_lifted os started H enc)

end Go.Proofs.Ytkandhpnenmleaa
