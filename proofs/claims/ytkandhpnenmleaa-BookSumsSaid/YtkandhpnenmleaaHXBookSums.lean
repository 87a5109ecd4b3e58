/- For every list of numbers worldmintlaw26.BookSums returns true: the units of each order are what is left of it and its trades together. No condition. -/
import Derived.Test.YtkandhpnenmleaaRows
import Derived.Test.YtkandhpnenmleaaHBase
import Derived.WalkKit
import Derived.ProofKit
import Derived.OpenShut
import Derived.JoinedCond
import Derived.Deep.QuietTactic
import Derived.BigQuiet
import Derived.Deep.LoopGhost
import Derived.Deep.CutBlock
import Derived.Deep.DeepCutAuto
import Derived.Test.YtkandhpnenmleaaHBkSm
import Derived.Test.YtkandhpnenmleaaHBkLives
import Derived.Test.YtkandhpnenmleaaHBkCpy

namespace Go.Proofs.Ytkandhpnenmleaa
open Go.ChangeShapes Go.WideShapes Go.ChangeAt Go.RowKit

theorem Try.own : ownKnob Try.prog.godebug = none := by kernel_rfl
theorem Try.laidOut : laidOutB Try.prog = true := by kernel_rfl

theorem wf_u8 {n : Int} (h : (Lit.int .u8 n).wf = true) : 0 ≤ n ∧ n ≤ 255 := by simpa [Lit.wf, IntKind.min, IntKind.max, IntKind.signed, IntKind.bits] using h
theorem wf_i64 {n : Int} (h : (Lit.int .i64 n).wf = true) : -9223372036854775808 ≤ n ∧ n ≤ 9223372036854775807 := by simpa [Lit.wf, IntKind.min, IntKind.max, IntKind.signed, IntKind.bits] using h
theorem wf_u64 {n : Int} (h : (Lit.int .u64 n).wf = true) : 0 ≤ n ∧ n ≤ 18446744073709551615 := by simpa [Lit.wf, IntKind.min, IntKind.max, IntKind.signed, IntKind.bits] using h
theorem bytes_wf {n : Nat} {f : Nat → Int} (h : Hid (∀ j, j < n → (Lit.int .u8 (f j)).wf = true)) : ∀ j, j < n → 0 ≤ f j ∧ f j ≤ 255 := fun j hj => wf_u8 (h.out j hj)

theorem byte_of_wf {n : Int} (h : (Lit.int .u8 n).wf = true) : ∃ b : UInt8, n = ((b.toNat : Nat) : Int) := by
  have := wf_u8 h
  exact ⟨UInt8.ofNat n.toNat, by rw [UInt8.toNat_ofNat']; omega⟩
/-- '^' on bytes, under a name that the walk does not open. -/
def xorB (x y : UInt8) : UInt8 := x ^^^ y
theorem xor_u8 (x y : UInt8) : bits BinOp.xor IntKind.u8 ((x.toNat : Nat) : Int) ((y.toNat : Nat) : Int) = (((xorB x y).toNat : Nat) : Int) := by
  unfold xorB
  show IntKind.u8.wrap ((BitVec.ofInt 8 ((x.toNat : Nat) : Int) ^^^ BitVec.ofInt 8 ((y.toNat : Nat) : Int)).toNat : Int) = _
  have e : ∀ z : UInt8, (BitVec.ofInt 8 ((z.toNat : Nat) : Int)).toNat = z.toNat := fun z => by
    rw [BitVec.ofInt_natCast, BitVec.toNat_ofNat]; exact Nat.mod_eq_of_lt z.toNat_lt
  rw [BitVec.toNat_xor, e, e, UInt8.toNat_xor]
  have hx : x.toNat ^^^ y.toNat < 2 ^ 8 := Nat.xor_lt_two_pow x.toNat_lt y.toNat_lt
  simp [IntKind.wrap, IntKind.bits, IntKind.signed]
  omega

section
variable {H : Type} {enc : TypeId × Value → H} {P : Program}

theorem trodAll_stays (hl : laidOutB P = true) {W W' : World} {sp' : Nat → Bool} : ∀ {ts : List TypeId} (_ : ts.all (fun t => P.readableRec t && decide (t < P.types.size)) = true) {vs : List Value} {ds : List (DataW H)} {ps : List MemPlace}
    (_ : DataW.TrodAll enc P W 0 (fun _ => true) true ts vs ds ps) (_ : ∀ p ∈ ps, W.sameAt W' p) (_ : ∀ p ∈ ps, sp' p.block = true), DataW.TrodAll enc P W' 0 sp' true ts vs ds ps
  | [], _, vs, ds, ps, h, _, _ => by
    obtain ⟨rfl, rfl, rfl⟩ := trodAll_nil h
    exact trodAll_mk0
  | t :: ts, hr, vs, ds, ps, h, hs, hp => by
    obtain ⟨v, vs', d, ds', p, q, rfl, rfl, rfl, h1, h2⟩ := trodAll_cons h
    simp only [List.all_cons, Bool.and_eq_true, decide_eq_true_eq] at hr
    exact trodAll_cons_mk (WideElems.Trod_stays hl hr.1.1 hr.1.2 h1 (fun x hx => hs x (by simp [hx])) (fun x hx => hp x (by simp [hx])))
      (trodAll_stays hl hr.2 h2 (fun x hx => hs x (by simp [hx])) (fun x hx => hp x (by simp [hx])))

theorem law_post {f : Func} {s : ChangeSpec} {tb : TypeId} {W W' : World} {args : Array Value} {ds gs : List (DataW H)} {before : List MemPlace} (hl : laidOutB P = true)
    (hr : f.params.toList.all (fun t => P.readableRec t && decide (t < P.types.size)) = true) (hres : f.resultTypes = #[tb]) (hb : P.underlying tb = some .bool) (hv : s.vars = [])
    (hW : DataW.Whole enc P f.params.toList s.vars false W args.toList ds gs before) (hspec : s.fn H ds = { results := [.lit (.bool true)], args := ds }) (hB : Below W.heap.size W W') :
    s.post enc P f false true false false W args (.bool true) W' := by
  have hW' := hW
  obtain ⟨p, q, hA, hV, rfl, hfz, hnd⟩ := hW
  rw [hv] at hV
  obtain ⟨rfl, rfl⟩ := trodVars_none hV
  refine ⟨ds, [], p ++ [], [], p, [], hW', ?_, ?_, ?_, hB.frame _, fun h => by cases h⟩
  · rw [hres, List.append_nil, hspec]
    exact trodAll_mk1 (shut_bool hb true)
  · rw [List.append_nil, hspec]
    exact trodAll_stays hl hr hA (fun x hx => hB.same (by simpa using hW'.lt x (by simp [hx]))) (fun x hx => by simpa using hW'.lt x (by simp [hx]))
  · rw [hv, List.append_nil, hspec]
    rfl

theorem cell_spot {w : World} {a : Addr} {v : Value} (h : w.cell? a = some v) : a.spot = none ∧ a.block < w.heap.size := by
  unfold World.cell? at h
  split at h
  · rename_i c t f hc
    refine ⟨?_, (Array.getElem?_eq_some_iff.1 hc).1⟩
    cases hs : a.spot with
    | none => rfl
    | some x => simp [hs] at h
  · cases h

/-- A slice of integers that came in. -/
theorem open_sl {t e : TypeId} {k : IntKind} {W : World} {v : Value} {d : DataW H} {ps : List MemPlace} {r : Reach} {b0 : Nat} (ht : P.underlying t = some (.slice e)) (he : P.underlying e = some (.int k)) (hc : P.cellsOf e = 1)
    (hval : Value.okWide P W r b0 t v) (h : DataW.Trod enc P W 0 (fun _ => true) true t v d ps) :
    ∃ (A : Option Addr) (n c : Nat) (f : Nat → Int), v = .slice A n c ∧ (A = none → n = 0) ∧ n ≤ c ∧ c ≤ 9223372036854775807 ∧ Rd W W.heap.size A n (fun j => .int k (f j)) ∧ ∀ j, j < n → (Lit.int k (f j)).wf = true := by
  obtain ⟨a0, len, cap, rfl⟩ := okWide_slice ht hval
  obtain ⟨fuel, hf⟩ := h
  rcases open_ints ht he hc hf with ⟨hcs, hx⟩ | ⟨a, len', cap', zs, hcs, _, hl, hm, hz, hx, hcell, hwz⟩
  · simp [Value.cells] at hcs
    obtain ⟨rfl, rfl, rfl⟩ := hcs
    exact ⟨none, 0, 0, fun _ => 0, rfl, fun _ => rfl, by omega, by omega, Rd.nil, fun j hj => absurd hj (by omega)⟩
  · simp [Value.cells] at hcs
    obtain ⟨rfl, rfl, rfl⟩ := hcs
    simp only [if_true] at hz
    refine ⟨some a, len, cap, fun j => zs.getD j 0, rfl, (fun h => by cases h), hl, (by simpa [maxLen] using hm), ?_, ?_⟩
    · intro hn
      have h0 := hcell 0 (by omega)
      have hs := cell_spot h0
      have ea : a.add 0 = a := by simp [Addr.add]
      rw [ea] at hs
      refine ⟨a.block, a.off, ?_, hs.2, fun j hj => ?_⟩
      · cases a; simp_all
      · rw [← hcell j (by omega)]
        congr 1
        unfold Addr.add
        split
        · rename_i h; subst h; cases a; simp_all
        · cases a; simp_all
    · intro j hj
      refine hwz _ ?_
      show zs.getD j 0 ∈ zs
      have : zs.getD j 0 = zs[j]'(by omega) := by simp [List.getD, show j < zs.length by omega]
      rw [this]
      exact List.getElem_mem _
end

end Go.Proofs.Ytkandhpnenmleaa

/- The walk of BookSums. -/
namespace Go.Proofs.Ytkandhpnenmleaa
open Go.ChangeShapes Go.WideShapes Go.ChangeAt Go.RowKit Go.ChangeMaps


set_option maxRecDepth 100000 in
set_option maxHeartbeats 100000000 in
theorem BookSums_walk (W : World) (A0 : Option Addr) (n0 c0 : Nat) (f0 : Nat → Int) (_hA0 : A0 = none → n0 = 0) (_hn0 : n0 ≤ c0) (_hc0 : c0 ≤ 9223372036854775807) (hR0 : Rd W W.heap.size A0 n0 (fun j => .int .i64 (f0 j))) (hw0 : Hid (∀ j, j < n0 → (Lit.int .i64 (f0 j)).wf = true)) :
    Calls Try.prog 4 #[.slice A0 n0 c0] W fun e w' => e = .returned (.bool true) ∧ Below W.heap.size W w' := by
  have HW : Hid (∀ j, j < n0 → -9223372036854775808 ≤ f0 j ∧ f0 j ≤ 9223372036854775807) := Lib.hid (fun j hj => wf_i64 (hw0.out j hj))
  have HR := Lib.hid hR0
  have hn9 : n0 ≤ 9223372036854775807 := by omega
  clear hR0 hw0
  have HNEW := Lib.hid (new_any W)
  go_enter Try.func4, Try.ntmps4
  go_wp2_with fail
  refine HNEW.out.mono ?_
  rintro e w1 ⟨V, rfl, hA1, hb1⟩
  have HA1 := Lib.hid hA1
  have HB1 := Lib.hid hb1
  obtain ⟨gb, hgb⟩ : ∃ gb, W.heap.size = gb := ⟨_, rfl⟩
  have HGB := Lib.hid hgb
  rw [hgb]
  clear hA1 hb1 hgb
  go_wp2_with fail
  refine (ops_any A0 n0 c0 f0 24 24 w1 rfl (by omega) (HR.out.all HB1.out) HW hn9).mono ?_
  rintro e w3 ⟨A3, m, c3, l, rfl, hO, hm, hb3⟩
  have HO : Hid (OpsAt w3 W.heap.size A3 m c3 l) := Lib.hid ⟨own_base hO.own HB1.out.size, hO.len, hO.acc⟩
  have HC0 : Hid (SSt W.heap.size W gb 0 V book0 none 0 0 [] w3) := Lib.hid ⟨by rw [← HGB.out]; exact HA1.out.all hb3, ⟨fun t ht => absurd ht (by simp), fun k hk => absurd hk (by simp [book0])⟩, Nat.zero_le _, World.ownsRow_nil _ _ _ 4, rfl, Nat.zero_le _, bt HB1.out hb3⟩
  have HSZ : Hid (W.heap.size ≤ w3.heap.size) := Lib.hid (Nat.le_trans HB1.out.size hb3.size)
  clear hO hb3
  go_wp2_with fail
  go_loopg [5, 6] m (fun gk av iv wr => ∃ (k : Nat) (V : BkV) (b : BkS) (A : Option Addr) (n c : Nat) (T : List Trd), k + gk = m ∧ iv = .int .i64 (k : Int) ∧ av = .slice A n c ∧ Hid (SSt W.heap.size W gb k V b A n c T wr) ∧ Hid (OpsAt wr W.heap.size A3 m c3 l) ∧ Hid (W.heap.size ≤ wr.heap.size))
  case atStart => exact ⟨0, V, book0, none, 0, 0, [], by omega, rfl, rfl, HC0, HO, HSZ⟩
  case round =>
    clear HC0 HO HSZ
    obtain ⟨k, V, b, A, n, c, T, hkm, rfl, rfl, HC, HO, HSZ⟩ := hrel
    have HKM := Lib.hid hkm
    have hk : k ≤ m := by omega
    clear hkm
    rcases Nat.lt_or_ge k m with hlt | hge
    · have hii : (k : Int) < (m : Int) := by omega
      obtain ⟨go, hAo, -, hgo, e0, e1, e2, e3, e4, e5⟩ := opRow HO.out hlt
      subst hAo
      obtain ⟨x, hx⟩ : ∃ x, opAt l k = x := ⟨_, rfl⟩
      rw [hx] at e0 e1 e2 e3 e4 e5
      have HX := Lib.hid hx
      clear hx
      have hkd : x.kind = 6 ∨ x.kind = 7 ∨ (x.kind ≠ 6 ∧ x.kind ≠ 7) := by omega
      have HSOM : Hid (∀ w', OpsAt w' W.heap.size (some ⟨go, 0, none⟩) m c3 l → (fun w' => w'.cell? ⟨go, k * 6 + 1, none⟩ = some (.int .i64 x.acc) ∧ w'.cell? ⟨go, k * 6 + 5, none⟩ = some (.int .i64 x.id)) w' ∧ (fun w' => w'.cell? ⟨go, k * 6 + 1, none⟩ = some (.int .i64 x.acc) ∧ w'.cell? ⟨go, k * 6 + 2, none⟩ = some (.bool x.buy) ∧ w'.cell? ⟨go, k * 6 + 3, none⟩ = some (.int .i64 x.price) ∧ w'.cell? ⟨go, k * 6 + 4, none⟩ = some (.int .i64 x.n)) w') := Lib.hid (fun w' h => by
        obtain ⟨g', hg', -, -, y0, y1, y2, y3, y4, y5⟩ := opRow h hlt
        injection hg' with hg'
        injection hg' with hg'
        subst hg'
        rw [HX.out] at y1 y2 y3 y4 y5
        exact ⟨⟨y1, y5⟩, ⟨y1, y2, y3, y4⟩⟩)
      have HLB : Hid (b.os.length < 100000) := Lib.hid (by have := HC.out.len; omega)
      have hP1 : Below wr.heap.size wr wr.drew := below_drewN (Below.refl _ _) 1
      have HOD := HSOM.out _ (HO.out.all hP1)
      have HOD := Lib.hid HOD
      rcases hkd with h6 | h7 | ⟨h6, h7⟩
      · have HK6 := Lib.hid h6
        have hk6 : (x.kind == 6) = true := by simp [h6]
        clear h6
        go_upto_region 13 with (fail)
        refine wp_region_held_drew (S := (fun w' => w'.cell? ⟨go, k * 6 + 1, none⟩ = some (.int .i64 x.acc) ∧ w'.cell? ⟨go, k * 6 + 5, none⟩ = some (.int .i64 x.id))) (by kernel_rfl) HOD.out.1 (fun hHeld => ?_)
        refine takeH 0 (some 67) (v := ?_) (by rfl) (by rfl) (by kernel_rfl) (by kernel_rfl) (by kernel_rfl) (fun _ _ _ h => h) ?_ (by assumption) ?_
        rotate_left
        · (intro o ho w hSw; obtain ⟨z0, z1⟩ := hSw; cases ho; go_simp; try with_reducible rfl)
        try simp only [Act.put, List.setIfInBounds_toArray, List.set_cons_zero, List.set_cons_succ]
        refine takeH 1 (some 68) (v := ?_) (by rfl) (by rfl) (by kernel_rfl) (by kernel_rfl) (by kernel_rfl) (fun _ _ _ h => h) ?_ (by assumption) ?_
        rotate_left
        · (intro o ho w hSw; obtain ⟨z0, z1⟩ := hSw; cases ho; go_simp; try with_reducible rfl)
        try simp only [Act.put, List.setIfInBounds_toArray, List.set_cons_zero, List.set_cons_succ]
        refine takeH 2 (some 69) (v := ?_) (by rfl) (by rfl) (by kernel_rfl) (by kernel_rfl) (by kernel_rfl) (fun _ _ _ h => h) ?_ (by assumption) ?_
        rotate_left
        · (intro o ho w hSw; obtain ⟨z0, z1⟩ := hSw; cases ho; go_simp; try with_reducible rfl)
        try simp only [Act.put, List.setIfInBounds_toArray, List.set_cons_zero, List.set_cons_succ]
        refine takeH 3 (some 70) (v := ?_) (by rfl) (by rfl) (by kernel_rfl) (by kernel_rfl) (by kernel_rfl) (fun _ _ _ h => h) ?_ (by assumption) ?_
        rotate_left
        · (intro o ho w hSw; obtain ⟨z0, z1⟩ := hSw; cases ho; go_simp; try with_reducible rfl)
        try simp only [Act.put, List.setIfInBounds_toArray, List.set_cons_zero, List.set_cons_succ]
        refine takeH 4 (some 71) (v := ?_) (by rfl) (by rfl) (by kernel_rfl) (by kernel_rfl) (by kernel_rfl) (fun _ _ _ h => h) ?_ (by assumption) ?_
        rotate_left
        · (intro o ho w hSw; obtain ⟨z0, z1⟩ := hSw; cases ho; go_simp; try with_reducible rfl)
        try simp only [Act.put, List.setIfInBounds_toArray, List.set_cons_zero, List.set_cons_succ]
        refine takeH 5 (some 72) (v := ?_) (by rfl) (by rfl) (by kernel_rfl) (by kernel_rfl) (by kernel_rfl) (fun _ _ _ h => h) ?_ (by assumption) ?_
        rotate_left
        · (intro o ho w hSw; obtain ⟨z0, z1⟩ := hSw; cases ho; go_simp; try with_reducible rfl)
        try simp only [Act.put, List.setIfInBounds_toArray, List.set_cons_zero, List.set_cons_succ]
        refine takeH 6 (some 73) (v := ?_) (by rfl) (by rfl) (by kernel_rfl) (by kernel_rfl) (by kernel_rfl) (fun _ _ _ h => h) ?_ (by assumption) ?_
        rotate_left
        · (intro o ho w hSw; obtain ⟨z0, z1⟩ := hSw; cases ho; go_simp; try with_reducible rfl)
        try simp only [Act.put, List.setIfInBounds_toArray, List.set_cons_zero, List.set_cons_succ]
        refine takeH 7 (some 74) (v := ?_) (by rfl) (by rfl) (by kernel_rfl) (by kernel_rfl) (by kernel_rfl) (fun _ _ _ h => h) ?_ (by assumption) ?_
        rotate_left
        · (intro o ho w hSw; obtain ⟨z0, z1⟩ := hSw; cases ho; go_simp; try with_reducible rfl)
        try simp only [Act.put, List.setIfInBounds_toArray, List.set_cons_zero, List.set_cons_succ]
        refine takeH 8 (some 75) (v := ?_) (by rfl) (by rfl) (by kernel_rfl) (by kernel_rfl) (by kernel_rfl) (fun _ _ _ h => h) ?_ (by assumption) ?_
        rotate_left
        · (intro o ho w hSw; obtain ⟨z0, z1⟩ := hSw; cases ho; go_simp; try with_reducible rfl)
        try simp only [Act.put, List.setIfInBounds_toArray, List.set_cons_zero, List.set_cons_succ]
        refine takeH 9 (some 76) (v := ?_) (by rfl) (by rfl) (by kernel_rfl) (by kernel_rfl) (by kernel_rfl) (fun _ _ _ h => h) ?_ (by assumption) ?_
        rotate_left
        · (intro o ho w hSw; obtain ⟨z0, z1⟩ := hSw; cases ho; go_simp; try with_reducible rfl)
        try simp only [Act.put, List.setIfInBounds_toArray, List.set_cons_zero, List.set_cons_succ]
        refine takeH 10 (some 77) (v := ?_) (by rfl) (by rfl) (by kernel_rfl) (by kernel_rfl) (by kernel_rfl) (fun _ _ _ h => h) ?_ (by assumption) ?_
        rotate_left
        · (intro o ho w hSw; obtain ⟨z0, z1⟩ := hSw; cases ho; go_simp; try with_reducible rfl)
        try simp only [Act.put, List.setIfInBounds_toArray, List.set_cons_zero, List.set_cons_succ]
        refine wpAnyH_ready (rs := [11]) (by kernel_rfl) (by simp) ?_
        refine AllReadyH.cons rfl (fun K hK => ?_) AllReadyH.nil
        go_simp
        go_at_call 13
        (with_reducible refine (cancel_any gb W.heap.size V b x.acc x.id _ (Lib.hid (HC.out.bk.all hP1))).mono ?_)
        rintro e w5 ⟨rfl, hp5⟩
        obtain ⟨V', hN⟩ := hp5.next
        have HN : Hid (BkNext gb W.heap.size V b wr V' (stepB b x) w5) := Lib.hid (by
          have h : (cancelE b x.acc x.id).2.2 = stepB b x := by unfold stepB; rw [if_pos HK6.out]
          rw [← h]
          exact ⟨hN.bk, (Mod.of_below (BkF gb V b.os.length) hP1).trans hN.mod (fun _ hq => .inl hq), hN.new⟩)
        have HO5 : Hid (OpsAt w5 W.heap.size (some ⟨go, 0, none⟩) m c3 l) := Lib.hid (HO.out.mod HN.out.mod (fun q hq => bk_isOp HC.out.bk hq))
        clear hN hp5
        go_wp2
        refine hK.out _ _ ?_ (fun hH5 => ?_)
        · exact (HSOM.out _ HO5.out).1
        clear hK K
        try simp only [Act.put, List.setIfInBounds_toArray, List.set_cons_zero, List.set_cons_succ]
        refine wpAnyH_done (by kernel_rfl) ?_ _
        go_wp2
        go_roundg (m - (k + 1))
        case measure => have := HKM.out; omega
        case rel => exact ⟨k + 1, V', stepB b x, A, n, c, T, by have := HKM.out; omega, by go_num, rfl, Lib.hid (HC.out.next HSZ.out (HC.out.sum.same (by unfold stepB; rw [if_pos HK6.out]; exact cancelE_os _ _ _)) (by have h1 := stepB_len b x; have h2 := HC.out.len; omega) HN.out), HO5, Lib.hid (Nat.le_trans HSZ.out HN.out.mod.size)⟩
      · have HK6 : Hid (¬ x.kind = 6) := Lib.hid (by omega)
        have HK7 := Lib.hid h7
        have hk6 : (x.kind == 6) = false := by simp [h7]
        have hk7 : (x.kind == 7) = true := by simp [h7]
        clear h7
        go_wp2_with (first
            | (go_at_call 17
               (with_reducible refine (void_any gb W.heap.size V b x.acc _ (Lib.hid HC.out.bk)).mono ?_)
               rintro e w5 ⟨A5, c5, rfl, -, hp5⟩
               obtain ⟨V', hN⟩ := hp5.next
               have HN : Hid (BkNext gb W.heap.size V b wr V' (stepB b x) w5) := Lib.hid (by
                 have h : voidB b x.acc = stepB b x := by unfold stepB; rw [if_neg HK6.out, if_pos HK7.out]
                 rw [← h]
                 exact ⟨hN.bk, (Mod.refl (BkF gb V b.os.length) wr).trans hN.mod (fun _ hq => .inl hq), hN.new⟩)
               have HO5 : Hid (OpsAt w5 W.heap.size (some ⟨go, 0, none⟩) m c3 l) := Lib.hid (HO.out.mod HN.out.mod (fun q hq => bk_isOp HC.out.bk hq))
               clear hN hp5))
        go_wp2
        go_roundg (m - (k + 1))
        case measure => have := HKM.out; omega
        case rel => exact ⟨k + 1, V', stepB b x, A, n, c, T, by have := HKM.out; omega, by go_num, rfl, Lib.hid (HC.out.next HSZ.out (HC.out.sum.same (by unfold stepB; rw [if_neg HK6.out, if_pos HK7.out]; rfl)) (by have h1 := stepB_len b x; have h2 := HC.out.len; omega) HN.out), HO5, Lib.hid (Nat.le_trans HSZ.out HN.out.mod.size)⟩
      · have HK6 := Lib.hid h6
        have HK7 := Lib.hid h7
        have hk6 : (x.kind == 6) = false := by simp [h6]
        have hk7 : (x.kind == 7) = false := by simp [h7]
        obtain ⟨pid, ts, perr, b', hE⟩ : ∃ pid ts perr b', placeE b x.acc x.buy x.price x.n = (pid, ts, perr, b') := ⟨_, _, _, _, rfl⟩
        obtain ⟨tk, htk⟩ : ∃ tk, ts.length = tk := ⟨_, rfl⟩
        have HPE := Lib.hid hE
        have HTK := Lib.hid htk
        clear h6 h7 hE htk
        go_upto_region 10 with (fail)
        refine wp_region_held_drew (S := (fun w' => w'.cell? ⟨go, k * 6 + 1, none⟩ = some (.int .i64 x.acc) ∧ w'.cell? ⟨go, k * 6 + 2, none⟩ = some (.bool x.buy) ∧ w'.cell? ⟨go, k * 6 + 3, none⟩ = some (.int .i64 x.price) ∧ w'.cell? ⟨go, k * 6 + 4, none⟩ = some (.int .i64 x.n))) (by kernel_rfl) HOD.out.2 (fun hHeld => ?_)
        refine takeH 0 (some 37) (v := ?_) (by rfl) (by rfl) (by kernel_rfl) (by kernel_rfl) (by kernel_rfl) (fun _ _ _ h => h) ?_ (by assumption) ?_
        rotate_left
        · (intro o ho w hSw; obtain ⟨z0, z1, z2, z3⟩ := hSw; cases ho; go_simp; try with_reducible rfl)
        try simp only [Act.put, List.setIfInBounds_toArray, List.set_cons_zero, List.set_cons_succ]
        refine takeH 1 (some 38) (v := ?_) (by rfl) (by rfl) (by kernel_rfl) (by kernel_rfl) (by kernel_rfl) (fun _ _ _ h => h) ?_ (by assumption) ?_
        rotate_left
        · (intro o ho w hSw; obtain ⟨z0, z1, z2, z3⟩ := hSw; cases ho; go_simp; try with_reducible rfl)
        try simp only [Act.put, List.setIfInBounds_toArray, List.set_cons_zero, List.set_cons_succ]
        refine takeH 2 (some 39) (v := ?_) (by rfl) (by rfl) (by kernel_rfl) (by kernel_rfl) (by kernel_rfl) (fun _ _ _ h => h) ?_ (by assumption) ?_
        rotate_left
        · (intro o ho w hSw; obtain ⟨z0, z1, z2, z3⟩ := hSw; cases ho; go_simp; try with_reducible rfl)
        try simp only [Act.put, List.setIfInBounds_toArray, List.set_cons_zero, List.set_cons_succ]
        refine takeH 3 (some 40) (v := ?_) (by rfl) (by rfl) (by kernel_rfl) (by kernel_rfl) (by kernel_rfl) (fun _ _ _ h => h) ?_ (by assumption) ?_
        rotate_left
        · (intro o ho w hSw; obtain ⟨z0, z1, z2, z3⟩ := hSw; cases ho; go_simp; try with_reducible rfl)
        try simp only [Act.put, List.setIfInBounds_toArray, List.set_cons_zero, List.set_cons_succ]
        refine takeH 4 (some 41) (v := ?_) (by rfl) (by rfl) (by kernel_rfl) (by kernel_rfl) (by kernel_rfl) (fun _ _ _ h => h) ?_ (by assumption) ?_
        rotate_left
        · (intro o ho w hSw; obtain ⟨z0, z1, z2, z3⟩ := hSw; cases ho; go_simp; try with_reducible rfl)
        try simp only [Act.put, List.setIfInBounds_toArray, List.set_cons_zero, List.set_cons_succ]
        refine takeH 5 (some 42) (v := ?_) (by rfl) (by rfl) (by kernel_rfl) (by kernel_rfl) (by kernel_rfl) (fun _ _ _ h => h) ?_ (by assumption) ?_
        rotate_left
        · (intro o ho w hSw; obtain ⟨z0, z1, z2, z3⟩ := hSw; cases ho; go_simp; try with_reducible rfl)
        try simp only [Act.put, List.setIfInBounds_toArray, List.set_cons_zero, List.set_cons_succ]
        refine takeH 6 (some 43) (v := ?_) (by rfl) (by rfl) (by kernel_rfl) (by kernel_rfl) (by kernel_rfl) (fun _ _ _ h => h) ?_ (by assumption) ?_
        rotate_left
        · (intro o ho w hSw; obtain ⟨z0, z1, z2, z3⟩ := hSw; cases ho; go_simp; try with_reducible rfl)
        try simp only [Act.put, List.setIfInBounds_toArray, List.set_cons_zero, List.set_cons_succ]
        refine takeH 7 (some 44) (v := ?_) (by rfl) (by rfl) (by kernel_rfl) (by kernel_rfl) (by kernel_rfl) (fun _ _ _ h => h) ?_ (by assumption) ?_
        rotate_left
        · (intro o ho w hSw; obtain ⟨z0, z1, z2, z3⟩ := hSw; cases ho; go_simp; try with_reducible rfl)
        try simp only [Act.put, List.setIfInBounds_toArray, List.set_cons_zero, List.set_cons_succ]
        refine takeH 8 (some 45) (v := ?_) (by rfl) (by rfl) (by kernel_rfl) (by kernel_rfl) (by kernel_rfl) (fun _ _ _ h => h) ?_ (by assumption) ?_
        rotate_left
        · (intro o ho w hSw; obtain ⟨z0, z1, z2, z3⟩ := hSw; cases ho; go_simp; try with_reducible rfl)
        try simp only [Act.put, List.setIfInBounds_toArray, List.set_cons_zero, List.set_cons_succ]
        refine takeH 9 (some 46) (v := ?_) (by rfl) (by rfl) (by kernel_rfl) (by kernel_rfl) (by kernel_rfl) (fun _ _ _ h => h) ?_ (by assumption) ?_
        rotate_left
        · (intro o ho w hSw; obtain ⟨z0, z1, z2, z3⟩ := hSw; cases ho; go_simp; try with_reducible rfl)
        try simp only [Act.put, List.setIfInBounds_toArray, List.set_cons_zero, List.set_cons_succ]
        refine takeH 10 (some 47) (v := ?_) (by rfl) (by rfl) (by kernel_rfl) (by kernel_rfl) (by kernel_rfl) (fun _ _ _ h => h) ?_ (by assumption) ?_
        rotate_left
        · (intro o ho w hSw; obtain ⟨z0, z1, z2, z3⟩ := hSw; cases ho; go_simp; try with_reducible rfl)
        try simp only [Act.put, List.setIfInBounds_toArray, List.set_cons_zero, List.set_cons_succ]
        refine takeH 11 (some 48) (v := ?_) (by rfl) (by rfl) (by kernel_rfl) (by kernel_rfl) (by kernel_rfl) (fun _ _ _ h => h) ?_ (by assumption) ?_
        rotate_left
        · (intro o ho w hSw; obtain ⟨z0, z1, z2, z3⟩ := hSw; cases ho; go_simp; try with_reducible rfl)
        try simp only [Act.put, List.setIfInBounds_toArray, List.set_cons_zero, List.set_cons_succ]
        refine takeH 12 (some 49) (v := ?_) (by rfl) (by rfl) (by kernel_rfl) (by kernel_rfl) (by kernel_rfl) (fun _ _ _ h => h) ?_ (by assumption) ?_
        rotate_left
        · (intro o ho w hSw; obtain ⟨z0, z1, z2, z3⟩ := hSw; cases ho; go_simp; try with_reducible rfl)
        try simp only [Act.put, List.setIfInBounds_toArray, List.set_cons_zero, List.set_cons_succ]
        refine takeH 13 (some 50) (v := ?_) (by rfl) (by rfl) (by kernel_rfl) (by kernel_rfl) (by kernel_rfl) (fun _ _ _ h => h) ?_ (by assumption) ?_
        rotate_left
        · (intro o ho w hSw; obtain ⟨z0, z1, z2, z3⟩ := hSw; cases ho; go_simp; try with_reducible rfl)
        try simp only [Act.put, List.setIfInBounds_toArray, List.set_cons_zero, List.set_cons_succ]
        refine takeH 14 (some 51) (v := ?_) (by rfl) (by rfl) (by kernel_rfl) (by kernel_rfl) (by kernel_rfl) (fun _ _ _ h => h) ?_ (by assumption) ?_
        rotate_left
        · (intro o ho w hSw; obtain ⟨z0, z1, z2, z3⟩ := hSw; cases ho; go_simp; try with_reducible rfl)
        try simp only [Act.put, List.setIfInBounds_toArray, List.set_cons_zero, List.set_cons_succ]
        refine takeH 15 (some 52) (v := ?_) (by rfl) (by rfl) (by kernel_rfl) (by kernel_rfl) (by kernel_rfl) (fun _ _ _ h => h) ?_ (by assumption) ?_
        rotate_left
        · (intro o ho w hSw; obtain ⟨z0, z1, z2, z3⟩ := hSw; cases ho; go_simp; try with_reducible rfl)
        try simp only [Act.put, List.setIfInBounds_toArray, List.set_cons_zero, List.set_cons_succ]
        refine takeH 16 (some 53) (v := ?_) (by rfl) (by rfl) (by kernel_rfl) (by kernel_rfl) (by kernel_rfl) (fun _ _ _ h => h) ?_ (by assumption) ?_
        rotate_left
        · (intro o ho w hSw; obtain ⟨z0, z1, z2, z3⟩ := hSw; cases ho; go_simp; try with_reducible rfl)
        try simp only [Act.put, List.setIfInBounds_toArray, List.set_cons_zero, List.set_cons_succ]
        refine takeH 17 (some 54) (v := ?_) (by rfl) (by rfl) (by kernel_rfl) (by kernel_rfl) (by kernel_rfl) (fun _ _ _ h => h) ?_ (by assumption) ?_
        rotate_left
        · (intro o ho w hSw; obtain ⟨z0, z1, z2, z3⟩ := hSw; cases ho; go_simp; try with_reducible rfl)
        try simp only [Act.put, List.setIfInBounds_toArray, List.set_cons_zero, List.set_cons_succ]
        refine takeH 18 (some 55) (v := ?_) (by rfl) (by rfl) (by kernel_rfl) (by kernel_rfl) (by kernel_rfl) (fun _ _ _ h => h) ?_ (by assumption) ?_
        rotate_left
        · (intro o ho w hSw; obtain ⟨z0, z1, z2, z3⟩ := hSw; cases ho; go_simp; try with_reducible rfl)
        try simp only [Act.put, List.setIfInBounds_toArray, List.set_cons_zero, List.set_cons_succ]
        refine takeH 19 (some 56) (v := ?_) (by rfl) (by rfl) (by kernel_rfl) (by kernel_rfl) (by kernel_rfl) (fun _ _ _ h => h) ?_ (by assumption) ?_
        rotate_left
        · (intro o ho w hSw; obtain ⟨z0, z1, z2, z3⟩ := hSw; cases ho; go_simp; try with_reducible rfl)
        try simp only [Act.put, List.setIfInBounds_toArray, List.set_cons_zero, List.set_cons_succ]
        refine takeH 20 (some 57) (v := ?_) (by rfl) (by rfl) (by kernel_rfl) (by kernel_rfl) (by kernel_rfl) (fun _ _ _ h => h) ?_ (by assumption) ?_
        rotate_left
        · (intro o ho w hSw; obtain ⟨z0, z1, z2, z3⟩ := hSw; cases ho; go_simp; try with_reducible rfl)
        try simp only [Act.put, List.setIfInBounds_toArray, List.set_cons_zero, List.set_cons_succ]
        refine wpAnyH_ready (rs := [21]) (by kernel_rfl) (by simp) ?_
        refine AllReadyH.cons rfl (fun K hK => ?_) AllReadyH.nil
        go_simp
        go_at_call 11
        (with_reducible refine (place_step gb W.heap.size V b x.buy x.acc x.price x.n _ (Lib.hid (HC.out.bk.all hP1)) HLB.out HPE.out HTK.out).mono ?_)
        rintro e w5 ⟨A5, c5, V', rfl, hr5, hN⟩
        have HN : Hid (BkNext gb W.heap.size V b wr V' (stepB b x) w5) := Lib.hid (by
          have h : b' = stepB b x := by unfold stepB; rw [if_neg HK6.out, if_neg HK7.out, HPE.out]
          rw [← h]
          exact ⟨hN.bk, (Mod.of_below (BkF gb V b.os.length) hP1).trans hN.mod (fun _ hq => .inl hq), hN.new⟩)
        have HO5 : Hid (OpsAt w5 W.heap.size (some ⟨go, 0, none⟩) m c3 l) := Lib.hid (HO.out.mod HN.out.mod (fun q hq => bk_isOp HC.out.bk hq))
        have HTR := Lib.hid hr5
        clear hN hr5
        go_wp2
        refine hK.out _ _ ?_ (fun hH5 => ?_)
        · exact (HSOM.out _ HO5.out).2
        clear hK K
        try simp only [Act.put, List.setIfInBounds_toArray, List.set_cons_zero, List.set_cons_succ]
        refine takeH 22 (some 36) (v := ?_) (by rfl) (by rfl) (by kernel_rfl) (by kernel_rfl) (by kernel_rfl) (fun _ _ _ h => h) ?_ (by assumption) ?_
        rotate_left
        · (intro o ho w hSw; obtain ⟨z0, z1, z2, z3⟩ := hSw; cases ho; go_simp; try with_reducible rfl)
        try simp only [Act.put, List.setIfInBounds_toArray, List.set_cons_zero, List.set_cons_succ]
        refine takeH 23 (some 59) (v := ?_) (by rfl) (by rfl) (by kernel_rfl) (by kernel_rfl) (by kernel_rfl) (fun _ _ _ h => h) ?_ (by assumption) ?_
        rotate_left
        · (intro o ho w hSw; obtain ⟨z0, z1, z2, z3⟩ := hSw; cases ho; go_simp; try with_reducible rfl)
        try simp only [Act.put, List.setIfInBounds_toArray, List.set_cons_zero, List.set_cons_succ]
        refine takeH 24 (some 60) (v := ?_) (by rfl) (by rfl) (by kernel_rfl) (by kernel_rfl) (by kernel_rfl) (fun _ _ _ h => h) ?_ (by assumption) ?_
        rotate_left
        · (intro o ho w hSw; obtain ⟨z0, z1, z2, z3⟩ := hSw; cases ho; go_simp; try with_reducible rfl)
        try simp only [Act.put, List.setIfInBounds_toArray, List.set_cons_zero, List.set_cons_succ]
        refine takeH 25 (some 61) (v := ?_) (by rfl) (by rfl) (by kernel_rfl) (by kernel_rfl) (by kernel_rfl) (fun _ _ _ h => h) ?_ (by assumption) ?_
        rotate_left
        · (intro o ho w hSw; obtain ⟨z0, z1, z2, z3⟩ := hSw; cases ho; go_simp; try with_reducible rfl)
        try simp only [Act.put, List.setIfInBounds_toArray, List.set_cons_zero, List.set_cons_succ]
        refine takeH 26 (some 7) (v := ?_) (by rfl) (by rfl) (by kernel_rfl) (by kernel_rfl) (by kernel_rfl) (fun _ _ _ h => h) ?_ (by assumption) ?_
        rotate_left
        · (intro o ho w hSw; obtain ⟨z0, z1, z2, z3⟩ := hSw; cases ho; go_simp; try with_reducible rfl)
        try simp only [Act.put, List.setIfInBounds_toArray, List.set_cons_zero, List.set_cons_succ]
        refine takeH 27 (some 8) (v := ?_) (by rfl) (by rfl) (by kernel_rfl) (by kernel_rfl) (by kernel_rfl) (fun _ _ _ h => h) ?_ (by assumption) ?_
        rotate_left
        · (intro o ho w hSw; obtain ⟨z0, z1, z2, z3⟩ := hSw; cases ho; go_simp; try with_reducible rfl)
        try simp only [Act.put, List.setIfInBounds_toArray, List.set_cons_zero, List.set_cons_succ]
        refine takeH 28 (some 9) (v := ?_) (by rfl) (by rfl) (by kernel_rfl) (by kernel_rfl) (by kernel_rfl) (fun _ _ _ h => h) ?_ (by assumption) ?_
        rotate_left
        · (intro o ho w hSw; obtain ⟨z0, z1, z2, z3⟩ := hSw; cases ho; go_simp; try with_reducible rfl)
        try simp only [Act.put, List.setIfInBounds_toArray, List.set_cons_zero, List.set_cons_succ]
        refine wpAnyH_done (by kernel_rfl) ?_ _
        have HR5 := Lib.hid (HN.out.mod.own HC.out.row (fun q hq => HC.out.bk.raw.isnt (own_ty HC.out.row hq) (by decide)))
        have hn5 := HC.out.tm
        have htk := placeE_len HC.out.bk.ok x.acc x.buy x.price x.n
        rw [HPE.out] at htk
        dsimp only at htk
        rw [HTK.out] at htk
        have HSB : Hid (b' = stepB b x) := Lib.hid (by unfold stepB; rw [if_neg HK6.out, if_neg HK7.out, HPE.out])
        go_wp2_with (at_builtin
                     obtain ⟨A7, c7, w7, hr7, ho7, hb7, hm7⟩ := app_cellsM (ty := 25) slT_trd HR5.out A5 tk c5 (ts.flatMap Trd.cells) HTR.out.1 (row_none HTR.out) (fun ad ha j u hu => by subst ha; exact ords_news HTR.out j u hu) (trd_one ts) (by omega) (by decide) (Nat.le_trans HSZ.out HN.out.mod.size)
                     refine wpList_append_run hr7 (by rfl) (by rfl) (by rfl) (by rfl) ?_
                     replace hr7 := Lib.hid hr7
                     replace ho7 := Lib.hid ho7
                     replace hb7 := Lib.hid hb7
                     replace hm7 := Lib.hid hm7)
        go_roundg (m - (k + 1))
        case measure => have := HKM.out; omega
        case rel =>
          refine ⟨k + 1, V', stepB b x, A7, n + tk, c7, T ++ ts, by have := HKM.out; omega, by go_num, rfl, Lib.hid ⟨HN.out.bk.mod hm7.out (fun q hq hf => HN.out.bk.raw.isnt (own_ty HR5.out hf) (by decide) hq), ?_, ?_, ?_, ?_, ?_, ?_⟩, Lib.hid (HO5.out.mod hm7.out (fun q hq hf => absurd (hq.unique (own_ty HR5.out hf)) (by decide))), Lib.hid (Nat.le_trans HSZ.out (Nat.le_trans HN.out.mod.size hm7.out.size))⟩
          · have h := HC.out.sum.place HC.out.bk.ok x.acc x.buy x.price x.n
            rw [HPE.out] at h
            rw [← HSB.out]
            exact h
          · have h1 := stepB_len b x
            have h2 := HC.out.len
            omega
          · rw [List.flatMap_append]
            exact ho7.out
          · rw [List.length_append, HC.out.tl, HTK.out]
          · omega
          · exact (HN.out.mod.below HC.out.low HSZ.out (fun q hq => (HC.out.bk.lt hq).1)).trans hb7.out
    · obtain rfl : k = m := by omega
      have HTL := Lib.hid HC.out.tl
      have hn4 : n ≤ 100000 := by have := HC.out.tm; omega
      have hkk : ¬ (k : Int) < (k : Int) := by omega
      obtain ⟨w4, rfl⟩ : ∃ w : World, w = wr := ⟨_, rfl⟩
      go_wp2_with fail
      go_loopg [10] n (fun gj iv wr => ∃ j : Nat, j + gj = n ∧ iv = .int .i64 (j : Int) ∧ Hid (Below w4.heap.size w4 wr))
      case atStart => exact ⟨0, by omega, rfl, Lib.hid (Below.refl _ _)⟩
      case round =>
        obtain ⟨j, hjn, rfl, HB⟩ := hrel
        have HJN := Lib.hid hjn
        have hj : j ≤ n := by omega
        clear hjn
        rcases Nat.lt_or_ge j n with hlj | hgj
        · have hjj : (j : Int) < (n : Int) := by omega
          have HRr := Lib.hid (own_keep HC.out.row HB.out)
          obtain ⟨gt, hAt, -, hgt, z0, z1, z2, z3⟩ := trdRow HRr.out HTL.out hlj
          subst hAt
          have hok := HC.out.sum.ok (trdAt T j) (by rw [trdAt_eq (by rw [HTL.out]; exact hlj)]; exact List.getElem_mem _)
          obtain ⟨t, ht⟩ : ∃ t, trdAt T j = t := ⟨_, rfl⟩
          rw [ht] at z0 z1 z2 z3 hok
          obtain ⟨x, hx⟩ : ∃ x, ordAt b.os t.buy.toNat = x := ⟨_, rfl⟩
          obtain ⟨y, hy⟩ : ∃ y, ordAt b.os t.sell.toNat = y := ⟨_, rfl⟩
          obtain ⟨k1, k2, k3, k4, k5, k6, k7, k8, k9, k10⟩ := hok
          rw [hx] at k5 k7 k9
          rw [hy] at k6 k7 k10
          have HG1 : Hid (∀ w', Below w4.heap.size w4 w' → Calls Try.prog 18 #[.pointer (some ⟨gb, 0, none⟩), .int .i64 t.buy] w' fun e w'' => e = .returned (.tuple #[.agg #[.int .i64 x.id, .int .i64 x.acc, .bool x.buy, .int .i64 x.price, .int .i64 x.n, .int .i64 x.left], .bool true]) ∧ Below w'.heap.size w' w'') := Lib.hid (fun w' hb => by
            have := get_any gb W.heap.size V b t.buy w' (Lib.hid (HC.out.bk.all hb))
            rw [getO_in k1 k2, hasO_in k1 k2, hx] at this
            exact this)
          have HG2 : Hid (∀ w', Below w4.heap.size w4 w' → Calls Try.prog 18 #[.pointer (some ⟨gb, 0, none⟩), .int .i64 t.sell] w' fun e w'' => e = .returned (.tuple #[.agg #[.int .i64 y.id, .int .i64 y.acc, .bool y.buy, .int .i64 y.price, .int .i64 y.n, .int .i64 y.left], .bool true]) ∧ Below w'.heap.size w' w'') := Lib.hid (fun w' hb => by
            have := get_any gb W.heap.size V b t.sell w' (Lib.hid (HC.out.bk.all hb))
            rw [getO_in k3 k4, hasO_in k3 k4, hy] at this
            exact this)
          have q1 : (x.acc == y.acc) = false := by simp [k7]
          have q2 : decide (t.n < 1) = false := decide_eq_false (by omega)
          have q3 : decide (x.price < t.price) = false := decide_eq_false (by omega)
          have q4 : decide (t.price < y.price) = false := decide_eq_false (by omega)
          have K5 := Lib.hid k5
          have K6 := Lib.hid k6
          clear hx hy ht k1 k2 k3 k4 k5 k6 k7 k8 k9 k10
          go_wp2_with fail
          refine (HG1.out wr HB.out).mono ?_
          rintro e w1 ⟨rfl, hb1⟩
          have HB1 := Lib.hid (bt HB.out hb1)
          have z1w := (hb1.cell (p := ⟨gt, j * 4 + 1, none⟩) hgt).trans z1
          have z2w := (hb1.cell (p := ⟨gt, j * 4 + 2, none⟩) hgt).trans z2
          have z3w := (hb1.cell (p := ⟨gt, j * 4 + 3, none⟩) hgt).trans z3
          have hgt1 : gt < w1.heap.size := Nat.lt_of_lt_of_le hgt hb1.size
          clear hb1 z0 z1 z2 z3 hgt
          go_wp2_with fail
          obtain ⟨W1, hW1⟩ : ∃ W1, W1 = w1.alloc (.cells #[.int .i64 x.id, .int .i64 x.acc, .bool x.buy, .int .i64 x.price, .int .i64 x.n, .int .i64 x.left] 42) := ⟨_, rfl⟩
          have hb2 : Below w1.heap.size w1 W1 := by rw [hW1]; exact (Below.refl _ _).alloc (Nat.le_refl _) _
          have k11 : Blk W1 w1.heap.size 42 #[.int .i64 x.id, .int .i64 x.acc, .bool x.buy, .int .i64 x.price, .int .i64 x.n, .int .i64 x.left] := by rw [hW1]; exact Blk.new _ _ _
          rw [← hW1]
          obtain ⟨g11, hg11⟩ : ∃ g11, w1.heap.size = g11 := ⟨_, rfl⟩
          have z2v := (hb2.cell (p := ⟨gt, j * 4 + 2, none⟩) hgt1).trans z2w
          have z3v := (hb2.cell (p := ⟨gt, j * 4 + 3, none⟩) hgt1).trans z3w
          have hgt2 : gt < W1.heap.size := Nat.lt_of_lt_of_le hgt1 hb2.size
          have HB2 := Lib.hid (bt HB1.out hb2)
          rw [hg11] at k11 ⊢
          clear hW1 hb2 hg11 z1w z2w z3w hgt1
          refine (HG2.out W1 HB2.out).mono ?_
          rintro e w2 ⟨rfl, hb3⟩
          have k11' := k11.all hb3
          have z2u := (hb3.cell (p := ⟨gt, j * 4 + 2, none⟩) hgt2).trans z2v
          have z3u := (hb3.cell (p := ⟨gt, j * 4 + 3, none⟩) hgt2).trans z3v
          have hgt3 : gt < w2.heap.size := Nat.lt_of_lt_of_le hgt2 hb3.size
          have HB3 := Lib.hid (bt HB2.out hb3)
          clear hb3 z2v z3v hgt2 k11
          go_upto_region 21 with (fail)
          obtain ⟨W2, hW2⟩ : ∃ W2, W2 = w2.alloc (.cells #[.int .i64 y.id, .int .i64 y.acc, .bool y.buy, .int .i64 y.price, .int .i64 y.n, .int .i64 y.left] 42) := ⟨_, rfl⟩
          have hb4 : Below w2.heap.size w2 W2 := by rw [hW2]; exact (Below.refl _ _).alloc (Nat.le_refl _) _
          have k13 : Blk W2 w2.heap.size 42 #[.int .i64 y.id, .int .i64 y.acc, .bool y.buy, .int .i64 y.price, .int .i64 y.n, .int .i64 y.left] := by rw [hW2]; exact Blk.new _ _ _
          rw [← hW2]
          obtain ⟨g13, hg13⟩ : ∃ g13, w2.heap.size = g13 := ⟨_, rfl⟩
          have z2s := (hb4.cell (p := ⟨gt, j * 4 + 2, none⟩) hgt3).trans z2u
          have z3s := (hb4.cell (p := ⟨gt, j * 4 + 3, none⟩) hgt3).trans z3u
          have HB4 := Lib.hid (bt HB3.out hb4)
          have k11'' := k11'.all hb4
          rw [hg13] at k13 ⊢
          have u1 := k11''.cell 1
          have u2 := k11''.cell 2
          have u3 := k11''.cell 3
          have v1 := k13.cell 1
          have v2 := k13.cell 2
          have v3 := k13.cell 3
          simp only [List.getElem?_toArray, List.getElem?_cons_zero, List.getElem?_cons_succ] at u1 u2 u3 v1 v2 v3
          rw [K5.out] at u2
          rw [K6.out] at v2
          clear hW2 hb4 hg13 z2u z3u hgt3 k11' k11'' k13
          go_quiet (fail)
          go_wp2
          go_roundg (n - (j + 1))
          case measure => have := HJN.out; omega
          case rel => exact ⟨j + 1, by have := HJN.out; omega, by go_num, Lib.hid (below_drewN HB4.out _)⟩
        · obtain rfl : j = n := by omega
          have HKT := Lib.hid (HC.out.all HSZ.out HB.out)
          have HOT := Lib.hid (HO.out.all HB.out)
          have hT1 : ∀ t ∈ T, 1 ≤ t.n := fun t ht => (HC.out.sum.ok t ht).n
          have HT1 := Lib.hid hT1
          have hjj : ¬ (j : Int) < (j : Int) := by omega
          clear HC HO hT1
          obtain ⟨w5, rfl⟩ : ∃ w : World, w = wr := ⟨_, rfl⟩
          go_wp2_with fail
          go_loopg [15] k (fun gi iv wr => ∃ i : Nat, i + gi = k ∧ iv = .int .i64 (i : Int) ∧ Hid (Below w5.heap.size w5 wr))
          case atStart => exact ⟨0, by omega, rfl, Lib.hid (Below.refl _ _)⟩
          case round =>
            obtain ⟨i, hik, rfl, HB3⟩ := hrel
            have HIK := Lib.hid hik
            have hi : i ≤ k := by omega
            clear hik
            rcases Nat.lt_or_ge i k with hli | hgi
            · have hii2 : (i : Int) < (k : Int) := by omega
              rcases Nat.lt_or_ge i b.os.length with hib | hib
              · obtain ⟨x, hx⟩ : ∃ x, ordAt b.os i = x := ⟨_, rfl⟩
                have hsum := HKT.out.sum.sum i hib
                have hxid := HKT.out.bk.ok.ids i hib
                have hrng := HKT.out.bk.ok.rng i hib
                rw [hx] at hsum hxid hrng
                have HG : Hid (∀ w', Below w5.heap.size w5 w' → Calls Try.prog 18 #[.pointer (some ⟨gb, 0, none⟩), .int .i64 (i : Int)] w' fun e w'' => e = .returned (.tuple #[.agg #[.int .i64 x.id, .int .i64 x.acc, .bool x.buy, .int .i64 x.price, .int .i64 x.n, .int .i64 x.left], .bool true]) ∧ Below w'.heap.size w' w'') := Lib.hid (fun w' hb => by
                  have := get_any gb W.heap.size V b (i : Int) w' (Lib.hid (HKT.out.bk.all hb))
                  rw [getO_in (by omega) (by omega), hasO_in (by omega) (by omega), Int.toNat_natCast, hx] at this
                  exact this)
                have HSUM := Lib.hid hsum
                have hr1 := hrng.2.2.2.1
                have hr2 := hrng.2.2.2.2.1
                have q1 : (x.id != (i : Int)) = false := by simp [hxid]
                clear hx hsum hxid hrng hib
                go_wp2_with fail
                refine (HG.out wr HB3.out).mono ?_
                rintro e w6 ⟨rfl, hb6⟩
                have HB6 := Lib.hid (bt HB3.out hb6)
                clear hb6
                go_upto_region 28 with (fail)
                obtain ⟨W3, hW3⟩ : ∃ W3, W3 = w6.alloc (.cells #[.int .i64 x.id, .int .i64 x.acc, .bool x.buy, .int .i64 x.price, .int .i64 x.n, .int .i64 x.left] 42) := ⟨_, rfl⟩
                have hb7 : Below w6.heap.size w6 W3 := by rw [hW3]; exact (Below.refl _ _).alloc (Nat.le_refl _) _
                have k16 : Blk W3 w6.heap.size 42 #[.int .i64 x.id, .int .i64 x.acc, .bool x.buy, .int .i64 x.price, .int .i64 x.n, .int .i64 x.left] := by rw [hW3]; exact Blk.new _ _ _
                rw [← hW3]
                obtain ⟨g16, hg16⟩ : ∃ g16, w6.heap.size = g16 := ⟨_, rfl⟩
                rw [hg16] at k16 ⊢
                have HB7 := Lib.hid (bt HB6.out hb7)
                have u5 := k16.cell 5
                simp only [List.getElem?_toArray, List.getElem?_cons_zero, List.getElem?_cons_succ] at u5
                have HK16 := Lib.hid k16
                clear hW3 hb7 hg16 k16
                go_wp2_with fail
                go_loopg [18, 19] j (fun gz nv iv wr => ∃ (z : Nat) (s : Int), z + gz = j ∧ iv = .int .i64 (z : Int) ∧ nv = .int .i64 s ∧ Hid (s = x.left + sumT (T.take z) (i : Int)) ∧ Hid (Below W3.heap.size W3 wr))
                case atStart => exact ⟨0, x.left, by omega, rfl, rfl, Lib.hid (by simp [sumT]), Lib.hid (Below.refl _ _)⟩
                case round =>
                  obtain ⟨z, s, hzj, rfl, rfl, HS, HBZ⟩ := hrel
                  have HZJ := Lib.hid hzj
                  have hz : z ≤ j := by omega
                  clear hzj u5
                  rcases Nat.lt_or_ge z j with hlz | hgz
                  · have hzz : (z : Int) < (j : Int) := by omega
                    obtain ⟨gt, hAt, -, hgt, z0, z1, z2, z3⟩ := trdRow (own_keep HKT.out.row (bt HB7.out HBZ.out)) HTL.out hlz
                    subst hAt
                    have hst := sumT_take (T := T) (i := z) (by rw [HTL.out]; exact hlz) (i : Int)
                    have hle := sumT_le HT1.out (z + 1) (i : Int)
                    have hle0 := sumT_le HT1.out z (i : Int)
                    have ht1 := HT1.out (trdAt T z) (by rw [trdAt_eq (by rw [HTL.out]; exact hlz)]; exact List.getElem_mem _)
                    obtain ⟨t, ht⟩ : ∃ t, trdAt T z = t := ⟨_, rfl⟩
                    rw [ht] at z0 z1 z2 z3 hst ht1
                    have hs0 := HS.out
                    have hsm := HSUM.out
                    by_cases hmem : t.buy = (i : Int) ∨ t.sell = (i : Int)
                    · rw [if_pos hmem] at hst
                      have b1 : 0 ≤ s := by omega
                      have b2 : s + t.n ≤ 1099511627776 := by omega
                      have HS2 : Hid (s + t.n = x.left + sumT (T.take (z + 1)) (i : Int)) := Lib.hid (by omega)
                      have hw1 : IntKind.i64.wrap (s + t.n) = s + t.n := IntWalk.i64_in _ (by omega)
                      by_cases hm1 : t.buy = (i : Int)
                      · have q2 : (t.buy == (i : Int)) = true := by simp [hm1]
                        clear hst hle hle0 ht hs0 hsm hmem hm1
                        go_wp2
                        go_roundg (j - (z + 1))
                        case measure => have := HZJ.out; omega
                        case rel => exact ⟨z + 1, s + t.n, by have := HZJ.out; omega, by go_num, rfl, HS2, HBZ⟩
                      · have q2 : (t.buy == (i : Int)) = false := by simp [hm1]
                        have q3 : (t.sell == (i : Int)) = true := by simp [hmem.resolve_left hm1]
                        clear hst hle hle0 ht hs0 hsm hmem hm1
                        go_wp2
                        go_roundg (j - (z + 1))
                        case measure => have := HZJ.out; omega
                        case rel => exact ⟨z + 1, s + t.n, by have := HZJ.out; omega, by go_num, rfl, HS2, HBZ⟩
                    · rw [if_neg hmem] at hst
                      have HS2 : Hid (s = x.left + sumT (T.take (z + 1)) (i : Int)) := Lib.hid (by omega)
                      have q2 : (t.buy == (i : Int)) = false := by simp; exact fun e => hmem (.inl e)
                      have q3 : (t.sell == (i : Int)) = false := by simp; exact fun e => hmem (.inr e)
                      clear hst hle hle0 ht hs0 hsm hmem ht1
                      go_wp2
                      go_roundg (j - (z + 1))
                      case measure => have := HZJ.out; omega
                      case rel => exact ⟨z + 1, s, by have := HZJ.out; omega, by go_num, rfl, HS2, HBZ⟩
                  · obtain rfl : z = j := by omega
                    have hfin : s = x.n := by
                      have h1 := HS.out
                      rw [List.take_of_length_le (by rw [HTL.out]; exact Nat.le_refl _)] at h1
                      have h2 := HSUM.out
                      omega
                    have q2 : (s != x.n) = false := by simp [hfin]
                    have k16 := HK16.out.all HBZ.out
                    have u0 := k16.cell 0
                    have u4 := k16.cell 4
                    simp only [List.getElem?_toArray, List.getElem?_cons_zero, List.getElem?_cons_succ] at u0 u4
                    clear hfin k16
                    go_wp2
                    go_roundg (k - (i + 1))
                    case measure => have := HIK.out; omega
                    case rel => exact ⟨i + 1, by have := HIK.out; omega, by go_num, Lib.hid (bt HB7.out HBZ.out)⟩
              · have HG : Hid (Calls Try.prog 18 #[.pointer (some ⟨gb, 0, none⟩), .int .i64 (i : Int)] wr fun e w'' => e = .returned (.tuple #[.agg #[.int .i64 0, .int .i64 0, .bool false, .int .i64 0, .int .i64 0, .int .i64 0], .bool false]) ∧ Below wr.heap.size wr w'') := Lib.hid (by
                  have := get_any gb W.heap.size V b (i : Int) wr (Lib.hid (HKT.out.bk.all HB3.out))
                  rw [hasO_out (.inr (by omega)), show getO b.os (i : Int) = ord0 from if_neg (by omega)] at this
                  exact this)
                go_wp2_with fail
                refine HG.out.mono ?_
                rintro e w6 ⟨rfl, hb6⟩
                have HB6 := Lib.hid (bt HB3.out hb6)
                clear hb6
                go_upto_region 27 with (fail)
                obtain ⟨W3, hW3⟩ : ∃ W3, W3 = w6.alloc (.cells #[.int .i64 0, .int .i64 0, .bool false, .int .i64 0, .int .i64 0, .int .i64 0] 42) := ⟨_, rfl⟩
                have hb7 : Below w6.heap.size w6 W3 := by rw [hW3]; exact (Below.refl _ _).alloc (Nat.le_refl _) _
                rw [← hW3]
                have HB7 := Lib.hid (bt HB6.out hb7)
                clear hW3 hb7
                go_wp2_with (first
                  | (go_at_call 15
                     (with_reducible refine (lives_any _).mono ?_)
                     rintro e w9 ⟨rfl, hb9⟩))
                go_ret
                exact ⟨rfl, bt (HKT.out.low.trans (HB7.out.mono HKT.out.low.size)) hb9⟩
            · obtain rfl : i = k := by omega
              have hii2 : ¬ (i : Int) < (i : Int) := by omega
              go_wp2_with (first
                | (go_at_call 15
                   (with_reducible refine (lives_any _).mono ?_)
                   rintro e w9 ⟨rfl, hb9⟩))
              go_ret
              exact ⟨rfl, bt (HKT.out.low.trans (HB3.out.mono HKT.out.low.size)) hb9⟩

end Go.Proofs.Ytkandhpnenmleaa

/- For every list of numbers worldmintlaw26.BookSums returns true: the units of each order are what is left of it and its trades together. No condition. -/
namespace Go.Proofs.Ytkandhpnenmleaa
open Go.ChangeShapes Go.WideShapes Go.ChangeAt Go.RowKit Go.ChangeMaps

set_option maxRecDepth 100000 in
theorem BookSums_lifted (os : Os) (started : os.Started) (H : Type) (enc : TypeId × Value → H) :
    ReturnsInHanded {} Try.checked os 4 .any (Rows.bookSumsSpec.pre6 enc Try.prog Try.f4 Rows.bookSumsRow.domain false) (Rows.bookSumsSpec.post enc Try.prog Try.f4 false true false false) := by
  refine returnsInHanded_of_change (C := Try.checked) Try.own started (by kernel_rfl) Try.func4
    (ChangeSpec.witness6 (enc := enc) (C := Try.checked) false ⟨#[], #[.slice none 0 0], []⟩ 8 (by kernel_rfl) (by kernel_rfl) (by kernel_rfl) (by kernel_rfl)) ?_
  intro W base args ds gs before hval0 hW _ _
  have hval : ∀ (j : Nat) t v, Try.f4.params[j]? = some t → args[j]? = some v → Value.okWide Try.prog W .any base t v := hval0
  have hW' := hW
  obtain ⟨p, q, hT0, hV, rfl, hfz, hnd⟩ := hW
  have hT : DataW.TrodAll enc Try.prog W 0 (fun _ => true) true Try.f4.params.toList args.toList ds p := hT0
  rw [Try.params4] at hT hval
  obtain ⟨v0, vs0, d0, ds0, p0, q0, hargs0, rfl, rfl, h0, r0⟩ := trodAll_cons hT
  obtain ⟨rfl, rfl, rfl⟩ := trodAll_nil r0
  obtain rfl : args = #[v0] := by cases args; simp_all
  obtain ⟨A0, n0, c0, f0, rfl, hA0, hn0, hc0, hR0, hw0⟩ := open_sl Try.underlying22 Try.underlying3 (by kernel_rfl) (hval 0 22 v0 rfl rfl) h0
  refine (BookSums_walk W A0 n0 c0 f0 hA0 hn0 hc0 hR0 hw0).mono fun e W' ⟨he, hb⟩ => ?_
  subst he
  exact ⟨_, rfl, law_post Try.laidOut (by kernel_rfl) (by kernel_rfl) Try.underlying4 rfl hW' rfl hb⟩

theorem BookSums_holds : Rows.BookSumsSaid :=
  OpenClaim.holds_of_wide 4 Try.f4 rfl rfl rfl rfl rfl rfl rfl ⟨rfl, rfl, rfl, rfl, rfl⟩ rfl rfl rfl rfl rfl (by kernel_rfl) Try.func4 (by kernel_rfl)
    (of_decide_eq_true (by kernel_rfl)) (by unfold Func.isWrapper; first | (rw [if_pos (by decide +kernel)]; kernel_rfl) | (rw [if_neg (by decide +kernel)]; exact ⟨rfl, rfl⟩))
    (fun os started H enc _ => BookSums_lifted os started H enc)

end Go.Proofs.Ytkandhpnenmleaa
