/- A law's row out of its walk: the call returns true, and nothing that lay when it began has turned. -/
import Derived.Test.YtlcalajehnaenaaGreatDoorRows
import Derived.Test.YtlcalajehnaenaaGreatDoorHG0
import Derived.WalkKit
import Derived.ProofKit
import Derived.OpenShut
import Derived.JoinedCond
namespace Go.Proofs.YtlcalajehnaenaaGreatDoor
open Go.ChangeShapes Go.WideShapes Go.ChangeAt Go.RowKit
theorem Tryz.own : ownKnob Tryz.prog.godebug = none := by kernel_rfl
theorem Tryz.laidOut : laidOutB Tryz.prog = true := by kernel_rfl
theorem wf_i64 {n : Int} (h : (Lit.int .i64 n).wf = true) : -9223372036854775808 ≤ n ∧ n ≤ 9223372036854775807 := by simpa [Lit.wf, IntKind.min, IntKind.max, IntKind.signed, IntKind.bits] using h
section
variable {H : Type} {enc : TypeId × Value → H} {P : Program}
theorem trodAll_stays (hl : laidOutB P = true) {W W' : World} {sp' : Nat → Bool} : ∀ {ts : List TypeId} (_ : ts.all (fun t => P.readableRec t && decide (t < P.types.size)) = true) {vs : List Value} {ds : List (DataW H)} {ps : List MemPlace}
 (_ : DataW.TrodAll enc P W 0 (fun _ => true) true ts vs ds ps) (_ : ∀ p ∈ ps, W.sameAt W' p) (_ : ∀ p ∈ ps, sp' p.block = true), DataW.TrodAll enc P W' 0 sp' true ts vs ds ps
 | [], _, vs, ds, ps, h, _, _ => by
   obtain ⟨rfl, rfl, rfl⟩ := trodAll_nil h
   exact trodAll_mk0
 | t :: ts, hr, vs, ds, ps, h, hs, hp => by
   obtain ⟨v, vs', d, ds', p, q, rfl, rfl, rfl, h1, h2⟩ := trodAll_cons h
   simp only [List.all_cons, Bool.and_eq_true, decide_eq_true_eq] at hr
   exact trodAll_cons_mk (WideElems.Trod_stays hl hr.1.1 hr.1.2 h1 (fun x hx => hs x (by simp [hx])) (fun x hx => hp x (by simp [hx])))
    (trodAll_stays hl hr.2 h2 (fun x hx => hs x (by simp [hx])) (fun x hx => hp x (by simp [hx])))
theorem law_post {f : Func} {s : ChangeSpec} {tb : TypeId} {W W' : World} {args : Array Value} {ds gs : List (DataW H)} {before : List MemPlace} (hl : laidOutB P = true)
 (hr : f.params.toList.all (fun t => P.readableRec t && decide (t < P.types.size)) = true) (hres : f.resultTypes = #[tb]) (hb : P.underlying tb = some .bool) (hv : s.vars = [])
 (hW : DataW.Whole enc P f.params.toList s.vars false W args.toList ds gs before) (hspec : s.fn H ds = { results := [.lit (.bool true)], args := ds }) (hB : Below W.heap.size W W') :
 s.post enc P f false true false false W args (.bool true) W' := by
 have hW' := hW
 obtain ⟨p, q, hA, hV, rfl, hfz, hnd⟩ := hW
 rw [hv] at hV
 obtain ⟨rfl, rfl⟩ := trodVars_none hV
 refine ⟨ds, [], p ++ [], [], p, [], hW', ?_, ?_, ?_, hB.frame _, fun h => by cases h⟩
 ·rw [hres, List.append_nil, hspec]
  exact trodAll_mk1 (shut_bool hb true)
 ·rw [List.append_nil, hspec]
  exact trodAll_stays hl hr hA (fun x hx => hB.same (by simpa using hW'.lt x (by simp [hx]))) (fun x hx => by simpa using hW'.lt x (by simp [hx]))
 ·rw [hv, List.append_nil, hspec]
  rfl
theorem cell_spot {w : World} {a : Addr} {v : Value} (h : w.cell? a = some v) : a.spot = none ∧ a.block < w.heap.size := by
 unfold World.cell? at h
 split at h
 ·rename_i c t f hc
  refine ⟨?_, (Array.getElem?_eq_some_iff.1 hc).1⟩
  cases hs : a.spot with
  | none => rfl
  | some x => simp [hs] at h
 ·cases h
theorem open_sl {t e : TypeId} {k : IntKind} {W : World} {v : Value} {d : DataW H} {ps : List MemPlace} {r : Reach} {b0 : Nat} (ht : P.underlying t = some (.slice e)) (he : P.underlying e = some (.int k)) (hc : P.cellsOf e = 1)
 (hval : Value.okWide P W r b0 t v) (h : DataW.Trod enc P W 0 (fun _ => true) true t v d ps) :
 ∃ (A : Option Addr) (n c : Nat) (f : Nat → Int), v = .slice A n c ∧ (A = none → n = 0) ∧ n ≤ c ∧ c ≤ 9223372036854775807 ∧ Rd W W.heap.size A n (fun j => .int k (f j)) ∧ ∀ j, j < n → (Lit.int k (f j)).wf = true := by
 obtain ⟨a0, len, cap, rfl⟩ := okWide_slice ht hval
 obtain ⟨fuel, hf⟩ := h
 rcases open_ints ht he hc hf with ⟨hcs, hx⟩ | ⟨a, len', cap', zs, hcs, _, hl, hm, hz, hx, hcell, hwz⟩
 ·simp [Value.cells] at hcs
  obtain ⟨rfl, rfl, rfl⟩ := hcs
  exact ⟨none, 0, 0, fun _ => 0, rfl, fun _ => rfl, by omega, by omega, Rd.nil, fun j hj => absurd hj (by omega)⟩
 ·simp [Value.cells] at hcs
  obtain ⟨rfl, rfl, rfl⟩ := hcs
  simp only [if_true] at hz
  refine ⟨some a, len, cap, fun j => zs.getD j 0, rfl, (fun h => by cases h), hl, (by simpa [maxLen] using hm), ?_, ?_⟩
  ·intro hn
   have h0 := hcell 0 (by omega)
   have hs := cell_spot h0
   have ea : a.add 0 = a := by simp [Addr.add]
   rw [ea] at hs
   refine ⟨a.block, a.off, ?_, hs.2, fun j hj => ?_⟩
   ·cases a; simp_all
   ·rw [← hcell j (by omega)]
    congr 1
    unfold Addr.add
    split
    ·rename_i h; subst h; cases a; simp_all
    ·cases a; simp_all
  ·intro j hj
   refine hwz _ ?_
   show zs.getD j 0 ∈ zs
   have : zs.getD j 0 = zs[j]'(by omega) := by simp [List.getD, show j < zs.length by omega]
   rw [this]
   exact List.getElem_mem _
end
end Go.Proofs.YtlcalajehnaenaaGreatDoor
