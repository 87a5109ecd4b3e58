/- ledger: take, of moves without parts. -/
import Derived.Test.YtlcalajehnaenaaGreatDoorHLdWd
import Derived.Test.YtlcalajehnaenaaGreatDoorHG1
import Derived.Test.YtlcalajehnaenaaGreatDoorHG11
namespace Go.Proofs.YtlcalajehnaenaaGreatDoor
open Go.RowKit
def TkPost (mx : Int → Bool) (B : Nat) (w : World) (L : Led) (S0 S : LSt) (C : Chg) (m : Mv) (e : Ending) (w' : World) : Prop :=
 match wdP mx S m with
 | none => e = .returned (.tuple #[.slice none 0 0, .int .i64 10]) ∧ Below w.heap.size w w'
 | some S1 => ∃ (V : Sl) (es : List (LK × Value)), e = .returned (.tuple #[slV V, .int .i64 0]) ∧ ChAt B w' L S0 S1 { C with es := es } ∧ Mod (ChF C) w w'
set_option maxRecDepth 100000 in
set_option maxHeartbeats 4000000 in
theorem tk_any {mx : Int → Bool} {K : Int} {B : Nat} {L : Led} {S0 S : LSt} {C : Chg} (m : Mv) (w : World) (HC : Hid (ChAt B w L S0 S C)) (HL : Hid (LedAt mx w L S0)) (HO : Hid (LOk mx K S)) (HM : Hid (MvOk L.it.2.1 m)) (hK : K ≤ 1073741824) (hgl : L.it.2.1 ≤ 64) (hk5 : C.kind ≠ 5) (hk9 : C.kind ≠ 9) :
 Calls Tryz.prog 155 #[.pointer (some ⟨C.gc, 0, none⟩), mvA m] w (TkPost mx B w L S0 S C m) := by
 unfold TkPost wdP mvA
 rcases Int.lt_or_le m.frm 1 with h0 | h1
 ·have hf : m.frm = 0 := by have := HM.out.f0; omega
  rw [if_pos hf, hf]
  have e5 : (C.kind == 5) = false := by simpa using hk5
  have e9 : (C.kind == 9) = false := by simpa using hk9
  clear hf h0
  have hba := (Below.refl w.heap.size w).alloc (Nat.le_refl _) (.cells #[.int .i64 0, .int .i64 m.dst, .int .i64 m.item, .int .i64 m.n, .slice none 0 0] 40)
  have k0 := Blk.new w 40 #[.int .i64 0, .int .i64 m.dst, .int .i64 m.item, .int .i64 m.n, .slice none 0 0]
  obtain ⟨w1, hw1⟩ : ∃ w1, w.alloc (.cells #[.int .i64 0, .int .i64 m.dst, .int .i64 m.item, .int .i64 m.n, .slice none 0 0] 40) = w1 := ⟨_, rfl⟩
  rw [hw1] at hba k0
  have HCA := Lib.hid (HC.out.all hba)
  have HLA := Lib.hid (HL.out.all hba)
  have HBA := Lib.hid hba
  have HMA : Hid (Mod (ChF C) w w1) := Lib.hid (Mod.of_below _ hba)
  have c2 : w1.cell? ⟨C.gc, 2, none⟩ = some (.int .i64 C.kind) := HCA.out.c.cell 2
  have q0 : w1.cell? ⟨w.heap.size, 0, none⟩ = some (.int .i64 0) := k0.cell 0
  have q1 : w1.cell? ⟨w.heap.size, 1, none⟩ = some (.int .i64 m.dst) := k0.cell 1
  have q2 : w1.cell? ⟨w.heap.size, 2, none⟩ = some (.int .i64 m.item) := k0.cell 2
  have q3 : w1.cell? ⟨w.heap.size, 3, none⟩ = some (.int .i64 m.n) := k0.cell 3
  have q4 : w1.cell? ⟨w.heap.size, 4, none⟩ = some (.slice none 0 0) := k0.cell 4
  clear hba k0
  go_enter Tryz.func155, Tryz.ntmps155
  go_wp2
  go_ret2
  exact ⟨(none, 0, 0), C.es, rfl, HCA.out, HMA.out⟩
 ·have hf : ¬ m.frm = 0 := by omega
  rw [if_neg hf]
  have hfb : (m.frm != 0) = true := by simp; omega
  clear hf
  have hba := (Below.refl w.heap.size w).alloc (Nat.le_refl _) (.cells #[.int .i64 m.frm, .int .i64 m.dst, .int .i64 m.item, .int .i64 m.n, .slice none 0 0] 40)
  have k0 := Blk.new w 40 #[.int .i64 m.frm, .int .i64 m.dst, .int .i64 m.item, .int .i64 m.n, .slice none 0 0]
  obtain ⟨w1, hw1⟩ : ∃ w1, w.alloc (.cells #[.int .i64 m.frm, .int .i64 m.dst, .int .i64 m.item, .int .i64 m.n, .slice none 0 0] 40) = w1 := ⟨_, rfl⟩
  rw [hw1] at hba k0
  have HCA := Lib.hid (HC.out.all hba)
  have HLA := Lib.hid (HL.out.all hba)
  have HBA := Lib.hid hba
  have HMA : Hid (Mod (ChF C) w w1) := Lib.hid (Mod.of_below _ hba)
  have c2 : w1.cell? ⟨C.gc, 2, none⟩ = some (.int .i64 C.kind) := HCA.out.c.cell 2
  have q0 : w1.cell? ⟨w.heap.size, 0, none⟩ = some (.int .i64 m.frm) := k0.cell 0
  have q1 : w1.cell? ⟨w.heap.size, 1, none⟩ = some (.int .i64 m.dst) := k0.cell 1
  have q2 : w1.cell? ⟨w.heap.size, 2, none⟩ = some (.int .i64 m.item) := k0.cell 2
  have q3 : w1.cell? ⟨w.heap.size, 3, none⟩ = some (.int .i64 m.n) := k0.cell 3
  have q4 : w1.cell? ⟨w.heap.size, 4, none⟩ = some (.slice none 0 0) := k0.cell 4
  clear hba k0
  by_cases hlt : totL (S.st m.src) < m.n
  ·rw [if_pos hlt]
   have HX := Lib.hid hlt
   clear hlt
   go_enter Tryz.func155, Tryz.ntmps155
   go_wp2_with fail
   refine (withdraw_short m _ HCA HLA HO HM h1 HX hK hgl).mono ?_
   rintro e w2 ⟨rfl, hb2⟩
   have HB2 := Lib.hid (bt HBA.out hb2)
   clear hb2
   go_wp2
   go_ret2
   exact ⟨rfl, HB2.out⟩
  ·rw [if_neg hlt]
   have HX : Hid (m.n ≤ totL (S.st m.src)) := Lib.hid (by omega)
   clear hlt
   go_enter Tryz.func155, Tryz.ntmps155
   go_wp2_with fail
   refine (withdraw_ok m _ HCA HLA HO HM h1 HX hK hgl).mono ?_
   rintro e w2 ⟨V, es, rfl, hc2, hb2⟩
   have HC2 := Lib.hid hc2
   have HB2 := Lib.hid (HMA.out.trans hb2 (fun b hb => .inl hb))
   clear hc2 hb2
   go_wp2
   go_ret2
   exact ⟨V, es, rfl, HC2.out, HB2.out⟩
end Go.Proofs.YtlcalajehnaenaaGreatDoor
namespace Go.Proofs.YtlcalajehnaenaaGreatDoor
section
variable {P : Program} {ops : Array Oper} {Q : Exit → Act → World → Prop} {md : Region.Mode} {S : World → Prop} {z : Nat}
theorem wpAnyG_firstD {i : Nat} {oi : Oper} {v : Value} (D : List Nat) (hi : ops[i]? = some oi) (hsel : ∀ (j : Nat) (o : Oper) cs b, ops[j]? = some o → o.op ≠ .select cs b) (hzD : z ∈ D) (hD : ∀ d, d ∈ D → ∀ od, ops[d]? = some od → ∃ e ∈ od.after, Region.binds md e = true ∧ (e.on = i ∨ e.on ∈ D)) (hiz : i ≠ z)
 (hQ : ∀ c a w, Q (.panic c) (a.put oi.dst v) w → Q (.panic c) a w) :
 ∀ (fuel : Nat) (listed : Array Bool) (a : Act) (w : World), (∀ d, d ∈ D → listed.getD d false = true → False) →
  (∀ j oj, ops[j]? = some oj → j ≠ i → listed.getD j true = false → (∀ e ∈ oj.after, Region.binds md e = true → e.on ≠ i) → oi.apart ops oj = true) →
  i ∈ Region.ready md ops listed → YieldsIf P ops S oi v a → S w →
  wpAnyG P md ops Q S z fuel (listed.setIfInBounds i true) (a.put oi.dst v) w → wpAnyG P md ops Q S z (fuel + 1) listed a w := by
 intro fuel
 have unlisted : ∀ {listed : Array Bool}, i ∈ Region.ready md ops listed → listed.getD i false = true → False := fun {listed} hr h1 => by
  have h0 := (mem_ready.1 hr).1
  rcases Nat.lt_or_ge i listed.size with h' | h'
  ·simp [h'] at h0 h1
   rw [h0] at h1
   cases h1
  ·simp [Array.getElem?_eq_none h'] at h1
 induction fuel with
 | zero =>
   intro listed a w _ _ hr hy hS H
   refine ⟨fun h => (by rw [h] at hr; cases hr), fun j hj => ?_⟩
   by_cases hji : j = i
   ·subst hji
    exact hy.wpOp hi hS ⟨fun _ => hS, H⟩
   ·have := ready_mono hj hji
    rw [H.1] at this
    cases this
 | succ fuel ih =>
   intro listed a w hDl hfree hr hy hS H
   refine ⟨fun h => (by rw [h] at hr; cases hr), fun j hj => ?_⟩
   by_cases hji : j = i
   ·subst hji
    exact hy.wpOp hi hS ⟨fun _ => hS, H⟩
   ·have hjD : j ∉ D := fun hjd => by
     obtain ⟨_, oj, hoj, hall⟩ := mem_ready.1 hj
     obtain ⟨e, he, hb, heq⟩ := hD j hjd oj hoj
     have h1 := hall e he hb
     rcases heq with heq | heq
     ·rw [heq] at h1
      exact unlisted hr h1
     ·exact hDl _ heq h1
    have hjz : j ≠ z := fun e => hjD (by rw [e]; exact hzD)
    have h1 := H.2 j (ready_mono hj hji)
    obtain ⟨hjun, oj, hoj, hall⟩ := mem_ready.1 hj
    have hnot : ∀ e ∈ oj.after, Region.binds md e = true → e.on ≠ i := fun e he hb heq => by
     have h1 := hall e he hb
     rw [heq] at h1
     exact unlisted hr h1
    have h2 := wpOp_putIf hoj (hfree j oj hoj hji hjun hnot) (fun cs b => hsel i oi cs b hi) (fun cs b => hsel j oj cs b hoj) hQ hy h1
    have hfree' : ∀ k ok, ops[k]? = some ok → k ≠ i → (listed.setIfInBounds j true).getD k true = false →
     (∀ e ∈ ok.after, Region.binds md e = true → e.on ≠ i) → oi.apart ops ok = true := fun k ok hk hki hun hno => by
     refine hfree k ok hk hki ?_ hno
     by_cases hjk : j = k
     ·subst hjk
      exact hjun
     ·rw [getD_set_ne true hjk] at hun
      exact hun
    have hDl' : ∀ d, d ∈ D → (listed.setIfInBounds j true).getD d false = true → False := fun d hd h9 => by
     rw [getD_set_ne false (fun e => hjD (by rw [e]; exact hd))] at h9
     exact hDl d hd h9
    refine wpOp_mono (fun a' w' h3 => ⟨h3.2.1, ih (listed.setIfInBounds j true) a' w' hDl' hfree' (ready_mono hr (Ne.symm hji)) h3.1 (h3.2.1 hjz) ?_⟩) h2
    rw [Array.setIfInBounds_comm _ _ hji]
    exact h3.2.2
theorem takeGD (D : List Nat) (i : Nat) (d : Option Tmp) {v : Value} {fuel : Nat} {listed : Array Bool} {a : Act} {w : World} (hd : (ops[i]?).map Oper.dst = some d) (hw : (ops[i]?).map (fun o => Region.wanted o (yielded ops a.tmps)) = some true)
 (hs : Region.noSelect ops = true) (hz : (D.contains z && D.all (fun k => !(listed.getD k false) && ((ops[k]?).map (fun oz => oz.after.any fun e => Region.binds md e && (e.on == i || D.contains e.on)) == some true))) = true) (hiz : i ≠ z) (hf : Region.free md ops listed i = true) (hr : (Region.ready md ops listed).contains i = true)
 (hQ : ∀ c a w, Q (.panic c) (a.put d v) w → Q (.panic c) a w) (hy : ∀ o, ops[i]? = some o → ∀ w, S w → (execOp a.eval o).run P w = .ok (.value v) w) (hS : S w)
 (h : wpAnyG P md ops Q S z fuel (listed.setIfInBounds i true) (a.put d v) w) : wpAnyG P md ops Q S z (fuel + 1) listed a w := by
 cases ho : ops[i]? with
 | none => rw [ho] at hd; cases hd
 | some o =>
   rw [ho] at hd hw
   simp only [Option.map_some, Option.some.injEq] at hd hw
   subst hd
   rw [Bool.and_eq_true] at hz
   have hall := List.all_eq_true.1 hz.2
   refine wpAnyG_firstD D ho (Region.noSelect_spec hs) (by simpa using hz.1) (fun k hk od hod => ?_) hiz hQ fuel listed a w (fun k hk h9 => ?_) (Region.free_spec ho hf) (by simpa using hr) (Or.inl ⟨hw, hy o ho⟩) hS h
   ·have h1 := hall k hk
    rw [Bool.and_eq_true, hod, Option.map_some, beq_iff_eq, Option.some.injEq] at h1
    obtain ⟨e, he, hb⟩ := Array.any_eq_true'.1 h1.2
    simp only [Bool.and_eq_true, Bool.or_eq_true, beq_iff_eq, List.contains_iff_mem] at hb
    exact ⟨e, he, hb.1, hb.2⟩
   ·have h1 := hall k hk
    rw [Bool.and_eq_true, h9] at h1
    simp at h1
end
end Go.Proofs.YtlcalajehnaenaaGreatDoor
namespace Go.Proofs.YtlcalajehnaenaaGreatDoor
open Go.RowKit
theorem flow_id {S0 S1 : LSt} {N0 N1 : Nat} {nid : Int} (hsh : S1.sh = S0.sh) (hge : S0.nf ≤ S1.nf) (h3 : S1.sh ≤ 1000) (h4 : S1.nf ≤ 1000000) (hN0 : S0.nf = N0) (hN1 : S1.nf - S0.nf = N1) (hid : S1.id = nid) :
 IntKind.i64.wrap ((S0.sh : Int) * 4294967296) = (S0.sh : Int) * 4294967296 ∧ IntKind.i64.wrap ((S0.sh : Int) * 4294967296 + (N0 : Int)) = (S0.sh : Int) * 4294967296 + (N0 : Int) ∧ IntKind.i64.wrap ((S0.sh : Int) * 4294967296 + (N0 : Int) + (N1 : Int)) = nid := by
 have e : nid = (S0.sh : Int) * 4294967296 + (N0 : Int) + (N1 : Int) := by
  unfold LSt.id at hid
  rw [hsh] at hid
  omega
 exact ⟨IntWalk.i64_in _ (by omega), IntWalk.i64_in _ (by omega), (IntWalk.i64_in _ (by omega)).trans e.symm⟩
theorem Mod.cell {F : Nat → Prop} {w w' : World} (m : Mod F w w') {p : Addr} (hl : p.block < w.heap.size) (hn : ¬ F p.block) : w'.cell? p = w.cell? p := World.cell?_of_block (w := w) (m.block p.block hl hn)
def MovePost (mx : Int → Bool) (w0 w : World) (L : Led) (S0 S : LSt) (C : Chg) (m : Mv) (e : Ending) (w' : World) : Prop :=
 match moveP mx S m with
 | .error er => e = .returned (.int .i64 er) ∧ Below w0.heap.size w0 w'
 | .ok S' => ∃ (es : List (LK × Value)) (ts : List (Int × Value)) (fl : Sl), e = .returned (.int .i64 0) ∧ ChAt w0.heap.size w' L S0 S' { C with es := es, ts := ts, fl := fl } ∧ Mod (ChF C) w w'
end Go.Proofs.YtlcalajehnaenaaGreatDoor
