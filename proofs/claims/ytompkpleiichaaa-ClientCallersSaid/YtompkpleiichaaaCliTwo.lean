/- client: a Caller of the package and one of the reference, side by side. -/
import Derived.Test.YtompkpleiichaaaCliGot
import Derived.Test.YtompkpleiichaaaCliRq
namespace Go.Proofs.Ytompkpleiichaaa
open Go.RowKit

theorem CallAt.apart {w : World} {T E T' E' : TypeId} {g g' : Nat} {cl key last cl' key' last' : Int} {rv rv' : Value} {op op' : List Rq} (h : CallAt w T E g cl key last rv op) (h' : CallAt w T' E' g' cl' key' last' rv' op') (h1 : T ≠ T') (h2 : T ≠ E') (h3 : E ≠ T') (h4 : E ≠ E') : ∀ b, CallF g rv b → ¬ CallF g' rv' b := by
  rintro b (rfl | hb) (rfl | hb')
  · exact h1 (Ty.unique h.1.ty h'.1.ty)
  · exact h2 (Ty.unique h.1.ty (Ty.of_own h'.2.1 hb'))
  · exact h3 (Ty.unique (Ty.of_own h.2.1 hb) h'.1.ty)
  · exact h4 (Ty.unique (Ty.of_own h.2.1 hb) (Ty.of_own h'.2.1 hb'))
structure Two (W w : World) (gc gm : Nat) (cl key last lastm : Int) (rv : Value) (op : List Rq) (rvm : Value) (opm : List Rq) : Prop where
  call : CallAt w 89 32 gc cl key last rv op
  ref : CallAt w 63 37 gm cl key lastm rvm opm
  below : Below W.heap.size W w
  cge : ∀ b, CallF gc rv b → W.heap.size ≤ b
  mge : ∀ b, CallF gm rvm b → W.heap.size ≤ b
section
variable {W w w' : World} {gc gm : Nat} {cl key last lastm last' lastm' : Int} {rv rvm rv' rvm' : Value} {op opm op' opm' : List Rq}
theorem Two.all (h : Two W w gc gm cl key last lastm rv op rvm opm) (hb : Below w.heap.size w w') : Two W w' gc gm cl key last lastm rv op rvm opm := ⟨h.call.all hb, h.ref.all hb, bt h.below hb, h.cge, h.mge⟩
theorem Two.toC (h : Two W w gc gm cl key last lastm rv op rvm opm) (hC : CallAt w' 89 32 gc cl key last' rv' op') (m : Mod (CallF gc rv) w w') (hrv : rv'.ownBlock = rv.ownBlock ∨ ∀ b, rv'.ownBlock = some b → w.heap.size ≤ b) : Two W w' gc gm cl key last' lastm rv' op' rvm opm :=
  ⟨hC, h.ref.mod m (fun b hb hc => h.call.apart h.ref (by decide) (by decide) (by decide) (by decide) b hc hb) (h.call.noB (by decide) (by decide)), m.below h.below h.below.size h.cge, by
    rintro b (hb | hb)
    · exact h.cge b (.inl hb)
    · rcases hrv with e | e
      · exact h.cge b (.inr (e ▸ hb))
      · exact Nat.le_trans h.below.size (e b hb), h.mge⟩
theorem Two.toM (h : Two W w gc gm cl key last lastm rv op rvm opm) (hC : CallAt w' 63 37 gm cl key lastm' rvm' opm') (m : Mod (CallF gm rvm) w w') (hrv : rvm'.ownBlock = rvm.ownBlock ∨ ∀ b, rvm'.ownBlock = some b → w.heap.size ≤ b) : Two W w' gc gm cl key last lastm' rv op rvm' opm' :=
  ⟨h.call.mod m (fun b hb hc => h.call.apart h.ref (by decide) (by decide) (by decide) (by decide) b hb hc) (h.ref.noB (by decide) (by decide)), hC, m.below h.below h.below.size h.mge, h.cge, by
    rintro b (hb | hb)
    · exact h.mge b (.inl hb)
    · rcases hrv with e | e
      · exact h.mge b (.inr (e ▸ hb))
      · exact Nat.le_trans h.below.size (e b hb)⟩
end
theorem request_agg' (cl num : Int) (A : Option Addr) (n c : Nat) (tag : Int) (w : World) : Calls Try.prog 16 #[.agg #[.int .i64 cl, .int .i64 num, .slice A n c, .int .u64 tag]] w fun e w' => e = .returned (.agg #[.int .i64 cl, .int .i64 num, .slice A n c, .int .u64 tag]) ∧ Below w.heap.size w w' :=
  request_any ⟨cl, num, A, n, c, [], tag⟩ w
theorem rows_cells {w : World} {base e n cap : Nat} {A : Option Addr} {l : List Rq} (h : w.ownsRow base e 4 (.slice A n cap) n (l.flatMap Rq.cells)) (hl : l.length = n) {k : Nat} (hk : k < l.length) : ∃ g1, A = some ⟨g1, 0, none⟩ ∧ g1 < w.heap.size ∧ w.cell? ⟨g1, k * 4, none⟩ = some (.int .i64 (l[k]).cl) ∧ w.cell? ⟨g1, k * 4 + 1, none⟩ = some (.int .i64 (l[k]).num) ∧ w.cell? ⟨g1, k * 4 + 2, none⟩ = some (.slice (l[k]).A (l[k]).n (l[k]).c) ∧ w.cell? ⟨g1, k * 4 + 3, none⟩ = some (.int .u64 (l[k]).tag) := by
  obtain ⟨g, rfl, -, hg⟩ := own_some h (by omega)
  have hc : ∀ i, i < 4 → w.cell? ⟨g, k * 4 + i, none⟩ = ((l[k]).cells)[i]? := fun i hi => by
    rw [h.cellAt (k * 4 + i) (by omega), flat_at Rq.cells 4 Rq.cells_length l k i hk hi]
  exact ⟨g, rfl, hg, hc 0 (by omega), hc 1 (by omega), hc 2 (by omega), hc 3 (by omega)⟩
def Cells4 (w : World) (g k : Nat) (r : Rq) : Prop := w.cell? ⟨g, k, none⟩ = some (.int .i64 r.cl) ∧ w.cell? ⟨g, k + 1, none⟩ = some (.int .i64 r.num) ∧ w.cell? ⟨g, k + 2, none⟩ = some (.slice r.A r.n r.c) ∧ w.cell? ⟨g, k + 3, none⟩ = some (.int .u64 r.tag)
theorem keepR {wz w' : World} {g1 g2 gm k : Nat} {r1 r2 : Rq} {v : Value} (h : Below wz.heap.size wz w') (hg1 : g1 < wz.heap.size) (hg2 : g2 < wz.heap.size) (hgm : gm < wz.heap.size) (hm : wz.cell? ⟨gm, 3, none⟩ = some v) (h1 : Cells4 wz g1 k r1) (h2 : Cells4 wz g2 k r2) :
    Below wz.heap.size wz w' ∧ w'.cell? ⟨gm, 3, none⟩ = some v ∧ w'.cell? ⟨g1, k, none⟩ = some (.int .i64 r1.cl) ∧ w'.cell? ⟨g1, k + 1, none⟩ = some (.int .i64 r1.num) ∧ w'.cell? ⟨g1, k + 2, none⟩ = some (.slice r1.A r1.n r1.c) ∧ w'.cell? ⟨g1, k + 3, none⟩ = some (.int .u64 r1.tag) ∧ w'.cell? ⟨g2, k, none⟩ = some (.int .i64 r2.cl) ∧ w'.cell? ⟨g2, k + 1, none⟩ = some (.int .i64 r2.num) ∧ w'.cell? ⟨g2, k + 2, none⟩ = some (.slice r2.A r2.n r2.c) ∧ w'.cell? ⟨g2, k + 3, none⟩ = some (.int .u64 r2.tag) :=
  ⟨h, (h.cell (p := ⟨gm, 3, none⟩) hgm).trans hm, (h.cell (p := ⟨g1, k, none⟩) hg1).trans h1.1, (h.cell (p := ⟨g1, k + 1, none⟩) hg1).trans h1.2.1, (h.cell (p := ⟨g1, k + 2, none⟩) hg1).trans h1.2.2.1, (h.cell (p := ⟨g1, k + 3, none⟩) hg1).trans h1.2.2.2, (h.cell (p := ⟨g2, k, none⟩) hg2).trans h2.1, (h.cell (p := ⟨g2, k + 1, none⟩) hg2).trans h2.2.1, (h.cell (p := ⟨g2, k + 2, none⟩) hg2).trans h2.2.2.1, (h.cell (p := ⟨g2, k + 3, none⟩) hg2).trans h2.2.2.2⟩
set_option maxRecDepth 100000 in
set_option maxHeartbeats 1000000 in
theorem opens_any (gc gm : Nat) (cl key last cl' key' last' : Int) (rv rvm : Value) (op opm : List Rq) (w : World) (HC : Hid (CallAt w 89 32 gc cl key last rv op)) (HM : Hid (CallAt w 63 37 gm cl' key' last' rvm opm)) (HS : Hid (op.map Rq.log = opm.map Rq.log)) (hop : op.length ≤ 1000) :
    Calls Try.prog 36 #[.pointer (some ⟨gc, 0, none⟩), .pointer (some ⟨gm, 0, none⟩)] w fun e w' => e = .returned (.bool true) ∧ Below w.heap.size w w' := by
  obtain ⟨n, hn⟩ : ∃ n, op.length = n := ⟨_, rfl⟩
  have HN := Lib.hid hn
  have HNM := Lib.hid (show opm.length = n by rw [← hn, ← List.length_map (f := Rq.log), ← List.length_map (f := Rq.log), HS.out])
  rw [hn] at hop
  clear hn
  obtain ⟨A2, c2, hrvm⟩ := own_parts HM.out.2.1
  rw [HNM.out] at hrvm
  subst hrvm
  go_enter Try.func36, Try.ntmps36
  go_wp2_with fail
  refine (again_any gc cl key last rv op _ HC (by rw [HN.out]; omega)).mono ?_
  rintro e w1 ⟨A1, c1, l, rfl, hll, hown, hok, hb⟩
  have HNL := Lib.hid (show l.length = n by rw [← HN.out, ← List.length_map (f := Rq.log), ← List.length_map (f := Rq.log), hll])
  have HLL := Lib.hid (hll.trans HS.out)
  rw [HN.out] at hown ⊢
  have HO := Lib.hid hown
  have HK := Lib.hid hok
  have hM1 := HM.out.all hb
  have HM1 := Lib.hid hM1
  have m3 := (blk4 hM1.1).2.2.2.1
  have HB := Lib.hid hb
  clear hll hown hok hM1 hb HM HC
  go_wp2
  go_loopw [6] (fun i wr => ∃ j : Nat, j ≤ n ∧ i = .int .i64 (j : Int) ∧ Below w1.heap.size w1 wr) (fun i _ => n - (intOf i).toNat)
  case atStart => exact ⟨0, by omega, rfl, Below.refl _ _⟩
  case round =>
    obtain ⟨j, hj, rfl, hb⟩ := hrel
    by_cases hlt : j < n
    · have hM := HM1.out.all hb
      have m3' := (blk4 hM.1).2.2.2.1
      have hgm : gm < wr.heap.size := hM.1.lt
      obtain ⟨g1, hA1, hg1, hc1⟩ := rows_cells (own_keep HO.out hb) HNL.out (k := j) (by rw [HNL.out]; exact hlt)
      have hO2 := hM.2.1
      rw [HNM.out] at hO2
      obtain ⟨g2, hA2, hg2, hc2⟩ := rows_cells hO2 HNM.out (k := j) (by rw [HNM.out]; exact hlt)
      subst hA1 hA2
      obtain ⟨r1, hr1⟩ : ∃ r1, l[j]'(by rw [HNL.out]; exact hlt) = r1 := ⟨_, rfl⟩
      obtain ⟨r2, hr2⟩ : ∃ r2, opm[j]'(by rw [HNM.out]; exact hlt) = r2 := ⟨_, rfl⟩
      rw [hr1] at hc1
      rw [hr2] at hc2
      have HOK1 := Lib.hid (show r1.ok wr from hr1 ▸ (HK.out _ (List.getElem_mem _)).all hb)
      have HOK2 := Lib.hid (show r2.ok wr from hr2 ▸ hM.2.2 _ (List.getElem_mem _))
      have HSM := Lib.hid (show sameR r1 r2 = true from (sameR_iff _ _).2 (by
        rw [← hr1, ← hr2]
        have e1 : (l.map Rq.log)[j]? = some (l[j]'(by rw [HNL.out]; exact hlt)).log := by simp [HNL.out, hlt]
        have e2 : (opm.map Rq.log)[j]? = some (opm[j]'(by rw [HNM.out]; exact hlt)).log := by simp [HNM.out, hlt]
        rw [HLL.out, e2] at e1
        injection e1 with e1
        exact e1.symm))
      have HC1 := Lib.hid (show Cells4 wr g1 (j * 4) r1 from hc1)
      have HC2 := Lib.hid (show Cells4 wr g2 (j * 4) r2 from hc2)
      have HM3 := Lib.hid m3'
      have hi0 : (0 : Int) ≤ (j : Int) := by omega
      have hi1 : (j : Int) < (n : Int) := by omega
      obtain ⟨q0, q1, q2, q3⟩ := hc1
      obtain ⟨s0, s1, s2, s3⟩ := hc2
      clear hM hr1 hr2 hO2
      go_wp2
      go_region_held3 (fun w' => Below wr.heap.size wr w' ∧ w'.cell? ⟨gm, 3, none⟩ = some (.slice (some ⟨g2, 0, none⟩) n c2) ∧ w'.cell? ⟨g1, j * 4, none⟩ = some (.int .i64 r1.cl) ∧ w'.cell? ⟨g1, j * 4 + 1, none⟩ = some (.int .i64 r1.num) ∧ w'.cell? ⟨g1, j * 4 + 2, none⟩ = some (.slice r1.A r1.n r1.c) ∧ w'.cell? ⟨g1, j * 4 + 3, none⟩ = some (.int .u64 r1.tag) ∧ w'.cell? ⟨g2, j * 4, none⟩ = some (.int .i64 r2.cl) ∧ w'.cell? ⟨g2, j * 4 + 1, none⟩ = some (.int .i64 r2.num) ∧ w'.cell? ⟨g2, j * 4 + 2, none⟩ = some (.slice r2.A r2.n r2.c) ∧ w'.cell? ⟨g2, j * 4 + 3, none⟩ = some (.int .u64 r2.tag))
        (first | with_reducible exact keepR (Below.refl _ wr).drew hg1 hg2 hgm HM3.out HC1.out HC2.out | with_reducible exact keepR hS2 hg1 hg2 hgm HM3.out HC1.out HC2.out)
        (first
          | (go_at_call 16; have hS1 := (‹Below wr.heap.size wr _ ∧ _›).1; ((with_reducible refine (request_agg' _ _ _ _ _ _ _).mono ?_); rintro e wt ⟨rfl, hb3⟩; have hS2 := bt hS1 hb3; clear hS1 hb3))
          | (go_at_call 17; have hS1 := (‹Below wr.heap.size wr _ ∧ _›).1; ((refine (sameRq_any r1 r2 _ (Lib.hid (HOK1.out.all hS1)) (Lib.hid (HOK2.out.all hS1))).mono ?_); rw [HSM.out]; rintro e wt ⟨rfl, hb3⟩; have hS2 := bt hS1 hb3; clear hS1 hb3)))
      have hbS := bt hb hS2
      clear hS2 q0 q1 q2 q3 s0 s1 s2 s3 hb
      go_wp2
      exact ⟨⟨j + 1, by omega, by go_num, hbS⟩, by simp [intOf]; omega⟩
    · obtain rfl : j = n := by omega
      go_wp2
      go_ret
      exact ⟨rfl, bt HB.out hb⟩
end Go.Proofs.Ytompkpleiichaaa
