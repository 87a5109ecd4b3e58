/- client: a Caller of the package and one of the reference, side by side. -/
import Derived.Test.YtompkpleiichaaaHCliGot
import Derived.Test.YtompkpleiichaaaHCliRq
import Derived.Test.YtompkpleiichaaaHCliSend
import Derived.Test.YtompkpleiichaaaHCliRef
import Derived.Test.YtompkpleiichaaaHG6

namespace Go.Proofs.Ytompkpleiichaaa
open Go.RowKit

theorem CallAt.apart {w : World} {T E T' E' : TypeId} {g g' : Nat} {cl key last cl' key' last' : Int} {rv rv' : Value} {op op' : List Rq} (h : CallAt w T E g cl key last rv op) (h' : CallAt w T' E' g' cl' key' last' rv' op') (h1 : T ≠ T') (h2 : T ≠ E') (h3 : E ≠ T') (h4 : E ≠ E') : ∀ b, CallF g rv b → ¬ CallF g' rv' b := by
  rintro b (rfl | hb) (rfl | hb')
  · exact h1 (Ty.unique h.1.ty h'.1.ty)
  · exact h2 (Ty.unique h.1.ty (Ty.of_own h'.2.1 hb'))
  · exact h3 (Ty.unique (Ty.of_own h.2.1 hb) h'.1.ty)
  · exact h4 (Ty.unique (Ty.of_own h.2.1 hb) (Ty.of_own h'.2.1 hb'))
structure Two (W w : World) (gc gm : Nat) (cl key last lastm : Int) (rv : Value) (op : List Rq) (rvm : Value) (opm : List Rq) : Prop where
  call : CallAt w 89 32 gc cl key last rv op
  ref : CallAt w 63 37 gm cl key lastm rvm opm
  below : Below W.heap.size W w
  cge : ∀ b, CallF gc rv b → W.heap.size ≤ b
  mge : ∀ b, CallF gm rvm b → W.heap.size ≤ b
section
variable {W w w' : World} {gc gm : Nat} {cl key last lastm last' lastm' : Int} {rv rvm rv' rvm' : Value} {op opm op' opm' : List Rq}
theorem Two.all (h : Two W w gc gm cl key last lastm rv op rvm opm) (hb : Below w.heap.size w w') : Two W w' gc gm cl key last lastm rv op rvm opm := ⟨h.call.all hb, h.ref.all hb, bt h.below hb, h.cge, h.mge⟩
theorem Two.toC (h : Two W w gc gm cl key last lastm rv op rvm opm) (hC : CallAt w' 89 32 gc cl key last' rv' op') (m : Mod (CallF gc rv) w w') (hrv : rv'.ownBlock = rv.ownBlock ∨ ∀ b, rv'.ownBlock = some b → w.heap.size ≤ b) : Two W w' gc gm cl key last' lastm rv' op' rvm opm :=
  ⟨hC, h.ref.mod m (fun b hb hc => h.call.apart h.ref (by decide) (by decide) (by decide) (by decide) b hc hb) (h.call.noB (by decide) (by decide)), m.below h.below h.below.size h.cge, by
    rintro b (hb | hb)
    · exact h.cge b (.inl hb)
    · rcases hrv with e | e
      · exact h.cge b (.inr (e ▸ hb))
      · exact Nat.le_trans h.below.size (e b hb), h.mge⟩
theorem Two.toM (h : Two W w gc gm cl key last lastm rv op rvm opm) (hC : CallAt w' 63 37 gm cl key lastm' rvm' opm') (m : Mod (CallF gm rvm) w w') (hrv : rvm'.ownBlock = rvm.ownBlock ∨ ∀ b, rvm'.ownBlock = some b → w.heap.size ≤ b) : Two W w' gc gm cl key last lastm' rv op rvm' opm' :=
  ⟨h.call.mod m (fun b hb hc => h.call.apart h.ref (by decide) (by decide) (by decide) (by decide) b hb hc) (h.ref.noB (by decide) (by decide)), hC, m.below h.below h.below.size h.mge, h.cge, by
    rintro b (hb | hb)
    · exact h.mge b (.inl hb)
    · rcases hrv with e | e
      · exact h.mge b (.inr (e ▸ hb))
      · exact Nat.le_trans h.below.size (e b hb)⟩
end
theorem request_agg' (cl num : Int) (A : Option Addr) (n c : Nat) (tag : Int) (w : World) : Calls Try.prog 16 #[.agg #[.int .i64 cl, .int .i64 num, .slice A n c, .int .u64 tag]] w fun e w' => e = .returned (.agg #[.int .i64 cl, .int .i64 num, .slice A n c, .int .u64 tag]) ∧ Below w.heap.size w w' :=
  request_any ⟨cl, num, A, n, c, [], tag⟩ w
theorem rows_cells {w : World} {base e n cap : Nat} {A : Option Addr} {l : List Rq} (h : w.ownsRow base e 4 (.slice A n cap) n (l.flatMap Rq.cells)) (hl : l.length = n) {k : Nat} (hk : k < l.length) : ∃ g1, A = some ⟨g1, 0, none⟩ ∧ g1 < w.heap.size ∧ w.cell? ⟨g1, k * 4, none⟩ = some (.int .i64 (l[k]).cl) ∧ w.cell? ⟨g1, k * 4 + 1, none⟩ = some (.int .i64 (l[k]).num) ∧ w.cell? ⟨g1, k * 4 + 2, none⟩ = some (.slice (l[k]).A (l[k]).n (l[k]).c) ∧ w.cell? ⟨g1, k * 4 + 3, none⟩ = some (.int .u64 (l[k]).tag) := by
  obtain ⟨g, rfl, -, hg⟩ := own_some h (by omega)
  have hc : ∀ i, i < 4 → w.cell? ⟨g, k * 4 + i, none⟩ = ((l[k]).cells)[i]? := fun i hi => by
    rw [h.cellAt (k * 4 + i) (by omega), flat_at Rq.cells 4 Rq.cells_length l k i hk hi]
  exact ⟨g, rfl, hg, hc 0 (by omega), hc 1 (by omega), hc 2 (by omega), hc 3 (by omega)⟩
def Cells4 (w : World) (g k : Nat) (r : Rq) : Prop := w.cell? ⟨g, k, none⟩ = some (.int .i64 r.cl) ∧ w.cell? ⟨g, k + 1, none⟩ = some (.int .i64 r.num) ∧ w.cell? ⟨g, k + 2, none⟩ = some (.slice r.A r.n r.c) ∧ w.cell? ⟨g, k + 3, none⟩ = some (.int .u64 r.tag)
theorem keepR {wz w' : World} {g1 g2 gm k : Nat} {r1 r2 : Rq} {v : Value} (h : Below wz.heap.size wz w') (hg1 : g1 < wz.heap.size) (hg2 : g2 < wz.heap.size) (hgm : gm < wz.heap.size) (hm : wz.cell? ⟨gm, 3, none⟩ = some v) (h1 : Cells4 wz g1 k r1) (h2 : Cells4 wz g2 k r2) :
    Below wz.heap.size wz w' ∧ w'.cell? ⟨gm, 3, none⟩ = some v ∧ w'.cell? ⟨g1, k, none⟩ = some (.int .i64 r1.cl) ∧ w'.cell? ⟨g1, k + 1, none⟩ = some (.int .i64 r1.num) ∧ w'.cell? ⟨g1, k + 2, none⟩ = some (.slice r1.A r1.n r1.c) ∧ w'.cell? ⟨g1, k + 3, none⟩ = some (.int .u64 r1.tag) ∧ w'.cell? ⟨g2, k, none⟩ = some (.int .i64 r2.cl) ∧ w'.cell? ⟨g2, k + 1, none⟩ = some (.int .i64 r2.num) ∧ w'.cell? ⟨g2, k + 2, none⟩ = some (.slice r2.A r2.n r2.c) ∧ w'.cell? ⟨g2, k + 3, none⟩ = some (.int .u64 r2.tag) :=
  ⟨h, (h.cell (p := ⟨gm, 3, none⟩) hgm).trans hm, (h.cell (p := ⟨g1, k, none⟩) hg1).trans h1.1, (h.cell (p := ⟨g1, k + 1, none⟩) hg1).trans h1.2.1, (h.cell (p := ⟨g1, k + 2, none⟩) hg1).trans h1.2.2.1, (h.cell (p := ⟨g1, k + 3, none⟩) hg1).trans h1.2.2.2, (h.cell (p := ⟨g2, k, none⟩) hg2).trans h2.1, (h.cell (p := ⟨g2, k + 1, none⟩) hg2).trans h2.2.1, (h.cell (p := ⟨g2, k + 2, none⟩) hg2).trans h2.2.2.1, (h.cell (p := ⟨g2, k + 3, none⟩) hg2).trans h2.2.2.2⟩
set_option maxRecDepth 100000 in
set_option maxHeartbeats 1000000 in
theorem opens_any (gc gm : Nat) (cl key last cl' key' last' : Int) (rv rvm : Value) (op opm : List Rq) (w : World) (HC : Hid (CallAt w 89 32 gc cl key last rv op)) (HM : Hid (CallAt w 63 37 gm cl' key' last' rvm opm)) (HS : Hid (op.map Rq.log = opm.map Rq.log)) (hop : op.length ≤ 1000) :
    Calls Try.prog 36 #[.pointer (some ⟨gc, 0, none⟩), .pointer (some ⟨gm, 0, none⟩)] w fun e w' => e = .returned (.bool true) ∧ Below w.heap.size w w' := by
  obtain ⟨n, hn⟩ : ∃ n, op.length = n := ⟨_, rfl⟩
  have HN := Lib.hid hn
  have HNM := Lib.hid (show opm.length = n by rw [← hn, ← List.length_map (f := Rq.log), ← List.length_map (f := Rq.log), HS.out])
  rw [hn] at hop
  clear hn
  obtain ⟨A2, c2, hrvm⟩ := own_parts HM.out.2.1
  rw [HNM.out] at hrvm
  subst hrvm
  go_enter Try.func36, Try.ntmps36
  go_wp2_with fail
  refine (again_any gc cl key last rv op _ HC (by rw [HN.out]; omega)).mono ?_
  rintro e w1 ⟨A1, c1, l, rfl, hll, hown, hok, hb⟩
  have HNL := Lib.hid (show l.length = n by rw [← HN.out, ← List.length_map (f := Rq.log), ← List.length_map (f := Rq.log), hll])
  have HLL := Lib.hid (hll.trans HS.out)
  rw [HN.out] at hown ⊢
  have HO := Lib.hid hown
  have HK := Lib.hid hok
  have hM1 := HM.out.all hb
  have HM1 := Lib.hid hM1
  have m3 := (blk4 hM1.1).2.2.2.1
  have HB := Lib.hid hb
  clear hll hown hok hM1 hb HM HC
  go_wp2
  go_loopw [6] (fun i wr => ∃ j : Nat, j ≤ n ∧ i = .int .i64 (j : Int) ∧ Below w1.heap.size w1 wr) (fun i _ => n - (intOf i).toNat)
  case atStart => exact ⟨0, by omega, rfl, Below.refl _ _⟩
  case round =>
    obtain ⟨j, hj, rfl, hb⟩ := hrel
    by_cases hlt : j < n
    · have hM := HM1.out.all hb
      have m3' := (blk4 hM.1).2.2.2.1
      have hgm : gm < wr.heap.size := hM.1.lt
      obtain ⟨g1, hA1, hg1, hc1⟩ := rows_cells (own_keep HO.out hb) HNL.out (k := j) (by rw [HNL.out]; exact hlt)
      have hO2 := hM.2.1
      rw [HNM.out] at hO2
      obtain ⟨g2, hA2, hg2, hc2⟩ := rows_cells hO2 HNM.out (k := j) (by rw [HNM.out]; exact hlt)
      subst hA1 hA2
      obtain ⟨r1, hr1⟩ : ∃ r1, l[j]'(by rw [HNL.out]; exact hlt) = r1 := ⟨_, rfl⟩
      obtain ⟨r2, hr2⟩ : ∃ r2, opm[j]'(by rw [HNM.out]; exact hlt) = r2 := ⟨_, rfl⟩
      rw [hr1] at hc1
      rw [hr2] at hc2
      have HOK1 := Lib.hid (show r1.ok wr from hr1 ▸ (HK.out _ (List.getElem_mem _)).all hb)
      have HOK2 := Lib.hid (show r2.ok wr from hr2 ▸ hM.2.2 _ (List.getElem_mem _))
      have HSM := Lib.hid (show sameR r1 r2 = true from (sameR_iff _ _).2 (by
        rw [← hr1, ← hr2]
        have e1 : (l.map Rq.log)[j]? = some (l[j]'(by rw [HNL.out]; exact hlt)).log := by simp [HNL.out, hlt]
        have e2 : (opm.map Rq.log)[j]? = some (opm[j]'(by rw [HNM.out]; exact hlt)).log := by simp [HNM.out, hlt]
        rw [HLL.out, e2] at e1
        injection e1 with e1
        exact e1.symm))
      have HC1 := Lib.hid (show Cells4 wr g1 (j * 4) r1 from hc1)
      have HC2 := Lib.hid (show Cells4 wr g2 (j * 4) r2 from hc2)
      have HM3 := Lib.hid m3'
      have hi0 : (0 : Int) ≤ (j : Int) := by omega
      have hi1 : (j : Int) < (n : Int) := by omega
      obtain ⟨q0, q1, q2, q3⟩ := hc1
      obtain ⟨s0, s1, s2, s3⟩ := hc2
      clear hM hr1 hr2 hO2
      go_wp2
      go_region_held3 (fun w' => Below wr.heap.size wr w' ∧ w'.cell? ⟨gm, 3, none⟩ = some (.slice (some ⟨g2, 0, none⟩) n c2) ∧ w'.cell? ⟨g1, j * 4, none⟩ = some (.int .i64 r1.cl) ∧ w'.cell? ⟨g1, j * 4 + 1, none⟩ = some (.int .i64 r1.num) ∧ w'.cell? ⟨g1, j * 4 + 2, none⟩ = some (.slice r1.A r1.n r1.c) ∧ w'.cell? ⟨g1, j * 4 + 3, none⟩ = some (.int .u64 r1.tag) ∧ w'.cell? ⟨g2, j * 4, none⟩ = some (.int .i64 r2.cl) ∧ w'.cell? ⟨g2, j * 4 + 1, none⟩ = some (.int .i64 r2.num) ∧ w'.cell? ⟨g2, j * 4 + 2, none⟩ = some (.slice r2.A r2.n r2.c) ∧ w'.cell? ⟨g2, j * 4 + 3, none⟩ = some (.int .u64 r2.tag))
        (first | with_reducible exact keepR (Below.refl _ wr).drew hg1 hg2 hgm HM3.out HC1.out HC2.out | with_reducible exact keepR hS2 hg1 hg2 hgm HM3.out HC1.out HC2.out)
        (first
          | (go_at_call 16; have hS1 := (‹Below wr.heap.size wr _ ∧ _›).1; ((with_reducible refine (request_agg' _ _ _ _ _ _ _).mono ?_); rintro e wt ⟨rfl, hb3⟩; have hS2 := bt hS1 hb3; clear hS1 hb3))
          | (go_at_call 17; have hS1 := (‹Below wr.heap.size wr _ ∧ _›).1; ((refine (sameRq_any r1 r2 _ (Lib.hid (HOK1.out.all hS1)) (Lib.hid (HOK2.out.all hS1))).mono ?_); rw [HSM.out]; rintro e wt ⟨rfl, hb3⟩; have hS2 := bt hS1 hb3; clear hS1 hb3)))
      have hbS := bt hb hS2
      clear hS2 q0 q1 q2 q3 s0 s1 s2 s3 hb
      go_wp2
      exact ⟨⟨j + 1, by omega, by go_num, hbS⟩, by simp [intOf]; omega⟩
    · obtain rfl : j = n := by omega
      go_wp2
      go_ret
      exact ⟨rfl, bt HB.out hb⟩
end Go.Proofs.Ytompkpleiichaaa

/- client: Send of the package and of the reference, told alike. -/
namespace Go.Proofs.Ytompkpleiichaaa
open Go.RowKit

def sendErr (k n : Nat) : Int := if 65536 < n ∨ 16 ≤ k then 4 else 0
def sendLog (cl key last : Int) (k : Nat) (bs : List UInt8) : Int × Int × List UInt8 × Int := if 65536 < bs.length ∨ 16 ≤ k then (0, 0, [], 0) else (cl, last + 1, bs, tagI key cl (last + 1) (bodyI bs))
def sendOps (cl key last : Int) (L : List (Int × Int × List UInt8 × Int)) (bs : List UInt8) : List (Int × Int × List UInt8 × Int) := if 65536 < bs.length ∨ 16 ≤ L.length then L else L ++ [sendLog cl key last L.length bs]
def sendLast (last : Int) (k n : Nat) : Int := if 65536 < n ∨ 16 ≤ k then last else last + 1
def SendPost (T E : TypeId) (g : Nat) (cl key last : Int) (rv : Value) (op : List Rq) (bs : List UInt8) (w : World) (e : Ending) (w' : World) : Prop :=
  ∃ (r2 : Rq) (rv' : Value) (op' : List Rq), e = .returned (.tuple #[.agg #[.int .i64 r2.cl, .int .i64 r2.num, .slice r2.A r2.n r2.c, .int .u64 r2.tag], .int .i64 (sendErr op.length bs.length)]) ∧ r2.ok w' ∧ r2.log = sendLog cl key last op.length bs ∧ op'.map Rq.log = sendOps cl key last (op.map Rq.log) bs ∧
    CallAt w' T E g cl key (sendLast last op.length bs.length) rv' op' ∧ Mod (CallF g rv) w w' ∧ (rv'.ownBlock = rv.ownBlock ∨ ∀ b, rv'.ownBlock = some b → w.heap.size ≤ b)
theorem SendPost.no {T E : TypeId} {g : Nat} {cl key last : Int} {rv : Value} {op : List Rq} {bs : List UInt8} {w w' : World} {e : Ending} (h : CallAt w T E g cl key last rv op) (hno : 65536 < bs.length ∨ 16 ≤ op.length) (hp : SendNo w e w') : SendPost T E g cl key last rv op bs w e w' := by
  obtain ⟨rfl, hb⟩ := hp
  refine ⟨⟨0, 0, none, 0, 0, [], 0⟩, rv, op, ?_, ⟨Bts.nil _, by decide⟩, ?_, ?_, ?_, Mod.of_below _ hb, .inl rfl⟩
  · unfold sendErr
    rw [if_pos hno]
  · unfold sendLog
    rw [if_pos hno]
    rfl
  · unfold sendOps
    rw [List.length_map, if_pos hno]
  · unfold sendLast
    rw [if_pos hno]
    exact h.all hb
theorem SendPost.yes {T E : TypeId} {g : Nat} {cl key last : Int} {rv : Value} {op : List Rq} {bs : List UInt8} {w w' : World} {e : Ending} (hno : ¬ (65536 < bs.length ∨ 16 ≤ op.length)) (hp : SendYes T E g cl key last rv op bs w e w') : SendPost T E g cl key last rv op bs w e w' := by
  obtain ⟨r, r2, rv', rfl, hok, hr, hr2, hC, hm, hrv⟩ := hp
  refine ⟨r2, rv', op ++ [r], ?_, hok, ?_, ?_, ?_, hm, hrv⟩
  · unfold sendErr
    rw [if_neg hno]
    rfl
  · unfold sendLog
    rw [if_neg hno, hr2, hr]
  · unfold sendOps sendLog
    rw [List.length_map, if_neg hno, if_neg hno, List.map_append, List.map_cons, List.map_nil, hr]
  · unfold sendLast
    rw [if_neg hno]
    exact hC
theorem sendP_any (g : Nat) (cl key last : Int) (rv : Value) (op : List Rq) (A : Option Addr) (n c : Nat) (bs : List UInt8) (w : World) (HC : Hid (CallAt w 89 32 g cl key last rv op)) (h0 : 0 ≤ last) (h1 : last ≤ 4611686018427387904) (HB : Hid (Bts w A n c bs)) :
    Calls Try.prog 12 #[.pointer (some ⟨g, 0, none⟩), .slice A n c] w (SendPost 89 32 g cl key last rv op bs w) := by
  have hl := HB.out.1
  by_cases hno : 65536 < bs.length ∨ 16 ≤ op.length
  · exact (send_no g cl key last rv op A n c w HC (by omega)).mono fun e w' hp => SendPost.no HC.out hno hp
  · exact (send_yes g cl key last rv op A n c bs w HC h0 h1 (by omega) (by omega) HB).mono fun e w' hp => SendPost.yes hno hp
theorem sendR_any (g : Nat) (cl key last : Int) (rv : Value) (op : List Rq) (A : Option Addr) (n c : Nat) (bs : List UInt8) (w : World) (HC : Hid (CallAt w 63 37 g cl key last rv op)) (h0 : 0 ≤ last) (h1 : last ≤ 4611686018427387904) (HB : Hid (Bts w A n c bs)) :
    Calls Try.prog 33 #[.pointer (some ⟨g, 0, none⟩), .slice A n c] w (SendPost 63 37 g cl key last rv op bs w) := by
  have hl := HB.out.1
  by_cases hno : 65536 < bs.length ∨ 16 ≤ op.length
  · exact (rsend_no g cl key last rv op A n c w HC (by omega)).mono fun e w' hp => SendPost.no HC.out hno hp
  · exact (rsend_yes g cl key last rv op A n c bs w HC h0 h1 (by omega) (by omega) HB).mono fun e w' hp => SendPost.yes hno hp
theorem sendOps_len (cl key last : Int) (L : List (Int × Int × List UInt8 × Int)) (bs : List UInt8) (h : L.length ≤ 16) : (sendOps cl key last L bs).length ≤ 16 := by
  unfold sendOps
  split
  · exact h
  · rw [List.length_append]
    simp
    omega
theorem gotNew_len (last : Int) (L : List (Int × Int × List UInt8 × Int)) (num : Int) (n : Nat) (h : L.length ≤ 16) : (gotNew last L num n).length ≤ 16 := by
  unfold gotNew
  split
  · exact Nat.le_trans (List.length_eraseP_le ..) h
  · exact h
theorem Two.new {W w : World} {g : Nat} {cl key : Int} (hC : CallAt w 89 32 g cl key 0 (.slice none 0 0) []) (hb : Below W.heap.size W w) (hg : W.heap.size ≤ g) :
    Two W (w.alloc (.cells #[.int .i64 cl, .int .u64 key, .int .i64 0, .slice none 0 0] 63)) g w.heap.size cl key 0 0 (.slice none 0 0) [] (.slice none 0 0) [] := by
  have h1 := (Below.refl w.heap.size w).alloc (Nat.le_refl _) (.cells #[.int .i64 cl, .int .u64 key, .int .i64 0, .slice none 0 0] 63)
  have hs := hb.size
  refine ⟨hC.all h1, ⟨Blk.new _ _ _, World.ownsRow_nil _ _ _ _, by simp⟩, bt hb h1, ?_, ?_⟩
  · rintro b (e | e)
    · omega
    · simp [Value.ownBlock] at e
  · rintro b (e | e)
    · omega
    · simp [Value.ownBlock] at e
end Go.Proofs.Ytompkpleiichaaa

/- A row of cells of one element's type that is only read (nil let in). -/
namespace Go.Proofs.Ytompkpleiichaaa
open Go.RowKit

def RowT (w : World) (t : TypeId) (A : Option Addr) (xs : List Value) : Prop := 0 < xs.length → ∃ b off cs fr, A = some ⟨b, off, none⟩ ∧ w.heap[b]? = some (.cells cs t fr) ∧ ∀ j, j < xs.length → cs[off + j]? = xs[j]?
section
variable {w w' : World} {t : TypeId} {A : Option Addr} {xs : List Value} {F : Nat → Prop}
theorem RowT.nil (w : World) (t : TypeId) (A : Option Addr) : RowT w t A [] := fun h => absurd h (by simp)
theorem RowT.mod (h : RowT w t A xs) (m : Mod F w w') (hF : ∀ b, F b → ¬ Ty w b t) : RowT w' t A xs := by
  intro hn
  obtain ⟨b, off, cs, fr, e, hh, hc⟩ := h hn
  exact ⟨b, off, cs, fr, e, (m.block b (Array.getElem?_eq_some_iff.1 hh).1 (fun hf => hF b hf ⟨_, _, hh⟩)).trans hh, hc⟩
theorem RowT.all (h : RowT w t A xs) (hb : Below w.heap.size w w') : RowT w' t A xs := h.mod (F := fun _ => False) (Mod.of_below _ hb) (fun _ hf => hf.elim)
theorem RowT.cells (h : RowT w t A xs) (h0 : 0 < xs.length) : ∃ b off, A = some ⟨b, off, none⟩ ∧ b < w.heap.size ∧ Ty w b t ∧ ∀ j, j < xs.length → w.cell? ⟨b, off + j, none⟩ = xs[j]? := by
  obtain ⟨b, off, cs, fr, e, hh, hc⟩ := h h0
  exact ⟨b, off, e, (Array.getElem?_eq_some_iff.1 hh).1, ⟨_, _, hh⟩, fun j hj => by rw [← hc j hj]; simp [World.cell?, hh]⟩
theorem RowT.of_own {base size n m c : Nat} (h : w.ownsRow base t size (.slice A m c) n xs) : RowT w t A xs := by
  intro h0
  have hl := h.1
  rcases h.2 with ⟨h2, hn⟩ | ⟨g, cap, cur, h2, _, hh, hnc, hm, hcs, htk⟩
  · subst hn
    rw [Nat.zero_mul] at hl
    omega
  · injection h2 with h2 _ _
    subst h2
    refine ⟨g, 0, cur, _, rfl, hh, fun j hj => ?_⟩
    rw [Nat.zero_add, ← htk, List.getElem?_take, if_pos (by omega)]
    simp
theorem RowT.drop (h : RowT w t A xs) (k : Nat) (h0 : k < xs.length) : ∃ b off, A = some ⟨b, off, none⟩ ∧ RowT w t (some ⟨b, off + k, none⟩) (xs.drop k) := by
  obtain ⟨b, off, cs, fr, e, hh, hc⟩ := h (by omega)
  refine ⟨b, off, e, fun hn => ⟨b, off + k, cs, fr, rfl, hh, fun j hj => ?_⟩⟩
  rw [List.length_drop] at hj
  rw [List.getElem?_drop, ← hc (k + j) (by omega), Nat.add_assoc]
theorem RowT.take (h : RowT w t A xs) (k : Nat) : RowT w t A (xs.take k) := by
  intro hn
  rw [List.length_take] at hn
  obtain ⟨b, off, cs, fr, e, hh, hc⟩ := h (by omega)
  refine ⟨b, off, cs, fr, e, hh, fun j hj => ?_⟩
  rw [List.length_take] at hj
  rw [hc j (by omega), List.getElem?_take, if_pos (by omega)]
end
theorem flatT_length {α : Type} (f : α → List Value) (size : Nat) (hf : ∀ x, (f x).length = size) (l : List α) : (l.flatMap f).length = l.length * size := by
  induction l with
  | nil => simp
  | cons x l ih => rw [List.flatMap_cons, List.length_append, hf, ih, List.length_cons, Nat.succ_mul, Nat.add_comm]
theorem flatT_at {α : Type} (f : α → List Value) (size : Nat) (hf : ∀ x, (f x).length = size) (l : List α) : ∀ (k i : Nat) (hk : k < l.length) (_ : i < size), (l.flatMap f)[k * size + i]? = (f l[k])[i]? := by
  induction l with
  | nil => intro k i hk; simp at hk
  | cons x l ih =>
    intro k i hk hi
    rw [List.flatMap_cons]
    rcases k with _ | k
    · rw [Nat.zero_mul, Nat.zero_add, List.getElem?_append_left (by rw [hf]; exact hi)]
      rfl
    · rw [List.getElem?_append_right (by rw [hf, Nat.succ_mul]; omega), hf, show (k + 1) * size + i - size = k * size + i by rw [Nat.succ_mul]; omega]
      exact ih k i (by simpa using hk) hi
theorem flatT_set {α : Type} (f : α → List Value) (size : Nat) (hf : ∀ x, (f x).length = size) (x : α) (i : Nat) (hi : i < size) (v : Value) (l : List α) : ∀ (k : Nat) (hk : k < l.length) (_ : f x = (f l[k]).set i v), (l.flatMap f).set (k * size + i) v = (l.set k x).flatMap f := by
  induction l with
  | nil => intro k hk; simp at hk
  | cons y l ih =>
    intro k hk hx
    rw [List.flatMap_cons]
    rcases k with _ | k
    · rw [Nat.zero_mul, Nat.zero_add, List.set_append_left _ _ (by rw [hf]; exact hi), List.set_cons_zero, List.flatMap_cons, hx]
      rfl
    · rw [List.set_append_right _ _ (by rw [hf, Nat.succ_mul]; omega), hf, show (k + 1) * size + i - size = k * size + i by rw [Nat.succ_mul]; omega, List.set_cons_succ, List.flatMap_cons, ih k (by simpa using hk) hx]
/-- The cells of one element of a row of structs. -/
theorem RowT.at_ {α : Type} {w : World} {t : TypeId} {A : Option Addr} (f : α → List Value) (size : Nat) (hf : ∀ x, (f x).length = size) {l : List α} (h : RowT w t A (l.flatMap f)) (hs : 0 < size) {k : Nat} (hk : k < l.length) : ∃ b off, A = some ⟨b, off, none⟩ ∧ b < w.heap.size ∧ Ty w b t ∧ ∀ i, i < size → w.cell? ⟨b, off + (k * size + i), none⟩ = (f l[k])[i]? := by
  have hl := flatT_length f size hf l
  have hk1 : (k + 1) * size ≤ l.length * size := Nat.mul_le_mul_right _ hk
  rw [Nat.succ_mul] at hk1
  obtain ⟨b, off, e, hb, ht, hc⟩ := h.cells (by omega)
  exact ⟨b, off, e, hb, ht, fun i hi => by rw [hc _ (by omega), flatT_at f size hf l k i hk hi]⟩
end Go.Proofs.Ytompkpleiichaaa
