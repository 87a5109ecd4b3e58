/- client: Sessions beside a Caller, and requests held in variables. -/
import Derived.Test.YtompkpleiichaaaCliAns
import Derived.Test.YtompkpleiichaaaCliAgain
namespace Go.Proofs.Ytompkpleiichaaa
open Go.RowKit

/-- Sessions, a Caller, requests in variables of their own; nothing older than W is changed. -/
structure Both (W w : World) (g mb : Nat) (cl : List Cl) (gc : Nat) (ccl key last : Int) (rv : Value) (op : List Rq) (hs : List (Nat × Rq)) : Prop where
  ses : SesAt w g mb cl
  call : CallAt w 89 32 gc ccl key last rv op
  ne : ∀ b, SesF g mb cl b → ¬ CallF gc rv b
  below : Below W.heap.size W w
  sge : ∀ b, SesF g mb cl b → W.heap.size ≤ b
  cge : ∀ b, CallF gc rv b → W.heap.size ≤ b
  held : ∀ p ∈ hs, Blk w p.1 32 #[.int .i64 p.2.cl, .int .i64 p.2.num, .slice p.2.A p.2.n p.2.c, .int .u64 p.2.tag] ∧ p.2.ok w ∧ ¬ SesF g mb cl p.1 ∧ ¬ CallF gc rv p.1
section
variable {W w w' : World} {g mb gc : Nat} {cl cl' : List Cl} {ccl key last last' : Int} {rv rv' : Value} {op op' : List Rq} {hs : List (Nat × Rq)}
theorem Both.all (h : Both W w g mb cl gc ccl key last rv op hs) (hb : Below w.heap.size w w') : Both W w' g mb cl gc ccl key last rv op hs :=
  ⟨h.ses.all hb, h.call.all hb, h.ne, bt h.below hb, h.sge, h.cge, fun p hp => ⟨(h.held p hp).1.all hb, (h.held p hp).2.1.all hb, (h.held p hp).2.2⟩⟩
theorem Both.toSes (h : Both W w g mb cl gc ccl key last rv op hs) (hS : SesAt w' g mb cl') (m : Mod (SesF g mb cl) w w') (hF : ∀ b, SesF g mb cl' b → SesF g mb cl b ∨ w.heap.size ≤ b) : Both W w' g mb cl' gc ccl key last rv op hs :=
  ⟨hS, h.call.mod m (fun b hb hs => h.ne b hs hb) h.ses.noB, fun b hb hc => (hF b hb).elim (fun hb => h.ne b hb hc) (fun hb => by have := h.call.ltF b hc; omega), m.below h.below h.below.size h.sge,
    fun b hb => (hF b hb).elim (h.sge b) (fun hb => Nat.le_trans h.below.size hb), h.cge,
    fun p hp => ⟨m.blk (h.held p hp).1 (h.held p hp).2.2.1, (h.held p hp).2.1.mod m h.ses.noB, fun hb => (hF _ hb).elim (h.held p hp).2.2.1 (fun hb => by have := (h.held p hp).1.lt; omega), (h.held p hp).2.2.2⟩⟩
theorem CallF.grow {F : Nat} (hrv : rv'.ownBlock = rv.ownBlock ∨ ∀ b, rv'.ownBlock = some b → F ≤ b) : ∀ b, CallF gc rv' b → CallF gc rv b ∨ F ≤ b := by
  rintro b (e | e)
  · exact .inl (.inl e)
  · rcases hrv with h | h
    · exact .inl (.inr (h ▸ e))
    · exact .inr (h b e)
theorem Both.toCall (h : Both W w g mb cl gc ccl key last rv op hs) (hC : CallAt w' 89 32 gc ccl key last' rv' op') (m : Mod (CallF gc rv) w w') (hrv : rv'.ownBlock = rv.ownBlock ∨ ∀ b, rv'.ownBlock = some b → w.heap.size ≤ b) :
    Both W w' g mb cl gc ccl key last' rv' op' hs :=
  have hF := CallF.grow (gc := gc) hrv
  have hnb := h.call.noB (by decide) (by decide)
  ⟨h.ses.mod m (fun b hb hc => h.ne b hb hc) hnb, hC, fun b hb hc => (hF b hc).elim (h.ne b hb) (fun hc => by have := h.ses.ltF b hb; omega), m.below h.below h.below.size h.cge, h.sge,
    fun b hb => (hF b hb).elim (h.cge b) (fun hb => Nat.le_trans h.below.size hb),
    fun p hp => ⟨m.blk (h.held p hp).1 (h.held p hp).2.2.2, (h.held p hp).2.1.mod m hnb, (h.held p hp).2.2.1, fun hb => (hF _ hb).elim (h.held p hp).2.2.2 (fun hb => by have := (h.held p hp).1.lt; omega)⟩⟩
theorem Both.hold (h : Both W w g mb cl gc ccl key last rv op hs) (r : Rq) (hr : r.ok w) : Both W (w.alloc (.cells #[.int .i64 r.cl, .int .i64 r.num, .slice r.A r.n r.c, .int .u64 r.tag] 32)) g mb cl gc ccl key last rv op ((w.heap.size, r) :: hs) := by
  have hb := (Below.refl w.heap.size w).alloc (Nat.le_refl _) (.cells #[.int .i64 r.cl, .int .i64 r.num, .slice r.A r.n r.c, .int .u64 r.tag] 32)
  obtain ⟨x1, x2, x3, x4, x5, x6, x7⟩ := h.all hb
  refine ⟨x1, x2, x3, x4, x5, x6, fun p hp => ?_⟩
  rw [List.mem_cons] at hp
  rcases hp with rfl | hp
  · exact ⟨Blk.new _ _ _, hr.all hb, fun hf => by have := h.ses.ltF _ hf; omega, fun hf => by have := h.call.ltF _ hf; omega⟩
  · exact x7 p hp
theorem Both.sent {bs : List UInt8} {e : Ending} (h : Both W w g mb cl gc ccl key last rv op hs) (hp : SendYes 89 32 gc ccl key last rv op bs w e w') :
    ∃ (r r2 : Rq) (rv' : Value), e = .returned (.tuple #[r2.val, .int .i64 0]) ∧ r2.ok w' ∧ r.log = (ccl, last + 1, bs, tagI key ccl (last + 1) (bodyI bs)) ∧ r2.log = r.log ∧ Both W w' g mb cl gc ccl key (last + 1) rv' (op ++ [r]) hs := by
  obtain ⟨r, r2, rv', he, h2, h3, h4, h5, h6, h7⟩ := hp
  exact ⟨r, r2, rv', he, h2, h3, h4, h.toCall h5 h6 h7⟩
end
theorem Bts.lit (w : World) (l : List UInt8) : Bts (w.alloc (.cells (l.map fun b => Value.int .u8 ((b.toNat : Nat) : Int)).toArray 5)) (some ⟨w.heap.size, 0, none⟩) l.length l.length l ∨ 9223372036854775807 < l.length := by
  by_cases h : l.length ≤ 9223372036854775807
  · refine .inl ⟨rfl, Nat.le_refl _, h, fun _ => ⟨w.heap.size, 0, _, _, rfl, World.alloc_heap_new w _, fun j hj => ?_⟩⟩
    simp [vByte, hj]
  · exact .inr (by omega)
end Go.Proofs.Ytompkpleiichaaa
