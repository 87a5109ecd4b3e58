/- client: Again. -/
import Derived.Test.YtompkpleiichaaaHCliSend

namespace Go.Proofs.Ytompkpleiichaaa
open Go.RowKit

/-- The cells of an open request. -/
theorem CallAt.row {w : World} {T E : TypeId} {g : Nat} {cl key last : Int} {rv : Value} {op : List Rq} (h : CallAt w T E g cl key last rv op) {k : Nat} (hk : k < op.length) : ∃ g1 cap, rv = .slice (some ⟨g1, 0, none⟩) op.length cap ∧
    w.cell? ⟨g1, k * 4, none⟩ = some (.int .i64 (op[k]).cl) ∧ w.cell? ⟨g1, k * 4 + 1, none⟩ = some (.int .i64 (op[k]).num) ∧ w.cell? ⟨g1, k * 4 + 2, none⟩ = some (.slice (op[k]).A (op[k]).n (op[k]).c) ∧ w.cell? ⟨g1, k * 4 + 3, none⟩ = some (.int .u64 (op[k]).tag) := by
  have ho := h.2.1
  rcases ho.2 with ⟨_, h0⟩ | ⟨g, cap, cur, hv, _⟩
  · omega
  · rw [hv] at ho
    have hat := flat_at Rq.cells 4 Rq.cells_length op k
    have hlt : ∀ i, i < 4 → k * 4 + i < op.length * 4 := fun i hi => by omega
    have hc : ∀ i, i < 4 → w.cell? ⟨g, k * 4 + i, none⟩ = (Rq.cells op[k])[i]? := fun i hi => (ho.cellAt (k * 4 + i) (hlt i hi)).trans (hat i hk hi)
    exact ⟨g, cap, hv, hc 0 (by omega), hc 1 (by omega), hc 2 (by omega), hc 3 (by omega)⟩
/-- The list that Again returns. -/
def AgainPost (op : List Rq) (w : World) (e : Ending) (w' : World) : Prop :=
  ∃ (A : Option Addr) (c : Nat) (l : List Rq), e = .returned (.slice A op.length c) ∧ l.map Rq.log = op.map Rq.log ∧ w'.ownsRow w.heap.size 32 4 (.slice A op.length c) op.length (l.flatMap Rq.cells) ∧ (∀ r ∈ l, r.ok w') ∧ Below w.heap.size w w'
set_option maxRecDepth 100000 in
set_option maxHeartbeats 1000000 in
theorem again_any (g : Nat) (cl key last : Int) (rv : Value) (op : List Rq) (w : World) (HC : Hid (CallAt w 89 32 g cl key last rv op)) (hop : op.length ≤ 1048576) :
    Calls Try.prog 37 #[.pointer (some ⟨g, 0, none⟩)] w (AgainPost op w) := by
  obtain ⟨A1, c1, rfl⟩ := own_parts HC.out.2.1
  have d3 := (blk4 HC.out.1).2.2.2.1
  go_enter Try.func37, Try.ntmps37
  go_wp2
  clear d3
  go_loopw [3, 11] (fun v i wr => ∃ (j : Nat) (l : List Rq), j ≤ op.length ∧ i = .int .i64 (j : Int) ∧ Hid (l.map Rq.log = (op.take j).map Rq.log) ∧ wr.ownsRow w.heap.size 32 4 v j (l.flatMap Rq.cells) ∧ Hid (∀ r ∈ l, r.ok wr) ∧ Below w.heap.size w wr) (fun _ i _ => op.length - (intOf i).toNat)
  case atStart => exact ⟨0, [], by omega, rfl, Lib.hid rfl, World.ownsRow_nil _ _ _ _, Lib.hid (by simp), Below.refl _ _⟩
  case round =>
    obtain ⟨j, l, hj, rfl, HLG, hown, HOK, hb⟩ := hrel
    by_cases hlt : j < op.length
    · have hCr := HC.out.all hb
      obtain ⟨g1, cap, hv, t0, t1, t2, t3⟩ := hCr.row hlt
      injection hv with hv1 _ hv3
      subst hv1 hv3
      have hrk := hCr.2.2 _ (List.getElem_mem hlt)
      have HTK := Lib.hid (show (op.take (j + 1)).map Rq.log = (op.take j).map Rq.log ++ [(op[j]).log] by rw [List.take_succ_eq_append_getElem hlt, List.map_append]; rfl)
      have hbs := hb.size
      have hi0 : (0 : Int) ≤ (j : Int) := by omega
      have hi1 : (j : Int) < (op.length : Int) := by omega
      generalize op[j] = r at *
      obtain ⟨rcl, rnum, rA, rn, rc, rbs, rtag⟩ := r
      dsimp only at t0 t1 t2 t3
      have hB2 := (Below.refl wr.heap.size wr).alloc (Nat.le_refl _) (.cells #[.int .i64 rcl, .int .i64 rnum, .slice rA rn rc, .int .u64 rtag] 32)
      have hrk2 := hrk.all hB2
      have HRK := Lib.hid hrk2
      have HB2 := Lib.hid hB2
      have HOW := Lib.hid hown
      clear hCr hrk hrk2 hB2 hown
      go_wp2_with fail
      refine (copyReq_any ⟨rcl, rnum, rA, rn, rc, rbs, rtag⟩ _ HRK.out).mono ?_
      rintro e w3 ⟨⟨cl2, num2, A2, n2, c2, bs2, tag2⟩, rfl, hr2, hl2, hb3⟩
      have hb4 := bt HB2.out hb3
      have HO4 := Lib.hid (own_keep HOW.out hb4)
      have hs4 := hb4.size
      have HB4 := Lib.hid (bt hb hb4)
      have HB34 := Lib.hid hb4
      clear hb3 hb4 t0 t1 t2 t3 HB2 HOW
      unfold Rq.val
      dsimp only
      go_wp2_with (at_builtin; refine wpList_append1 slT_req rfl rfl rfl w3.heap.size rfl (HO4.out.alloc _) #[.int .i64 cl2, .int .i64 num2, .slice A2 n2 c2, .int .u64 tag2] (Blk.new w3 _ _) rfl (by simp; exact ⟨rfl, rfl, rfl, rfl⟩) (by omega) (by decide) (by simp; omega) ?_; intro g5 cap5 w9 ho9 hg9 hat9)
      have hmod : Mod (fun b => w.heap.size ≤ b ∧ Ty w3 b 32) w3 w9 := Mod.then_grown ((Mod.refl _ w3).alloc _) hg9 (fun b e => .inl ⟨(HO4.out.lt b e).1, Ty.of_own HO4.out e⟩)
      have hnb : ∀ b, (w.heap.size ≤ b ∧ Ty w3 b 32) → ¬ Ty w3 b 5 := fun b h ht => absurd (Ty.unique h.2 ht) (by decide)
      refine ⟨⟨j + 1, l ++ [⟨cl2, num2, A2, n2, c2, bs2, tag2⟩], by omega, by go_num, Lib.hid ?_, ?_, Lib.hid ?_, hmod.below HB4.out (by omega) (fun b h => h.1)⟩, by simp [intOf]; omega⟩
      · rw [List.map_append, HLG.out, HTK.out, List.map_singleton, hl2]
      · rw [List.flatMap_append, List.flatMap_singleton]
        exact ho9
      · intro r hr
        rw [List.mem_append, List.mem_singleton] at hr
        rcases hr with hr | rfl
        · exact ((HOK.out r hr).all HB34.out).mod hmod hnb
        · exact hr2.mod hmod hnb
    · obtain rfl : j = op.length := by omega
      go_wp2
      go_ret
      obtain ⟨A', c', rfl⟩ := own_parts hown
      exact ⟨A', c', l, rfl, by rw [HLG.out, List.take_length], hown, HOK.out, hb⟩
end Go.Proofs.Ytompkpleiichaaa
