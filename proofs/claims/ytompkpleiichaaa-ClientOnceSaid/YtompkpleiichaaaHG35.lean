/- client: Got of the package. -/
import Derived.Test.YtompkpleiichaaaHCliDel2
import Derived.Test.YtompkpleiichaaaHG20
import Derived.Test.YtompkpleiichaaaHG22
import Derived.Test.YtompkpleiichaaaHG23
import Derived.Test.YtompkpleiichaaaHG2

namespace Go.Proofs.Ytompkpleiichaaa
open Go.RowKit

theorem CallAt.deleted {w w1 : World} {T E : TypeId} {g g1 cap i : Nat} {cl key last : Int} {op : List Rq} (h : CallAt w T E g cl key last (.slice (some ⟨g1, 0, none⟩) op.length cap) op) (hTE : T ≠ E) (hT : T ≠ 5) (hE : E ≠ 5) (hi : i < op.length)
    (ho : w1.ownsRow 0 E 4 (.slice (some ⟨g1, 0, none⟩) (op.length - 1) cap) (op.length - 1) ((op.take i ++ op.drop (i + 1)).flatMap Rq.cells)) (hg : w.grownBy w1 (some g1)) :
    w1.cell? ⟨g, 3, none⟩ = some (.slice (some ⟨g1, 0, none⟩) op.length cap) ∧ w1.frozen? ⟨g, 3, none⟩ = false ∧
    CallAt (w1.setCell ⟨g, 3, none⟩ (.slice (some ⟨g1, 0, none⟩) (op.length - 1) cap)) T E g cl key last (.slice (some ⟨g1, 0, none⟩) (op.length - 1) cap) (op.take i ++ op.drop (i + 1)) ∧ Mod (CallF g (.slice (some ⟨g1, 0, none⟩) op.length cap)) w (w1.setCell ⟨g, 3, none⟩ (.slice (some ⟨g1, 0, none⟩) (op.length - 1) cap)) := by
  have hne : g1 ≠ g := h.row_ne hTE rfl
  have hb1 : Blk w1 g T #[.int .i64 cl, .int .u64 key, .int .i64 last, .slice (some ⟨g1, 0, none⟩) op.length cap] := (hg.block g h.1.lt (by simp; exact fun e => hne e.symm)).trans h.1
  have m1 : Mod (fun b => b = g1) w w1 := Mod.of_grown hg (fun b e => by injection e with e; exact .inl e.symm)
  have hTg1 : Ty w g1 E := Ty.of_own h.2.1 rfl
  have m2 : Mod (fun b => b = g) w1 (w1.setCell ⟨g, 3, none⟩ (.slice (some ⟨g1, 0, none⟩) (op.length - 1) cap)) := (Mod.refl (fun b => b = g) w1).set (p := ⟨g, 3, none⟩) (.inl rfl) _
  have hl0 : (op.take i ++ op.drop (i + 1)).length = op.length - 1 := by rw [List.length_append, List.length_take, List.length_drop]; omega
  refine ⟨(blk4 hb1).2.2.2.1, (blk4 hb1).2.2.2.2.2.2.2, ⟨?_, ?_, ?_⟩, ?_⟩
  · have := Blk.set_ hb1 3 (.slice (some ⟨g1, 0, none⟩) (op.length - 1) cap)
    simpa using this
  · rw [hl0]
    exact m2.own ho (fun b hb e => hne (by injection hb with hb; exact hb.trans e))
  · intro r hr
    have hm : r ∈ op := by
      rcases List.mem_append.1 hr with h | h
      · exact List.mem_of_mem_take h
      · exact List.mem_of_mem_drop h
    refine ((h.2.2 r hm).mod m1 ?_).mod m2 ?_
    · rintro b rfl ht
      exact hE (Ty.unique hTg1 ht)
    · rintro b rfl ht
      exact hT (Ty.unique hb1.ty ht)
  · exact (m1.mono (fun b e => .inl (.inr (by rw [e]; rfl)))).trans m2 (fun b e => .inl (.inl e))
set_option maxRecDepth 100000 in
set_option maxHeartbeats 1000000 in
theorem gotP_any (g : Nat) (cl key last : Int) (rv : Value) (op : List Rq) (num : Int) (A : Option Addr) (n c : Nat) (w : World) (HC : Hid (CallAt w 89 32 g cl key last rv op)) (hop : op.length ≤ 1000000) (hn : n ≤ 1000000) :
    Calls Try.prog 34 #[.pointer (some ⟨g, 0, none⟩), .int .i64 num, .slice A n c] w (GotPost 89 32 g cl key last rv op num n w) := by
  obtain ⟨A1, c1, rfl⟩ := own_parts HC.out.2.1
  have hb1 := (Below.refl w.heap.size w).alloc (Nat.le_refl _) (.cells #[.int .i64 num] 3)
  have hC1 := HC.out.all hb1
  have hbn := Blk.new w 3 #[.int .i64 num]
  obtain ⟨d0, d1, d2, d3, e0, e1, e2, e3⟩ := blk4 hC1.1
  by_cases h1 : num < 1
  · go_enter Try.func34, Try.ntmps34
    go_wp2
    go_quiet (fail)
    go_wp2
    go_ret
    exact GotPost.same (hC1.all ⟨rfl, rfl, rfl, Nat.le_refl _, fun _ _ => rfl⟩) (below_drewN hb1 _) (by unfold gotErr; rw [if_pos (.inl h1)]) (by decide)
  by_cases h2 : last < num
  · go_enter Try.func34, Try.ntmps34
    go_wp2
    go_quiet (fail)
    go_wp2
    go_ret
    exact GotPost.same (hC1.all ⟨rfl, rfl, rfl, Nat.le_refl _, fun _ _ => rfl⟩) (below_drewN hb1 _) (by unfold gotErr; rw [if_pos (.inr h2)]) (by decide)
  have HE0 := Lib.hid (show gotErr last (op.map Rq.log) num n = if hasN (op.map Rq.log) num = false then 8 else if 65536 < n then 4 else 0 by unfold gotErr; rw [if_neg (by omega)])
  go_enter Try.func34, Try.ntmps34
  go_wp2
  go_quiet (fail)
  have hb2 := below_drewN hb1 nq
  have hC2 : CallAt ((w.alloc (.cells #[.int .i64 num] 3)).drewN nq) 89 32 g cl key last (.slice A1 op.length c1) op := hC1.all ⟨rfl, rfl, rfl, Nat.le_refl _, fun _ _ => rfl⟩
  have hbn2 : Blk ((w.alloc (.cells #[.int .i64 num] 3)).drewN nq) w.heap.size 3 #[.int .i64 num] := hbn
  generalize (w.alloc (.cells #[.int .i64 num] 3)).drewN nq = w2 at *
  clear hb1 hC1 hbn d0 d1 d2 d3 e0 e1 e2 e3
  obtain ⟨d0, d1, d2, d3, e0, e1, e2, e3⟩ := blk4 hC2.1
  have hcn : w2.cell? ⟨w.heap.size, 0, none⟩ = some (.int .i64 num) := hbn2.cell 0
  obtain ⟨gn, hgn⟩ : ∃ gn, w.heap.size = gn := ⟨_, rfl⟩
  rw [hgn] at hcn hbn2 ⊢
  clear hgn
  go_wp2_with fail
  refine (indexF_any _ g gn cl key last A1 c1 op num _ (Lib.hid hC2) hop hcn).mono ?_
  rintro e w3 ⟨rfl, hb3⟩
  have hC3 := hC2.all hb3
  have hb03 := hb2.trans (hb3.mono hb2.size)
  clear d0 d1 d2 d3 e0 e1 e2 e3 hcn hbn2 hC2 hb2 hb3
  rcases hf : op.findIdx? (fun r => r.num == num) with _ | i
  · have hix : idxN op num = -1 := by unfold idxN; rw [hf]
    have hno : hasN (op.map Rq.log) num = false := hasN_none (fun t ht => by
      rw [List.findIdx?_eq_none_iff] at hf
      simpa using hf _ (List.getElem_mem ht))
    have HNO := Lib.hid hno
    clear hf hno
    rw [hix]
    clear hix
    go_wp2
    go_ret
    exact GotPost.same hC3 hb03 (by rw [HE0.out, if_pos HNO.out]) (by decide)
  · have hix : idxN op num = (i : Int) := by unfold idxN; rw [hf]
    rw [List.findIdx?_eq_some_iff_getElem] at hf
    obtain ⟨hi, hnum, hno⟩ := hf
    obtain ⟨y1, y2⟩ := erase_at hi (fun t ht => by simpa using hno t ht) (by simpa using hnum)
    have HY1 := Lib.hid y1
    have HY2 := Lib.hid y2
    rw [hix]
    clear hix hnum hno y1 y2
    have hi0 : ¬ ((i : Int) < 0) := by omega
    by_cases hbig : 65536 < n
    · have hbig' : (65536 : Int) < (n : Int) := by omega
      go_wp2
      go_ret
      exact GotPost.same hC3 hb03 (by rw [HE0.out, HY1.out, if_neg (by decide), if_pos hbig]) (by decide)
    have hbig' : ¬ ((65536 : Int) < (n : Int)) := by omega
    have HERR := Lib.hid (show gotErr last (op.map Rq.log) num n = 0 by rw [HE0.out, HY1.out, if_neg (by decide), if_neg hbig])
    obtain ⟨g1, cap, hv, -⟩ := hC3.row hi
    injection hv with hv1 _ hv3
    subst hv1 hv3
    obtain ⟨d0, d1, d2, d3, e0, e1, e2, e3⟩ := blk4 hC3.1
    have hi1 : (i : Int) ≤ 9223372036854775806 := by omega
    go_wp2_with fail
    refine (deleteR_any 0 g1 c1 i op _ (Lib.hid hC3.2.1) hi hop).mono ?_
    rintro e w4 ⟨rfl, hown4, hg4⟩
    obtain ⟨f3, e3', hC4, hm4⟩ := hC3.deleted (by decide) (by decide) (by decide) hi hown4 hg4
    have HC4 := Lib.hid hC4
    have HM4 := Lib.hid hm4
    clear d0 d1 d2 d3 e0 e1 e2 e3 hC4 hm4 hown4 hg4
    go_wp2
    go_ret
    refine ⟨_, _, by rw [HERR.out]; rfl, ?_, HC4.out, ?_, .inl rfl⟩
    · unfold gotNew
      rw [if_pos HERR.out, HY2.out]
    · exact (Mod.of_below (CallF g (.slice (some ⟨g1, 0, none⟩) op.length c1)) hb03).trans HM4.out (fun b hb => .inl hb)
end Go.Proofs.Ytompkpleiichaaa

/- client: a server, its callers, requests under way and what is counted, side by side. -/
namespace Go.Proofs.Ytompkpleiichaaa
open Go.RowKit

structure Cll where
  g : Nat
  last : Nat
  rv : Value
  op : List Rq
def Cll.F (c : Cll) (b : Nat) : Prop := CallF c.g c.rv b
def Cll.At (w : World) (i : Nat) (c : Cll) : Prop := CallAt w 89 32 c.g ((i : Int) + 1) ((i : Int) + 5) (c.last : Int) c.rv c.op
theorem Cll.At.tyF {w : World} {i : Nat} {c : Cll} (h : c.At w i) : ∀ b, c.F b → Ty w b 89 ∨ Ty w b 32 := by
  rintro b (rfl | hb)
  · exact .inl h.1.ty
  · exact .inr (Ty.of_own h.2.1 hb)
theorem Cll.At.noB {w : World} {i : Nat} {c : Cll} (h : c.At w i) : ∀ b, c.F b → ¬ Ty w b 5 := CallAt.noB h (by decide) (by decide)
theorem Cll.At.ltF {w : World} {i : Nat} {c : Cll} (h : c.At w i) : ∀ b, c.F b → b < w.heap.size := CallAt.ltF h
theorem Cll.At.mod {w w' : World} {i : Nat} {c : Cll} {F : Nat → Prop} (h : c.At w i) (m : Mod F w w') (hF : ∀ b, c.F b → ¬ F b) (hB : ∀ b, F b → ¬ Ty w b 5) : c.At w' i := CallAt.mod h m hF hB
theorem Cll.At.all {w w' : World} {i : Nat} {c : Cll} (h : c.At w i) (hb : Below w.heap.size w w') : c.At w' i := CallAt.all h hb
theorem Cll.At.notF {w : World} {i b : Nat} {c : Cll} {t : TypeId} (h : c.At w i) (hb : Ty w b t) (h1 : t ≠ 89) (h2 : t ≠ 32) : ¬ c.F b := fun hf => by
  rcases h.tyF b hf with e | e
  · exact h1 (Ty.unique hb e)
  · exact h2 (Ty.unique hb e)
theorem Cll.At.notMap {w : World} {i b : Nat} {c : Cll} {es : List (Int × Value)} (h : c.At w i) (hm : IMap w b es) : ¬ c.F b := fun hf => by
  rcases h.tyF b hf with e | e
  · exact hm.not_ty e
  · exact hm.not_ty e
theorem SesAt.apartC {w : World} {g mb i : Nat} {cl : List Cl} {c : Cll} (h : SesAt w g mb cl) (hc : c.At w i) : ∀ b, SesF g mb cl b → ¬ c.F b := fun b hb hf => by
  rcases hc.tyF b hf with e | e
  · exact h.notF e (by decide) (by decide) (by decide) hb
  · exact h.notF e (by decide) (by decide) (by decide) hb
structure Sys (W w : World) (K gs mb : Nat) (cl : List Cl) (C : Nat → Cll) (vP : Value) : Prop where
  below : Below W.heap.size W w
  ses : SesAt w gs mb cl
  call : ∀ i, i < K → (C i).At w i
  ptr : w.ownsRow 0 27 1 vP K ((List.range K).map fun i => .pointer (some ⟨(C i).g, 0, none⟩))
  gse : ∀ b, SesF gs mb cl b → W.heap.size ≤ b
  gca : ∀ i, i < K → ∀ b, (C i).F b → W.heap.size ≤ b
  gpt : ∀ b, vP.ownBlock = some b → W.heap.size ≤ b
  apart : ∀ i j, i < K → j < K → i ≠ j → ∀ b, (C i).F b → ¬ (C j).F b
structure Once (W w : World) (gs mb : Nat) (cl : List Cl) (C : Nat → Cll) (vP : Value) (vN : Value) (N : List Rq) (gd : Nat) (D : Nat → Nat) : Prop where
  sys : Sys W w 2 gs mb cl C vP
  net : w.ownsRow 0 32 4 vN N.length (N.flatMap Rq.cells)
  ok : ∀ r ∈ N, r.ok w
  gnt : ∀ b, vN.ownBlock = some b → W.heap.size ≤ b
  nap : ∀ i, i < 2 → ∀ b, vN.ownBlock = some b → ¬ (C i).F b
  done : Blk w gd 70 #[.int .i64 (D 0 : Nat), .int .i64 (D 1 : Nat)]
  gdn : W.heap.size ≤ gd
def updN {α : Type} (C : Nat → α) (i : Nat) (c : α) : Nat → α := fun j => if j = i then c else C j
section
variable {W w w' : World} {K gs mb gd i : Nat} {cl : List Cl} {C : Nat → Cll} {vP vN : Value} {N : List Rq} {D : Nat → Nat}
theorem Sys.all (h : Sys W w K gs mb cl C vP) (hb : Below w.heap.size w w') : Sys W w' K gs mb cl C vP := ⟨bt h.below hb, h.ses.all hb, fun i hi => (h.call i hi).all hb, own_keep h.ptr hb, h.gse, h.gca, h.gpt, h.apart⟩
theorem Once.all (h : Once W w gs mb cl C vP vN N gd D) (hb : Below w.heap.size w w') : Once W w' gs mb cl C vP vN N gd D := ⟨h.sys.all hb, own_keep h.net hb, fun r hr => (h.ok r hr).all hb, h.gnt, h.nap, h.done.all hb, h.gdn⟩
theorem Sys.ptrTy (h : Sys W w K gs mb cl C vP) {b : Nat} (hb : vP.ownBlock = some b) : Ty w b 27 := Ty.of_own h.ptr hb
theorem Sys.toSes {cl' : List Cl} (h : Sys W w K gs mb cl C vP) (hS : SesAt w' gs mb cl') (m : Mod (SesF gs mb cl) w w') (hF : ∀ b, SesF gs mb cl' b → SesF gs mb cl b ∨ w.heap.size ≤ b) : Sys W w' K gs mb cl' C vP :=
  ⟨m.below h.below h.below.size h.gse, hS, fun i hi => (h.call i hi).mod m (fun b hb hs => h.ses.apartC (h.call i hi) b hs hb) h.ses.noB, m.own h.ptr (fun b hb hs => h.ses.notF (h.ptrTy hb) (by decide) (by decide) (by decide) hs), fun b hb => (hF b hb).elim (h.gse b) (fun hb => Nat.le_trans h.below.size hb), h.gca, h.gpt, h.apart⟩
theorem Once.toSes {σ : Int → Option CSt} (h : Once W w gs mb cl C vP vN N gd D) (hn : PNext gs mb cl σ w w') : ∃ cl', sigP cl' = σ ∧ Once W w' gs mb cl' C vP vN N gd D ∧ Mod (SesF gs mb cl) w w' := by
  obtain ⟨cl', hS, hs, m, hF⟩ := hn
  refine ⟨cl', hs, ⟨h.sys.toSes hS m hF, m.own h.net (fun b hb hf => h.sys.ses.notF (Ty.of_own h.net hb) (by decide) (by decide) (by decide) hf), fun r hr => (h.ok r hr).mod m h.sys.ses.noB, h.gnt, h.nap, m.blk h.done (fun hf => h.sys.ses.notF h.done.ty (by decide) (by decide) (by decide) hf), h.gdn⟩, m⟩
theorem Once.toCall {c' : Cll} (h : Once W w gs mb cl C vP vN N gd D) (hi : i < 2) (hC : c'.At w' i) (hg : c'.g = (C i).g) (m : Mod (C i).F w w') (hF : ∀ b, c'.F b → (C i).F b ∨ w.heap.size ≤ b) : Once W w' gs mb cl (updN C i c') vP vN N gd D := by
  have hc := h.sys.call i hi
  have hlt : ∀ j, j < 2 → ∀ b, (C j).F b → b < w.heap.size := fun j hj => (h.sys.call j hj).ltF
  refine ⟨⟨m.below h.sys.below h.sys.below.size (h.sys.gca i hi), h.sys.ses.mod m (fun b hs hf => h.sys.ses.apartC hc b hs hf) hc.noB, ?_, ?_, h.sys.gse, ?_, h.sys.gpt, ?_⟩, m.own h.net (fun b hb hf => h.nap i hi b hb hf), fun r hr => (h.ok r hr).mod m hc.noB, h.gnt, ?_, m.blk h.done (fun hf => hc.notF h.done.ty (by decide) (by decide) hf), h.gdn⟩
  · intro j hj
    unfold updN
    split
    · rename_i e
      subst e
      exact hC
    · rename_i e
      exact (h.sys.call j hj).mod m (fun b hb hf => h.sys.apart j i hj hi e b hb hf) hc.noB
  · have := m.own h.sys.ptr (fun b hb hf => hc.notF (h.sys.ptrTy hb) (by decide) (by decide) hf)
    have e : ((List.range 2).map fun j => Value.pointer (some ⟨(updN C i c' j).g, 0, none⟩)) = (List.range 2).map fun j => Value.pointer (some ⟨(C j).g, 0, none⟩) := by
      apply List.map_congr_left
      intro j _
      unfold updN
      split
      · rename_i e
        rw [hg, e]
      · rfl
    rw [e]
    exact this
  · intro j hj b hb
    unfold updN at hb
    split at hb
    · rename_i e
      subst e
      exact (hF b hb).elim (h.sys.gca j hi b) (fun hb => Nat.le_trans h.sys.below.size hb)
    · exact h.sys.gca j hj b hb
  · intro a c ha hc' hne b hb hb'
    unfold updN at hb hb'
    split at hb
    · rename_i e
      subst e
      rw [if_neg (fun e => hne e.symm)] at hb'
      rcases hF b hb with hb | hb
      · exact h.sys.apart a c ha hc' hne b hb hb'
      · have := hlt c hc' b hb'
        omega
    · split at hb'
      · rename_i e
        subst e
        rcases hF b hb' with hb' | hb'
        · exact h.sys.apart a c ha hc' hne b hb hb'
        · have := hlt a ha b hb
          omega
      · exact h.sys.apart a c ha hc' hne b hb hb'
  · intro j hj b hb hf
    unfold updN at hf
    split at hf
    · rename_i e
      subst e
      rcases hF b hf with hf | hf
      · exact h.nap j hi b hb hf
      · have := (h.net.lt b hb).2
        omega
    · exact h.nap j hj b hb hf
/-- The requests under way lie in another row. -/
theorem Once.toNet {vN' : Value} {N' : List Rq} {row : Option Nat} (h : Once W w gs mb cl C vP vN N gd D) (hg : w.grownBy w' row) (hrow : ∀ b, row = some b → vN.ownBlock = some b ∨ (w.heap.size ≤ b)) (hown : w'.ownsRow 0 32 4 vN' N'.length (N'.flatMap Rq.cells)) (hok : ∀ r ∈ N', r.ok w') (hat : vN'.ownBlock = vN.ownBlock ∨ ∀ b, vN'.ownBlock = some b → w.heap.size ≤ b) : Once W w' gs mb cl C vP vN' N' gd D := by
  have m : Mod (fun b => vN.ownBlock = some b) w w' := Mod.of_grown hg hrow
  have hty : ∀ b, vN.ownBlock = some b → Ty w b 32 := fun b hb => Ty.of_own h.net hb
  have hB : ∀ b, vN.ownBlock = some b → ¬ Ty w b 5 := fun b hb ht => absurd (Ty.unique (hty b hb) ht) (by decide)
  refine ⟨⟨m.below h.sys.below h.sys.below.size h.gnt, h.sys.ses.mod m (fun b hs hb => h.sys.ses.notF (hty b hb) (by decide) (by decide) (by decide) hs) hB, fun i hi => (h.sys.call i hi).mod m (fun b hf hb => h.nap i hi b hb hf) hB, m.own h.sys.ptr (fun b hb hv => absurd (Ty.unique (h.sys.ptrTy hb) (hty b hv)) (by decide)), h.sys.gse, h.sys.gca, h.sys.gpt, h.sys.apart⟩, hown, hok, ?_, ?_, m.blk h.done (fun hv => absurd (Ty.unique h.done.ty (hty _ hv)) (by decide)), h.gdn⟩
  · intro b hb
    rcases hat with e | e
    · exact h.gnt b (e ▸ hb)
    · exact Nat.le_trans h.sys.below.size (e b hb)
  · intro i hi b hb hf
    rcases hat with e | e
    · exact h.nap i hi b (e ▸ hb) hf
    · have h1 := e b hb
      have h2 := (h.sys.call i hi).ltF b hf
      omega
theorem Once.toDone (h : Once W w gs mb cl C vP vN N gd D) (hi : i < 2) (x : Nat) : Once W (w.setCell ⟨gd, i, none⟩ (.int .i64 (x : Int))) gs mb cl C vP vN N gd (updN D i x) := by
  have m : Mod (fun b => b = gd) w (w.setCell ⟨gd, i, none⟩ (.int .i64 (x : Int))) := (Mod.refl (fun b => b = gd) w).set (p := ⟨gd, i, none⟩) (.inl rfl) _
  have hB : ∀ b, b = gd → ¬ Ty w b 5 := by
    rintro b rfl ht
    exact absurd (Ty.unique h.done.ty ht) (by decide)
  refine ⟨⟨m.below h.sys.below h.sys.below.size (fun b e => by subst e; exact h.gdn), h.sys.ses.mod m (fun b hs e => by subst e; exact h.sys.ses.notF h.done.ty (by decide) (by decide) (by decide) hs) hB, fun j hj => (h.sys.call j hj).mod m (fun b hf e => by subst e; exact (h.sys.call j hj).notF h.done.ty (by decide) (by decide) hf) hB, m.own h.sys.ptr (fun b hb e => by subst e; exact absurd (Ty.unique h.done.ty (h.sys.ptrTy hb)) (by decide)), h.sys.gse, h.sys.gca, h.sys.gpt, h.sys.apart⟩, m.own h.net (fun b hb e => by subst e; exact absurd (Ty.unique h.done.ty (Ty.of_own h.net hb)) (by decide)), fun r hr => (h.ok r hr).mod m hB, h.gnt, h.nap, ?_, h.gdn⟩
  have := Blk.set_ h.done i (.int .i64 (x : Int))
  rcases (show i = 0 ∨ i = 1 by omega) with rfl | rfl
  · simpa [updN] using this
  · simpa [updN] using this
end
end Go.Proofs.Ytompkpleiichaaa

/- worldmintref01: Pick. -/
namespace Go.Proofs.Ytompkpleiichaaa
open Go.RowKit

/-- Element i of a list of numbers, reduced; 0 where there is none. -/
def pickI (n : Nat) (f : Nat → Int) (i most : Nat) : Int := if i < n then aroundI (f i) (most : Int) else 0
set_option maxRecDepth 100000 in
theorem pick_nat (A : Option Addr) (n c : Nat) (f : Nat → Int) (i : Nat) (ii : Int) (m : Nat) (mi : Int) (w : World) (B : Nat) (hii : ii = (i : Int)) (hmi : mi = (m : Int)) (hR : Rd w B A n (fun j => .int .i64 (f j))) (hw : Hid (∀ j, j < n → -9223372036854775808 ≤ f j ∧ f j ≤ 9223372036854775807)) (h3 : 0 < m) (h4 : m ≤ 9223372036854775807) :
    Calls Try.prog 38 #[.slice A n c, .int .i64 ii, .int .i64 mi] w fun e w' => ∃ k : Nat, e = .returned (.int .i64 (k : Int)) ∧ k < m ∧ Hid ((k : Int) = pickI n f i m) ∧ w = w' := by
  subst hii hmi
  by_cases h : i < n
  · obtain ⟨b, off, hA, hb, hc⟩ := hR (by omega)
    subst hA
    have hci := hc i h
    obtain ⟨l0, l1⟩ := hw.out i h
    have h0 : (0 : Int) ≤ (i : Int) := by omega
    have h1 : ¬ ((n : Int) ≤ (i : Int)) := by omega
    have h2 : (i : Int) < (n : Int) := by omega
    clear hc hR
    go_enter Try.func38, Try.ntmps38
    go_wp2_with fail
    refine (around_nat _ m _ _ rfl l0 l1 h3 h4).mono ?_
    rintro e w1 ⟨k, rfl, hk, HK, rfl⟩
    go_wp2
    go_ret
    exact ⟨k, rfl, hk, Lib.hid (by unfold pickI; rw [if_pos h]; exact HK.out), rfl⟩
  · have h1 : (n : Int) ≤ (i : Int) := by omega
    have h0 : (0 : Int) ≤ (i : Int) := by omega
    go_enter Try.func38, Try.ntmps38
    go_wp2
    go_ret
    exact ⟨0, rfl, h3, Lib.hid (by unfold pickI; rw [if_neg h]; rfl), rfl⟩
end Go.Proofs.Ytompkpleiichaaa
