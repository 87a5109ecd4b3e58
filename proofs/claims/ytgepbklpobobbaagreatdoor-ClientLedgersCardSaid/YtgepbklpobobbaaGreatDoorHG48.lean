/- ClientLedgers: what stands at the heads of its loops: sessions, the ledger, the requests that were sent; the calls on them. -/
import Derived.Test.YtgepbklpobobbaaGreatDoorHG47
import Derived.Test.YtgepbklpobobbaaGreatDoorHG45
import Derived.Test.YtgepbklpobobbaaGreatDoorHG44

namespace Go.Proofs.YtgepbklpobobbaaGreatDoor
open Go.RowKit

structure CB (W : World) (gs mb gA : Nat) (mx : Int → Bool) (σ : Int → Option CSt) (vN : Value) (N : List Rq) (S : LSt) (w : World) : Prop where
  below : Below W.heap.size W w
  ses : ∃ cl, SesAt w gs mb cl ∧ sigP cl = σ ∧ ∀ b, SesF gs mb cl b → W.heap.size ≤ b
  led : ∃ L, LedAt mx w L S ∧ L.gl = gA ∧ L.it.2.1 = 1 ∧ ∀ b, LedF L b → b ≠ mb ∧ W.heap.size ≤ b
  net : w.ownsRow 0 49 4 vN N.length (N.flatMap Rq.cells)
  ok : ∀ r ∈ N, r.ok w
  gnt : ∀ b, vN.ownBlock = some b → W.heap.size ≤ b
/-- The caller beside them. -/
def CC (W : World) (ga : Nat) (vN : Value) (op : List Rq) (w : World) : Prop := ∃ rv, CallAt w 106 49 ga 3 77 (op.length : Int) rv op ∧ (∀ b, CallF ga rv b → W.heap.size ≤ b ∧ vN.ownBlock ≠ some b)
section
variable {W w w' : World} {gs mb gA ga : Nat} {mx : Int → Bool} {σ σ' : Int → Option CSt} {vN : Value} {N op : List Rq} {S : LSt}
theorem CB.all (h : CB W gs mb gA mx σ vN N S w) (hb : Below w.heap.size w w') : CB W gs mb gA mx σ vN N S w' := by
  obtain ⟨cl, h1, h2⟩ := h.ses
  obtain ⟨L, h3, h4⟩ := h.led
  exact ⟨bt h.below hb, ⟨cl, h1.all hb, h2⟩, ⟨L, h3.all hb, h4⟩, own_keep h.net hb, fun r hr => (h.ok r hr).all hb, h.gnt⟩
theorem CC.all (h : CC W ga vN op w) (hb : Below w.heap.size w w') : CC W ga vN op w' := by
  obtain ⟨rv, h1, h2⟩ := h
  exact ⟨rv, h1.all hb, h2⟩
theorem LedAt.notSes {L : Led} {cl : List Cl} (h : LedAt mx w L S) (hS : SesAt w gs mb cl) (hm : ∀ b, LedF L b → b ≠ mb) : ∀ b, LedF L b → ¬ SesF gs mb cl b := fun b hb hs => by
  rcases hS.tyF b hs with rfl | e | e | e
  · exact hm _ hb rfl
  · exact h.not_ty hb e (by decide) (by decide) (by decide)
  · exact h.not_ty hb e (by decide) (by decide) (by decide)
  · exact h.not_ty hb e (by decide) (by decide) (by decide)
/-- Blocks of callers and requests have turned. -/
theorem CB.mod {F : Nat → Prop} (h : CB W gs mb gA mx σ vN N S w) (m : Mod F w w') (hge : ∀ b, F b → W.heap.size ≤ b) (hF : ∀ b, F b → Ty w b 106 ∨ Ty w b 49 ) (hN : ∀ b, F b → vN.ownBlock ≠ some b) : CB W gs mb gA mx σ vN N S w' := by
  obtain ⟨cl, h1, h2⟩ := h.ses
  obtain ⟨L, h3, h4⟩ := h.led
  have hB : ∀ b, F b → ¬ Ty w b 5 := fun b hb ht => by
    rcases hF b hb with e | e
    · exact absurd (e.unique ht) (by decide)
    · exact absurd (e.unique ht) (by decide)
  refine ⟨m.below h.below h.below.size hge, ⟨cl, h1.mod m (fun b hs hb => ?_) hB, h2⟩, ⟨L, h3.mod m (fun b hb => ⟨fun hl => ?_, fun ht => ?_, fun ht => ?_⟩), h4⟩, m.own h.net (fun b e hb => hN b hb e), fun r hr => (h.ok r hr).mod m hB, h.gnt⟩
  · rcases hF b hb with e | e
    · exact h1.notF e (by decide) (by decide) (by decide) hs
    · exact h1.notF e (by decide) (by decide) (by decide) hs
  · rcases hF b hb with e | e
    · exact h3.not_ty hl e (by decide) (by decide) (by decide)
    · exact h3.not_ty hl e (by decide) (by decide) (by decide)
  · rcases hF b hb with e | e
    · exact absurd (e.unique ht) (by decide)
    · exact absurd (e.unique ht) (by decide)
  · rcases hF b hb with e | e
    · exact absurd (e.unique ht) (by decide)
    · exact absurd (e.unique ht) (by decide)
theorem CallAt.tyF' {rv : Value} {cl key last : Int} (h : CallAt w 106 49 ga cl key last rv op) : ∀ b, CallF ga rv b → Ty w b 106 ∨ Ty w b 49 := by
  rintro b (rfl | hb)
  · exact .inl h.1.ty
  · exact .inr (Ty.of_own h.2.1 hb)
/-- The caller sends. -/
theorem cb_send (A : Option Addr) (n c : Nat) (bs : List UInt8) (HJ : Hid (CB W gs mb gA mx σ vN N S w)) (HC : Hid (CC W ga vN op w)) (HB : Hid (Bts w A n c bs)) (hop : op.length < 16) (hl : bs.length ≤ 65536) :
    Calls Tryz.prog 11 #[.pointer (some ⟨ga, 0, none⟩), .slice A n c] w fun e w' => ∃ (r r' : Rq), e = .returned (.tuple #[.agg #[.int .i64 r.cl, .int .i64 r.num, .slice r.A r.n r.c, .int .u64 r.tag], .int .i64 0]) ∧ r.ok w' ∧ r.log = (3, (op.length : Int) + 1, bs, tagI 77 3 ((op.length : Int) + 1) (bodyI bs)) ∧ CB W gs mb gA mx σ vN N S w' ∧ CC W ga vN (op ++ [r']) w' := by
  obtain ⟨rv, h1, h2⟩ := HC.out
  have hno : ¬ (65536 < bs.length ∨ 16 ≤ op.length) := by omega
  refine (send_yes ga 3 77 (op.length : Int) rv op A n c bs w (Lib.hid h1) (by omega) (by omega) (by have := HB.out.1; omega) (by omega) HB).mono ?_
  rintro e w' ⟨r, r2, rv', rfl, hok, hr, hr2, hC, hm, hrv⟩
  refine ⟨r2, r, rfl, hok, hr2.trans hr, HJ.out.mod hm (fun b hb => (h2 b hb).1) h1.tyF' (fun b hb => (h2 b hb).2), rv', ?_, ?_⟩
  · rw [List.length_append, List.length_singleton]
    exact hC
  · have hs := HJ.out.below.size
    rintro b (rfl | hb)
    · exact h2 _ (.inl rfl)
    · rcases hrv with e | e
      · exact h2 b (.inr (e ▸ hb))
      · have h3 := e b hb
        exact ⟨by omega, fun e2 => by have := (HJ.out.net.lt b e2).2; omega⟩
/-- A request is added to those that were sent. -/
theorem CB.push {vN' : Value} {r : Rq} {o : Obj} (h : CB W gs mb gA mx σ vN N S w) (hC : CC W ga vN op w) (hr : r.ok w) (hown : w'.ownsRow 0 49 4 vN' (N.length + 1) (N.flatMap Rq.cells ++ r.cells)) (hg : (w.alloc o).grownBy w' vN.ownBlock) (hat : vN'.ownBlock = vN.ownBlock ∨ ∀ b, vN'.ownBlock = some b → w.heap.size ≤ b) : CB W gs mb gA mx σ vN' (N ++ [r]) S w' ∧ CC W ga vN' op w' := by
  have m : Mod (fun b => vN.ownBlock = some b) w w' := ((Mod.refl _ w).alloc o).then_grown hg (fun b e => .inl e)
  have hty : ∀ b, vN.ownBlock = some b → Ty w b 49 := fun b hb => Ty.of_own h.net hb
  have hB : ∀ b, vN.ownBlock = some b → ¬ Ty w b 5 := fun b hb ht => absurd (Ty.unique (hty b hb) ht) (by decide)
  have hs := h.below.size
  obtain ⟨cl, h1, h2⟩ := h.ses
  obtain ⟨L, h3, h4⟩ := h.led
  obtain ⟨rv, k1, k2⟩ := hC
  refine ⟨⟨m.below h.below h.below.size h.gnt, ⟨cl, h1.mod m (fun b hs hb => h1.notF (hty b hb) (by decide) (by decide) (by decide) hs) hB, h2⟩, ⟨L, h3.mod m (fun b hb => ⟨fun hl => h3.not_ty hl (hty b hb) (by decide) (by decide) (by decide), fun ht => absurd (ht.unique (hty b hb)) (by decide), fun ht => absurd (ht.unique (hty b hb)) (by decide)⟩), h4⟩, ?_, ?_, ?_⟩, rv, k1.mod m (fun b hf hb => (k2 b hf).2 hb) hB, fun b hb => ⟨(k2 b hb).1, fun e => ?_⟩⟩
  · rw [List.length_append, List.length_singleton, List.flatMap_append, List.flatMap_cons, List.flatMap_nil, List.append_nil]
    exact hown
  · intro x hx
    rw [List.mem_append, List.mem_singleton] at hx
    rcases hx with hx | rfl
    · exact (h.ok x hx).mod m hB
    · exact hr.mod m hB
  · intro b hb
    rcases hat with e | e
    · exact h.gnt b (e ▸ hb)
    · exact Nat.le_trans hs (e b hb)
  · rcases hat with e2 | e2
    · exact (k2 b hb).2 (e2 ▸ e)
    · have h5 := e2 b e
      have h6 := k1.ltF b hb
      omega
/-- Behind a call of the sessions. -/
theorem CB.ses' {cl : List Cl} (h : CB W gs mb gA mx σ vN N S w) (h1 : SesAt w gs mb cl) (h2 : ∀ b, SesF gs mb cl b → W.heap.size ≤ b) (hn : PNext gs mb cl σ' w w') : CB W gs mb gA mx σ' vN N S w' := by
  obtain ⟨cl', hS, hs, m, hF⟩ := hn
  obtain ⟨L, h3, h4, h5, h6⟩ := h.led
  have hsz := h.below.size
  refine ⟨m.below h.below h.below.size h2, ⟨cl', hS, hs, fun b hb => (hF b hb).elim (h2 b) (fun hb => Nat.le_trans hsz hb)⟩, ⟨L, h3.mod m (fun b hb => ⟨fun hl => h3.notSes h1 (fun b hb => (h6 b hb).1) b hl hb, fun ht => h1.notF ht (by decide) (by decide) (by decide) hb, fun ht => h1.notF ht (by decide) (by decide) (by decide) hb⟩), h4, h5, h6⟩, m.own h.net (fun b hb hf => h1.notF (Ty.of_own h.net hb) (by decide) (by decide) (by decide) hf), fun r hr => (h.ok r hr).mod m h1.noB, h.gnt⟩
theorem cb_accept (r : Rq) (HJ : Hid (CB W gs mb gA mx σ vN N S w)) (hr : Hid (r ∈ N)) (h5 : r.num ≤ 9223372036854775807) (HLT : Hid (∀ s, σ r.cl = some s → s.2.1 < 4611686018427387904)) :
    Calls Tryz.prog 14 #[.pointer (some ⟨gs, 0, none⟩), .agg #[.int .i64 r.cl, .int .i64 r.num, .slice r.A r.n r.c, .int .u64 r.tag]] w fun e w' => ∃ A n cap, e = .returned (.tuple #[.bool (acRes σ r).1, .slice A n cap, .int .i64 (acRes σ r).2.2]) ∧ CB W gs mb gA mx (acSt σ r) vN N S w' := by
  obtain ⟨cl, h1, h2, h3⟩ := HJ.out.ses
  refine (acceptP_any gs mb cl r w (Lib.hid h1) (Lib.hid (HJ.out.ok r hr.out)) h5 (Lib.hid (by rw [h2]; exact HLT.out))).mono ?_
  rintro e w' ⟨A, n, cap, rfl, -, hn⟩
  rw [h2] at hn ⊢
  exact ⟨A, n, cap, rfl, HJ.out.ses' h1 h3 hn⟩
theorem cb_answer (id num : Int) (HJ : Hid (CB W gs mb gA mx σ vN N S w)) :
    Calls Tryz.prog 18 #[.pointer (some ⟨gs, 0, none⟩), .int .i64 id, .int .i64 num, .slice none 0 0] w fun e w' => e = .returned (.int .i64 (anErr σ id num 0)) ∧ CB W gs mb gA mx (anSt σ id num 0 []) vN N S w' := by
  obtain ⟨cl, h1, h2, h3⟩ := HJ.out.ses
  refine (answerP_any gs mb cl id num none 0 0 [] w (Lib.hid h1) (Lib.hid (Bts.nil _)) (by decide)).mono ?_
  rintro e w' ⟨rfl, hn⟩
  rw [h2] at hn ⊢
  exact ⟨rfl, HJ.out.ses' h1 h3 hn⟩
theorem cb_last (id : Int) (HJ : Hid (CB W gs mb gA mx σ vN N S w)) :
    Calls Tryz.prog 20 #[.pointer (some ⟨gs, 0, none⟩), .int .i64 id] w fun e w' => e = .returned (.int .i64 ((σ id).elim 0 (·.2.1))) ∧ w = w' := by
  obtain ⟨cl, h1, h2, h3⟩ := HJ.out.ses
  have := lastP_any gs mb cl id w (Lib.hid h1)
  rw [h2] at this
  exact this
theorem cb_balance {ns : List Int} (HJ : Hid (CB W gs mb gA mx σ vN N S w)) (HL : Hid (LgI mx ns S)) :
    Calls Tryz.prog 19 #[.pointer (some ⟨gA, 0, none⟩), .int .i64 3, .int .i64 0] w fun e w' => e = .returned (.int .i64 ns.sum) ∧ CB W gs mb gA mx σ vN N S w' := by
  obtain ⟨L, h1, h2, h3⟩ := HJ.out.led
  have := balance_any L S 3 0 w (Lib.hid h1) (by decide) (by decide) (Lib.hid (HL.out.ok.ok _)) (Lib.hid (Nat.le_trans (HL.out.ok.len _) (by decide)))
  rw [h2, show kOf 3 0 = goldK from rfl, HL.out.sum] at this
  refine this.mono ?_
  rintro e w' ⟨rfl, hb⟩
  exact ⟨rfl, HJ.out.all hb⟩
theorem spawnM_step {L : Led} {ns : List Int} {n : Int} {b : Nat} (hb : Blk w b 63 (mvV (spawnM n)).toArray) (hL : LgI mx ns S) (hl : ns.length ≤ 12) (hn : 1 ≤ n ∧ n ≤ 900) (h4 : L.it.2.1 = 1) : StepOk mx w L S (900 * (ns.length : Int)) true 3 0 (some ⟨b, 0, none⟩) 1 1 [spawnM n] where
  mv := ⟨rfl, Nat.le_refl _, by decide, fun _ => by
    obtain ⟨cs, fr, hh⟩ := hb.ty
    refine ⟨b, 0, cs, fr, rfl, hh, fun k hk => ?_⟩
    have := hb.cell k
    simp only [World.cell?, hh] at this
    rw [Nat.zero_add]
    simpa using this⟩
  ok := fun x hx => by
    rw [List.mem_singleton] at hx
    subst hx
    unfold spawnM
    exact ⟨Int.le_refl _, by rw [h4]; exact Int.lt_succ 0, hn.1, by show n ≤ 1099511627776; omega, Int.le_refl _, by show (0 : Int) ≤ 1073741824; decide, by show (1 : Int) ≤ 3; decide, by show (3 : Int) ≤ 1073741824; decide, by show (0 : Int) ≠ 3; decide⟩
  from_ := fun x hx => by
    rw [List.mem_singleton] at hx
    subst hx
    rfl
  n0 := Nat.le_refl _
  n1 := by decide
  ac := by decide
  t0 := by decide
  t1 := by decide
  t2 := by rw [hL.now]; exact Int.le_refl _
  ns := by rw [hL.stp]; omega
  k := by
    have e : sumN [spawnM n] = n := by simp [sumN, spawnM]
    rw [e]
    omega
  it := by rw [h4]; decide
  nf := by rw [hL.nf]; omega
theorem cb_post {ns : List Int} (b : Nat) (n : Int) (HJ : Hid (CB W gs mb gA mx σ vN N S w)) (HL : Hid (LgI mx ns S)) (hs : Hid (∀ n ∈ ns, 1 ≤ n ∧ n ≤ 900)) (hl : ns.length < 12) (hn : 1 ≤ n ∧ n ≤ 900) (hb : Hid (Blk w b 63 (mvV (spawnM n)).toArray)) :
    Calls Tryz.prog 16 #[.pointer (some ⟨gA, 0, none⟩), stA 0 0 3 0 (-1) 0 (.slice (some ⟨b, 0, none⟩) 1 1)] w fun e w' => ∃ (k : Int) (S' : LSt), e = .returned (.tuple #[.int .i64 k, .int .i64 0]) ∧ LgI mx (ns ++ [n]) S' ∧ CB W gs mb gA mx σ vN N S' w' := by
  obtain ⟨L, h1, h2, h3, h4⟩ := HJ.out.led
  obtain ⟨cl, k1, k2, k3⟩ := HJ.out.ses
  have HP := post_any mx _ L S true 0 3 0 _ 1 1 [spawnM n] w (Lib.hid h1) (Lib.hid HL.out.ok) (Lib.hid (spawnM_step hb.out HL.out (by omega) hn h3))
  rw [h2] at HP
  refine HP.mono ?_
  intro e w' hp
  unfold PostPost at hp
  obtain ⟨S1, e1, e2⟩ := HL.out.spawn hs.out (by omega) hn
  rw [e1] at hp
  obtain ⟨L', rfl, q1, q2, q3, q4⟩ := hp
  have hsz := HJ.out.below.size
  have hty : ∀ {b t : Nat}, LedF L b → Ty w b t → t ≠ 101 → t ≠ 66 → t ≠ 256 → False := fun hb ht a1 a2 a3 => h1.not_ty hb ht a1 a2 a3
  have hB : ∀ b, LedF L b → ¬ Ty w b 5 := fun b hb ht => hty hb ht (by decide) (by decide) (by decide)
  refine ⟨_, _, rfl, e2, q3.below HJ.out.below HJ.out.below.size (fun b hb => (h4 b hb).2), ⟨cl, k1.mod q3 (fun b hs hb => h1.notSes k1 (fun b hb => (h4 b hb).1) b hb hs) hB, k2, k3⟩, ⟨L', q1, by rw [q2.1]; exact h2, by rw [q2.2.2.2.2.2]; exact h3, fun b hb => ?_⟩, q3.own HJ.out.net (fun b e hb => hty hb (Ty.of_own HJ.out.net e) (by decide) (by decide) (by decide)), fun r hr => (HJ.out.ok r hr).mod q3 hB, HJ.out.gnt⟩
  rcases q4 b hb with h | h
  · exact h4 b h
  · have := k1.ltF mb (.inr (.inl rfl))
    exact ⟨by omega, by omega⟩
/-- A request that was sent, in its row. -/
theorem CB.cell {A : Option Addr} {m c k : Nat} (h : CB W gs mb gA mx σ (.slice A m c) N S w) (hk : k < N.length) : ∃ g, A = some ⟨g, 0, none⟩ ∧ m = N.length ∧ w.cell? ⟨g, k * 4, none⟩ = some (.int .i64 N[k].cl) ∧ w.cell? ⟨g, k * 4 + 1, none⟩ = some (.int .i64 N[k].num) ∧ w.cell? ⟨g, k * 4 + 2, none⟩ = some (.slice N[k].A N[k].n N[k].c) ∧ w.cell? ⟨g, k * 4 + 3, none⟩ = some (.int .u64 N[k].tag) := by
  obtain ⟨A', c', he⟩ := own_parts h.net
  injection he with he1 he2 he3
  subst he1 he2 he3
  obtain ⟨g, rfl, -, -⟩ := own_some h.net (by omega)
  have hc : ∀ i, i < 4 → w.cell? ⟨g, k * 4 + i, none⟩ = (N[k].cells)[i]? := fun i hi => by
    rw [h.net.cellAt (k * 4 + i) (by omega)]
    exact flatC_at Rq.cells 4 Rq.cells_length N k i hk hi
  exact ⟨g, rfl, rfl, hc 0 (by decide), hc 1 (by decide), hc 2 (by decide), hc 3 (by decide)⟩
end
end Go.Proofs.YtgepbklpobobbaaGreatDoor

/- ClientLedgers: what the walk needs beside its invariants, in plain words. -/
namespace Go.Proofs.YtgepbklpobobbaaGreatDoor
open Go.RowKit

def bodN (ns : List Int) (k : Nat) : List UInt8 := encInt (ns[k]?.getD 0)
/-- The requests that were sent: request k + 1 spawns ns[k] units. -/
structure Snt (ns : List Int) (N : List Rq) : Prop where
  len : N.length = ns.length
  log : ∀ k (h : k < N.length), (N[k]).log = rqP (bodN ns) k
  rng : ∀ n ∈ ns, 1 ≤ n ∧ n ≤ 900
theorem bodN_push {ns : List Int} {n : Int} {k : Nat} (hk : k < ns.length) : bodN (ns ++ [n]) k = bodN ns k := by
  unfold bodN
  rw [List.getElem?_append_left hk]
theorem Snt.push {ns : List Int} {N : List Rq} {r : Rq} {n : Int} (h : Snt ns N) (hr : r.log = (3, (N.length : Int) + 1, encInt n, tagI 77 3 ((N.length : Int) + 1) (bodyI (encInt n)))) (hn : 1 ≤ n ∧ n ≤ 900) : Snt (ns ++ [n]) (N ++ [r]) := by
  refine ⟨by rw [List.length_append, List.length_append, h.len]; rfl, fun k hk => ?_, fun x hx => ?_⟩
  · rw [List.getElem_append]
    split
    · rename_i hk2
      rw [h.log k hk2]
      unfold rqP
      rw [bodN_push (by have := h.len; omega)]
    · rename_i hk2
      rw [List.length_append, List.length_singleton] at hk
      have e : k = N.length := by omega
      subst e
      have eb : bodN (ns ++ [n]) N.length = encInt n := by
        unfold bodN
        rw [h.len, List.getElem?_append_right (Nat.le_refl _)]
        simp
      simp only [Nat.sub_self, List.getElem_singleton]
      rw [hr]
      unfold rqP
      rw [eb]
  · rw [List.mem_append, List.mem_singleton] at hx
    rcases hx with hx | rfl
    · exact h.rng x hx
    · exact hn
theorem Snt.rngD {ns : List Int} {N : List Rq} (h : Snt ns N) (k : Nat) : 0 ≤ ns[k]?.getD 0 ∧ ns[k]?.getD 0 ≤ 900 := by
  by_cases hk : k < ns.length
  · have := h.rng _ (List.getElem_mem hk)
    rw [List.getElem?_eq_getElem hk]
    exact ⟨by show 0 ≤ ns[k]; omega, this.2⟩
  · rw [List.getElem?_eq_none (by omega)]
    decide
theorem Snt.bod {ns : List Int} {N : List Rq} (h : Snt ns N) (k : Nat) : (bodN ns k).length ≤ 60 := by
  have h1 := h.rngD k
  have := encInt_len (n := ns[k]?.getD 0) (by omega) (by omega)
  unfold bodN
  omega
theorem Snt.parts {ns : List Int} {N : List Rq} (h : Snt ns N) {k : Nat} (hk : k < N.length) : (N[k]).cl = 3 ∧ (N[k]).num = (k : Int) + 1 ∧ (N[k]).bs = bodN ns k := by
  have := h.log k hk
  unfold rqP Rq.log at this
  simp only [Prod.mk.injEq] at this
  exact ⟨this.1, this.2.1, this.2.2.1⟩
/-- Reading the bytes of a request gives its units. -/
theorem read_bod {ns : List Int} {N : List Rq} (h : Snt ns N) (k : Nat) : unzigI (readU (bodN ns k) 0).2.1 = ns[k]?.getD 0 := by
  have h1 := h.rngD k
  unfold readU bodN
  rw [if_pos rfl]
  have := decU_enc (zigI_lt (n := ns[k]?.getD 0) (by omega) (by omega)) []
  rw [List.append_nil] at this
  unfold encInt
  rw [this]
  exact unzig_zig _
def sig0 : Int → Option CSt := upd (sigP []) 3 (77, 0, [])
theorem joinS_new : joinS (sigP []) 3 77 = sig0 := by
  unfold joinS sig0
  rw [if_pos (by decide)]
theorem joinE_new : joinE (sigP [] 3) 3 = 0 := by decide
theorem SesP.zero (bod : Nat → List UInt8) : SesP sig0 bod 0 := ⟨[], by unfold sig0 upd; rw [if_pos rfl]; rfl, rfl, fun k h => absurd h (by simp)⟩
/-- d requests are performed. -/
structure P2 (mx : Int → Bool) (σ : Int → Option CSt) (ns : List Int) (d : Nat) (S : LSt) : Prop where
  ses : SesP σ (bodN ns) d
  led : LgI mx (ns.take d) S
  le : d ≤ ns.length
section
variable {mx : Int → Bool} {σ : Int → Option CSt} {ns : List Int} {N : List Rq} {d k : Nat} {S S' : LSt} {w : World}
theorem P2.no (h : P2 mx σ ns d S) (hs : Snt ns N) (hk : k < N.length) (hn : (N[k]).ok w) (hne : k ≠ d) : (acRes σ N[k]).1 = false ∧ acSt σ N[k] = σ := by
  have hr := hs.log k hk
  have hb := hs.bod k
  have hl : (N[k]).n = (N[k]).bs.length := hn.1.1.symm
  have h1 : (acRes σ N[k]).1 = false := by
    rcases Nat.lt_or_ge k d with h1 | h1
    · exact h.ses.old hr hl hb h1
    · exact h.ses.more hr hl hb (by omega)
  exact ⟨h1, acSt_noP h1⟩
theorem P2.yes (h : P2 mx σ ns d S) (hs : Snt ns N) (hk : d < N.length) (hn : (N[d]).ok w) (hl12 : ns.length ≤ 12) : acRes σ N[d] = (true, [], 0) ∧ anErr (acSt σ N[d]) 3 ((d : Int) + 1) 0 = 0 ∧ ∀ S', LgI mx (ns.take d ++ [ns[d]?.getD 0]) S' → P2 mx (anSt (acSt σ N[d]) 3 ((d : Int) + 1) 0 []) ns (d + 1) S' := by
  have hl : (N[d]).n = (N[d]).bs.length := hn.1.1.symm
  have h0 := hs.len
  obtain ⟨h1, h2, h3⟩ := h.ses.new (hs.log d hk) hl (hs.bod d) (by omega)
  refine ⟨h1, h2, fun S' hS => ⟨h3, ?_, by omega⟩⟩
  have hd : d < ns.length := by omega
  rw [List.take_add_one, List.getElem?_eq_getElem hd]
  rw [List.getElem?_eq_getElem hd] at hS
  exact hS
theorem P2.lt (h : P2 mx σ ns d S) (hl12 : ns.length ≤ 12) : ∀ s, σ 3 = some s → s.2.1 < 4611686018427387904 := by
  intro s hs
  obtain ⟨acc, h1, -⟩ := h.ses
  have h2 := h.le
  rw [h1] at hs
  injection hs with hs
  subst hs
  show (d : Int) < _
  omega
theorem P2.last (h : P2 mx σ ns d S) : (σ 3).elim 0 (·.2.1) = (d : Int) := by
  obtain ⟨acc, h1, -⟩ := h.ses
  rw [h1]
  rfl
end
theorem CB.new {W w : World} {gs mb : Nat} {mx : Int → Bool} {L : Led} {S : LSt} (hb : Below W.heap.size W w) (hS : SesAt w gs mb []) (h1 : W.heap.size ≤ gs) (h2 : W.heap.size ≤ mb) (hL : LedAt mx w L S) (hi : L.it.2.1 = 1) (h3 : ∀ b, LedF L b → b ≠ mb ∧ W.heap.size ≤ b) : CB W gs mb L.gl mx (sigP []) (.slice none 0 0) [] S w :=
  ⟨hb, ⟨[], hS, rfl, by
    rintro b (rfl | rfl | ⟨c, hc, -⟩)
    · exact h1
    · exact h2
    · cases hc⟩, ⟨L, hL, rfl, hi, h3⟩, World.ownsRow_nil _ _ _ _, fun r hr => (by cases hr), fun b hb => (by cases hb)⟩
theorem cb_join {W w : World} {gs mb gA ga : Nat} {mx : Int → Bool} {vN : Value} {N op : List Rq} {S : LSt} (HJ : Hid (CB W gs mb gA mx (sigP []) vN N S w)) (HC : Hid (CC W ga vN op w)) :
    Calls Tryz.prog 8 #[.pointer (some ⟨gs, 0, none⟩), .int .i64 3, .int .u64 77] w fun e w' => e = .returned (.int .i64 0) ∧ CB W gs mb gA mx sig0 vN N S w' ∧ CC W ga vN op w' := by
  obtain ⟨cl, h1, h2, h3⟩ := HJ.out.ses
  refine (joinP_any gs mb cl 3 77 w (Lib.hid h1)).mono ?_
  rintro e w' ⟨rfl, hn⟩
  rw [h2, joinE_new]
  rw [h2, joinS_new] at hn
  refine ⟨rfl, HJ.out.ses' h1 h3 hn, ?_⟩
  obtain ⟨cl', -, -, m, -⟩ := hn
  obtain ⟨rv, k1, k2⟩ := HC.out
  refine ⟨rv, k1.mod m (fun b hb hs => ?_) h1.noB, k2⟩
  rcases k1.tyF' b hb with e | e
  · exact h1.notF e (by decide) (by decide) (by decide) hs
  · exact h1.notF e (by decide) (by decide) (by decide) hs
theorem CC.new {W w : World} {ga : Nat} (hC : CallAt w 106 49 ga 3 77 0 (.slice none 0 0) []) (hg : W.heap.size ≤ ga) : CC W ga (.slice none 0 0) [] w :=
  ⟨.slice none 0 0, hC, by
    rintro b (rfl | hb)
    · exact ⟨hg, by simp [Value.ownBlock]⟩
    · simp [Value.ownBlock] at hb⟩
end Go.Proofs.YtgepbklpobobbaaGreatDoor

/- client: Sessions beside a Caller, and requests held in variables. -/
namespace Go.Proofs.YtgepbklpobobbaaGreatDoor
open Go.RowKit

/-- Sessions, a Caller, requests in variables of their own; nothing older than W is changed. -/
structure Both (W w : World) (g mb : Nat) (cl : List Cl) (gc : Nat) (ccl key last : Int) (rv : Value) (op : List Rq) (hs : List (Nat × Rq)) : Prop where
  ses : SesAt w g mb cl
  call : CallAt w 106 49 gc ccl key last rv op
  ne : ∀ b, SesF g mb cl b → ¬ CallF gc rv b
  below : Below W.heap.size W w
  sge : ∀ b, SesF g mb cl b → W.heap.size ≤ b
  cge : ∀ b, CallF gc rv b → W.heap.size ≤ b
  held : ∀ p ∈ hs, Blk w p.1 49 #[.int .i64 p.2.cl, .int .i64 p.2.num, .slice p.2.A p.2.n p.2.c, .int .u64 p.2.tag] ∧ p.2.ok w ∧ ¬ SesF g mb cl p.1 ∧ ¬ CallF gc rv p.1
section
variable {W w w' : World} {g mb gc : Nat} {cl cl' : List Cl} {ccl key last last' : Int} {rv rv' : Value} {op op' : List Rq} {hs : List (Nat × Rq)}
theorem Both.all (h : Both W w g mb cl gc ccl key last rv op hs) (hb : Below w.heap.size w w') : Both W w' g mb cl gc ccl key last rv op hs :=
  ⟨h.ses.all hb, h.call.all hb, h.ne, bt h.below hb, h.sge, h.cge, fun p hp => ⟨(h.held p hp).1.all hb, (h.held p hp).2.1.all hb, (h.held p hp).2.2⟩⟩
theorem Both.toSes (h : Both W w g mb cl gc ccl key last rv op hs) (hS : SesAt w' g mb cl') (m : Mod (SesF g mb cl) w w') (hF : ∀ b, SesF g mb cl' b → SesF g mb cl b ∨ w.heap.size ≤ b) : Both W w' g mb cl' gc ccl key last rv op hs :=
  ⟨hS, h.call.mod m (fun b hb hs => h.ne b hs hb) h.ses.noB, fun b hb hc => (hF b hb).elim (fun hb => h.ne b hb hc) (fun hb => by have := h.call.ltF b hc; omega), m.below h.below h.below.size h.sge,
    fun b hb => (hF b hb).elim (h.sge b) (fun hb => Nat.le_trans h.below.size hb), h.cge,
    fun p hp => ⟨m.blk (h.held p hp).1 (h.held p hp).2.2.1, (h.held p hp).2.1.mod m h.ses.noB, fun hb => (hF _ hb).elim (h.held p hp).2.2.1 (fun hb => by have := (h.held p hp).1.lt; omega), (h.held p hp).2.2.2⟩⟩
theorem CallF.grow {F : Nat} (hrv : rv'.ownBlock = rv.ownBlock ∨ ∀ b, rv'.ownBlock = some b → F ≤ b) : ∀ b, CallF gc rv' b → CallF gc rv b ∨ F ≤ b := by
  rintro b (e | e)
  · exact .inl (.inl e)
  · rcases hrv with h | h
    · exact .inl (.inr (h ▸ e))
    · exact .inr (h b e)
theorem Both.toCall (h : Both W w g mb cl gc ccl key last rv op hs) (hC : CallAt w' 106 49 gc ccl key last' rv' op') (m : Mod (CallF gc rv) w w') (hrv : rv'.ownBlock = rv.ownBlock ∨ ∀ b, rv'.ownBlock = some b → w.heap.size ≤ b) :
    Both W w' g mb cl gc ccl key last' rv' op' hs :=
  have hF := CallF.grow (gc := gc) hrv
  have hnb := h.call.noB (by decide) (by decide)
  ⟨h.ses.mod m (fun b hb hc => h.ne b hb hc) hnb, hC, fun b hb hc => (hF b hc).elim (h.ne b hb) (fun hc => by have := h.ses.ltF b hb; omega), m.below h.below h.below.size h.cge, h.sge,
    fun b hb => (hF b hb).elim (h.cge b) (fun hb => Nat.le_trans h.below.size hb),
    fun p hp => ⟨m.blk (h.held p hp).1 (h.held p hp).2.2.2, (h.held p hp).2.1.mod m hnb, (h.held p hp).2.2.1, fun hb => (hF _ hb).elim (h.held p hp).2.2.2 (fun hb => by have := (h.held p hp).1.lt; omega)⟩⟩
theorem Both.hold (h : Both W w g mb cl gc ccl key last rv op hs) (r : Rq) (hr : r.ok w) : Both W (w.alloc (.cells #[.int .i64 r.cl, .int .i64 r.num, .slice r.A r.n r.c, .int .u64 r.tag] 49)) g mb cl gc ccl key last rv op ((w.heap.size, r) :: hs) := by
  have hb := (Below.refl w.heap.size w).alloc (Nat.le_refl _) (.cells #[.int .i64 r.cl, .int .i64 r.num, .slice r.A r.n r.c, .int .u64 r.tag] 49)
  obtain ⟨x1, x2, x3, x4, x5, x6, x7⟩ := h.all hb
  refine ⟨x1, x2, x3, x4, x5, x6, fun p hp => ?_⟩
  rw [List.mem_cons] at hp
  rcases hp with rfl | hp
  · exact ⟨Blk.new _ _ _, hr.all hb, fun hf => by have := h.ses.ltF _ hf; omega, fun hf => by have := h.call.ltF _ hf; omega⟩
  · exact x7 p hp
theorem Both.sent {bs : List UInt8} {e : Ending} (h : Both W w g mb cl gc ccl key last rv op hs) (hp : SendYes 106 49 gc ccl key last rv op bs w e w') :
    ∃ (r r2 : Rq) (rv' : Value), e = .returned (.tuple #[r2.val, .int .i64 0]) ∧ r2.ok w' ∧ r.log = (ccl, last + 1, bs, tagI key ccl (last + 1) (bodyI bs)) ∧ r2.log = r.log ∧ Both W w' g mb cl gc ccl key (last + 1) rv' (op ++ [r]) hs := by
  obtain ⟨r, r2, rv', he, h2, h3, h4, h5, h6, h7⟩ := hp
  exact ⟨r, r2, rv', he, h2, h3, h4, h.toCall h5 h6 h7⟩
end
theorem Bts.lit (w : World) (l : List UInt8) : Bts (w.alloc (.cells (l.map fun b => Value.int .u8 ((b.toNat : Nat) : Int)).toArray 5)) (some ⟨w.heap.size, 0, none⟩) l.length l.length l ∨ 9223372036854775807 < l.length := by
  by_cases h : l.length ≤ 9223372036854775807
  · refine .inl ⟨rfl, Nat.le_refl _, h, fun _ => ⟨w.heap.size, 0, _, _, rfl, World.alloc_heap_new w _, fun j hj => ?_⟩⟩
    simp [vByte, hj]
  · exact .inr (by omega)
end Go.Proofs.YtgepbklpobobbaaGreatDoor
