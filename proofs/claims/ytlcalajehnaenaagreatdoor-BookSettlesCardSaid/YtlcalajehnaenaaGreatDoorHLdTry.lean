/- ledger: try, at valid steps (Spawn, Trade). -/
import Derived.Test.YtlcalajehnaenaaGreatDoorHG21
import Derived.Test.YtlcalajehnaenaaGreatDoorHLdPoss
namespace Go.Proofs.YtlcalajehnaenaaGreatDoor
open Go.RowKit
theorem step_id {sh ns : Nat} (h1 : sh ≤ 1000) (h2 : ns ≤ 60000) : IntKind.i64.wrap ((sh : Int) * 4294967296 + (ns : Int)) = (sh : Int) * 4294967296 + (ns : Int) := IntWalk.i64_in _ (by omega)
def newCh (p g n : Nat) (kind actor tick : Int) : Chg := ⟨p + 1 + 1 + 1 + 1, p, p + 1, p + 1 + 1, p + 1 + 1 + 1, (some ⟨g, 0, none⟩, n, n), (none, 0, 0), kind, actor, tick, [], []⟩
def newW (w3 : World) (L : Led) (g n : Nat) (id kind actor tick : Int) : World :=
 ((((w3.alloc (.map #[] 0)).alloc (.map #[] 0)).alloc (.map #[] 0)).alloc (.map #[] 0)).alloc (.cells #[.pointer (some ⟨L.gl, 0, none⟩), .int .i64 id, .int .i64 kind, .int .i64 actor, .int .i64 tick, .int .i64 (-1), .int .i64 0, .slice (some ⟨g, 0, none⟩) n n, .map (some w3.heap.size), .map (some (w3.heap.size + 1)), .map (some (w3.heap.size + 1 + 1)), .map (some (w3.heap.size + 1 + 1 + 1)), .slice none 0 0, .slice none 0 0] 106)
theorem ChAt.new {mx : Int → Bool} {w3 : World} {L : Led} {S0 : LSt} {B : Nat} (hL : LedAt mx w3 L S0) (hB : B ≤ w3.heap.size) (g n : Nat) (id kind actor tick : Int) :
 Below w3.heap.size w3 (newW w3 L g n id kind actor tick) ∧ (newW w3 L g n id kind actor tick).cell? ⟨w3.heap.size + 1 + 1 + 1 + 1, 1, none⟩ = some (.int .i64 id) ∧ (newW w3 L g n id kind actor tick).frozen? ⟨w3.heap.size + 1 + 1 + 1 + 1, 1, none⟩ = false ∧
  ChAt B ((newW w3 L g n id kind actor tick).drew.setCell ⟨w3.heap.size + 1 + 1 + 1 + 1, 1, none⟩ (.int .i64 ((S0.sh : Int) * 4294967296 + (S0.ns : Int)))) L S0 S0 (newCh w3.heap.size g n kind actor tick) := by
 obtain ⟨M, hM⟩ : ∃ M : Obj, M = .map #[] 0 := ⟨_, rfl⟩
 unfold newW
 rw [← hM]
 obtain ⟨p, hp⟩ : ∃ p, w3.heap.size = p := ⟨_, rfl⟩
 have s1 : (w3.alloc M).heap.size = p + 1 := by simp [hp]
 have s2 : ((w3.alloc M).alloc M).heap.size = p + 1 + 1 := by simp [hp]
 have s3 : (((w3.alloc M).alloc M).alloc M).heap.size = p + 1 + 1 + 1 := by simp [hp]
 have s4 : ((((w3.alloc M).alloc M).alloc M).alloc M).heap.size = p + 1 + 1 + 1 + 1 := by simp [hp]
 have g1 := GMap.new kEnc w3
 have g2 := IMap.new (w3.alloc M)
 have g3 := IMap.new ((w3.alloc M).alloc M)
 have g4 := IMap.new (((w3.alloc M).alloc M).alloc M)
 rw [← hM] at g1 g2 g3 g4
 rw [hp] at g1
 rw [s1] at g2
 rw [s2] at g3
 rw [s3] at g4
 have al : ∀ (x : World) (o : Obj), Below x.heap.size x (x.alloc o) := fun x o => (Below.refl _ x).alloc (Nat.le_refl _) o
 have hc := Blk.new ((((w3.alloc M).alloc M).alloc M).alloc M) 106 #[.pointer (some ⟨L.gl, 0, none⟩), .int .i64 id, .int .i64 kind, .int .i64 actor, .int .i64 tick, .int .i64 (-1), .int .i64 0, .slice (some ⟨g, 0, none⟩) n n, .map (some w3.heap.size), .map (some (w3.heap.size + 1)), .map (some (w3.heap.size + 1 + 1)), .map (some (w3.heap.size + 1 + 1 + 1)), .slice none 0 0, .slice none 0 0]
 rw [s4] at hc
 have hb : Below w3.heap.size w3 (((((w3.alloc M).alloc M).alloc M).alloc M).alloc (.cells #[.pointer (some ⟨L.gl, 0, none⟩), .int .i64 id, .int .i64 kind, .int .i64 actor, .int .i64 tick, .int .i64 (-1), .int .i64 0, .slice (some ⟨g, 0, none⟩) n n, .map (some w3.heap.size), .map (some (w3.heap.size + 1)), .map (some (w3.heap.size + 1 + 1)), .map (some (w3.heap.size + 1 + 1 + 1)), .slice none 0 0, .slice none 0 0] 106)) := bt (bt (bt (bt (al _ _) (al _ _)) (al _ _)) (al _ _)) (al _ _)
 have G1 := (((g1.all (al _ M)).all (al _ M)).all (al _ M)).all (al _ (.cells #[.pointer (some ⟨L.gl, 0, none⟩), .int .i64 id, .int .i64 kind, .int .i64 actor, .int .i64 tick, .int .i64 (-1), .int .i64 0, .slice (some ⟨g, 0, none⟩) n n, .map (some w3.heap.size), .map (some (w3.heap.size + 1)), .map (some (w3.heap.size + 1 + 1)), .map (some (w3.heap.size + 1 + 1 + 1)), .slice none 0 0, .slice none 0 0] 106))
 have G2 := ((g2.all (al _ M)).all (al _ M)).all (al _ (.cells #[.pointer (some ⟨L.gl, 0, none⟩), .int .i64 id, .int .i64 kind, .int .i64 actor, .int .i64 tick, .int .i64 (-1), .int .i64 0, .slice (some ⟨g, 0, none⟩) n n, .map (some w3.heap.size), .map (some (w3.heap.size + 1)), .map (some (w3.heap.size + 1 + 1)), .map (some (w3.heap.size + 1 + 1 + 1)), .slice none 0 0, .slice none 0 0] 106))
 have G3 := (g3.all (al _ M)).all (al _ (.cells #[.pointer (some ⟨L.gl, 0, none⟩), .int .i64 id, .int .i64 kind, .int .i64 actor, .int .i64 tick, .int .i64 (-1), .int .i64 0, .slice (some ⟨g, 0, none⟩) n n, .map (some w3.heap.size), .map (some (w3.heap.size + 1)), .map (some (w3.heap.size + 1 + 1)), .map (some (w3.heap.size + 1 + 1 + 1)), .slice none 0 0, .slice none 0 0] 106))
 have G4 := g4.all (al _ (.cells #[.pointer (some ⟨L.gl, 0, none⟩), .int .i64 id, .int .i64 kind, .int .i64 actor, .int .i64 tick, .int .i64 (-1), .int .i64 0, .slice (some ⟨g, 0, none⟩) n n, .map (some w3.heap.size), .map (some (w3.heap.size + 1)), .map (some (w3.heap.size + 1 + 1)), .map (some (w3.heap.size + 1 + 1 + 1)), .slice none 0 0, .slice none 0 0] 106))
 rw [hp] at hb hc G1 G2 G3 G4 hB ⊢
 have hL5 := hL.all (by rw [hp]; exact hb)
 obtain ⟨W, hW⟩ : ∃ W, ((((w3.alloc M).alloc M).alloc M).alloc M).alloc (.cells #[.pointer (some ⟨L.gl, 0, none⟩), .int .i64 id, .int .i64 kind, .int .i64 actor, .int .i64 tick, .int .i64 (-1), .int .i64 0, .slice (some ⟨g, 0, none⟩) n n, .map (some p), .map (some (p + 1)), .map (some (p + 1 + 1)), .map (some (p + 1 + 1 + 1)), .slice none 0 0, .slice none 0 0] 106) = W := ⟨_, rfl⟩
 rw [hW] at hb hc G1 G2 G3 G4 hL5 ⊢
 have m : Mod (fun b => b = p + 1 + 1 + 1 + 1) W (W.setCell ⟨p + 1 + 1 + 1 + 1, 1, none⟩ (.int .i64 ((S0.sh : Int) * 4294967296 + (S0.ns : Int)))) := (Mod.refl (fun b => b = p + 1 + 1 + 1 + 1) W).set (.inl rfl) _
 have hty : ∀ b t, b = p + 1 + 1 + 1 + 1 → Ty W b t → t = 106 := fun b t e h => by rw [e] at h; exact h.unique hc.ty
 have hcells : (newCh p g n kind actor tick).cells L S0 = (#[.pointer (some ⟨L.gl, 0, none⟩), .int .i64 id, .int .i64 kind, .int .i64 actor, .int .i64 tick, .int .i64 (-1), .int .i64 0, .slice (some ⟨g, 0, none⟩) n n, .map (some p), .map (some (p + 1)), .map (some (p + 1 + 1)), .map (some (p + 1 + 1 + 1)), .slice none 0 0, .slice none 0 0] : Array Value).setIfInBounds 1 (.int .i64 ((S0.sh : Int) * 4294967296 + (S0.ns : Int))) := by simp [newCh, Chg.cells, slV]
 refine ⟨hb, hc.cell 1, hc.frozen 1, ChAt.all (w := W.setCell ⟨p + 1 + 1 + 1 + 1, 1, none⟩ (.int .i64 ((S0.sh : Int) * 4294967296 + (S0.ns : Int)))) ?_ ⟨rfl, rfl, rfl, Nat.le_refl _, fun _ _ => rfl⟩⟩
 refine ⟨?_, G1.mod m (by show ¬ p = _; omega), G2.mod m (by show ¬ p + 1 = _; omega), G3.mod m (by show ¬ p + 1 + 1 = _; omega), G4.mod m (by show ¬ p + 1 + 1 + 1 = _; omega), fun k => ?_, fun i => ?_, ⟨[], by show World.ownsRow _ B _ 11 (.slice none 0 0) (S0.nf - S0.nf) []; rw [Nat.sub_self]; exact World.ownsRow_nil _ _ _ _, by simp⟩, Nat.le_refl _, rfl, by simp only [newCh]; omega, by simp only [newCh]; omega⟩
 ·rw [hcells]
  exact hc.set_ 1 _
 ·exact (hL5.st k).mod m (fun b e ht => absurd (hty b _ e ht) (by decide))
 ·exact hL5.tt i
theorem mvBlk_at {w : World} {g k : Nat} {ms : List Mv} {m : Mv} (h : Blk w g 40 (ms.flatMap mvV).toArray) (hm : ms[k]? = some m) :
 w.cell? ⟨g, k * 5, none⟩ = some (.int .i64 m.frm) ∧ w.cell? ⟨g, k * 5 + 1, none⟩ = some (.int .i64 m.dst) ∧ w.cell? ⟨g, k * 5 + 2, none⟩ = some (.int .i64 m.item) ∧ w.cell? ⟨g, k * 5 + 3, none⟩ = some (.int .i64 m.n) ∧ w.cell? ⟨g, k * 5 + 4, none⟩ = some (.slice none 0 0) := by
 obtain ⟨hk, e⟩ := List.getElem?_eq_some_iff.1 hm
 have hc : ∀ i, i < 5 → w.cell? ⟨g, k * 5 + i, none⟩ = (mvV m)[i]? := fun i hi => by
  have := flatT_at mvV 5 mvV_len ms k i hk hi
  rw [h.cell, List.getElem?_toArray, this, e]
 exact ⟨hc 0 (by decide), hc 1 (by decide), hc 2 (by decide), hc 3 (by decide), hc 4 (by decide)⟩
theorem moveP_err {mx : Int → Bool} {S : LSt} {m : Mv} {er : Int} (h : moveP mx S m = .error er) : er = 10 ∨ er = 4 := by
 unfold moveP at h
 cases hw : wdP mx S m with
 | none => rw [hw] at h; injection h with h; exact .inl h.symm
 | some S1 =>
   rw [hw] at h
   dsimp only at h
   split at h
   ·injection h with h; exact .inr h.symm
   ·split at h
    ·injection h with h; exact .inr h.symm
    ·cases h
theorem sumN_take : ∀ (ms : List Mv) (k : Nat), (∀ m ∈ ms, 1 ≤ m.n) → sumN (ms.take k) ≤ sumN ms
 | [], k, _ => by simp [sumN]
 | m :: ms, 0, h => by
   have := sumN_take ms 0 (fun x hx => h x (by simp [hx]))
   have := h m (by simp)
   simp only [List.take_zero, sumN] at *
   omega
 | m :: ms, k + 1, h => by
   have := sumN_take ms k (fun x hx => h x (by simp [hx]))
   simp only [List.take_succ_cons, sumN]
   omega
def TryPost (mx : Int → Bool) (w : World) (L : Led) (S0 : LSt) (ms : List Mv) (kind actor tick : Int) (e : Ending) (w' : World) : Prop :=
 match mvsP mx S0 ms with
 | .error er => e = .returned (.tuple #[.pointer none, .int .i64 er]) ∧ Below w.heap.size w w'
 | .ok S' => ∃ C : Chg, e = .returned (.tuple #[.pointer (some ⟨C.gc, 0, none⟩), .int .i64 0]) ∧ ChAt w.heap.size w' L S0 S' C ∧ Below w.heap.size w w' ∧ C.kind = kind ∧ C.actor = actor ∧ C.tick = tick
set_option maxRecDepth 100000 in
set_option maxHeartbeats 16000000 in
theorem try0_any (mx : Int → Bool) (K : Int) (L : Led) (S0 : LSt) (id actor tick : Int) (A : Option Addr) (n c : Nat) (ms : List Mv) (w : World) (HL : Hid (LedAt mx w L S0)) (HO : Hid (LOk mx K S0)) (HM : Hid (MvAt w A n c ms)) (HOK : Hid (∀ m ∈ ms, MvOk L.it.2.1 m)) (HF : Hid (∀ m ∈ ms, m.frm = 0))
 (hn0 : 1 ≤ n) (hn : n ≤ 64) (ha : 0 ≤ actor ∧ actor ≤ 1073741824) (ht0 : 0 ≤ tick) (ht1 : tick ≤ 1099511627776) (ht2 : S0.now ≤ tick) (hns : S0.ns ≤ 60000) (hK : K + sumN ms ≤ 1073741824) (hgl : L.it.2.1 ≤ 64) (hnf : S0.nf + n ≤ 1000000) :
 Calls Tryz.prog 28 #[.pointer (some ⟨L.gl, 0, none⟩), stA id 0 actor tick (-1) 0 (.slice A n c)] w (TryPost mx w L S0 ms 0 actor tick) := by
 have hnsI : ¬ ((65536 : Int) ≤ (S0.ns : Int)) := by omega
 have hlen : ms.length = n := HM.out.1
 have hmm := @run_makeMap Tryz.prog
 unfold stA
 have hba := (Below.refl w.heap.size w).alloc (Nat.le_refl _) (.cells #[.int .i64 id, .int .i64 0, .int .i64 actor, .int .i64 tick, .int .i64 (-1), .int .i64 0, .slice A n c] 43)
 have kb := Blk.new w 43 #[.int .i64 id, .int .i64 0, .int .i64 actor, .int .i64 tick, .int .i64 (-1), .int .i64 0, .slice A n c]
 obtain ⟨w1, hw1⟩ : ∃ w1, w.alloc (.cells #[.int .i64 id, .int .i64 0, .int .i64 actor, .int .i64 tick, .int .i64 (-1), .int .i64 0, .slice A n c] 43) = w1 := ⟨_, rfl⟩
 obtain ⟨b, hb⟩ : ∃ b, w.heap.size = b := ⟨_, rfl⟩
 rw [hw1] at hba kb
 rw [hb] at kb
 have HB1 := Lib.hid hba
 have HL1 := Lib.hid (HL.out.all hba)
 have HM1 := Lib.hid (HM.out.all hba)
 obtain ⟨ys, hys, -, -⟩ := HL1.out.sp
 obtain ⟨As, cs, hsp⟩ := own_split hys
 have l7 : w1.cell? ⟨L.gl, 7, none⟩ = some (slV L.sp) := HL1.out.c.cell 7
 rw [hsp] at l7
 have HSP := Lib.hid hsp
 have s0 : w1.cell? ⟨b, 0, none⟩ = some (.int .i64 id) := kb.cell 0
 have s1 : w1.cell? ⟨b, 1, none⟩ = some (.int .i64 0) := kb.cell 1
 have s2 : w1.cell? ⟨b, 2, none⟩ = some (.int .i64 actor) := kb.cell 2
 have s3 : w1.cell? ⟨b, 3, none⟩ = some (.int .i64 tick) := kb.cell 3
 have s4 : w1.cell? ⟨b, 4, none⟩ = some (.int .i64 (-1)) := kb.cell 4
 have s5 : w1.cell? ⟨b, 5, none⟩ = some (.int .i64 0) := kb.cell 5
 have s6 : w1.cell? ⟨b, 6, none⟩ = some (.slice A n c) := kb.cell 6
 have KB := Lib.hid kb
 clear hys hsp ys hba kb
 go_enter Tryz.func28, Tryz.ntmps28
 go_wp2_with fail
 clear hw1 hb s0 s1 s2 s3 s4 s5 s6 l7
 refine (poss0_any mx L S0 id actor tick A n c ms w1 HL1 HM1 HOK HF hn0 hn ha ht0 ht1 ht2 hns).mono ?_
 rintro e w2 ⟨rfl, hb2⟩
 have kb := KB.out.all hb2
 have s0 : w2.cell? ⟨b, 0, none⟩ = some (.int .i64 id) := kb.cell 0
 have s1 : w2.cell? ⟨b, 1, none⟩ = some (.int .i64 0) := kb.cell 1
 have s2 : w2.cell? ⟨b, 2, none⟩ = some (.int .i64 actor) := kb.cell 2
 have s3 : w2.cell? ⟨b, 3, none⟩ = some (.int .i64 tick) := kb.cell 3
 have s4 : w2.cell? ⟨b, 4, none⟩ = some (.int .i64 (-1)) := kb.cell 4
 have s5 : w2.cell? ⟨b, 5, none⟩ = some (.int .i64 0) := kb.cell 5
 have s6 : w2.cell? ⟨b, 6, none⟩ = some (.slice A n c) := kb.cell 6
 have HB2 := Lib.hid (bt HB1.out hb2)
 have HL2 := Lib.hid (HL1.out.all hb2)
 have HM2 := Lib.hid (HM1.out.all hb2)
 clear hb2 kb
 go_wp2_with fail
 clear s0 s1 s2 s3 s4 s5 s6
 refine (copySt_any id 0 actor tick (-1) 0 A n c ms w2 HM2 hn0 (by omega)).mono ?_
 rintro e w3 ⟨g, rfl, hg, hbk, hb3⟩
 unfold stA
 have HB3 := Lib.hid (bt HB2.out hb3)
 have HL3 := Lib.hid (HL2.out.all hb3)
 have HBK := Lib.hid hbk
 have HG : Hid (w.heap.size ≤ g) := Lib.hid (Nat.le_trans HB2.out.size hg)
 clear hb3 hbk hg
 go_wp2_with fail
 change Code.wp _ _ _ _ (newW w3 L g n id 0 actor tick)
 obtain ⟨hbn, hcn, hfn, hch⟩ := ChAt.new HL3.out HB3.out.size g n id 0 actor tick
 obtain ⟨gc, hgc⟩ : ∃ gc, w3.heap.size + 1 + 1 + 1 + 1 = gc := ⟨_, rfl⟩
 obtain ⟨C, hC⟩ : ∃ C, newCh w3.heap.size g n 0 actor tick = C := ⟨_, rfl⟩
 have hCg : C.gc = gc := by rw [← hC, ← hgc]; rfl
 have hCm : C.mv = (some ⟨g, 0, none⟩, n, n) := by rw [← hC]; rfl
 have hCk : C.kind = 0 := by rw [← hC]; rfl
 have hCa : C.actor = actor := by rw [← hC]; rfl
 have hCt : C.tick = tick := by rw [← hC]; rfl
 obtain ⟨w4, hw4⟩ : ∃ w4, newW w3 L g n id 0 actor tick = w4 := ⟨_, rfl⟩
 rw [hw4] at hbn hcn hfn hch ⊢
 rw [hgc] at hcn hfn hch ⊢
 rw [hC] at hch
 have HBN := Lib.hid hbn
 have HCH := Lib.hid hch
 have hL4 := HL3.out.all hbn
 have l0 : w4.cell? ⟨L.gl, 0, none⟩ = some (.int .i64 (S0.sh : Int)) := hL4.c.cell 0
 have l7 : w4.cell? ⟨L.gl, 7, none⟩ = some (slV L.sp) := hL4.c.cell 7
 rw [HSP.out] at l7
 have hsh := HO.out.sh
 have w_1 : IntKind.i64.wrap ((S0.sh : Int) * 4294967296) = (S0.sh : Int) * 4294967296 := IntWalk.i64_in _ (by omega)
 have w_2 : IntKind.i64.wrap ((S0.sh : Int) * 4294967296 + (S0.ns : Int)) = (S0.sh : Int) * 4294967296 + (S0.ns : Int) := step_id hsh hns
 obtain ⟨w5, hw5⟩ : ∃ w5, w4.drew.setCell ⟨gc, 1, none⟩ (.int .i64 ((S0.sh : Int) * 4294967296 + (S0.ns : Int))) = w5 := ⟨_, rfl⟩
 rw [hw5] at hch
 have HC5 := Lib.hid hch
 have hb5 : Below w.heap.size w w5 := by rw [← hw5]; exact (HB3.out.trans (hbn.mono HB3.out.size)).drew.setCell (p := ⟨gc, 1, none⟩) (by have := hch.lo.1; rw [hCg] at this; exact this) _
 have hb35 : Below w3.heap.size w3 w5 := by rw [← hw5]; exact hbn.drew.setCell (p := ⟨gc, 1, none⟩) (by show w3.heap.size ≤ gc; rw [← hgc]; omega) _
 have HB5 := Lib.hid hb5
 have HBK5 := Lib.hid (HBK.out.all hb35)
 have c7 : w5.cell? ⟨gc, 7, none⟩ = some (.slice (some ⟨g, 0, none⟩) n n) := by have := hch.c.cell 7; rw [hCg] at this; rw [this]; simp [Chg.cells, hCm, slV]
 clear hbn hch hC hgc hw4 hmm hL4 HCH hb5 hb35
 go_still_tail 15, (by kernel_rfl)
 change wpList _ _ _ _ _ w4.drew
 go_wp2_with fail
 clear c7 l0 l7 w_1 w_2 hcn hfn
 have HC0 : Hid (∃ C' : Chg, ChAt w.heap.size w5 L S0 S0 C' ∧ C'.gc = gc ∧ C'.kind = 0 ∧ C'.actor = actor ∧ C'.tick = tick) := Lib.hid ⟨C, HC5.out, hCg, hCk, hCa, hCt⟩
 clear HC5 hCg hCm hCk hCa hCt
 go_loopg [50] n (fun gk iv wr => ∃ (k : Nat) (S : LSt), k + gk = n ∧ iv = .int .i64 (k : Int) ∧ Hid (mvsP mx S0 (ms.take k) = .ok S) ∧ Hid (∃ C' : Chg, ChAt w.heap.size wr L S0 S C' ∧ C'.gc = gc ∧ C'.kind = 0 ∧ C'.actor = actor ∧ C'.tick = tick) ∧ Hid (Below w.heap.size w wr) ∧ Hid (Blk wr g 40 (ms.flatMap mvV).toArray))
 case atStart => exact ⟨0, S0, by omega, rfl, Lib.hid rfl, HC0, HB5, HBK5⟩
 case round =>
  obtain ⟨k, S, hi, rfl, HMV, HCC, HB, HBLK⟩ := hrel
  have HHI := Lib.hid hi
  clear HC0 HBK5 HB5
  rcases Nat.lt_or_ge k n with hlt | hge
  ·have hltI : (k : Int) < (n : Int) := by omega
   have hi0 : (0 : Int) ≤ (k : Int) := by omega
   have hkl : k < ms.length := by omega
   obtain ⟨m, hm⟩ : ∃ m, ms[k]? = some m := ⟨ms[k], List.getElem?_eq_getElem hkl⟩
   obtain ⟨k0, k1, k2, k3, k4⟩ := mvBlk_at HBLK.out hm
   have HMO := Lib.hid (HOK.out m (List.mem_of_getElem? hm))
   have HMK := Lib.hid hm
   obtain ⟨ho, hnfk, -, -, -⟩ := mvsP_ok (ms.take k) HO.out (fun x hx => ⟨(HOK.out x (List.mem_of_mem_take hx)).n0, (HOK.out x (List.mem_of_mem_take hx)).n1⟩) (by rw [List.length_take]; omega) HMV.out
   have HOS : Hid (LOk mx (K + sumN ms) S) := Lib.hid (ho.more (by have := sumN_take ms k (fun x hx => (HOK.out x hx).n0); omega))
   have HNF : Hid (S.nf < 1000000) := Lib.hid (by rw [hnfk, List.length_take]; omega)
   have hba := (Below.refl wr.heap.size wr).alloc (Nat.le_refl _) (.cells #[.int .i64 m.frm, .int .i64 m.dst, .int .i64 m.item, .int .i64 m.n, .slice none 0 0] 40)
   obtain ⟨C', hc, hcg, hck, hca, hct⟩ := HCC.out
   have HCA := Lib.hid (hc.all hba)
   have HBA := Lib.hid (HB.out.trans (hba.mono HB.out.size))
   have HBB := Lib.hid (HBLK.out.all hba)
   have hmv := move_any m w _ HCA HL HBA HOS HMO hK hgl (by rw [hck]; decide) HNF.out
   rw [hcg] at hmv
   have HMVE := Lib.hid hmv
   have HCF : Hid (C'.gc = gc ∧ C'.kind = 0 ∧ C'.actor = actor ∧ C'.tick = tick) := Lib.hid ⟨hcg, hck, hca, hct⟩
   have HCH0 := Lib.hid hc
   clear hi hm hba ho hnfk hmv hc hcg hck hca hct
   go_wp2_with fail
   refine HMVE.out.mono ?_
   intro e w6 h6
   unfold MovePost at h6
   cases hpv : moveP mx S m with
   | error er =>
     rw [hpv] at h6
     obtain ⟨rfl, hb6⟩ := h6
     have her := moveP_err hpv
     have HE : Hid (mvsP mx S0 ms = .error er) := Lib.hid (by
      have h1 := mvsP_fail (ms.take k) S0 S m (ms.drop (k + 1)) er HMV.out hpv
      have h2 : ms.take k ++ m :: ms.drop (k + 1) = ms := by
       have h3 := List.getElem?_eq_some_iff.1 HMK.out
       obtain ⟨h3, h4⟩ := h3
       rw [← h4, List.getElem_cons_drop, List.take_append_drop]
      rw [h2] at h1
      exact h1)
     have HB6 := Lib.hid hb6
     clear hb6 hpv
     rcases her with rfl | rfl
     ·go_wp2
      go_ret2
      unfold TryPost
      rw [HE.out]
      exact ⟨rfl, HB6.out⟩
     ·go_wp2
      go_ret2
      unfold TryPost
      rw [HE.out]
      exact ⟨rfl, HB6.out⟩
   | ok S' =>
     rw [hpv] at h6
     obtain ⟨es, ts, fl, rfl, hc6, hm6⟩ := h6
     have HC6 : Hid (∃ C' : Chg, ChAt w.heap.size w6 L S0 S' C' ∧ C'.gc = gc ∧ C'.kind = 0 ∧ C'.actor = actor ∧ C'.tick = tick) := Lib.hid ⟨_, hc6, HCF.out⟩
     have HB6 : Hid (Below w.heap.size w w6) := Lib.hid (hm6.below HBA.out HBA.out.size (fun b hb => HCA.out.low hb))
     have HBK6 := Lib.hid (hm6.blk HBB.out (fun hf => HCA.out.not_ty hf HBB.out.ty (by decide) (by decide)))
     have HMV6 : Hid (mvsP mx S0 (ms.take (k + 1)) = .ok S') := Lib.hid (by rw [take_snoc HMK.out, mvsP_snoc _ _ _ _ HMV.out]; exact hpv)
     clear hc6 hm6 hpv
     go_wp2
     go_roundg (n - (k + 1))
     case measure => have := HHI.out; omega
     case rel => exact ⟨k + 1, S', by have := HHI.out; omega, by go_num, HMV6, HC6, HB6, HBK6⟩
  ·obtain rfl : k = n := by omega
   have hnl : ¬ ((k : Int) < (k : Int)) := by omega
   go_wp2
   go_ret2
   unfold TryPost
   have hmv := HMV.out
   rw [List.take_of_length_le (by omega)] at hmv
   rw [hmv]
   obtain ⟨C', hc, hcg, hcr⟩ := HCC.out
   exact ⟨C', by rw [hcg]; rfl, hc, HB.out, hcr⟩
set_option maxRecDepth 100000 in
set_option maxHeartbeats 16000000 in
theorem try2_any (mx : Int → Bool) (K : Int) (L : Led) (S0 : LSt) (id actor tick : Int) (A : Option Addr) (n c : Nat) (ms : List Mv) (w : World) (HL : Hid (LedAt mx w L S0)) (HO : Hid (LOk mx K S0)) (HM : Hid (MvAt w A n c ms)) (HOK : Hid (∀ m ∈ ms, MvOk L.it.2.1 m)) (HF : Hid (∀ m ∈ ms, 1 ≤ m.frm))
 (hn0 : 1 ≤ n) (hn : n ≤ 64) (ha : 0 ≤ actor ∧ actor ≤ 1073741824) (ht0 : 0 ≤ tick) (ht1 : tick ≤ 1099511627776) (ht2 : S0.now ≤ tick) (hns : S0.ns ≤ 60000) (hK : K + sumN ms ≤ 1073741824) (hgl : L.it.2.1 ≤ 64) (hnf : S0.nf + n ≤ 1000000) :
 Calls Tryz.prog 28 #[.pointer (some ⟨L.gl, 0, none⟩), stA id 2 actor tick (-1) 0 (.slice A n c)] w (TryPost mx w L S0 ms 2 actor tick) := by
 have hnsI : ¬ ((65536 : Int) ≤ (S0.ns : Int)) := by omega
 have hlen : ms.length = n := HM.out.1
 have hmm := @run_makeMap Tryz.prog
 unfold stA
 have hba := (Below.refl w.heap.size w).alloc (Nat.le_refl _) (.cells #[.int .i64 id, .int .i64 2, .int .i64 actor, .int .i64 tick, .int .i64 (-1), .int .i64 0, .slice A n c] 43)
 have kb := Blk.new w 43 #[.int .i64 id, .int .i64 2, .int .i64 actor, .int .i64 tick, .int .i64 (-1), .int .i64 0, .slice A n c]
 obtain ⟨w1, hw1⟩ : ∃ w1, w.alloc (.cells #[.int .i64 id, .int .i64 2, .int .i64 actor, .int .i64 tick, .int .i64 (-1), .int .i64 0, .slice A n c] 43) = w1 := ⟨_, rfl⟩
 obtain ⟨b, hb⟩ : ∃ b, w.heap.size = b := ⟨_, rfl⟩
 rw [hw1] at hba kb
 rw [hb] at kb
 have HB1 := Lib.hid hba
 have HL1 := Lib.hid (HL.out.all hba)
 have HM1 := Lib.hid (HM.out.all hba)
 obtain ⟨ys, hys, -, -⟩ := HL1.out.sp
 obtain ⟨As, cs, hsp⟩ := own_split hys
 have l7 : w1.cell? ⟨L.gl, 7, none⟩ = some (slV L.sp) := HL1.out.c.cell 7
 rw [hsp] at l7
 have HSP := Lib.hid hsp
 have s0 : w1.cell? ⟨b, 0, none⟩ = some (.int .i64 id) := kb.cell 0
 have s1 : w1.cell? ⟨b, 1, none⟩ = some (.int .i64 2) := kb.cell 1
 have s2 : w1.cell? ⟨b, 2, none⟩ = some (.int .i64 actor) := kb.cell 2
 have s3 : w1.cell? ⟨b, 3, none⟩ = some (.int .i64 tick) := kb.cell 3
 have s4 : w1.cell? ⟨b, 4, none⟩ = some (.int .i64 (-1)) := kb.cell 4
 have s5 : w1.cell? ⟨b, 5, none⟩ = some (.int .i64 0) := kb.cell 5
 have s6 : w1.cell? ⟨b, 6, none⟩ = some (.slice A n c) := kb.cell 6
 have KB := Lib.hid kb
 clear hys hsp ys hba kb
 go_enter Tryz.func28, Tryz.ntmps28
 go_wp2_with fail
 clear hw1 hb s0 s1 s2 s3 s4 s5 s6 l7
 refine (poss2_any mx L S0 id actor tick A n c ms w1 HL1 HM1 HOK HF hn0 hn ha ht0 ht1 ht2 hns).mono ?_
 rintro e w2 ⟨rfl, hb2⟩
 have kb := KB.out.all hb2
 have s0 : w2.cell? ⟨b, 0, none⟩ = some (.int .i64 id) := kb.cell 0
 have s1 : w2.cell? ⟨b, 1, none⟩ = some (.int .i64 2) := kb.cell 1
 have s2 : w2.cell? ⟨b, 2, none⟩ = some (.int .i64 actor) := kb.cell 2
 have s3 : w2.cell? ⟨b, 3, none⟩ = some (.int .i64 tick) := kb.cell 3
 have s4 : w2.cell? ⟨b, 4, none⟩ = some (.int .i64 (-1)) := kb.cell 4
 have s5 : w2.cell? ⟨b, 5, none⟩ = some (.int .i64 0) := kb.cell 5
 have s6 : w2.cell? ⟨b, 6, none⟩ = some (.slice A n c) := kb.cell 6
 have HB2 := Lib.hid (bt HB1.out hb2)
 have HL2 := Lib.hid (HL1.out.all hb2)
 have HM2 := Lib.hid (HM1.out.all hb2)
 clear hb2 kb
 go_wp2_with fail
 clear s0 s1 s2 s3 s4 s5 s6
 refine (copySt_any id 2 actor tick (-1) 0 A n c ms w2 HM2 hn0 (by omega)).mono ?_
 rintro e w3 ⟨g, rfl, hg, hbk, hb3⟩
 unfold stA
 have HB3 := Lib.hid (bt HB2.out hb3)
 have HL3 := Lib.hid (HL2.out.all hb3)
 have HBK := Lib.hid hbk
 have HG : Hid (w.heap.size ≤ g) := Lib.hid (Nat.le_trans HB2.out.size hg)
 clear hb3 hbk hg
 go_wp2_with fail
 change Code.wp _ _ _ _ (newW w3 L g n id 2 actor tick)
 obtain ⟨hbn, hcn, hfn, hch⟩ := ChAt.new HL3.out HB3.out.size g n id 2 actor tick
 obtain ⟨gc, hgc⟩ : ∃ gc, w3.heap.size + 1 + 1 + 1 + 1 = gc := ⟨_, rfl⟩
 obtain ⟨C, hC⟩ : ∃ C, newCh w3.heap.size g n 2 actor tick = C := ⟨_, rfl⟩
 have hCg : C.gc = gc := by rw [← hC, ← hgc]; rfl
 have hCm : C.mv = (some ⟨g, 0, none⟩, n, n) := by rw [← hC]; rfl
 have hCk : C.kind = 2 := by rw [← hC]; rfl
 have hCa : C.actor = actor := by rw [← hC]; rfl
 have hCt : C.tick = tick := by rw [← hC]; rfl
 obtain ⟨w4, hw4⟩ : ∃ w4, newW w3 L g n id 2 actor tick = w4 := ⟨_, rfl⟩
 rw [hw4] at hbn hcn hfn hch ⊢
 rw [hgc] at hcn hfn hch ⊢
 rw [hC] at hch
 have HBN := Lib.hid hbn
 have HCH := Lib.hid hch
 have hL4 := HL3.out.all hbn
 have l0 : w4.cell? ⟨L.gl, 0, none⟩ = some (.int .i64 (S0.sh : Int)) := hL4.c.cell 0
 have l7 : w4.cell? ⟨L.gl, 7, none⟩ = some (slV L.sp) := hL4.c.cell 7
 rw [HSP.out] at l7
 have hsh := HO.out.sh
 have w_1 : IntKind.i64.wrap ((S0.sh : Int) * 4294967296) = (S0.sh : Int) * 4294967296 := IntWalk.i64_in _ (by omega)
 have w_2 : IntKind.i64.wrap ((S0.sh : Int) * 4294967296 + (S0.ns : Int)) = (S0.sh : Int) * 4294967296 + (S0.ns : Int) := step_id hsh hns
 obtain ⟨w5, hw5⟩ : ∃ w5, w4.drew.setCell ⟨gc, 1, none⟩ (.int .i64 ((S0.sh : Int) * 4294967296 + (S0.ns : Int))) = w5 := ⟨_, rfl⟩
 rw [hw5] at hch
 have HC5 := Lib.hid hch
 have hb5 : Below w.heap.size w w5 := by rw [← hw5]; exact (HB3.out.trans (hbn.mono HB3.out.size)).drew.setCell (p := ⟨gc, 1, none⟩) (by have := hch.lo.1; rw [hCg] at this; exact this) _
 have hb35 : Below w3.heap.size w3 w5 := by rw [← hw5]; exact hbn.drew.setCell (p := ⟨gc, 1, none⟩) (by show w3.heap.size ≤ gc; rw [← hgc]; omega) _
 have HB5 := Lib.hid hb5
 have HBK5 := Lib.hid (HBK.out.all hb35)
 have c7 : w5.cell? ⟨gc, 7, none⟩ = some (.slice (some ⟨g, 0, none⟩) n n) := by have := hch.c.cell 7; rw [hCg] at this; rw [this]; simp [Chg.cells, hCm, slV]
 clear hbn hch hC hgc hw4 hmm hL4 HCH hb5 hb35
 go_still_tail 15, (by kernel_rfl)
 change wpList _ _ _ _ _ w4.drew
 go_wp2_with fail
 clear c7 l0 l7 w_1 w_2 hcn hfn
 have HC0 : Hid (∃ C' : Chg, ChAt w.heap.size w5 L S0 S0 C' ∧ C'.gc = gc ∧ C'.kind = 2 ∧ C'.actor = actor ∧ C'.tick = tick) := Lib.hid ⟨C, HC5.out, hCg, hCk, hCa, hCt⟩
 clear HC5 hCg hCm hCk hCa hCt
 go_loopg [50] n (fun gk iv wr => ∃ (k : Nat) (S : LSt), k + gk = n ∧ iv = .int .i64 (k : Int) ∧ Hid (mvsP mx S0 (ms.take k) = .ok S) ∧ Hid (∃ C' : Chg, ChAt w.heap.size wr L S0 S C' ∧ C'.gc = gc ∧ C'.kind = 2 ∧ C'.actor = actor ∧ C'.tick = tick) ∧ Hid (Below w.heap.size w wr) ∧ Hid (Blk wr g 40 (ms.flatMap mvV).toArray))
 case atStart => exact ⟨0, S0, by omega, rfl, Lib.hid rfl, HC0, HB5, HBK5⟩
 case round =>
  obtain ⟨k, S, hi, rfl, HMV, HCC, HB, HBLK⟩ := hrel
  have HHI := Lib.hid hi
  clear HC0 HBK5 HB5
  rcases Nat.lt_or_ge k n with hlt | hge
  ·have hltI : (k : Int) < (n : Int) := by omega
   have hi0 : (0 : Int) ≤ (k : Int) := by omega
   have hkl : k < ms.length := by omega
   obtain ⟨m, hm⟩ : ∃ m, ms[k]? = some m := ⟨ms[k], List.getElem?_eq_getElem hkl⟩
   obtain ⟨k0, k1, k2, k3, k4⟩ := mvBlk_at HBLK.out hm
   have HMO := Lib.hid (HOK.out m (List.mem_of_getElem? hm))
   have HMK := Lib.hid hm
   obtain ⟨ho, hnfk, -, -, -⟩ := mvsP_ok (ms.take k) HO.out (fun x hx => ⟨(HOK.out x (List.mem_of_mem_take hx)).n0, (HOK.out x (List.mem_of_mem_take hx)).n1⟩) (by rw [List.length_take]; omega) HMV.out
   have HOS : Hid (LOk mx (K + sumN ms) S) := Lib.hid (ho.more (by have := sumN_take ms k (fun x hx => (HOK.out x hx).n0); omega))
   have HNF : Hid (S.nf < 1000000) := Lib.hid (by rw [hnfk, List.length_take]; omega)
   have hba := (Below.refl wr.heap.size wr).alloc (Nat.le_refl _) (.cells #[.int .i64 m.frm, .int .i64 m.dst, .int .i64 m.item, .int .i64 m.n, .slice none 0 0] 40)
   obtain ⟨C', hc, hcg, hck, hca, hct⟩ := HCC.out
   have HCA := Lib.hid (hc.all hba)
   have HBA := Lib.hid (HB.out.trans (hba.mono HB.out.size))
   have HBB := Lib.hid (HBLK.out.all hba)
   have hmv := move_any m w _ HCA HL HBA HOS HMO hK hgl (by rw [hck]; decide) HNF.out
   rw [hcg] at hmv
   have HMVE := Lib.hid hmv
   have HCF : Hid (C'.gc = gc ∧ C'.kind = 2 ∧ C'.actor = actor ∧ C'.tick = tick) := Lib.hid ⟨hcg, hck, hca, hct⟩
   have HCH0 := Lib.hid hc
   clear hi hm hba ho hnfk hmv hc hcg hck hca hct
   go_wp2_with fail
   refine HMVE.out.mono ?_
   intro e w6 h6
   unfold MovePost at h6
   cases hpv : moveP mx S m with
   | error er =>
     rw [hpv] at h6
     obtain ⟨rfl, hb6⟩ := h6
     have her := moveP_err hpv
     have HE : Hid (mvsP mx S0 ms = .error er) := Lib.hid (by
      have h1 := mvsP_fail (ms.take k) S0 S m (ms.drop (k + 1)) er HMV.out hpv
      have h2 : ms.take k ++ m :: ms.drop (k + 1) = ms := by
       have h3 := List.getElem?_eq_some_iff.1 HMK.out
       obtain ⟨h3, h4⟩ := h3
       rw [← h4, List.getElem_cons_drop, List.take_append_drop]
      rw [h2] at h1
      exact h1)
     have HB6 := Lib.hid hb6
     clear hb6 hpv
     rcases her with rfl | rfl
     ·go_wp2
      go_ret2
      unfold TryPost
      rw [HE.out]
      exact ⟨rfl, HB6.out⟩
     ·go_wp2
      go_ret2
      unfold TryPost
      rw [HE.out]
      exact ⟨rfl, HB6.out⟩
   | ok S' =>
     rw [hpv] at h6
     obtain ⟨es, ts, fl, rfl, hc6, hm6⟩ := h6
     have HC6 : Hid (∃ C' : Chg, ChAt w.heap.size w6 L S0 S' C' ∧ C'.gc = gc ∧ C'.kind = 2 ∧ C'.actor = actor ∧ C'.tick = tick) := Lib.hid ⟨_, hc6, HCF.out⟩
     have HB6 : Hid (Below w.heap.size w w6) := Lib.hid (hm6.below HBA.out HBA.out.size (fun b hb => HCA.out.low hb))
     have HBK6 := Lib.hid (hm6.blk HBB.out (fun hf => HCA.out.not_ty hf HBB.out.ty (by decide) (by decide)))
     have HMV6 : Hid (mvsP mx S0 (ms.take (k + 1)) = .ok S') := Lib.hid (by rw [take_snoc HMK.out, mvsP_snoc _ _ _ _ HMV.out]; exact hpv)
     clear hc6 hm6 hpv
     go_wp2
     go_roundg (n - (k + 1))
     case measure => have := HHI.out; omega
     case rel => exact ⟨k + 1, S', by have := HHI.out; omega, by go_num, HMV6, HC6, HB6, HBK6⟩
  ·obtain rfl : k = n := by omega
   have hnl : ¬ ((k : Int) < (k : Int)) := by omega
   go_wp2
   go_ret2
   unfold TryPost
   have hmv := HMV.out
   rw [List.take_of_length_le (by omega)] at hmv
   rw [hmv]
   obtain ⟨C', hc, hcg, hcr⟩ := HCC.out
   exact ⟨C', by rw [hcg]; rfl, hc, HB.out, hcr⟩
end Go.Proofs.YtlcalajehnaenaaGreatDoor
