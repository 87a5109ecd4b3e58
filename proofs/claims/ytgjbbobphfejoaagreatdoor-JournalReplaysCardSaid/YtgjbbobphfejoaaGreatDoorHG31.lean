/- ledger: Post and Can, for the two kinds of steps. -/
import Derived.Test.YtgjbbobphfejoaaGreatDoorHLdPost
import Derived.Test.YtgjbbobphfejoaaGreatDoorHG1

namespace Go.Proofs.YtgjbbobphfejoaaGreatDoor
open Go.RowKit

/-- What a step must be; z: its moves come from the world. -/
structure StepOk (mx : Int → Bool) (w : World) (L : Led) (S0 : LSt) (K : Int) (z : Bool) (actor tick : Int) (A : Option Addr) (n c : Nat) (ms : List Mv) : Prop where
  mv : MvAt w A n c ms
  ok : ∀ m ∈ ms, MvOk L.it.2.1 m
  from_ : ∀ m ∈ ms, if z = true then m.frm = 0 else 1 ≤ m.frm
  n0 : 1 ≤ n
  n1 : n ≤ 64
  ac : 0 ≤ actor ∧ actor ≤ 1073741824
  t0 : 0 ≤ tick
  t1 : tick ≤ 1099511627776
  t2 : S0.now ≤ tick
  ns : S0.ns ≤ 60000 - 1
  k : K + sumN ms ≤ 1073741824
  it : L.it.2.1 ≤ 64
  nf : S0.nf + n ≤ 1000000
def kindZ (z : Bool) : Int := if z then 0 else 2
theorem try_any (mx : Int → Bool) (K : Int) (L : Led) (S0 : LSt) (z : Bool) (id actor tick : Int) (A : Option Addr) (n c : Nat) (ms : List Mv) (w : World) (HL : Hid (LedAt mx w L S0)) (HO : Hid (LOk mx K S0)) (H : Hid (StepOk mx w L S0 K z actor tick A n c ms)) :
    ∀ w1, Below w.heap.size w w1 → Calls Tryz.prog 35 #[.pointer (some ⟨L.gl, 0, none⟩), stA id (kindZ z) actor tick (-1) 0 (.slice A n c)] w1 (TryPost mx w1 L S0 ms (kindZ z) actor tick) := by
  intro w1 hb
  obtain ⟨hm, hok, hf, n0, n1, ac, t0, t1, t2, ns, k, it, nf⟩ := H.out
  cases z with
  | true => exact try0_any mx K L S0 id actor tick A n c ms w1 (Lib.hid (HL.out.all hb)) HO (Lib.hid (hm.all hb)) (Lib.hid hok) (Lib.hid (fun m hm => by have := hf m hm; rwa [if_pos rfl] at this)) n0 n1 ac t0 t1 t2 (by omega) k it nf
  | false => exact try2_any mx K L S0 id actor tick A n c ms w1 (Lib.hid (HL.out.all hb)) HO (Lib.hid (hm.all hb)) (Lib.hid hok) (Lib.hid (fun m hm => by have := hf m hm; rwa [if_neg (by decide)] at this)) n0 n1 ac t0 t1 t2 (by omega) k it nf
theorem post_any (mx : Int → Bool) (K : Int) (L : Led) (S0 : LSt) (z : Bool) (id actor tick : Int) (A : Option Addr) (n c : Nat) (ms : List Mv) (w : World) (HL : Hid (LedAt mx w L S0)) (HO : Hid (LOk mx K S0)) (H : Hid (StepOk mx w L S0 K z actor tick A n c ms)) :
    Calls Tryz.prog 17 #[.pointer (some ⟨L.gl, 0, none⟩), stA id (kindZ z) actor tick (-1) 0 (.slice A n c)] w (PostPost mx w L S0 ms tick) :=
  postG mx K L S0 id (kindZ z) actor tick A n c ms w HL HO H.out.mv.1 (Lib.hid (fun m hm => ⟨(H.out.ok m hm).n0, (H.out.ok m hm).n1⟩)) H.out.nf (Lib.hid (try_any mx K L S0 z id actor tick A n c ms w HL HO H))
def errOf : Except Int LSt → Int
  | .error er => er
  | .ok _ => 0
set_option maxRecDepth 100000 in
theorem can_any (mx : Int → Bool) (K : Int) (L : Led) (S0 : LSt) (z : Bool) (id actor tick : Int) (A : Option Addr) (n c : Nat) (ms : List Mv) (w : World) (HL : Hid (LedAt mx w L S0)) (HO : Hid (LOk mx K S0)) (H : Hid (StepOk mx w L S0 K z actor tick A n c ms)) :
    Calls Tryz.prog 13 #[.pointer (some ⟨L.gl, 0, none⟩), stA id (kindZ z) actor tick (-1) 0 (.slice A n c)] w fun e w' => e = .returned (.int .i64 (errOf (mvsP mx S0 ms))) ∧ Below w.heap.size w w' := by
  have HT := Lib.hid (try_any mx K L S0 z id actor tick A n c ms w HL HO H)
  obtain ⟨kd, hkd⟩ : ∃ kd, kindZ z = kd := ⟨_, rfl⟩
  rw [hkd] at HT ⊢
  have hba := (Below.refl w.heap.size w).alloc (Nat.le_refl _) (.cells #[.int .i64 id, .int .i64 kd, .int .i64 actor, .int .i64 tick, .int .i64 (-1), .int .i64 0, .slice A n c] 50)
  have HB1 := Lib.hid hba
  have HT1 := Lib.hid (HT.out _ hba)
  clear hba hkd
  unfold stA
  go_enter Tryz.func13, Tryz.ntmps13
  go_wp2_with fail
  refine HT1.out.mono ?_
  intro e w2 h2
  unfold TryPost at h2
  cases hm : mvsP mx S0 ms with
  | error er =>
    rw [hm] at h2
    obtain ⟨rfl, hb2⟩ := h2
    have HB2 := Lib.hid (bt HB1.out hb2)
    have HM := Lib.hid hm
    clear hb2 hm
    go_wp2
    go_ret
    exact ⟨by rw [HM.out]; rfl, HB2.out⟩
  | ok S' =>
    rw [hm] at h2
    obtain ⟨C, rfl, -, hb2, -⟩ := h2
    have HB2 := Lib.hid (bt HB1.out hb2)
    have HM := Lib.hid hm
    clear hb2 hm
    go_wp2
    go_ret
    exact ⟨by rw [HM.out]; rfl, HB2.out⟩
end Go.Proofs.YtgjbbobphfejoaaGreatDoor

/- worldmintref01: Pick. -/
namespace Go.Proofs.YtgjbbobphfejoaaGreatDoor
open Go.RowKit

/-- Element i of a list of numbers, reduced; 0 where there is none. -/
def pickI (n : Nat) (f : Nat → Int) (i most : Nat) : Int := if i < n then aroundI (f i) (most : Int) else 0
set_option maxRecDepth 100000 in
theorem pick_nat (A : Option Addr) (n c : Nat) (f : Nat → Int) (i : Nat) (ii : Int) (m : Nat) (mi : Int) (w : World) (B : Nat) (hii : ii = (i : Int)) (hmi : mi = (m : Int)) (hR : Rd w B A n (fun j => .int .i64 (f j))) (hw : Hid (∀ j, j < n → -9223372036854775808 ≤ f j ∧ f j ≤ 9223372036854775807)) (h3 : 0 < m) (h4 : m ≤ 9223372036854775807) :
    Calls Tryz.prog 11 #[.slice A n c, .int .i64 ii, .int .i64 mi] w fun e w' => ∃ k : Nat, e = .returned (.int .i64 (k : Int)) ∧ k < m ∧ Hid ((k : Int) = pickI n f i m) ∧ w = w' := by
  subst hii hmi
  by_cases h : i < n
  · obtain ⟨b, off, hA, hb, hc⟩ := hR (by omega)
    subst hA
    have hci := hc i h
    obtain ⟨l0, l1⟩ := hw.out i h
    have h0 : (0 : Int) ≤ (i : Int) := by omega
    have h1 : ¬ ((n : Int) ≤ (i : Int)) := by omega
    have h2 : (i : Int) < (n : Int) := by omega
    clear hc hR
    go_enter Tryz.func11, Tryz.ntmps11
    go_wp2_with fail
    refine (around_nat _ m _ _ rfl l0 l1 h3 h4).mono ?_
    rintro e w1 ⟨k, rfl, hk, HK, rfl⟩
    go_wp2
    go_ret
    exact ⟨k, rfl, hk, Lib.hid (by unfold pickI; rw [if_pos h]; exact HK.out), rfl⟩
  · have h1 : (n : Int) ≤ (i : Int) := by omega
    have h0 : (0 : Int) ≤ (i : Int) := by omega
    go_enter Tryz.func11, Tryz.ntmps11
    go_wp2
    go_ret
    exact ⟨0, rfl, h3, Lib.hid (by unfold pickI; rw [if_neg h]; rfl), rfl⟩
end Go.Proofs.YtgjbbobphfejoaaGreatDoor

/- Rows of steps with one move each; worldmintref22.Spawns. -/
namespace Go.Proofs.YtgjbbobphfejoaaGreatDoor
open Go.RowKit

structure Stp where
  z : Bool
  m : Mv
  b : Nat
def stpV (p : Stp) : List Value := [.int .i64 0, .int .i64 (kindZ p.z), .int .i64 0, .int .i64 0, .int .i64 (-1), .int .i64 0, .slice (some ⟨p.b, 0, none⟩) 1 1]
theorem stpV_len (p : Stp) : (stpV p).length = 7 := rfl
structure StpsAt (B : Nat) (w : World) (v : Value) (ps : List Stp) : Prop where
  own : w.ownsRow B 50 7 v ps.length (ps.flatMap stpV)
  mv : ∀ p ∈ ps, Blk w p.b 47 (mvV p.m).toArray ∧ B ≤ p.b
theorem StpsAt.mod {B : Nat} {w w' : World} {v : Value} {ps : List Stp} {F : Nat → Prop} (h : StpsAt B w v ps) (m : Mod F w w') (hF : ∀ b, F b → v.ownBlock ≠ some b ∧ ¬ Ty w b 47) : StpsAt B w' v ps :=
  ⟨m.own h.own (fun b hb hf => (hF b hf).1 hb), fun p hp => ⟨m.blk (h.mv p hp).1 (fun hf => (hF _ hf).2 (h.mv p hp).1.ty), (h.mv p hp).2⟩⟩
theorem StpsAt.all {B : Nat} {w w' : World} {v : Value} {ps : List Stp} (h : StpsAt B w v ps) (hb : Below w.heap.size w w') : StpsAt B w' v ps := h.mod (F := fun _ => False) (Mod.of_below _ hb) (fun _ hf => hf.elim)
theorem StpsAt.nil (B : Nat) (w : World) : StpsAt B w (.slice none 0 0) [] := ⟨World.ownsRow_nil _ _ _ _, fun p hp => by cases hp⟩
def mvC (m : Mv) : Array Value := #[.int .i64 m.frm, .int .i64 m.dst, .int .i64 m.item, .int .i64 m.n, .slice none 0 0]
def stC (z : Bool) (b : Nat) : Array Value := #[.int .i64 0, .int .i64 (kindZ z), .int .i64 0, .int .i64 0, .int .i64 (-1), .int .i64 0, .slice (some ⟨b, 0, none⟩) 1 1]
theorem StpsAt.push {B : Nat} {w : World} {v : Value} {ps : List Stp} (h : StpsAt B w v ps) (hB : B ≤ w.heap.size) (hn : ps.length < 1000) (z : Bool) (m : Mv) (ty : TypeId) :
    ∃ g c w', (Builtin.append_ #[42, 42] ty #[v, .slice (some ⟨w.heap.size + 1, 0, none⟩) 1 1]).run Tryz.prog ((w.alloc (.cells (mvC m) 47)).alloc (.cells (stC z w.heap.size) 50)) = .ok (.slice (some ⟨g, 0, none⟩) (ps.length + 1) c) w' ∧
      StpsAt B w' (.slice (some ⟨g, 0, none⟩) (ps.length + 1) c) (ps ++ [⟨z, m, w.heap.size⟩]) ∧ Mod (fun b => v.ownBlock = some b) w w' ∧ Below B w w' ∧ (v.ownBlock = some g ∨ w.heap.size ≤ g) := by
  have hb1 := (Below.refl w.heap.size w).alloc (Nat.le_refl _) (.cells (mvC m) 47)
  have hb2 := hb1.alloc (by simp) (.cells (stC z w.heap.size) 50)
  have h2 := h.all hb2
  have k1 := Blk.alloc (Blk.new w 47 (mvC m)) (.cells (stC z w.heap.size) 50)
  have k2 := Blk.new0 (g := w.heap.size + 1) (w.alloc (.cells (mvC m) 47)) 50 (stC z w.heap.size) (by simp)
  obtain ⟨W, hW⟩ : ∃ W, (w.alloc (.cells (mvC m) 47)).alloc (.cells (stC z w.heap.size) 50) = W := ⟨_, rfl⟩
  rw [hW] at hb2 h2 k1 k2 ⊢
  obtain ⟨g, c, w', hrun, hown, hg, hnew⟩ := run_append1b (ty := ty) slT_step h2.own k2 rfl (by
    intro u hu
    simp only [stC, List.mem_cons, List.not_mem_nil, or_false] at hu
    rcases hu with rfl | rfl | rfl | rfl | rfl | rfl | rfl <;> rfl) (by omega) (by decide) (Nat.le_trans hB hb2.size)
  have m1 : Mod (fun b => v.ownBlock = some b) W w' := Mod.of_grown hg (fun g e => .inl e)
  have mm : Mod (fun b => v.ownBlock = some b) w w' := (Mod.of_below _ hb2).trans m1 (fun b hb => .inl hb)
  have hty : ∀ {b t : Nat} {cs : Array Value}, v.ownBlock = some b → Blk W b t cs → t = 50 := fun hb ht => ht.ty.unique (Ty.of_own h2.own hb)
  refine ⟨g, c, w', hrun, ⟨?_, ?_⟩, mm, ?_, ?_⟩
  · rw [List.length_append, List.flatMap_append]
    exact hown
  · intro p hp
    rcases List.mem_append.1 hp with hp | hp
    · obtain ⟨hk, hb⟩ := h2.mv p hp
      exact ⟨m1.blk hk (fun e => absurd (hty e hk) (by decide)), hb⟩
    · rw [List.mem_singleton] at hp
      subst hp
      exact ⟨m1.blk k1 (fun e => absurd (hty e k1) (by decide)), hB⟩
  · exact mm.below (Below.refl _ _) hB (fun b hb => (h.own.lt b hb).1)
  · rcases hnew with e | e
    · exact .inl e.symm
    · exact .inr (by have := hb2.size; omega)
structure SpawnMv (m : Mv) : Prop where
  frm : m.frm = 0
  dst : 1 ≤ m.dst ∧ m.dst ≤ 3
  item : 0 ≤ m.item ∧ m.item ≤ 3
  n : 1 ≤ m.n ∧ m.n ≤ 39
def SpawnsPost (w : World) (e : Ending) (w' : World) : Prop := ∃ A n c ps, e = .returned (.slice A n c) ∧ StpsAt w.heap.size w' (.slice A n c) ps ∧ ps.length ≤ 8 ∧ (∀ p ∈ ps, p.z = true ∧ SpawnMv p.m) ∧ Below w.heap.size w w'
set_option maxRecDepth 100000 in
set_option maxHeartbeats 4000000 in
theorem spawns_any (A : Option Addr) (n c : Nat) (f : Nat → Int) (w : World) (HR : Hid (Rd w w.heap.size A n (fun j => .int .i64 (f j)))) (HW : Hid (∀ j, j < n → -9223372036854775808 ≤ f j ∧ f j ≤ 9223372036854775807)) :
    Calls Tryz.prog 10 #[.slice A n c] w (SpawnsPost w) := by
  go_enter Tryz.func10, Tryz.ntmps10
  go_wp2
  go_loopg [3, 4, 5] 8 (fun gk v iv nv wr => ∃ (i : Nat) (ps : List Stp) (A' : Option Addr) (c' : Nat), i + gk = 8 ∧ iv = .int .i64 (i : Int) ∧ v = .slice A' ps.length c' ∧ ps.length ≤ i ∧ Hid (StpsAt w.heap.size wr (.slice A' ps.length c') ps) ∧ Hid (∀ p ∈ ps, p.z = true ∧ SpawnMv p.m) ∧ Hid (Below w.heap.size w wr))
  case atStart => exact ⟨0, [], none, 0, by omega, rfl, rfl, by simp, Lib.hid (StpsAt.nil _ _), Lib.hid (fun p hp => by cases hp), Lib.hid (Below.refl _ _)⟩
  case round =>
    obtain ⟨i, ps, A', c', hi, rfl, rfl, hps, HS, HP, HB⟩ := hrel
    have HHI := Lib.hid hi
    rcases Nat.lt_or_ge i 8 with hlt | hge
    · have hltI : (i : Int) < 8 := by omega
      have w1 : IntKind.i64.wrap (2 * (i : Int)) = ((2 * i : Nat) : Int) := by rw [IntWalk.i64_in _ (by omega)]; omega
      clear hi
      go_wp2_with fail
      refine (pick_nat A n c f (2 * i) _ 40 _ wr w.heap.size (by omega) rfl (HR.out.below HB.out (Nat.le_refl _)) HW (by decide) (by decide)).mono ?_
      rintro e w2 ⟨k, rfl, hk, -, rfl⟩
      by_cases hk0 : 0 < k
      · have hk0I : (0 : Int) < (k : Int) := by omega
        have w2' : IntKind.i64.wrap (2 * (i : Int) + 1) = ((2 * i + 1 : Nat) : Int) := by rw [IntWalk.i64_in _ (by omega)]; omega
        go_wp2_with fail
        refine (pick_nat A n c f (2 * i + 1) _ 4 _ wr w.heap.size (by omega) rfl (HR.out.below HB.out (Nat.le_refl _)) HW (by decide) (by decide)).mono ?_
        rintro e w2 ⟨k2, rfl, hk2, -, rfl⟩
        obtain ⟨g5, c5, w5, hrun, hS5, hm5, hb5, -⟩ := HS.out.push HB.out.size (by omega) true ⟨0, 1 + (i : Int) % 3, (k2 : Int), (k : Int)⟩ 42
        simp only [mvC, stC, kindZ, if_true] at hrun
        have HRUN := Lib.hid hrun
        have HS5 := Lib.hid hS5
        have HB5 : Hid (Below w.heap.size w w5) := Lib.hid (HB.out.trans hb5)
        have HP5 : Hid (∀ p ∈ ps ++ [⟨true, ⟨0, 1 + (i : Int) % 3, (k2 : Int), (k : Int)⟩, wr.heap.size⟩], p.z = true ∧ SpawnMv p.m) := Lib.hid (fun p hp => by
          rcases List.mem_append.1 hp with hp | hp
          · exact HP.out p hp
          · rw [List.mem_singleton] at hp
            subst hp
            exact ⟨rfl, rfl, by dsimp only; omega, by dsimp only; omega, by dsimp only; omega⟩)
        clear hrun hS5 hm5 hb5
        go_wp2_with (at_builtin; refine wpList_append_run HRUN.out rfl rfl rfl rfl ?_)
        go_roundg (8 - (i + 1))
        case measure => have := HHI.out; omega
        case rel => exact ⟨i + 1, _, _, _, by have := HHI.out; omega, by go_num, by rw [List.length_append]; rfl, by rw [List.length_append]; simp; omega, by rw [List.length_append]; exact HS5, HP5, HB5⟩
      · obtain rfl : k = 0 := by omega
        go_wp2
        go_roundg (8 - (i + 1))
        case measure => have := HHI.out; omega
        case rel => exact ⟨i + 1, ps, A', c', by have := HHI.out; omega, by go_num, rfl, by omega, HS, HP, HB⟩
    · obtain rfl : i = 8 := by omega
      go_wp2
      go_ret
      exact ⟨A', ps.length, c', ps, rfl, HS.out, hps, HP.out, HB.out⟩
end Go.Proofs.YtgjbbobphfejoaaGreatDoor
