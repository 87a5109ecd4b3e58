/- client: Sessions in memory; New, Join, Last, waits. -/
import Derived.Test.YtgepbklpobobbaaGreatDoorHG42
import Derived.Deep.QuietTactic
import Derived.BigQuiet

namespace Go.Proofs.YtgepbklpobobbaaGreatDoor
open Go.RowKit

/-- A request that was accepted. -/
structure Acc where
  body : Int
  done : Bool
  A : Option Addr
  n : Nat
  c : Nat
  bs : List UInt8
def Acc.cells (a : Acc) : List Value := [.int .u64 a.body, .bool a.done, .slice a.A a.n a.c]
def Acc.log (a : Acc) : Int × Bool × List UInt8 := (a.body, a.done, a.bs)
def Acc.ok (w : World) (a : Acc) : Prop := Bts w a.A a.n a.c a.bs ∧ a.n ≤ 1048576
theorem Acc.cells_length (a : Acc) : a.cells.length = 3 := rfl
/-- A client that has joined: its session lies at block sb, what is remembered in the row rv. -/
structure Cl where
  id : Int
  key : Int
  last : Int
  acc : List Acc
  sb : Nat
  rv : Value
def Cl.ok (w : World) (c : Cl) : Prop :=
  Blk w c.sb 111 #[.int .u64 c.key, .int .i64 c.last, c.rv] ∧ w.ownsRow 0 121 3 c.rv c.acc.length (c.acc.flatMap Acc.cells) ∧ (∀ a ∈ c.acc, a.ok w) ∧ (0 ≤ c.last ∧ c.last ≤ 4611686018427387904) ∧ c.acc.length ≤ 16
def Cl.F (c : Cl) (b : Nat) : Prop := b = c.sb ∨ c.rv.ownBlock = some b
def Cl.ptr (c : Cl) : Value := .pointer (some ⟨c.sb, 0, none⟩)
def Apart (c d : Cl) : Prop := ∀ b, c.F b → ¬ d.F b
structure SesAt (w : World) (g mb : Nat) (cl : List Cl) : Prop where
  blk : Blk w g 104 #[.map (some mb)]
  map : IMap w mb (cl.map fun c => (c.id, c.ptr))
  ok : ∀ c ∈ cl, c.ok w
  apart : cl.Pairwise Apart
def SesF (g mb : Nat) (cl : List Cl) (b : Nat) : Prop := b = g ∨ b = mb ∨ ∃ c ∈ cl, c.F b
section
variable {w w' : World} {g mb : Nat} {cl : List Cl} {F : Nat → Prop} {c : Cl}
theorem Acc.ok.mod {a : Acc} (h : a.ok w) (m : Mod F w w') (hF : ∀ b, F b → ¬ Ty w b 5) : a.ok w' := ⟨h.1.mod m hF, h.2⟩
theorem Cl.ok.mod (h : c.ok w) (m : Mod F w w') (hF : ∀ b, c.F b → ¬ F b) (hB : ∀ b, F b → ¬ Ty w b 5) : c.ok w' :=
  ⟨m.blk h.1 (hF _ (.inl rfl)), m.own h.2.1 (fun b hb => hF b (.inr hb)), fun a ha => (h.2.2.1 a ha).mod m hB, h.2.2.2⟩
theorem Cl.ok.noB (h : c.ok w) : ∀ b, c.F b → ¬ Ty w b 5 := by
  rintro b (rfl | hb) ht
  · exact absurd (Ty.unique h.1.ty ht) (by decide)
  · exact absurd (Ty.unique (Ty.of_own h.2.1 hb) ht) (by decide)
theorem Cl.ok.ltF (h : c.ok w) : ∀ b, c.F b → b < w.heap.size := by
  rintro b (rfl | hb)
  · exact h.1.lt
  · exact (h.2.1.lt b hb).2
theorem SesAt.noB (h : SesAt w g mb cl) : ∀ b, SesF g mb cl b → ¬ Ty w b 5 := by
  rintro b (rfl | rfl | ⟨c, hc, hb⟩) ht
  · exact absurd (Ty.unique h.blk.ty ht) (by decide)
  · exact h.map.not_ty ht
  · exact (h.ok c hc).noB b hb ht
theorem SesAt.mod (h : SesAt w g mb cl) (m : Mod F w w') (hF : ∀ b, SesF g mb cl b → ¬ F b) (hB : ∀ b, F b → ¬ Ty w b 5) : SesAt w' g mb cl :=
  ⟨m.blk h.blk (hF _ (.inl rfl)), h.map.mod m (hF _ (.inr (.inl rfl))), fun c hc => (h.ok c hc).mod m (fun b hb => hF b (.inr (.inr ⟨c, hc, hb⟩))) hB, h.apart⟩
theorem SesAt.all (h : SesAt w g mb cl) (m : Below w.heap.size w w') : SesAt w' g mb cl := h.mod (F := fun _ => False) (Mod.of_below _ m) (fun _ _ hf => hf) (fun _ hf => hf.elim)
theorem SesAt.drewN (h : SesAt w g mb cl) (n : Nat) : SesAt (w.drewN n) g mb cl := h.all ⟨rfl, rfl, rfl, Nat.le_refl _, fun _ _ => rfl⟩
theorem SesAt.ltF (h : SesAt w g mb cl) : ∀ b, SesF g mb cl b → b < w.heap.size := by
  rintro b (rfl | rfl | ⟨c, hc, hb⟩)
  · exact h.blk.lt
  · exact h.map.lt
  · exact (h.ok c hc).ltF b hb
theorem SesAt.F_ne (h : SesAt w g mb cl) (hc : c ∈ cl) : ∀ b, c.F b → b ≠ g ∧ b ≠ mb := by
  rintro b hb
  refine ⟨?_, ?_⟩
  · rintro rfl
    rcases hb with e | e
    · have := (h.ok c hc).1.ty
      rw [← e] at this
      exact absurd (Ty.unique h.blk.ty this) (by decide)
    · exact absurd (Ty.unique h.blk.ty (Ty.of_own (h.ok c hc).2.1 e)) (by decide)
  · rintro rfl
    rcases hb with e | e
    · have := (h.ok c hc).1.ty
      rw [← e] at this
      exact h.map.not_ty this
    · exact h.map.not_ty (Ty.of_own (h.ok c hc).2.1 e)
/-- One client turns. -/
theorem SesAt.upd {l1 l2 : List Cl} {c' : Cl} (h : SesAt w g mb (l1 ++ c :: l2)) (m : Mod c.F w w') (hid : c'.id = c.id) (hsb : c'.sb = c.sb) (hok : c'.ok w') (hrv : c'.rv.ownBlock = c.rv.ownBlock ∨ ∀ b, c'.rv.ownBlock = some b → w.heap.size ≤ b) :
    SesAt w' g mb (l1 ++ c' :: l2) ∧ Mod (SesF g mb (l1 ++ c :: l2)) w w' ∧ ∀ b, SesF g mb (l1 ++ c' :: l2) b → SesF g mb (l1 ++ c :: l2) b ∨ w.heap.size ≤ b := by
  have hcm : c ∈ l1 ++ c :: l2 := by simp
  have hnb := (h.ok c hcm).noB
  have hF' : ∀ b, c'.F b → c.F b ∨ w.heap.size ≤ b := by
    rintro b (e | e)
    · exact .inl (.inl (e.trans hsb))
    · rcases hrv with hr | hr
      · exact .inl (.inr (hr ▸ e))
      · exact .inr (hr b e)
  have hap := h.apart
  rw [List.pairwise_append, List.pairwise_cons] at hap
  obtain ⟨p1, ⟨p2, p3⟩, p4⟩ := hap
  have far : ∀ d ∈ l1 ++ l2, ∀ b, d.F b → ¬ c.F b := by
    intro d hd b hb hc
    rcases List.mem_append.1 hd with hd | hd
    · exact p4 d hd c (by simp) b hb hc
    · exact p2 d hd b hc hb
  have hmem : ∀ d ∈ l1 ++ l2, d ∈ l1 ++ c :: l2 := by
    intro d hd
    rcases List.mem_append.1 hd with hd | hd <;> simp [hd]
  have far' : ∀ d ∈ l1 ++ l2, ∀ b, d.F b → ¬ c'.F b := by
    intro d hd b hb hc
    rcases hF' b hc with e | e
    · exact far d hd b hb e
    · have := (h.ok d (hmem d hd)).ltF b hb
      omega
  refine ⟨⟨m.blk h.blk (fun hf => (h.F_ne hcm _ hf).1 rfl), ?_, ?_, ?_⟩, m.mono (fun b hb => .inl (.inr (.inr ⟨c, hcm, hb⟩))), ?_⟩
  · have hm := h.map.mod m (fun hf => (h.F_ne hcm _ hf).2 rfl)
    have e : (l1 ++ c' :: l2).map (fun c => (c.id, c.ptr)) = (l1 ++ c :: l2).map (fun c => (c.id, c.ptr)) := by simp [Cl.ptr, hid, hsb]
    rw [e]
    exact hm
  · intro d hd
    rw [List.mem_append, List.mem_cons] at hd
    rcases hd with hd | rfl | hd
    · exact (h.ok d (hmem d (by simp [hd]))).mod m (far d (by simp [hd])) hnb
    · exact hok
    · exact (h.ok d (hmem d (by simp [hd]))).mod m (far d (by simp [hd])) hnb
  · rw [List.pairwise_append, List.pairwise_cons]
    refine ⟨p1, ⟨fun d hd b hb hc => far' d (by simp [hd]) b hc hb, p3⟩, fun d hd e he => ?_⟩
    rw [List.mem_cons] at he
    rcases he with rfl | he
    · exact fun b hb hc => far' d (by simp [hd]) b hb hc
    · exact p4 d hd e (by simp [he])
  · rintro b (e | e | ⟨d, hd, hb⟩)
    · exact .inl (.inl e)
    · exact .inl (.inr (.inl e))
    · rw [List.mem_append, List.mem_cons] at hd
      rcases hd with hd | rfl | hd
      · exact .inl (.inr (.inr ⟨d, by simp [hd], hb⟩))
      · rcases hF' b hb with e | e
        · exact .inl (.inr (.inr ⟨c, hcm, e⟩))
        · exact .inr e
      · exact .inl (.inr (.inr ⟨d, by simp [hd], hb⟩))
end
/-- The client of a number. -/
def findC (cl : List Cl) (id : Int) : Option Cl := cl.find? fun c => c.id == id
theorem lookup_findC (cl : List Cl) (id : Int) : (cl.map fun c => (c.id, c.ptr)).lookup id = (findC cl id).map Cl.ptr := by
  induction cl with
  | nil => rfl
  | cons c cl ih =>
    unfold findC at ih ⊢
    by_cases h : id = c.id
    · simp [h]
    · have h' : ¬ c.id = id := fun e => h e.symm
      simp [List.lookup, beq_false_of_ne h, beq_false_of_ne h', ih]
theorem findC_split {cl : List Cl} {id : Int} {c : Cl} (h : findC cl id = some c) : ∃ l1 l2, cl = l1 ++ c :: l2 ∧ c.id = id := by
  unfold findC at h
  have h1 := List.find?_some h
  obtain ⟨l1, l2, e⟩ := List.append_of_mem (List.mem_of_find?_eq_some h)
  exact ⟨l1, l2, e, by simpa using h1⟩
theorem infoSes : ∃ i, Tryz.prog.info? 108 = some i ∧ i.zero = some (.pointer none) := by
  have h : (Tryz.prog.info? 108).map (·.zero) = some (some (.pointer none)) := by kernel_rfl
  obtain ⟨i, hi, h⟩ := Option.map_eq_some_iff.1 h
  exact ⟨i, hi, h⟩
theorem SesAt.look {w : World} {g mb : Nat} {cl : List Cl} (h : SesAt w g mb cl) (id : Int) : (Instr.lookup 102 (.map (some mb)) (.int .i64 id) false).run Tryz.prog w = .ok (((findC cl id).map Cl.ptr).getD (.pointer none)) w := by
  obtain ⟨i, hi, hz⟩ := infoSes
  rw [← lookup_findC]
  exact h.map.look Tryz.underlying102 Tryz.underlying3 hi hz id
set_option maxRecDepth 100000 in
theorem newS_any (w : World) : Calls Tryz.prog 6 #[] w fun e w' => ∃ g mb, e = .returned (.pointer (some ⟨g, 0, none⟩)) ∧ w.heap.size ≤ g ∧ w.heap.size ≤ mb ∧ SesAt w' g mb [] ∧ Below w.heap.size w w' := by
  have hmk := run_makeMap (P := Tryz.prog) 102 w
  go_enter Tryz.func6, Tryz.ntmps6
  go_wp2
  go_ret
  exact ⟨_, _, rfl, by simp, Nat.le_refl _, ⟨by have := Blk.new (w.alloc (.map #[] 0)) 104 #[.map (some w.heap.size)]; rwa [alloc_size] at this, IMap.all (IMap.new w) ((Below.refl _ _).alloc (Nat.le_refl _) _), by simp, by simp⟩, ((Below.refl _ _).alloc (Nat.le_refl _) _).alloc (by simp) _⟩
set_option maxRecDepth 100000 in
theorem lastS_any (g mb : Nat) (cl : List Cl) (id : Int) (w : World) (HS : Hid (SesAt w g mb cl)) : Calls Tryz.prog 20 #[.pointer (some ⟨g, 0, none⟩), .int .i64 id] w fun e w' => e = .returned (.int .i64 ((findC cl id).elim 0 Cl.last)) ∧ w = w' := by
  have hl := HS.out.look id
  have hg := HS.out.blk.cell 0
  simp only [List.getElem?_toArray, List.getElem?_cons_zero] at hg
  rcases hf : findC cl id with _ | c
  · rw [hf] at hl
    simp only [Option.map_none, Option.getD_none] at hl
    go_enter Tryz.func20, Tryz.ntmps20
    go_wp2
    go_ret
    exact ⟨rfl, rfl⟩
  · rw [hf] at hl
    simp only [Option.map_some, Option.getD_some, Cl.ptr] at hl
    obtain ⟨l1, l2, e, -⟩ := findC_split hf
    have hc := ((HS.out.ok c (by simp [e])).1).cell 1
    simp only [List.getElem?_toArray, List.getElem?_cons_succ, List.getElem?_cons_zero] at hc
    clear e hf
    go_enter Tryz.func20, Tryz.ntmps20
    go_wp2
    go_ret
    exact ⟨rfl, rfl⟩
end Go.Proofs.YtgepbklpobobbaaGreatDoor

/- client: Join, waits. -/
namespace Go.Proofs.YtgepbklpobobbaaGreatDoor
open Go.RowKit

theorem put_none {es : List (Int × Value)} {k : Int} (h : es.lookup k = none) (v : Value) : put es k v = es ++ [(k, v)] := by
  have hno : ∀ p ∈ es, p.1 ≠ k := by
    intro p hp e
    have := List.lookup_eq_none_iff.1 h p hp
    simp [e] at this
  clear h
  induction es with
  | nil => rfl
  | cons p es ih =>
    unfold put
    rw [if_neg (hno p (by simp)), ih (fun q hq => hno q (by simp [hq]))]
    rfl
theorem SesAt.add {w w' : World} {g mb : Nat} {cl : List Cl} (h : SesAt w g mb cl) (id key : Int) (hf : findC cl id = none)
    (hm : IMap w' mb (put (cl.map fun c => (c.id, c.ptr)) id (.pointer (some ⟨w.heap.size, 0, none⟩)))) (hg : (w.alloc (.cells #[.int .u64 key, .int .i64 0, .slice none 0 0] 111)).grownBy w' (some mb)) :
    SesAt w' g mb (cl ++ [⟨id, key, 0, [], w.heap.size, .slice none 0 0⟩]) ∧ Mod (SesF g mb cl) w w' ∧ ∀ b, SesF g mb (cl ++ [⟨id, key, 0, [], w.heap.size, .slice none 0 0⟩]) b → SesF g mb cl b ∨ w.heap.size ≤ b := by
  have m : Mod (fun b => b = mb) w w' := ((Mod.refl _ w).alloc _).then_grown hg (fun b e => .inl (by injection e with e; exact e.symm))
  have hmb := h.map.lt
  have hnt : ∀ b, b = mb → ¬ Ty w b 5 := by
    rintro b rfl
    exact h.map.not_ty
  refine ⟨⟨m.blk h.blk (fun e => by have := h.blk.ty; rw [e] at this; exact h.map.not_ty this), ?_, ?_, ?_⟩, m.mono (fun b e => .inl (.inr (.inl e))), ?_⟩
  · rw [put_none (by rw [lookup_findC, hf]; rfl)] at hm
    simpa [Cl.ptr] using hm
  · intro c hc
    rw [List.mem_append, List.mem_singleton] at hc
    rcases hc with hc | rfl
    · exact (h.ok c hc).mod m (fun b hb => (h.F_ne hc b hb).2) hnt
    · exact ⟨Blk.grown (Blk.new w _ _) hg (fun e => by injection e with e; dsimp only at e; omega), World.ownsRow_nil _ _ _ _, by simp, by simp, by simp⟩
  · rw [List.pairwise_append]
    refine ⟨h.apart, by simp, fun c hc d hd b hb hb' => ?_⟩
    rw [List.mem_singleton] at hd
    subst hd
    have := (h.ok c hc).ltF b hb
    rcases hb' with e | e
    · dsimp only at e
      omega
    · simp [Value.ownBlock] at e
  · rintro b (e | e | ⟨d, hd, hb⟩)
    · exact .inl (.inl e)
    · exact .inl (.inr (.inl e))
    · rw [List.mem_append, List.mem_singleton] at hd
      rcases hd with hd | rfl
      · exact .inl (.inr (.inr ⟨d, hd, hb⟩))
      · rcases hb with e | e
        · exact .inr (by rw [e]; exact Nat.le_refl _)
        · simp [Value.ownBlock] at e
def JoinYes (g mb : Nat) (cl : List Cl) (id key : Int) (w : World) (e : Ending) (w' : World) : Prop :=
  ∃ sb, e = .returned (.int .i64 0) ∧ SesAt w' g mb (cl ++ [⟨id, key, 0, [], sb, .slice none 0 0⟩]) ∧ Mod (SesF g mb cl) w w' ∧ ∀ b, SesF g mb (cl ++ [⟨id, key, 0, [], sb, .slice none 0 0⟩]) b → SesF g mb cl b ∨ w.heap.size ≤ b
set_option maxRecDepth 100000 in
theorem join_yes (g mb : Nat) (cl : List Cl) (id key : Int) (w : World) (HS : Hid (SesAt w g mb cl)) (h1 : 1 ≤ id) (h2 : id ≤ 1073741824) (hf : findC cl id = none) :
    Calls Tryz.prog 8 #[.pointer (some ⟨g, 0, none⟩), .int .i64 id, .int .u64 key] w (JoinYes g mb cl id key w) := by
  have hl := HS.out.look id
  rw [hf] at hl
  simp only [Option.map_none, Option.getD_none] at hl
  have hg := HS.out.blk.cell 0
  simp only [List.getElem?_toArray, List.getElem?_cons_zero] at hg
  have hS2 := HS.out.all ((Below.refl w.heap.size w).alloc (Nat.le_refl _) (.cells #[.int .u64 key, .int .i64 0, .slice none 0 0] 111))
  obtain ⟨w', hrun, hm, hgr, -⟩ := hS2.map.store Tryz.underlying102 Tryz.underlying3 id (.pointer (some ⟨w.heap.size, 0, none⟩))
  have HF := Lib.hid (HS.out.add id key hf hm hgr)
  have hi : decide (1 ≤ id ∧ id ≤ 1073741824) = true := by simp [h1, h2]
  clear hf hS2 hm hgr
  go_enter Tryz.func8, Tryz.ntmps8
  go_wp2_with (go_at_call 34; ((with_reducible refine (isClient_any _ _).mono ?_); rintro e w1 ⟨rfl, rfl⟩; rw [hi]))
  go_ret
  exact ⟨_, rfl, HF.out⟩
set_option maxRecDepth 100000 in
theorem join_arg (g : Nat) (id key : Int) (w : World) (h : ¬ (1 ≤ id ∧ id ≤ 1073741824)) :
    Calls Tryz.prog 8 #[.pointer (some ⟨g, 0, none⟩), .int .i64 id, .int .u64 key] w fun e w' => e = .returned (.int .i64 1) ∧ w = w' := by
  have hi : decide (1 ≤ id ∧ id ≤ 1073741824) = false := by simpa using h
  clear h
  go_enter Tryz.func8, Tryz.ntmps8
  go_wp2_with (go_at_call 34; ((with_reducible refine (isClient_any _ _).mono ?_); rintro e w1 ⟨rfl, rfl⟩; rw [hi]))
  go_ret
  exact ⟨rfl, rfl⟩
set_option maxRecDepth 100000 in
theorem join_twice (g mb : Nat) (cl : List Cl) (c : Cl) (id key : Int) (w : World) (HS : Hid (SesAt w g mb cl)) (h1 : 1 ≤ id) (h2 : id ≤ 1073741824) (hf : findC cl id = some c) :
    Calls Tryz.prog 8 #[.pointer (some ⟨g, 0, none⟩), .int .i64 id, .int .u64 key] w fun e w' => e = .returned (.int .i64 8) ∧ w = w' := by
  have hl := HS.out.look id
  rw [hf] at hl
  simp only [Option.map_some, Option.getD_some, Cl.ptr] at hl
  have hg := HS.out.blk.cell 0
  simp only [List.getElem?_toArray, List.getElem?_cons_zero] at hg
  have hi : decide (1 ≤ id ∧ id ≤ 1073741824) = true := by simp [h1, h2]
  clear hf
  go_enter Tryz.func8, Tryz.ntmps8
  go_wp2_with (go_at_call 34; ((with_reducible refine (isClient_any _ _).mono ?_); rintro e w1 ⟨rfl, rfl⟩; rw [hi]))
  go_ret
  exact ⟨rfl, rfl⟩

/-- The last request has no answer yet. -/
def waitsB (acc : List Acc) : Bool := match acc.getLast? with | some a => !a.done | none => false
theorem waitsB_at {acc : List Acc} {k : Nat} (h : acc.length = k + 1) : ∃ hk : k < acc.length, waitsB acc = !(acc[k]).done := by
  refine ⟨by omega, ?_⟩
  unfold waitsB
  rw [List.getLast?_eq_getElem?, show acc.length - 1 = k by omega, List.getElem?_eq_getElem (by omega)]
/-- The cells of a remembered request. -/
theorem Cl.ok.row {w : World} {c : Cl} (h : c.ok w) {k : Nat} (hk : k < c.acc.length) : ∃ g cap, c.rv = .slice (some ⟨g, 0, none⟩) c.acc.length cap ∧ w.cell? ⟨g, k * 3, none⟩ = some (.int .u64 (c.acc[k]).body) ∧ w.cell? ⟨g, k * 3 + 1, none⟩ = some (.bool (c.acc[k]).done) ∧
    w.cell? ⟨g, k * 3 + 2, none⟩ = some (.slice (c.acc[k]).A (c.acc[k]).n (c.acc[k]).c) ∧ (∀ o, w.frozen? ⟨g, o, none⟩ = false) ∧ (∃ a b, w.cell? ⟨g, k * 3 + 1, none⟩ = some a ∧ w.cell? ⟨g, k * 3 + 2, none⟩ = some b) := by
  have ho := h.2.1
  rcases ho.2 with ⟨_, h0⟩ | ⟨g, cap, cur, hv, _⟩
  · omega
  · rw [hv] at ho
    have hat := flatC_at Acc.cells 3 Acc.cells_length c.acc k
    have hlt : ∀ i, i < 3 → k * 3 + i < c.acc.length * 3 := fun i hi => by omega
    have hc : ∀ i, i < 3 → w.cell? ⟨g, k * 3 + i, none⟩ = (Acc.cells c.acc[k])[i]? := fun i hi => (ho.cellAt (k * 3 + i) (hlt i hi)).trans (hat i hk hi)
    exact ⟨g, cap, hv, hc 0 (by omega), hc 1 (by omega), hc 2 (by omega), fun o => ho.frozenAt o, _, _, hc 1 (by omega), hc 2 (by omega)⟩
set_option maxRecDepth 100000 in
theorem waits_any (c : Cl) (w : World) (HC : Hid (c.ok w)) : Calls Tryz.prog 42 #[.pointer (some ⟨c.sb, 0, none⟩)] w fun e w' => e = .returned (.bool (waitsB c.acc)) ∧ ∃ n, w' = w.drewN n := by
  have hc2 := HC.out.1.cell 2
  simp only [List.getElem?_toArray, List.getElem?_cons_succ, List.getElem?_cons_zero] at hc2
  rcases hlen : c.acc.length with _ | k
  · have HW := Lib.hid (show waitsB c.acc = false by rw [List.eq_nil_of_length_eq_zero hlen]; rfl)
    obtain ⟨A, cc, hv⟩ := own_parts HC.out.2.1
    rw [hv, hlen] at hc2
    clear hlen hv
    generalize c.sb = sb at *
    go_enter Tryz.func42, Tryz.ntmps42
    go_wp2
    go_quiet (fail)
    go_wp2
    go_ret
    exact ⟨by rw [HW.out]; rfl, _, rfl⟩
  · obtain ⟨hk, hw⟩ := waitsB_at hlen
    obtain ⟨g, cap, hv, -, hd, -⟩ := HC.out.row hk
    have HW := Lib.hid hw
    rw [hv, hlen] at hc2
    have hk0 : (0 : Int) ≤ (k : Int) := by omega
    have hk1 : (k : Int) < (k : Int) + 1 := by omega
    have hkm : k + 1 ≤ 16 := by have := HC.out.2.2.2.2; omega
    generalize (c.acc[k]).done = dn at *
    clear hlen hv hk hw
    generalize c.sb = sb at *
    go_enter Tryz.func42, Tryz.ntmps42
    go_wp2
    go_quiet (fail)
    go_wp2
    go_ret
    exact ⟨by rw [HW.out]; rfl, _, rfl⟩
end Go.Proofs.YtgepbklpobobbaaGreatDoor
