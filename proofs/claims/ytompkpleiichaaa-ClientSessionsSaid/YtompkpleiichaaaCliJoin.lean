/- client: Join, waits. -/
import Derived.Test.YtompkpleiichaaaCliSes
namespace Go.Proofs.Ytompkpleiichaaa
open Go.RowKit

theorem put_none {es : List (Int × Value)} {k : Int} (h : es.lookup k = none) (v : Value) : put es k v = es ++ [(k, v)] := by
  have hno : ∀ p ∈ es, p.1 ≠ k := by
    intro p hp e
    have := List.lookup_eq_none_iff.1 h p hp
    simp [e] at this
  clear h
  induction es with
  | nil => rfl
  | cons p es ih =>
    unfold put
    rw [if_neg (hno p (by simp)), ih (fun q hq => hno q (by simp [hq]))]
    rfl
theorem SesAt.add {w w' : World} {g mb : Nat} {cl : List Cl} (h : SesAt w g mb cl) (id key : Int) (hf : findC cl id = none)
    (hm : IMap w' mb (put (cl.map fun c => (c.id, c.ptr)) id (.pointer (some ⟨w.heap.size, 0, none⟩)))) (hg : (w.alloc (.cells #[.int .u64 key, .int .i64 0, .slice none 0 0] 94)).grownBy w' (some mb)) :
    SesAt w' g mb (cl ++ [⟨id, key, 0, [], w.heap.size, .slice none 0 0⟩]) ∧ Mod (SesF g mb cl) w w' ∧ ∀ b, SesF g mb (cl ++ [⟨id, key, 0, [], w.heap.size, .slice none 0 0⟩]) b → SesF g mb cl b ∨ w.heap.size ≤ b := by
  have m : Mod (fun b => b = mb) w w' := ((Mod.refl _ w).alloc _).then_grown hg (fun b e => .inl (by injection e with e; exact e.symm))
  have hmb := h.map.lt
  have hnt : ∀ b, b = mb → ¬ Ty w b 5 := by
    rintro b rfl
    exact h.map.not_ty
  refine ⟨⟨m.blk h.blk (fun e => by have := h.blk.ty; rw [e] at this; exact h.map.not_ty this), ?_, ?_, ?_⟩, m.mono (fun b e => .inl (.inr (.inl e))), ?_⟩
  · rw [put_none (by rw [lookup_findC, hf]; rfl)] at hm
    simpa [Cl.ptr] using hm
  · intro c hc
    rw [List.mem_append, List.mem_singleton] at hc
    rcases hc with hc | rfl
    · exact (h.ok c hc).mod m (fun b hb => (h.F_ne hc b hb).2) hnt
    · exact ⟨Blk.grown (Blk.new w _ _) hg (fun e => by injection e with e; dsimp only at e; omega), World.ownsRow_nil _ _ _ _, by simp, by simp, by simp⟩
  · rw [List.pairwise_append]
    refine ⟨h.apart, by simp, fun c hc d hd b hb hb' => ?_⟩
    rw [List.mem_singleton] at hd
    subst hd
    have := (h.ok c hc).ltF b hb
    rcases hb' with e | e
    · dsimp only at e
      omega
    · simp [Value.ownBlock] at e
  · rintro b (e | e | ⟨d, hd, hb⟩)
    · exact .inl (.inl e)
    · exact .inl (.inr (.inl e))
    · rw [List.mem_append, List.mem_singleton] at hd
      rcases hd with hd | rfl
      · exact .inl (.inr (.inr ⟨d, hd, hb⟩))
      · rcases hb with e | e
        · exact .inr (by rw [e]; exact Nat.le_refl _)
        · simp [Value.ownBlock] at e
def JoinYes (g mb : Nat) (cl : List Cl) (id key : Int) (w : World) (e : Ending) (w' : World) : Prop :=
  ∃ sb, e = .returned (.int .i64 0) ∧ SesAt w' g mb (cl ++ [⟨id, key, 0, [], sb, .slice none 0 0⟩]) ∧ Mod (SesF g mb cl) w w' ∧ ∀ b, SesF g mb (cl ++ [⟨id, key, 0, [], sb, .slice none 0 0⟩]) b → SesF g mb cl b ∨ w.heap.size ≤ b
set_option maxRecDepth 100000 in
theorem join_yes (g mb : Nat) (cl : List Cl) (id key : Int) (w : World) (HS : Hid (SesAt w g mb cl)) (h1 : 1 ≤ id) (h2 : id ≤ 1073741824) (hf : findC cl id = none) :
    Calls Try.prog 11 #[.pointer (some ⟨g, 0, none⟩), .int .i64 id, .int .u64 key] w (JoinYes g mb cl id key w) := by
  have hl := HS.out.look id
  rw [hf] at hl
  simp only [Option.map_none, Option.getD_none] at hl
  have hg := HS.out.blk.cell 0
  simp only [List.getElem?_toArray, List.getElem?_cons_zero] at hg
  have hS2 := HS.out.all ((Below.refl w.heap.size w).alloc (Nat.le_refl _) (.cells #[.int .u64 key, .int .i64 0, .slice none 0 0] 94))
  obtain ⟨w', hrun, hm, hgr, -⟩ := hS2.map.store Try.underlying85 Try.underlying3 id (.pointer (some ⟨w.heap.size, 0, none⟩))
  have HF := Lib.hid (HS.out.add id key hf hm hgr)
  have hi : decide (1 ≤ id ∧ id ≤ 1073741824) = true := by simp [h1, h2]
  clear hf hS2 hm hgr
  go_enter Try.func11, Try.ntmps11
  go_wp2_with (go_at_call 47; ((with_reducible refine (isClient_any _ _).mono ?_); rintro e w1 ⟨rfl, rfl⟩; rw [hi]))
  go_ret
  exact ⟨_, rfl, HF.out⟩
set_option maxRecDepth 100000 in
theorem join_arg (g : Nat) (id key : Int) (w : World) (h : ¬ (1 ≤ id ∧ id ≤ 1073741824)) :
    Calls Try.prog 11 #[.pointer (some ⟨g, 0, none⟩), .int .i64 id, .int .u64 key] w fun e w' => e = .returned (.int .i64 1) ∧ w = w' := by
  have hi : decide (1 ≤ id ∧ id ≤ 1073741824) = false := by simpa using h
  clear h
  go_enter Try.func11, Try.ntmps11
  go_wp2_with (go_at_call 47; ((with_reducible refine (isClient_any _ _).mono ?_); rintro e w1 ⟨rfl, rfl⟩; rw [hi]))
  go_ret
  exact ⟨rfl, rfl⟩
set_option maxRecDepth 100000 in
theorem join_twice (g mb : Nat) (cl : List Cl) (c : Cl) (id key : Int) (w : World) (HS : Hid (SesAt w g mb cl)) (h1 : 1 ≤ id) (h2 : id ≤ 1073741824) (hf : findC cl id = some c) :
    Calls Try.prog 11 #[.pointer (some ⟨g, 0, none⟩), .int .i64 id, .int .u64 key] w fun e w' => e = .returned (.int .i64 8) ∧ w = w' := by
  have hl := HS.out.look id
  rw [hf] at hl
  simp only [Option.map_some, Option.getD_some, Cl.ptr] at hl
  have hg := HS.out.blk.cell 0
  simp only [List.getElem?_toArray, List.getElem?_cons_zero] at hg
  have hi : decide (1 ≤ id ∧ id ≤ 1073741824) = true := by simp [h1, h2]
  clear hf
  go_enter Try.func11, Try.ntmps11
  go_wp2_with (go_at_call 47; ((with_reducible refine (isClient_any _ _).mono ?_); rintro e w1 ⟨rfl, rfl⟩; rw [hi]))
  go_ret
  exact ⟨rfl, rfl⟩

/-- The last request has no answer yet. -/
def waitsB (acc : List Acc) : Bool := match acc.getLast? with | some a => !a.done | none => false
theorem waitsB_nil : waitsB [] = false := rfl
theorem waitsB_at {acc : List Acc} {k : Nat} (h : acc.length = k + 1) : ∃ hk : k < acc.length, waitsB acc = !(acc[k]).done := by
  refine ⟨by omega, ?_⟩
  unfold waitsB
  rw [List.getLast?_eq_getElem?, show acc.length - 1 = k by omega, List.getElem?_eq_getElem (by omega)]
/-- The cells of a remembered request. -/
theorem Cl.ok.row {w : World} {c : Cl} (h : c.ok w) {k : Nat} (hk : k < c.acc.length) : ∃ g cap, c.rv = .slice (some ⟨g, 0, none⟩) c.acc.length cap ∧ w.cell? ⟨g, k * 3, none⟩ = some (.int .u64 (c.acc[k]).body) ∧ w.cell? ⟨g, k * 3 + 1, none⟩ = some (.bool (c.acc[k]).done) ∧
    w.cell? ⟨g, k * 3 + 2, none⟩ = some (.slice (c.acc[k]).A (c.acc[k]).n (c.acc[k]).c) ∧ (∀ o, w.frozen? ⟨g, o, none⟩ = false) ∧ (∃ a b, w.cell? ⟨g, k * 3 + 1, none⟩ = some a ∧ w.cell? ⟨g, k * 3 + 2, none⟩ = some b) := by
  have ho := h.2.1
  rcases ho.2 with ⟨_, h0⟩ | ⟨g, cap, cur, hv, _⟩
  · omega
  · rw [hv] at ho
    have hat := flat_at Acc.cells 3 Acc.cells_length c.acc k
    have hlt : ∀ i, i < 3 → k * 3 + i < c.acc.length * 3 := fun i hi => by omega
    have hc : ∀ i, i < 3 → w.cell? ⟨g, k * 3 + i, none⟩ = (Acc.cells c.acc[k])[i]? := fun i hi => (ho.cellAt (k * 3 + i) (hlt i hi)).trans (hat i hk hi)
    exact ⟨g, cap, hv, hc 0 (by omega), hc 1 (by omega), hc 2 (by omega), fun o => ho.frozenAt o, _, _, hc 1 (by omega), hc 2 (by omega)⟩
set_option maxRecDepth 100000 in
theorem waits_any (c : Cl) (w : World) (HC : Hid (c.ok w)) : Calls Try.prog 54 #[.pointer (some ⟨c.sb, 0, none⟩)] w fun e w' => e = .returned (.bool (waitsB c.acc)) ∧ ∃ n, w' = w.drewN n := by
  have hc2 := HC.out.1.cell 2
  simp only [List.getElem?_toArray, List.getElem?_cons_succ, List.getElem?_cons_zero] at hc2
  rcases hlen : c.acc.length with _ | k
  · have HW := Lib.hid (show waitsB c.acc = false by rw [List.eq_nil_of_length_eq_zero hlen]; rfl)
    obtain ⟨A, cc, hv⟩ := own_parts HC.out.2.1
    rw [hv, hlen] at hc2
    clear hlen hv
    generalize c.sb = sb at *
    go_enter Try.func54, Try.ntmps54
    go_wp2
    go_quiet (fail)
    go_wp2
    go_ret
    exact ⟨by rw [HW.out]; rfl, _, rfl⟩
  · obtain ⟨hk, hw⟩ := waitsB_at hlen
    obtain ⟨g, cap, hv, -, hd, -⟩ := HC.out.row hk
    have HW := Lib.hid hw
    rw [hv, hlen] at hc2
    have hk0 : (0 : Int) ≤ (k : Int) := by omega
    have hk1 : (k : Int) < (k : Int) + 1 := by omega
    have hkm : k + 1 ≤ 16 := by have := HC.out.2.2.2.2; omega
    generalize (c.acc[k]).done = dn at *
    clear hlen hv hk hw
    generalize c.sb = sb at *
    go_enter Try.func54, Try.ntmps54
    go_wp2
    go_quiet (fail)
    go_wp2
    go_ret
    exact ⟨by rw [HW.out]; rfl, _, rfl⟩
end Go.Proofs.Ytompkpleiichaaa
