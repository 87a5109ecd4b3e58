/- ledger: the stack of an account, as a change sees it. -/
import Derived.Test.YtlcalajehnaenaaGreatDoorHG11
import Derived.BigQuiet
namespace Go.Proofs.YtlcalajehnaenaaGreatDoor
open Go.RowKit
set_option maxRecDepth 100000 in
theorem stack_any {mx : Int → Bool} {B : Nat} {L : Led} {S0 S : LSt} {C : Chg} (a i : Int) (w : World) (HC : Hid (ChAt B w L S0 S C)) (HL : Hid (LedAt mx w L S0)) (ha : 0 ≤ a ∧ a < 2147483648) (hi : 0 ≤ i ∧ i < 2147483648) :
 Calls Tryz.prog 157 #[.pointer (some ⟨C.gc, 0, none⟩), .int .i64 a, .int .i64 i] w fun e w' => ∃ V : Sl, e = .returned (slV V) ∧ LotsAt w' V.1 V.2.1 V.2.2 (S.st (kOf a i)) ∧ Below w.heap.size w w' := by
 obtain ⟨V, hv, hls⟩ := HC.out.st (kOf a i)
 have c8 : w.cell? ⟨C.gc, 8, none⟩ = some (.map (some C.bS)) := HC.out.c.cell 8
 have c0 : w.cell? ⟨C.gc, 0, none⟩ = some (.pointer (some ⟨L.gl, 0, none⟩)) := HC.out.c.cell 0
 have l5 : w.cell? ⟨L.gl, 5, none⟩ = some (.map (some L.lS)) := HL.out.c.cell 5
 have hlt1 := HC.out.c.lt
 have hlt2 := HL.out.c.lt
 have hb := (Below.refl w.heap.size w).alloc (Nat.le_refl _) (.cells #[.int .i64 a, .int .i64 i] 108)
 obtain ⟨w1, hw1⟩ : ∃ w1, w.alloc (.cells #[.int .i64 a, .int .i64 i] 108) = w1 := ⟨_, rfl⟩
 have kb := Blk.new w 108 #[.int .i64 a, .int .i64 i]
 rw [hw1] at hb kb
 have HB := Lib.hid hb
 have HV := Lib.hid (hls.all hb)
 have e1 := fun q => (HC.out.all (below_drewN hb q)).look ha hi
 have e2 := fun q => (HL.out.all (below_drewN hb q)).look ha hi
 have k0 : w1.cell? ⟨w.heap.size, 0, none⟩ = some (.int .i64 a) := kb.cell 0
 have k1 : w1.cell? ⟨w.heap.size, 1, none⟩ = some (.int .i64 i) := kb.cell 1
 have d8 := (hb.cell (p := ⟨C.gc, 8, none⟩) hlt1).trans c8
 have d0 := (hb.cell (p := ⟨C.gc, 0, none⟩) hlt1).trans c0
 have d5 := (hb.cell (p := ⟨L.gl, 5, none⟩) hlt2).trans l5
 clear HC HL hls hb c8 c0 l5 hlt1 hlt2 kb
 cases hg : glk C.es (kOf a i) with
 | some v =>
   rw [hg] at hv e1
   simp only [Option.some_or, Option.getD_some, Option.isSome_some] at hv e1
   subst hv
   clear e2 hg
   go_enter Tryz.func157, Tryz.ntmps157
   go_wp2
   clear hw1
   go_quiet (fail)
   go_wp2
   go_ret
   exact ⟨V, rfl, HV.out.all (below_drewN (Below.refl _ _) _), below_drewN HB.out _⟩
 | none =>
   rw [hg] at hv e1
   simp only [Option.none_or, Option.getD_none, Option.isSome_none] at hv e1
   rw [hv] at e2
   clear hg hv
   go_enter Tryz.func157, Tryz.ntmps157
   go_wp2
   clear hw1
   go_quiet (fail)
   go_wp2
   go_quiet (fail)
   go_wp2
   go_ret
   exact ⟨V, rfl, HV.out.all (below_drewN (below_drewN (Below.refl _ _) _) _), below_drewN (below_drewN HB.out _) _⟩
end Go.Proofs.YtlcalajehnaenaaGreatDoor
