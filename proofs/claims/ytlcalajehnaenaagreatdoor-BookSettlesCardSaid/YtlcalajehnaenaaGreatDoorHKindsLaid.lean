/- The variable lexer.kinds, listed in a row: its letters are letters. -/
import Derived.Test.YtlcalajehnaenaaGreatDoorHLaw
import Derived.Test.YtlcalajehnaenaaGreatDoorHG11
import Derived.LaidMore
import Derived.OpenShut
import Derived.Stop.Joined
namespace Go.Proofs.YtlcalajehnaenaaGreatDoor
open Go.ChangeShapes Go.WideShapes Go.ChangeAt Go.WideMaps Go.WideElems Go.RowKit
abbrev laidK : List (String × DataW Unit) := [("worldmint/lexer.kinds", Rows.laid_worldmint_lexer_kinds)]
theorem Tryz.gKinds : Tryz.prog.globalNamed "worldmint/lexer.kinds" = some 1 := by kernel_rfl
theorem Tryz.tKinds : (Tryz.prog.globals[1]?).map (·.type) = some 291 := by kernel_rfl
theorem kinds_door (os : Os) (args : Array Value) : laidMetH Tryz.prog laidK ((World.doorLaid Tryz.prog 400 os).forCall (fun _ _ => 0) ⟨#[], args, []⟩).memory :=
 laidMetH_of_parts3 (fuel := 8) (laidMet_of_run' 8 (by kernel_rfl) (by kernel_rfl)) (by kernel_rfl) (by kernel_rfl)
theorem kinds_letter {H : Type} {xs : List (DataW H)} (h : DataW.agg xs = Rows.laid_worldmint_lexer_kinds) : ∀ x : Nat, 97 ≤ x → x ≤ 122 → xs[x]? = some (.lit (.int .u8 3)) := by
 unfold Rows.laid_worldmint_lexer_kinds at h
 injection h with h
 subst h
 intro x h1 h2
 obtain ⟨k, rfl⟩ : ∃ k, x = 97 + k := ⟨x - 97, by omega⟩
 have hk : k < 26 := by omega
 match k, hk with
 | 0, _ | 1, _ | 2, _ | 3, _ | 4, _ | 5, _ | 6, _ | 7, _ | 8, _ | 9, _ | 10, _ | 11, _ | 12, _ | 13, _ | 14, _ | 15, _ | 16, _ | 17, _ | 18, _ | 19, _ | 20, _ | 21, _ | 22, _ | 23, _ | 24, _ | 25, _ => rfl
 | k + 26, h => exact absurd h (by omega)
theorem kinds_at {H : Type} {xs : List (DataW H)} (h : DataW.agg xs = Rows.laid_worldmint_lexer_kinds) (x : Nat) (k : Int) (hk : kd x = some k) : xs[x]? = some (.lit (.int .u8 k)) := by
 unfold kd at hk
 split at hk
 ·rename_i hx
  injection hk with hk
  subst hk
  exact kinds_letter h x hx.1 hx.2
 ·unfold Rows.laid_worldmint_lexer_kinds at h
  injection h with h
  subst h
  split at hk
  ·rename_i hx
   injection hk with hk
   subst hk hx
   rfl
  ·split at hk
   ·rename_i hx
    injection hk with hk
    subst hk hx
    rfl
   ·cases hk
theorem kinds_laid {W : World} (h : laidMetH Tryz.prog laidK W) : KL W := by
 rw [MakeChecks.laidMetH_plain _ _ _ (by kernel_rfl)] at h
 obtain ⟨ps, ⟨g0, t0, cs0, f0, p0, q0, hg0, ht0, hv0, hd0, _, _⟩, _, _⟩ := h
 obtain rfl := Option.some.inj (Tryz.gKinds.symm.trans hg0)
 obtain rfl := Option.some.inj (Tryz.tKinds.symm.trans ht0)
 obtain ⟨xs, m1, rfl, hx1, hlen, hn, hel⟩ := DataW.trod_array Tryz.underlying291 hd0
 simp only [Prod.mk.injEq] at hx1
 have c1 : Tryz.prog.cellsOf 5 = 1 := by kernel_rfl
 rw [c1] at hel
 intro x k hk
 have hx := kinds_at hx1.1.symm x k hk
 have he := hel x (by have := (kd_lt hk).1; omega)
 rw [List.getElem?_map] at hx
 obtain ⟨y, hy, hx⟩ := Option.map_eq_some_iff.1 hx
 rw [hy] at he
 obtain ⟨n, e1, e2, _⟩ := DataW.trod_int Tryz.underlying5 he
 subst e2
 have hn3 : n = k := by simpa using hx
 subst hn3
 have hc := World.var?_cell hg0 hv0 x
 rw [hc]
 have e3 := congrArg (fun l => l[0]?) e1
 simp only [List.getElem?_take, List.getElem?_drop, Nat.mul_one, Nat.add_zero] at e3
 simpa using e3
end Go.Proofs.YtlcalajehnaenaaGreatDoor
