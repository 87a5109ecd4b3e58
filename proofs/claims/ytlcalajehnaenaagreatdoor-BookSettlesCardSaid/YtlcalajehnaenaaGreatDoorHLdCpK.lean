/- package catalog, the compiler: the keys of declare, group, first. -/
import Derived.Test.YtlcalajehnaenaaGreatDoorHLdPaR
import Derived.DeepKeys4
namespace Go.Proofs.YtlcalajehnaenaaGreatDoor
open Go.RowKit
def cEnc (s : SK) : Value := .agg #[.int .i64 0, .string s.1]
theorem cEncOk : KeyEnc Tryz.prog 131 cEnc where
 keyed := Go.Maps.Keyed.of_law (deep_law_laid (by kernel_rfl) (m := 2) (by omega) (of_decide_eq_true (by kernel_rfl)) (by kernel_rfl) (by rw [Tryz.underlying131]))
 lit k := by
  have hk : Tryz.prog.keyType 131 = true := by kernel_rfl
  have hc : Tryz.prog.cellsOf 131 = 2 := by kernel_rfl
  have hi : Tryz.prog.cellsOf 3 = 1 := by kernel_rfl
  have hj : Tryz.prog.cellsOf 9 = 1 := by kernel_rfl
  have hf : (cEnc k).formed Tryz.prog 131 = true := by simp [Value.formed, cEnc, Tryz.underlying131, hc]
  have hs : Tryz.prog.types.size + 1 = Tryz.prog.types.size - 1 + 1 + 1 := by
   have : 1 ≤ Tryz.prog.types.size := of_decide_eq_true (by kernel_rfl)
   omega
  have h0 : ∀ d, Tryz.prog.keyLits (d + 1) 3 [.int .i64 0] = some [.int .i64 0] := fun d => by
   unfold Program.keyLits
   rw [Tryz.underlying3]
   rfl
  have h1 : ∀ d, Tryz.prog.keyLits (d + 1) 9 [.string k.1] = some [.string k.1.data.toList] := fun d => by
   unfold Program.keyLits
   rw [Tryz.underlying9]
   exact if_pos (Nat.le_trans k.2 (by decide))
  have h2 : ∀ d, Tryz.prog.keyLits (d + 1 + 1) 131 (cEnc k).cells.toList = some [.int .i64 0, .string k.1.data.toList] := fun d => by
   have e : (cEnc k).cells.toList = [.int .i64 0, .string k.1] := rfl
   rw [e]
   conv => lhs; unfold Program.keyLits
   rw [Tryz.underlying131]
   dsimp only
   rw [if_pos ⟨by rw [hc]; rfl, by kernel_rfl⟩]
   simp only [List.mapM_cons, List.mapM_nil, hi, hj, List.drop_zero, List.drop_succ_cons, List.take_succ_cons, List.take_zero, h0, h1]
   rfl
  unfold keyOf
  rw [Tryz.underlying131]
  simp only [hk, hf, Bool.and_self, if_true]
  rw [hs, h2]
  exact ⟨_, rfl⟩
 inj {a b} h := by
  apply Subtype.ext
  simpa [cEnc] using h
set_option maxRecDepth 100000 in
theorem group_item (w : World) : Calls Tryz.prog 52 #[.int .i64 0] w fun e w' => e = .returned (.int .i64 0) ∧ w' = w := by
 go_enter Tryz.func52, Tryz.ntmps52
 go_wp2
 go_ret
 exact ⟨rfl, rfl⟩
set_option maxRecDepth 100000 in
theorem firstC_ok (w : World) : Calls Tryz.prog 93 #[.bool true, .bool true, .bool true] w fun e w' => e = .returned (.int .i64 0) ∧ w' = w := by
 go_enter Tryz.func93, Tryz.ntmps93
 go_wp2
 go_ret
 exact ⟨rfl, rfl⟩
end Go.Proofs.YtlcalajehnaenaaGreatDoor
