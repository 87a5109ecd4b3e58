/- The walks of dice.Reduce and worldmintref04.Reduce. -/
import Derived.Test.YtklkppmmnlachaaProg
import Derived.Test.YtklkppmmnlachaaDicePlain
import Derived.Test.YtklkppmmnlachaaMem
import Derived.Lib.Hide
import Derived.WalkKit
import Derived.WalkSpells
import Derived.WalkLawsBesides
namespace Go.Proofs.Ytklkppmmnlachaa
open Go.RowKit

set_option maxRecDepth 100000 in
set_option maxHeartbeats 400000 in
theorem reduce_any (w n : Int) (W : World) (hw0 : 0 ≤ w) (hw1 : w ≤ 18446744073709551615) (hn1 : n ≤ 9223372036854775807) :
    Calls Try.prog 12 #[.int .u64 w, .int .i64 n] W fun e w' => e = .returned (.tuple #[.int .i64 (redVal w n), .bool (redOk w n)]) ∧ W = w' := by
  by_cases hn0 : 1 ≤ n
  · go_enter Try.func12, Try.ntmps12
    go_wp2
    · go_ret2
      have h := red_no hn0 hn1 ‹_› ‹_›
      rw [h, red_zero h]
      exact ⟨rfl, rfl⟩
    · go_ret2
      have h := red_yes hn0 hn1 ‹_› ‹_›
      rw [h, ← red_val hn0 hn1 h]
      exact ⟨rfl, rfl⟩
    · go_ret2
      have h := red_yes0 hw1 hn0 hn1 ‹_›
      rw [h, ← red_val hn0 hn1 h]
      exact ⟨rfl, rfl⟩
  · have HO := Lib.hid (redOk_small (w := w) (n := n) (by omega))
    have HV := Lib.hid (redVal_small (w := w) (n := n) (by omega))
    go_enter Try.func12, Try.ntmps12
    go_wp2
    go_ret2
    rw [HO.out, HV.out]
    exact ⟨rfl, rfl⟩
set_option maxRecDepth 100000 in
set_option maxHeartbeats 400000 in
theorem rreduce_any (w n : Int) (W : World) (hw0 : 0 ≤ w) (hw1 : w ≤ 18446744073709551615) (hn1 : n ≤ 9223372036854775807) :
   Calls Try.prog 23 #[.int .u64 w, .int .i64 n] W fun e w' => e = .returned (.tuple #[.int .i64 (redVal w n), .bool (redOk w n)]) ∧ W = w' := by
 by_cases hn0 : 1 ≤ n
 · go_enter Try.func23, Try.ntmps23
   go_wp2
   · go_ret2
     have h : redOk w n = false := by
       rw [Bool.eq_false_iff]
       intro h
       have h2 := (rred_iff hn0 hn1).1 h
       have h3 : 18446744073709551615 - w < IntKind.u64.wrap (n - 1 - w % n) := by assumption
       omega
     rw [h, red_zero h]
     exact ⟨rfl, rfl⟩
   · go_ret2
     have h := (rred_iff hn0 hn1).2 ‹_›
     rw [h, ← red_val hn0 hn1 h]
     exact ⟨rfl, rfl⟩
 · have HO := Lib.hid (redOk_small (w := w) (n := n) (by omega))
   have HV := Lib.hid (redVal_small (w := w) (n := n) (by omega))
   go_enter Try.func23, Try.ntmps23
   go_wp2
   go_ret2
   rw [HO.out, HV.out]
   exact ⟨rfl, rfl⟩


end Go.Proofs.Ytklkppmmnlachaa
