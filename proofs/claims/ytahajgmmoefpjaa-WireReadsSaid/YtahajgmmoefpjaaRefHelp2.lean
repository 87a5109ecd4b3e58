/- More helpers of worldmintref01: Bound, Has. -/
import Derived.Test.YtahajgmmoefpjaaRefHelp
namespace Go.Proofs.Ytahajgmmoefpjaa
open Go.RowKit

set_option maxRecDepth 100000 in
set_option maxHeartbeats 400000 in
theorem bound_any (n : Int) (m : Nat) (mi : Int) (w : World) (hmi : mi = (m : Int)) (h1 : -9223372036854775808 ≤ n) (h2 : n ≤ 9223372036854775807) (h4 : m ≤ 2305843009213693952) :
   Calls Try.prog 13 #[.int .i64 n, .int .i64 mi] w fun e w' => ∃ x : Int, e = .returned (.int .i64 x) ∧ -(m : Int) ≤ x ∧ x ≤ (m : Int) ∧ Hid (x = aroundI n (2 * m + 1) - m) ∧ w = w' := by
 subst hmi
 go_enter Try.func13, Try.ntmps13
 go_wp2_with fail
 refine (around_nat n (2 * m + 1) _ _ (by omega) h1 h2 (by omega) (by omega)).mono ?_
 rintro e w' ⟨k, rfl, hk, HK, rfl⟩
 go_wp2
 go_ret
 refine ⟨(k : Int) - m, rfl, by omega, by omega, Lib.hid ?_, rfl⟩
 have := HK.out
 rw [this]
 congr 2
end Go.Proofs.Ytahajgmmoefpjaa
