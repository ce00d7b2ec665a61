/- The law SporadicNil, walked. -/
import Derived.Test.YtdjkgbkckmjfiaaAwake
import Derived.Test.YtdjkgbkckmjfiaaWalkG
namespace Go.Proofs.Ytdjkgbkckmjfiaa
open Go.RowKit

set_option maxHeartbeats 2000000 in
theorem nil_true (now normal : Int) (w : World) :
    Calls Try.prog 7 #[I64 now, I64 normal] w fun e w' => e = .returned (.bool true) ∧ Only [] w w' := by
  go_enter Try.func7, Try.ntmps7
  go_wp2_with fail
  refine (budget_nil now _).mono ?_
  rintro e w1 ⟨rfl, rfl⟩
  go_wp2_with fail
  refine (prio_nil now normal _).mono ?_
  rintro e w1 ⟨rfl, rfl⟩
  go_wp2_with fail
  refine (next_nil _).mono ?_
  rintro e w1 ⟨rfl, rfl⟩
  go_wp2_with fail
  refine (run_nil now _).mono ?_
  rintro e w1 ⟨rfl, rfl⟩
  go_wp2_with fail
  refine (reps_nil _).mono ?_
  rintro e w1 ⟨rfl, rfl⟩
  go_wp2_with fail
  refine (awake_ok _).mono ?_
  rintro e w2 ⟨rfl, ho2⟩
  go_wp2
  go_ret
  exact ⟨rfl, ho2⟩

end Go.Proofs.Ytdjkgbkckmjfiaa
