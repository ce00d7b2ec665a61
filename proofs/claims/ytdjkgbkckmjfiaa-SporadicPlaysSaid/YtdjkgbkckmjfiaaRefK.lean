/- The reference's nil server; step of nil servers. -/
import Derived.Test.YtdjkgbkckmjfiaaRefJ
namespace Go.Proofs.Ytdjkgbkckmjfiaa
open Go.RowKit

theorem rrun_nil (now : Int) (w : World) : Calls Try.prog 31 #[.pointer none, I64 now] w fun e w' => e = .returned (I64 35) ∧ w = w' := by
  go_enter Try.func31, Try.ntmps31
  go_wp2
  go_ret
  exact ⟨rfl, rfl⟩
theorem rbudget_nil (now : Int) (w : World) : Calls Try.prog 29 #[.pointer none, I64 now] w fun e w' => e = .returned (.tuple #[I64 0, I64 35]) ∧ w = w' := by
  go_enter Try.func29, Try.ntmps29
  go_wp2
  go_ret2
  exact ⟨rfl, rfl⟩
theorem rprio_nil (now normal : Int) (w : World) : Calls Try.prog 30 #[.pointer none, I64 now, I64 normal] w fun e w' => e = .returned (.tuple #[I64 0, I64 35]) ∧ w = w' := by
  go_enter Try.func30, Try.ntmps30
  go_wp2_with fail
  refine (rbudget_nil now _).mono ?_
  rintro e w1 ⟨rfl, rfl⟩
  go_wp2
  go_ret2
  exact ⟨rfl, rfl⟩
theorem rnext_nil (w : World) : Calls Try.prog 22 #[.pointer none] w fun e w' => e = .returned (.tuple #[I64 0, .bool false]) ∧ w = w' := by
  go_enter Try.func22, Try.ntmps22
  go_wp2
  go_ret2
  exact ⟨rfl, rfl⟩
theorem rreps_nil (w : World) : Calls Try.prog 20 #[.pointer none] w fun e w' => e = .returned (.slice none 0 0) ∧ w = w' := by
  go_enter Try.func20, Try.ntmps20
  go_wp2
  go_ret
  exact ⟨rfl, rfl⟩

theorem step_nil (d gap raw normal now : Int) (w : World) (hd0 : 0 ≤ d) (hd1 : d ≤ 255) :
    Calls Try.prog 18 #[.pointer none, .pointer none, ActV d gap raw normal, I64 now] w fun e w' => e = .returned (.bool true) ∧ Only [] w w' := by
  have h0 : 0 ≤ d % 4 := Int.emod_nonneg _ (by omega)
  have h4 : d % 4 < 4 := Int.emod_lt_of_pos _ (by omega)
  by_cases h2 : d % 4 = 2
  · have e2 : (d % 4 == 2) = true := by simp [h2]
    clear h2 h0 h4
    go_enter Try.func18, Try.ntmps18
    go_wp2_with fail
    refine (budget_nil now _).mono ?_
    rintro e w1 ⟨rfl, rfl⟩
    go_wp2_with fail
    refine (rbudget_nil now _).mono ?_
    rintro e w1 ⟨rfl, rfl⟩
    go_wp2
    go_ret
    exact ⟨rfl, (Only.refl _ _).alloc _⟩
  by_cases h3 : d % 4 = 3
  · have e2 : (d % 4 == 2) = false := by simp [h3]
    have e3 : (d % 4 == 3) = true := by simp [h3]
    clear h2 h3 h0 h4
    go_enter Try.func18, Try.ntmps18
    go_wp2_with fail
    refine (prio_nil now normal _).mono ?_
    rintro e w1 ⟨rfl, rfl⟩
    go_wp2_with fail
    refine (rprio_nil now normal _).mono ?_
    rintro e w1 ⟨rfl, rfl⟩
    go_wp2
    go_ret
    exact ⟨rfl, (Only.refl _ _).alloc _⟩
  · have e2 : (d % 4 == 2) = false := by simp [h2]
    have e3 : (d % 4 == 3) = false := by simp [h3]
    clear h2 h3 h0 h4
    go_enter Try.func18, Try.ntmps18
    go_wp2_with fail
    refine (run_nil now _).mono ?_
    rintro e w1 ⟨rfl, rfl⟩
    go_wp2_with fail
    refine (rrun_nil now _).mono ?_
    rintro e w1 ⟨rfl, rfl⟩
    go_wp2
    go_ret
    exact ⟨rfl, (Only.refl _ _).alloc _⟩

end Go.Proofs.Ytdjkgbkckmjfiaa
