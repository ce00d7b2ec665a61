/- The examples of the chapter hold. -/
import Derived.Test.YtdjkgbkckmjfiaaWalkF
namespace Go.Proofs.Ytdjkgbkckmjfiaa
open Go.RowKit

def p0 : Prm := ⟨2, 5, 4, 0⟩
theorem p0_ok : p0.ok := by unfold p0 Prm.ok; decide
def s0 : Srv := Srv.new p0
def s1 : Srv := (s0.runs 0).1
def s2 : Srv := (s1.runs 1).1
def s3 : Srv := (s2.runs 2).1
theorem r1 : (s0.runs 0).2 = 0 := by decide +kernel
theorem r2 : (s1.runs 1).2 = 0 := by decide +kernel
theorem r3 : (s2.runs 2).2 = 18 := by decide +kernel
theorem n3 : s3.next = (7, true) := by decide +kernel
theorem b3 : (s3.budget 7).2 = (2, 0) := by decide +kernel
theorem i0 : s0.Inv := Srv.Inv.news p0_ok
theorem i1 : s1.Inv := i0.runs 0
theorem i2 : s2.Inv := i1.runs 1
theorem i3 : s3.Inv := i2.runs 2

set_option maxHeartbeats 1000000 in
theorem awake_ok (w : World) : Calls Try.prog 9 #[] w fun e w' => e = .returned (.bool true) ∧ Only [] w w' := by
  have hb1 : ∀ (W : World), (Instr.build 23 #[(0, .int .i64 2), (1, .int .i64 5), (2, .int .i64 4)]).run Try.prog W = .ok (.agg #[.int .i64 2, .int .i64 5, .int .i64 4, .int .i64 0]) W := fun _ => by kernel_rfl
  go_enter Try.func9, Try.ntmps9
  go_wp2_with fail
  refine (new_yes p0 _ p0_ok).mono ?_
  rintro e w1 ⟨b, g, bs, rfl, hs0, hb, hg, hbs, ho⟩
  go_wp2_with fail
  have h1 := run_ok b g bs s0 0 w1 hs0 i0
  rw [r1] at h1
  refine h1.mono ?_
  clear h1
  rintro e w2 ⟨rfl, hs1, ho1⟩
  go_wp2_with fail
  have h2 := run_ok b g bs s1 1 w2 hs1 i1
  rw [r2] at h2
  refine h2.mono ?_
  clear h2
  rintro e w3 ⟨rfl, hs2, ho2⟩
  go_wp2_with fail
  have h3 := run_ok b g bs s2 2 w3 hs2 i2
  rw [r3] at h3
  refine h3.mono ?_
  clear h3
  rintro e w4 ⟨rfl, hs3, ho3⟩
  go_wp2_with fail
  have h4 := next_ok b g bs s3 w4 hs3 i3
  rw [n3] at h4
  refine h4.mono ?_
  clear h4
  rintro e w5 ⟨rfl, n5, rfl⟩
  go_wp2_with fail
  have h5 := budget_ok b g bs s3 7 _ (hs3.drewN n5) i3
  rw [b3] at h5
  refine h5.mono ?_
  clear h5
  rintro e w6 ⟨rfl, hs6, ho6⟩
  go_wp2
  go_ret
  exact ⟨rfl, ho.trans' (((((ho1.trans ho2).trans ho3).drewN n5)).trans ho6) (by simp; omega)⟩

end Go.Proofs.Ytdjkgbkckmjfiaa
