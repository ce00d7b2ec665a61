/- PacketsChecksum answers true. -/
import Derived.Test.YtlnejlhdkmneeaaWalkI
namespace Go.Proofs.Ytlnejlhdkmneeaa
open Go.RowKit

set_option maxHeartbeats 2000000 in
theorem checksum_big (A : Option Addr) (len cap : Nat) (w : World) (h : 1000 < len) (hm : len ≤ maxLen) :
    Calls Try.prog 3 #[.slice A len cap] w fun e w' => e = .returned (.bool true) ∧ Only [] w w' := by
  have hlt : (1000 : Int) < (len : Int) := by omega
  go_enter Try.func3, Try.ntmps3
  go_wp2
  go_ret
  exact ⟨rfl, Only.refl _ _⟩

set_option maxHeartbeats 2000000 in
theorem checksum_small (A : Option Addr) (ws : List Nat) (n cap : Nat) (w : World) (hn : ws.length = n) (hm : n ≤ 1000) (h16 : ∀ x ∈ ws, x ≤ 65535) (hA : NumsIn w .u16 A ws) :
    Calls Try.prog 3 #[.slice A n cap] w fun e w' => e = .returned (.bool true) ∧ Only [] w w' := by
  have H1 := hide (Checksum_ok A ws n cap w hn (by omega) h16 hA)
  have H2 := hide (refChecksum_ok A ws n cap w hn (by omega) h16 hA)
  have hlt : ¬ (1000 : Int) < (n : Int) := by omega
  clear hn h16 hA
  go_enter Try.func3, Try.ntmps3
  go_wp2_with fail
  refine H1.out.mono ?_
  rintro e w1 ⟨rfl, rfl⟩
  go_wp2_with fail
  refine H2.out.mono ?_
  rintro e w1 ⟨rfl, rfl⟩
  go_wp2_with fail
  refine (awake_ok _).mono ?_
  rintro e w1 ⟨rfl, ho⟩
  go_wp2
  go_ret
  exact ⟨rfl, ho⟩

end Go.Proofs.Ytlnejlhdkmneeaa
