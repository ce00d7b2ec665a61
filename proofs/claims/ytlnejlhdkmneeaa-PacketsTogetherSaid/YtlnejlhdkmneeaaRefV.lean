/- Valid of the reference. -/
import Derived.Test.YtlnejlhdkmneeaaWalkJ
namespace Go.Proofs.Ytlnejlhdkmneeaa
open Go.RowKit

set_option maxRecDepth 100000 in
set_option maxHeartbeats 4000000 in
theorem refValid_ok (p : Pkt) (w : World) (hl : p.data.length ≤ maxLen) : Calls Try.prog 28 #[p.V] w fun e w' => e = .returned (I64 p.valid) ∧ Only [] w w' := by
  have hO : Hid (Only [] w (w.alloc (.cells #[.int .u32 p.src, .int .u32 p.dst, I64 p.proto, I64 p.ttl, I64 p.id, I64 p.off, .bool p.more, .slice p.A p.data.length p.cap] 45))) := hide ((Only.refl [] w).alloc _)
  unfold maxLen at hl
  show Calls Try.prog 28 #[.agg #[.int .u32 p.src, .int .u32 p.dst, I64 p.proto, I64 p.ttl, I64 p.id, I64 p.off, .bool p.more, .slice p.A p.data.length p.cap]] w _
  by_cases p1 : p.proto < 0
  · have hR : Hid (p.valid = 34) := hide (Pkt.valid_bad (by unfold Pkt.bad; omega))
    go_enter Try.func28, Try.ntmps28
    go_wp2
    go_ret
    rw [hR.out]; exact ⟨rfl, hO.out⟩
  by_cases p2 : 255 < p.proto
  · have hR : Hid (p.valid = 34) := hide (Pkt.valid_bad (by unfold Pkt.bad; omega))
    go_enter Try.func28, Try.ntmps28
    go_wp2
    go_ret
    rw [hR.out]; exact ⟨rfl, hO.out⟩
  by_cases p3 : p.ttl < 0
  · have hR : Hid (p.valid = 34) := hide (Pkt.valid_bad (by unfold Pkt.bad; omega))
    go_enter Try.func28, Try.ntmps28
    go_wp2
    go_ret
    rw [hR.out]; exact ⟨rfl, hO.out⟩
  by_cases p4 : 255 < p.ttl
  · have hR : Hid (p.valid = 34) := hide (Pkt.valid_bad (by unfold Pkt.bad; omega))
    go_enter Try.func28, Try.ntmps28
    go_wp2
    go_ret
    rw [hR.out]; exact ⟨rfl, hO.out⟩
  by_cases p5 : p.id < 0
  · have hR : Hid (p.valid = 34) := hide (Pkt.valid_bad (by unfold Pkt.bad; omega))
    go_enter Try.func28, Try.ntmps28
    go_wp2
    go_ret
    rw [hR.out]; exact ⟨rfl, hO.out⟩
  by_cases p6 : 65535 < p.id
  · have hR : Hid (p.valid = 34) := hide (Pkt.valid_bad (by unfold Pkt.bad; omega))
    go_enter Try.func28, Try.ntmps28
    go_wp2
    go_ret
    rw [hR.out]; exact ⟨rfl, hO.out⟩
  by_cases p7 : p.off < 0
  · have hR : Hid (p.valid = 34) := hide (Pkt.valid_bad (by unfold Pkt.bad; omega))
    go_enter Try.func28, Try.ntmps28
    go_wp2
    go_ret
    rw [hR.out]; exact ⟨rfl, hO.out⟩
  by_cases p8 : 65528 < p.off
  · have hR : Hid (p.valid = 34) := hide (Pkt.valid_bad (by unfold Pkt.bad; omega))
    go_enter Try.func28, Try.ntmps28
    go_wp2
    go_ret
    rw [hR.out]; exact ⟨rfl, hO.out⟩
  by_cases p9 : ¬ p.off % 8 = 0
  · have hR : Hid (p.valid = 34) := hide (Pkt.valid_bad (by unfold Pkt.bad; omega))
    have e9 : p.off.tmod 8 = p.off % 8 := Int.tmod_eq_emod_of_nonneg (by omega)
    go_enter Try.func28, Try.ntmps28
    go_wp2
    go_ret
    rw [hR.out]; exact ⟨rfl, hO.out⟩
  by_cases pl : 65535 < (p.data.length : Int)
  · have hR : Hid (p.valid = 34) := hide (Pkt.valid_bad (by unfold Pkt.bad; omega))
    go_enter Try.func28, Try.ntmps28
    go_wp2
    go_ret
    rw [hR.out]; exact ⟨rfl, hO.out⟩
  by_cases p10 : 65535 - p.off < (p.data.length : Int)
  · have hR : Hid (p.valid = 34) := hide (Pkt.valid_bad (by unfold Pkt.bad; omega))
    go_enter Try.func28, Try.ntmps28
    go_wp2
    go_ret
    rw [hR.out]; exact ⟨rfl, hO.out⟩
  have hR : Hid (p.valid = 0) := hide (Pkt.valid_good (by unfold Pkt.bad; omega))
  go_enter Try.func28, Try.ntmps28
  go_wp2
  go_ret
  rw [hR.out]; exact ⟨rfl, hO.out⟩

end Go.Proofs.Ytlnejlhdkmneeaa
