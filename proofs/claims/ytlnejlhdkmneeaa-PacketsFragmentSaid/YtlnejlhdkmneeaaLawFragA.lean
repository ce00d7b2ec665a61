/- PacketsFragment answers true. -/
import Derived.Test.YtlnejlhdkmneeaaRefE
import Derived.Test.YtlnejlhdkmneeaaRefF
namespace Go.Proofs.Ytlnejlhdkmneeaa
open Go.RowKit

set_option maxRecDepth 100000 in
set_option maxHeartbeats 8000000 in
theorem lawfrag_big (p : Pkt) (lim : Int) (w : World) (hl : p.data.length ≤ maxLen) (hbig : 5000 < p.data.length) :
    Calls Try.prog 5 #[p.V, I64 lim] w fun e w' => e = .returned (.bool true) ∧ Only [] w w' := by
  have hO : Only [] w (w.alloc (.cells #[.int .u32 p.src, .int .u32 p.dst, I64 p.proto, I64 p.ttl, I64 p.id, I64 p.off, .bool p.more, .slice p.A p.data.length p.cap] 30)) := (Only.refl [] w).alloc _
  have hB : Blk (w.alloc (.cells #[.int .u32 p.src, .int .u32 p.dst, I64 p.proto, I64 p.ttl, I64 p.id, I64 p.off, .bool p.more, .slice p.A p.data.length p.cap] 30)) w.heap.size 30 [.int .u32 p.src, .int .u32 p.dst, I64 p.proto, I64 p.ttl, I64 p.id, I64 p.off, .bool p.more, .slice p.A p.data.length p.cap] := Blk.newA rfl
  show Calls Try.prog 5 #[.agg #[.int .u32 p.src, .int .u32 p.dst, I64 p.proto, I64 p.ttl, I64 p.id, I64 p.off, .bool p.more, .slice p.A p.data.length p.cap], I64 lim] w _
  have HO := hide (And.intro hO hB)
  clear hO hB
  go_enter Try.func5, Try.ntmps5
  go_wp2_with fail
  refine (large_ok p (w.heap.size + 1) _ hl (Blk.newA (by simp))).mono ?_
  rintro e w2 ⟨rfl, ho⟩
  have h2 := ho.blk (HO.out.2.alloc _) (by simp)
  have e0 := h2.cell (i := 0) rfl
  have e1 := h2.cell (i := 1) rfl
  have e2 := h2.cell (i := 2) rfl
  have e3 := h2.cell (i := 3) rfl
  have e4 := h2.cell (i := 4) rfl
  have e5 := h2.cell (i := 5) rfl
  have e6 := h2.cell (i := 6) rfl
  have e7 := h2.cell (i := 7) rfl
  have lt1 := h2.lt
  have H2 := hide (show _ ∧ _ from ⟨Only.trans (HO.out.1.alloc _) ho, h2⟩)
  clear HO h2 ho
  rw [decide_eq_true hbig]
  go_wp2_with fail
  refine (awake_ok _).mono ?_
  rintro e w3 ⟨rfl, ho⟩
  have H3 := hide (Only.trans H2.out.1 ho)
  clear ho
  go_wp2
  go_ret
  exact ⟨rfl, H3.out⟩

end Go.Proofs.Ytlnejlhdkmneeaa
