/- PacketsFragment answers true. -/
import Derived.Test.YtlnejlhdkmneeaaRefE
import Derived.Test.YtlnejlhdkmneeaaRefF
namespace Go.Proofs.Ytlnejlhdkmneeaa
open Go.RowKit

set_option maxRecDepth 100000 in
set_option maxHeartbeats 8000000 in
theorem lawfrag_one (p : Pkt) (lim : Int) (w : World) (hl : p.data.length ≤ maxLen) (hbig : ¬ 5000 < p.data.length) (hb : ¬ p.bad) (h28 : 28 ≤ lim) (hlm : lim ≤ 9223372036854775807) (hle : (p.data.length : Int) ≤ lim - 20) (hA : NumsIn w .u8 p.A p.data) (hA0 : p.A = none → p.data.length = 0 ∧ p.cap = 0) :
    Calls Try.prog 5 #[p.V, I64 lim] w fun e w' => e = .returned (.bool true) ∧ Only [] w w' := by
  have HA := hide hA
  have HF : Hid (∀ k, k < 1 → p.data.length ≤ maxLen) := hide fun _ _ => hl
  clear hA
  have hO : Only [] w (w.alloc (.cells #[.int .u32 p.src, .int .u32 p.dst, I64 p.proto, I64 p.ttl, I64 p.id, I64 p.off, .bool p.more, .slice p.A p.data.length p.cap] 30)) := (Only.refl [] w).alloc _
  have hB : Blk (w.alloc (.cells #[.int .u32 p.src, .int .u32 p.dst, I64 p.proto, I64 p.ttl, I64 p.id, I64 p.off, .bool p.more, .slice p.A p.data.length p.cap] 30)) w.heap.size 30 [.int .u32 p.src, .int .u32 p.dst, I64 p.proto, I64 p.ttl, I64 p.id, I64 p.off, .bool p.more, .slice p.A p.data.length p.cap] := Blk.newA rfl
  show Calls Try.prog 5 #[.agg #[.int .u32 p.src, .int .u32 p.dst, I64 p.proto, I64 p.ttl, I64 p.id, I64 p.off, .bool p.more, .slice p.A p.data.length p.cap], I64 lim] w _
  have HO := hide (And.intro hO hB)
  clear hO hB
  go_enter Try.func5, Try.ntmps5
  go_wp2_with fail
  refine (large_ok p (w.heap.size + 1) _ hl (Blk.newA (by simp))).mono ?_
  rintro e w2 ⟨rfl, ho⟩
  have h2 := ho.blk (HO.out.2.alloc _) (by simp)
  have e0 := h2.cell (i := 0) rfl
  have e1 := h2.cell (i := 1) rfl
  have e2 := h2.cell (i := 2) rfl
  have e3 := h2.cell (i := 3) rfl
  have e4 := h2.cell (i := 4) rfl
  have e5 := h2.cell (i := 5) rfl
  have e6 := h2.cell (i := 6) rfl
  have e7 := h2.cell (i := 7) rfl
  have lt1 := h2.lt
  have H2 := hide (show _ ∧ _ from ⟨Only.trans (HO.out.1.alloc _) ho, h2⟩)
  clear HO h2 ho
  rw [decide_eq_false hbig]
  go_wp2_with fail
  refine (frag_one p lim _ (by omega) hb h28 hlm hle (HA.out.only H2.out.1) hA0).mono ?_
  rintro e w3 ⟨g, c, qs, xs, rfl, hg, hq, ho3⟩
  have h3 := ho3.blk H2.out.2 (by simp)
  clear e0 e1 e2 e3 e4 e5 e6 e7 lt1
  have e0 := h3.cell (i := 0) rfl
  have e1 := h3.cell (i := 1) rfl
  have e2 := h3.cell (i := 2) rfl
  have e3 := h3.cell (i := 3) rfl
  have e4 := h3.cell (i := 4) rfl
  have e5 := h3.cell (i := 5) rfl
  have e6 := h3.cell (i := 6) rfl
  have e7 := h3.cell (i := 7) rfl
  have lt1 := h3.lt
  have H3 := hide (show _ ∧ _ ∧ _ from ⟨Only.trans H2.out.1 ho3, hg, hq⟩)
  clear ho3 h3 hg hq
  go_wp2_with fail
  refine (ref_ok p _).mono ?_
  rintro e w4 ⟨rfl, ho4⟩
  have H4 := hide (Only.trans H3.out.1 ho4)
  have H4' := hide ho4
  clear ho4
  go_wp2_with fail
  refine (refFrag_one p lim _ (by omega) hb h28 hlm hle (HA.out.only H4.out) hA0).mono ?_
  rintro e w5 ⟨g', c', rs, ys, rfl, hg, hq, ho5⟩
  have H5 := hide (show _ ∧ _ ∧ _ ∧ _ from ⟨Only.trans H4.out ho5, hg, hq, Only.trans H4'.out ho5⟩)
  clear ho5 hg hq
  clear e0 e1 e2 e3 e4 e5 e6 e7 lt1
  go_wp2_with fail
  refine (eqfunc_true g g' 1 c c' qs rs xs ys _ (H5.out.2.2.2.blk H3.out.2.1 (by simp)) H5.out.2.1 (by omega) (same_out (F := fun _ => p) (fun k hk => by obtain ⟨A, d, h1, h2⟩ := H3.out.2.2 k hk; exact ⟨A, d, h1, h2.only H5.out.2.2.2⟩) H5.out.2.2.1 HF.out)).mono ?_
  rintro e w6 ⟨rfl, ho6⟩
  have H6 := hide (Only.trans H5.out.1 ho6)
  clear ho6
  go_wp2_with fail
  refine (awake_ok _).mono ?_
  rintro e w7 ⟨rfl, ho7⟩
  have H7 := hide (Only.trans H6.out ho7)
  clear ho7
  go_wp2
  go_ret
  exact ⟨rfl, H7.out⟩

end Go.Proofs.Ytlnejlhdkmneeaa
