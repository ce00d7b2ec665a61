/- PacketsMany returns true for every input. No condition. -/
import Derived.Test.YtlnejlhdkmneeaaRowt
import Derived.Test.YtlnejlhdkmneeaaRowS
import Derived.Test.YtlnejlhdkmneeaaRowShare
import Derived.Test.YtlnejlhdkmneeaaLawMany
namespace Go.Proofs.Ytlnejlhdkmneeaa
open Go.ChangeShapes Go.WideShapes Go.ChangeAt Go.RowKit Go.Joins Go.Deep

set_option maxRecDepth 100000 in
set_option maxHeartbeats 2000000 in
theorem many_law (A1 A2 : Option Addr) (n1 n2 c1 c2 : Nat) (l1 l2 : List Nat) (w : World) (hn1 : l1.length = n1) (hn2 : l2.length = n2) (hm1 : n1 ≤ maxLen) (hm2 : n2 ≤ maxLen) (hb1 : ∀ x ∈ l1, x ≤ 255) (hb2 : ∀ x ∈ l2, x ≤ 255) (hA1 : NumsIn w .u8 A1 l1) (hA2 : NumsIn w .u8 A2 l2) :
    Calls Try.prog 11 #[.slice A1 n1 c1, .slice A2 n2 c2] w fun e w' => e = .returned (.bool true) ∧ Only [] w w' := by
  by_cases h1 : 250 < n1
  · skip
    unfold maxLen at hm1 hm2
    clear hA1 hA2 hn1 hn2 hb1 hb2
    go_enter Try.func11, Try.ntmps11
    go_wp2_with fail
    refine (awake_ok _).mono ?_
    rintro e w4 ⟨rfl, ho4⟩
    have H4 := hide ho4
    clear ho4
    go_wp2
    go_ret
    exact ⟨rfl, H4.out⟩
  · by_cases h2 : 50 < n2
    · skip
      unfold maxLen at hm1 hm2
      clear hA1 hA2 hn1 hn2 hb1 hb2
      go_enter Try.func11, Try.ntmps11
      go_wp2_with fail
      refine (awake_ok _).mono ?_
      rintro e w4 ⟨rfl, ho4⟩
      have H4 := hide ho4
      clear ho4
      go_wp2
      go_ret
      exact ⟨rfl, H4.out⟩
    · exact lawmany A1 A2 n1 n2 c1 c2 l1 l2 w hn1 hn2 h1 h2 hb1 hb2 hA1 hA2

set_option maxRecDepth 100000 in
theorem packetsMany_lifted (os : Os) (started : os.Started) (H : Type) (enc : TypeId × Value → H) :
    ReturnsInHanded {} Try.checked os 11 .any (Rows.packetsManySpec.pre6 enc Try.prog Try.f11 Rows.packetsManyRow.domain false) (Rows.packetsManySpec.post enc Try.prog Try.f11 false true false false) := by
  refine returnsInHanded_of_change (C := Try.checked) own started (by kernel_rfl) Try.func11
    (ChangeSpec.witness6 (enc := enc) (C := Try.checked) false ⟨#[], #[.slice none 0 0, .slice none 0 0], []⟩ 8 (by kernel_rfl) (by kernel_rfl) (by kernel_rfl) (by kernel_rfl)) ?_
  intro W base args ds gs before hval0 hW hcnd _
  have hval : ∀ (j : Nat) t v, Try.f11.params[j]? = some t → args[j]? = some v → Value.okWide Try.prog W .any base t v := hval0
  have hW' := hW
  obtain ⟨p, q, hA0, hV, rfl, hfz, hnd⟩ := hW
  have hA : DataW.TrodAll enc Try.prog W 0 (fun _ => true) true Try.f11.params.toList args.toList ds p := hA0
  rw [Try.params11] at hA hval
  obtain ⟨v0, vs0, d0, ds0, p0, q0, hargs, rfl, rfl, h0, r0⟩ := trodAll_cons hA
  obtain ⟨v1, vs1, d1, ds1, p1, q1, rfl, rfl, rfl, h1, r1⟩ := trodAll_cons r0
  obtain ⟨rfl, rfl, rfl⟩ := trodAll_nil r1
  obtain rfl : args = #[v0, v1] := by cases args; simp_all
  obtain ⟨rfl, rfl⟩ := trodVars_none hV
  have k0 := h0
  have k1 := h1
  have lt0 : ∀ x ∈ p0, x.block < W.heap.size := by obtain ⟨m, hm⟩ := k0; exact DataW.trod_lt m _ _ _ hm
  have lt1 : ∀ x ∈ p1, x.block < W.heap.size := by obtain ⟨m, hm⟩ := k1; exact DataW.trod_lt m _ _ _ hm
  obtain ⟨A1, n1, c1, zs1, rfl, hr1, hm1, -⟩ := arg_ints Try.underlying28 Try.underlying5 (by kernel_rfl) (hval 0 28 v0 rfl rfl) h0
  obtain ⟨A2, n2, c2, zs2, rfl, hr2, hm2, -⟩ := arg_ints Try.underlying28 Try.underlying5 (by kernel_rfl) (hval 1 28 v1 rfl rfl) h1
  obtain ⟨gs1, hg1, hb1, hN1⟩ := nums_of_u8 hr1
  obtain ⟨gs2, hg2, hb2, hN2⟩ := nums_of_u8 hr2
  clear hA0 hval0
  refine (many_law A1 A2 n1 n2 c1 c2 gs1 gs2 W hg1 hg2 hm1 hm2 hb1 hb2 hN1 hN2).mono fun e W' ⟨he, hw⟩ => ?_
  have bel : Below W.heap.size W W' := hw.below (by simp) (Nat.le_refl _)
  subst he
  exact ⟨_, rfl, _, _, _, [], _, [], hW', trodAll_mk1 (shut_bool Try.underlying4 _), (trodAll_cons_mk (Below.trod laidOut (by kernel_rfl) (of_decide_eq_true (by kernel_rfl)) k0 bel lt0) (trodAll_cons_mk (Below.trod laidOut (by kernel_rfl) (of_decide_eq_true (by kernel_rfl)) k1 bel lt1) trodAll_mk0)), rfl, bel.frame _, fun h => by cases h⟩

theorem packetsMany_holds : Rows.PacketsManySaid :=
  OpenClaim.holds_of_wide 11 Try.f11 rfl rfl rfl rfl rfl rfl rfl ⟨rfl, rfl, rfl, rfl, rfl⟩ rfl rfl rfl rfl rfl (by kernel_rfl) Try.func11 (by kernel_rfl)
    (of_decide_eq_true (by kernel_rfl)) (by unfold Func.isWrapper; rw [if_neg (by decide +kernel)]; exact ⟨rfl, rfl⟩)
    (fun os started H enc _ => packetsMany_lifted os started H enc)

end Go.Proofs.Ytlnejlhdkmneeaa
