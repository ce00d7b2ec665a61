/- PacketsEncode returns true for every input. No condition. -/
import Derived.Test.YtlnejlhdkmneeaaRowt
import Derived.Test.YtlnejlhdkmneeaaRowShare
import Derived.Test.YtlnejlhdkmneeaaLawEnc
namespace Go.Proofs.Ytlnejlhdkmneeaa
open Go.ChangeShapes Go.WideShapes Go.ChangeAt Go.RowKit Go.Joins Go.Deep

theorem encode_law (p : Pkt) (w : World) (hf : p.Fit) (hl : p.data.length ≤ maxLen) (hA : NumsIn w .u8 p.A p.data) (hA0 : p.A = none → p.data.length = 0 ∧ p.cap = 0) :
    Calls Try.prog 6 #[p.V] w fun e w' => e = .returned (.bool true) ∧ Only [] w w' := by
  by_cases hbig : 5000 < p.data.length
  · exact lawenc_big p w hl hbig hA
  · exact lawenc_small p w hf hl hbig hA hA0

set_option maxRecDepth 100000 in
theorem packetsEncode_lifted (os : Os) (started : os.Started) (H : Type) (enc : TypeId × Value → H) :
    ReturnsInHanded {} Try.checked os 6 .any (Rows.packetsEncodeSpec.pre6 enc Try.prog Try.f6 Rows.packetsEncodeRow.domain false) (Rows.packetsEncodeSpec.post enc Try.prog Try.f6 false true false false) := by
  refine returnsInHanded_of_change (C := Try.checked) own started (by kernel_rfl) Try.func6
    (ChangeSpec.witness6 (enc := enc) (C := Try.checked) false ⟨#[], #[.agg #[.int .u32 0, .int .u32 0, .int .i64 0, .int .i64 0, .int .i64 0, .int .i64 0, .bool false, .slice none 0 0]], []⟩ 8 (by kernel_rfl) (by kernel_rfl) (by kernel_rfl) (by kernel_rfl)) ?_
  intro W base args ds gs before hval0 hW hcnd _
  have hval : ∀ (j : Nat) t v, Try.f6.params[j]? = some t → args[j]? = some v → Value.okWide Try.prog W .any base t v := hval0
  have hW' := hW
  obtain ⟨p, q, hA0, hV, rfl, hfz, hnd⟩ := hW
  have hA : DataW.TrodAll enc Try.prog W 0 (fun _ => true) true Try.f6.params.toList args.toList ds p := hA0
  rw [Try.params6] at hA hval
  obtain ⟨v0, vs0, d0, ds0, p0, q0, hargs, rfl, rfl, h0, r0⟩ := trodAll_cons hA
  obtain ⟨rfl, rfl, rfl⟩ := trodAll_nil r0
  obtain rfl : args = #[v0] := by cases args; simp_all
  obtain ⟨rfl, rfl⟩ := trodVars_none hV
  have k0 := h0
  have lt0 : ∀ x ∈ p0, x.block < W.heap.size := by obtain ⟨m, hm⟩ := k0; exact DataW.trod_lt m _ _ _ hm
  obtain ⟨pk, rfl, hfit, hl, hN, hN0, hcap⟩ := packet_of (hval 0 30 v0 rfl rfl) h0
  clear hA0 hval0
  refine (encode_law pk W hfit hl hN hN0).mono fun e W' ⟨he, hw⟩ => ?_
  have bel : Below W.heap.size W W' := hw.below (by simp) (Nat.le_refl _)
  subst he
  exact ⟨_, rfl, _, _, _, [], _, [], hW', trodAll_mk1 (shut_bool Try.underlying4 _), (trodAll_cons_mk (Below.trod laidOut (by kernel_rfl) (of_decide_eq_true (by kernel_rfl)) k0 bel lt0) trodAll_mk0), rfl, bel.frame _, fun h => by cases h⟩

theorem packetsEncode_holds : Rows.PacketsEncodeSaid :=
  OpenClaim.holds_of_wide 6 Try.f6 rfl rfl rfl rfl rfl rfl rfl ⟨rfl, rfl, rfl, rfl, rfl⟩ rfl rfl rfl rfl rfl (by kernel_rfl) Try.func6 (by kernel_rfl)
    (of_decide_eq_true (by kernel_rfl)) (by unfold Func.isWrapper; rw [if_neg (by decide +kernel)]; exact ⟨rfl, rfl⟩)
    (fun os started H enc _ => packetsEncode_lifted os started H enc)

end Go.Proofs.Ytlnejlhdkmneeaa
