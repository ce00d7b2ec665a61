/- PacketsFragment returns true for every input. No condition. -/
import Derived.Test.YtlnejlhdkmneeaaRowt
import Derived.Test.YtlnejlhdkmneeaaRowShare
import Derived.Test.YtlnejlhdkmneeaaLawFragA
import Derived.Test.YtlnejlhdkmneeaaLawFragB
import Derived.Test.YtlnejlhdkmneeaaLawFragC
import Derived.Test.YtlnejlhdkmneeaaLawFragD
namespace Go.Proofs.Ytlnejlhdkmneeaa
open Go.ChangeShapes Go.WideShapes Go.ChangeAt Go.RowKit Go.Joins Go.Deep

theorem fragment_ok (p : Pkt) (lim : Int) (w : World) (hl : p.data.length ≤ maxLen) (hlm : lim ≤ 9223372036854775807) (hA : NumsIn w .u8 p.A p.data) (hA0 : p.A = none → p.data.length = 0 ∧ p.cap = 0) (hcap : p.data.length ≤ p.cap) :
    Calls Try.prog 5 #[p.V, I64 lim] w fun e w' => e = .returned (.bool true) ∧ Only [] w w' := by
  by_cases hbig : 5000 < p.data.length
  · exact lawfrag_big p lim w hl hbig
  by_cases hb : p.bad
  · exact lawfrag_bad p lim w hl hbig (.inl hb)
  by_cases h28 : lim < 28
  · exact lawfrag_bad p lim w hl hbig (.inr h28)
  by_cases hle : (p.data.length : Int) ≤ lim - 20
  · exact lawfrag_one p lim w hl hbig hb (by omega) hlm hle hA hA0
  obtain ⟨x, hx⟩ : ∃ x, p.data[0]? = some x := ⟨_, List.getElem?_eq_getElem (by omega)⟩
  obtain ⟨b, o, hPA, hc⟩ := hA 0 x hx
  have hbw : b < w.heap.size := World.block_lt_of_cell? _ _ hc
  obtain ⟨n, hn⟩ : ∃ n : Nat, lim = (n : Int) := ⟨lim.toNat, by omega⟩
  have hs : 0 < (n - 20) / 8 * 8 := by omega
  refine lawfrag_cut p lim w hl ((n - 20) / 8 * 8) p.data.length b o ((p.data.length + (n - 20) / 8 * 8 - 1) / ((n - 20) / 8 * 8)) n hbig hn rfl hPA hb (by omega) rfl (by omega) hcap ?_ hA hbw
  generalize (n - 20) / 8 * 8 = s at hs ⊢
  generalize p.data.length = l
  have h1 := Nat.div_add_mod (l + s - 1) s
  have h2 := Nat.mod_lt (l + s - 1) hs
  rw [Nat.mul_comm] at h1
  generalize (l + s - 1) / s * s = q at h1 ⊢
  omega

set_option maxRecDepth 100000 in
theorem fragment_lifted (os : Os) (started : os.Started) (H : Type) (enc : TypeId × Value → H) :
    ReturnsInHanded {} Try.checked os 5 .any (Rows.packetsFragmentSpec.pre6 enc Try.prog Try.f5 Rows.packetsFragmentRow.domain false) (Rows.packetsFragmentSpec.post enc Try.prog Try.f5 false true false false) := by
  refine returnsInHanded_of_change (C := Try.checked) own started (by kernel_rfl) Try.func5
    (ChangeSpec.witness6 (enc := enc) (C := Try.checked) false ⟨#[], #[.agg #[.int .u32 0, .int .u32 0, .int .i64 0, .int .i64 0, .int .i64 0, .int .i64 0, .bool false, .slice none 0 0], .int .i64 0], []⟩ 8 (by kernel_rfl) (by kernel_rfl) (by kernel_rfl) (by kernel_rfl)) ?_
  intro W base args ds gs before hval0 hW hcnd _
  have hval : ∀ (j : Nat) t v, Try.f5.params[j]? = some t → args[j]? = some v → Value.okWide Try.prog W .any base t v := hval0
  have hW' := hW
  obtain ⟨p, q, hA0, hV, rfl, hfz, hnd⟩ := hW
  have hA : DataW.TrodAll enc Try.prog W 0 (fun _ => true) true Try.f5.params.toList args.toList ds p := hA0
  rw [Try.params5] at hA hval
  obtain ⟨v0, vs0, d0, ds0, p0, q0, hargs, rfl, rfl, h0, r0⟩ := trodAll_cons hA
  obtain ⟨v1, vs1, d1, ds1, p1, q1, rfl, rfl, rfl, h1, r1⟩ := trodAll_cons r0
  obtain ⟨rfl, rfl, rfl⟩ := trodAll_nil r1
  obtain rfl : args = #[v0, v1] := by cases args; simp_all
  obtain ⟨rfl, rfl⟩ := trodVars_none hV
  have k0 := h0
  have k1 := h1
  have lt0 : ∀ x ∈ p0, x.block < W.heap.size := by obtain ⟨m, hm⟩ := k0; exact DataW.trod_lt m _ _ _ hm
  have lt1 : ∀ x ∈ p1, x.block < W.heap.size := by obtain ⟨m, hm⟩ := k1; exact DataW.trod_lt m _ _ _ hm
  obtain ⟨pk, rfl, -, hl, hN, hN0, hcap⟩ := packet_of (hval 0 30 v0 rfl rfl) h0
  obtain ⟨a, rfl, _, _, hwf⟩ := open_int Try.underlying3 (hval 1 3 v1 rfl rfl) h1
  clear hA0 hval0
  refine (fragment_ok pk a W hl (wf_i64_bounds hwf).2 hN hN0 hcap).mono fun e W' ⟨he, hw⟩ => ?_
  have bel : Below W.heap.size W W' := hw.below (by simp) (Nat.le_refl _)
  subst he
  exact ⟨_, rfl, _, _, _, [], _, [], hW', trodAll_mk1 (shut_bool Try.underlying4 _), (trodAll_cons_mk (Below.trod laidOut (by kernel_rfl) (of_decide_eq_true (by kernel_rfl)) k0 bel lt0) (trodAll_cons_mk (Below.trod laidOut (by kernel_rfl) (of_decide_eq_true (by kernel_rfl)) k1 bel lt1) trodAll_mk0)), rfl, bel.frame _, fun h => by cases h⟩

theorem packetsFragment_holds : Rows.PacketsFragmentSaid :=
  OpenClaim.holds_of_wide 5 Try.f5 rfl rfl rfl rfl rfl rfl rfl ⟨rfl, rfl, rfl, rfl, rfl⟩ rfl rfl rfl rfl rfl (by kernel_rfl) Try.func5 (by kernel_rfl)
    (of_decide_eq_true (by kernel_rfl)) (by unfold Func.isWrapper; rw [if_neg (by decide +kernel)]; exact ⟨rfl, rfl⟩)
    (fun os started H enc _ => fragment_lifted os started H enc)

end Go.Proofs.Ytlnejlhdkmneeaa
