/- PartitionNil returns true for every input. No condition. -/
import Derived.Test.YtpeaojkbfllakaaRowt
import Derived.Test.YtpeaojkbfllakaaLawNil
namespace Go.Proofs.Ytpeaojkbfllakaa
open Go.ChangeShapes Go.WideShapes Go.ChangeAt Go.RowKit Go.Joins Go.Deep

theorem act_of {H : Type} {enc : TypeId × Value → H} {W : World} {b0 : Nat} {v : Value} {d : DataW H} {p : List MemPlace} {base : Nat} {spare : Nat → Bool} {held : Bool} {r : Reach}
    (hv : Value.okWide Try.prog W r b0 53 v) (h : DataW.Trod enc Try.prog W base spare held 53 v d p) :
    ∃ (d0 gap raw a b : Int) (c : Bool), v = ActV d0 gap raw a b c ∧ 0 ≤ d0 ∧ d0 ≤ 255 := by
  obtain ⟨cs, n, rfl, hl, hf⟩ := open_agg_fields Try.underlying53 (by kernel_rfl) (by kernel_rfl) hv h
  obtain ⟨u0, y0, c0, t0⟩ := hf 0 _ rfl
  obtain ⟨u1, y1, c1, t1⟩ := hf 1 _ rfl
  obtain ⟨u2, y2, c2, t2⟩ := hf 2 _ rfl
  obtain ⟨u3, y3, c3, t3⟩ := hf 3 _ rfl
  obtain ⟨u4, y4, c4, t4⟩ := hf 4 _ rfl
  obtain ⟨u5, y5, c5, t5⟩ := hf 5 _ rfl
  obtain ⟨z0, e0, _, q0⟩ := DataW.trod_int Try.underlying5 t0
  obtain ⟨z1, e1, _, _⟩ := DataW.trod_int Try.underlying5 t1
  obtain ⟨z2, e2, _, _⟩ := DataW.trod_int Try.underlying2 t2
  obtain ⟨z3, e3, _, _⟩ := DataW.trod_int Try.underlying3 t3
  obtain ⟨z4, e4, _, _⟩ := DataW.trod_int Try.underlying3 t4
  obtain ⟨z5, e5, _⟩ := DataW.trod_bool Try.underlying4 t5
  simp at e0 e1 e2 e3 e4 e5
  subst e0 e1 e2 e3 e4 e5
  have := wf_u8_bounds q0
  match cs, hl, c0, c1, c2, c3, c4, c5 with
  | [a0, a1, a2, a3, a4, a5], _, c0, c1, c2, c3, c4, c5 =>
    simp at c0 c1 c2 c3 c4 c5
    subst c0 c1 c2 c3 c4 c5
    exact ⟨z0, z1, z2, z3, z4, z5, rfl, this.1, this.2⟩

set_option maxRecDepth 100000 in
theorem nil_lifted (os : Os) (started : os.Started) (H : Type) (enc : TypeId × Value → H) :
    ReturnsInHanded {} Try.checked os 7 .any (Rows.partitionNilSpec.pre6 enc Try.prog Try.f7 Rows.partitionNilRow.domain false) (Rows.partitionNilSpec.post enc Try.prog Try.f7 false true false false) := by
  refine returnsInHanded_of_change (C := Try.checked) own started (by kernel_rfl) Try.func7
    (ChangeSpec.witness6 (enc := enc) (C := Try.checked) false ⟨#[], #[.agg #[.int .u8 0, .int .u8 0, .int .i64 0, .int .i64 0, .int .i64 0, .bool false]], []⟩ 8 (by kernel_rfl) (by kernel_rfl) (by kernel_rfl) (by kernel_rfl)) ?_
  intro W base args ds gs before hval0 hW hcnd _
  have hval : ∀ (j : Nat) t v, Try.f7.params[j]? = some t → args[j]? = some v → Value.okWide Try.prog W .any base t v := hval0
  have hW' := hW
  obtain ⟨p, q, hA0, hV, rfl, hfz, hnd⟩ := hW
  have hA : DataW.TrodAll enc Try.prog W 0 (fun _ => true) true Try.f7.params.toList args.toList ds p := hA0
  rw [Try.params7] at hA hval
  obtain ⟨v0, vs0, d0, ds0, p0, q0, hargs, rfl, rfl, h0, r0⟩ := trodAll_cons hA
  obtain ⟨rfl, rfl, rfl⟩ := trodAll_nil r0
  obtain rfl : args = #[v0] := by cases args; simp_all
  obtain ⟨rfl, rfl⟩ := trodVars_none hV
  have k0 := h0
  have lt0 : ∀ x ∈ p0, x.block < W.heap.size := by obtain ⟨m, hm⟩ := k0; exact DataW.trod_lt m _ _ _ hm
  obtain ⟨x0, x1, x2, x3, x4, x5, rfl, b0, b1⟩ := act_of (hval 0 53 v0 rfl rfl) h0
  clear hA0 hval0
  refine (nil_true x0 x1 x2 x3 x4 x5 W b0 b1).mono fun e W' ⟨he, hw⟩ => ?_
  have bel : Below W.heap.size W W' := hw.below (by simp) (Nat.le_refl _)
  subst he
  exact ⟨_, rfl, _, _, _, [], _, [], hW', trodAll_mk1 (shut_bool Try.underlying4 _), (trodAll_cons_mk (Below.trod laidOut (by kernel_rfl) (of_decide_eq_true (by kernel_rfl)) k0 bel lt0) trodAll_mk0), rfl, bel.frame _, fun h => by cases h⟩

theorem partitionNil_holds : Rows.PartitionNilSaid :=
  OpenClaim.holds_of_wide 7 Try.f7 rfl rfl rfl rfl rfl rfl rfl ⟨rfl, rfl, rfl, rfl, rfl⟩ rfl rfl rfl rfl rfl (by kernel_rfl) Try.func7 (by kernel_rfl)
    (of_decide_eq_true (by kernel_rfl)) (by unfold Func.isWrapper; rw [if_neg (by decide +kernel)]; exact ⟨rfl, rfl⟩)
    (fun os started H enc _ => nil_lifted os started H enc)

end Go.Proofs.Ytpeaojkbfllakaa
