/- PacketsOrder returns true for every input. No condition. -/
import Derived.Test.YtlnejlhdkmneeaaRowt
import Derived.Test.YtlnejlhdkmneeaaRowShare
import Derived.Test.YtlnejlhdkmneeaaLawOrder
namespace Go.Proofs.Ytlnejlhdkmneeaa
open Go.ChangeShapes Go.WideShapes Go.ChangeAt Go.RowKit Go.Joins Go.Deep

set_option maxRecDepth 100000 in
/-- Routes as they come in. -/
theorem routes_of {H : Type} {enc : TypeId × Value → H} {W : World} {b0 : Nat} {v : Value} {d : DataW H} {p : List MemPlace} {base : Nat} {held : Bool} {r : Reach}
    (hv : Value.okWide Try.prog W r b0 58 v) (h : DataW.Trod enc Try.prog W base (fun _ => true) held 58 v d p) :
    ∃ (A : Option Addr) (n c : Nat) (l : List Rt), v = .slice A n c ∧ l.length = n ∧ n ≤ maxLen ∧ (∀ x ∈ l, x.Fit) ∧ RtsIn W A l := by
  obtain ⟨a0, n0, c0, rfl⟩ := okWide_slice Try.underlying58 hv
  obtain ⟨fuel, hf⟩ := h
  rcases open_slice_fields Try.underlying58 Try.underlying63 (by kernel_rfl) (by kernel_rfl) hf with hcs | ⟨A, n, c, hcs, _, hl, hm, hall⟩
  · simp [Value.cells] at hcs
    obtain ⟨rfl, rfl, rfl⟩ := hcs
    exact ⟨none, 0, 0, [], rfl, rfl, by simp [maxLen], by simp, fun k x hx => by simp at hx⟩
  · simp [Value.cells] at hcs
    obtain ⟨rfl, rfl, rfl⟩ := hcs
    have : ∀ i, i < n0 → ∃ x : Rt, x.Fit ∧ ∃ b o, some A = some (⟨b, o, none⟩ : Addr) ∧ ∀ (j : Nat) (v : Value), x.cells[j]? = some v → W.cell? ⟨b, o + i * 5 + j, none⟩ = some v := by
      intro i hi
      obtain ⟨m, hf⟩ := hall i hi
      obtain ⟨v0, y0, c0, t0⟩ := hf 0 _ rfl
      obtain ⟨v1, y1, c1, t1⟩ := hf 1 _ rfl
      obtain ⟨v2, y2, c2, t2⟩ := hf 2 _ rfl
      obtain ⟨v3, y3, c3, t3⟩ := hf 3 _ rfl
      obtain ⟨v4, y4, c4, t4⟩ := hf 4 _ rfl
      obtain ⟨z0, e0, _, f0⟩ := DataW.trod_int Try.underlying27 t0
      obtain ⟨z1, e1, _, _⟩ := DataW.trod_int Try.underlying3 t1
      obtain ⟨z2, e2, _, _⟩ := DataW.trod_int Try.underlying27 t2
      obtain ⟨z3, e3, _, _⟩ := DataW.trod_int Try.underlying3 t3
      obtain ⟨z4, e4, _, _⟩ := DataW.trod_int Try.underlying3 t4
      simp at e0 e1 e2 e3 e4
      subst e0 e1 e2 e3 e4
      have hsp : A.spot = none := by
        obtain ⟨m, hf⟩ := hall 0 (by omega)
        obtain ⟨v, y, c, _⟩ := hf 0 _ rfl
        exact add_spot (by simpa using c)
      obtain ⟨_, k0⟩ := add_flat hsp c0
      obtain ⟨_, k1⟩ := add_flat hsp c1
      obtain ⟨_, k2⟩ := add_flat hsp c2
      obtain ⟨_, k3⟩ := add_flat hsp c3
      obtain ⟨_, k4⟩ := add_flat hsp c4
      refine ⟨⟨z0, z1, z2, z3, z4⟩, wf_u32_bounds f0, A.block, A.off, by rw [← hsp], ?_⟩
      intro j v hv
      rw [Nat.add_assoc]
      match j, hv with
      | 0, hv => simp [Rt.cells] at hv; subst hv; exact k0
      | 1, hv => simp [Rt.cells] at hv; subst hv; exact k1
      | 2, hv => simp [Rt.cells] at hv; subst hv; exact k2
      | 3, hv => simp [Rt.cells] at hv; subst hv; exact k3
      | 4, hv => simp [Rt.cells] at hv; subst hv; exact k4
      | j + 5, hv => simp [Rt.cells] at hv
    obtain ⟨l, hll, hq⟩ := list_of n0 this
    refine ⟨some A, n0, c0, l, rfl, hll, by omega, fun x hx => ?_, fun k x hx => (hq k x hx).2⟩
    obtain ⟨k, hk, e⟩ := List.getElem_of_mem hx
    exact (hq k x (by rw [List.getElem?_eq_getElem hk, e])).1

set_option maxRecDepth 100000 in
theorem packetsOrder_lifted (os : Os) (started : os.Started) (H : Type) (enc : TypeId × Value → H) :
    ReturnsInHanded {} Try.checked os 8 .any (Rows.packetsOrderSpec.pre6 enc Try.prog Try.f8 Rows.packetsOrderRow.domain false) (Rows.packetsOrderSpec.post enc Try.prog Try.f8 false true false false) := by
  refine returnsInHanded_of_change (C := Try.checked) own started (by kernel_rfl) Try.func8
    (ChangeSpec.witness6 (enc := enc) (C := Try.checked) false ⟨#[], #[.slice none 0 0, .int .u32 0], []⟩ 8 (by kernel_rfl) (by kernel_rfl) (by kernel_rfl) (by kernel_rfl)) ?_
  intro W base args ds gs before hval0 hW hcnd _
  have hval : ∀ (j : Nat) t v, Try.f8.params[j]? = some t → args[j]? = some v → Value.okWide Try.prog W .any base t v := hval0
  have hW' := hW
  obtain ⟨p, q, hA0, hV, rfl, hfz, hnd⟩ := hW
  have hA : DataW.TrodAll enc Try.prog W 0 (fun _ => true) true Try.f8.params.toList args.toList ds p := hA0
  rw [Try.params8] at hA hval
  obtain ⟨v0, vs0, d0, ds0, p0, q0, hargs, rfl, rfl, h0, r0⟩ := trodAll_cons hA
  obtain ⟨v1, vs1, d1, ds1, p1, q1, rfl, rfl, rfl, h1, r1⟩ := trodAll_cons r0
  obtain ⟨rfl, rfl, rfl⟩ := trodAll_nil r1
  obtain rfl : args = #[v0, v1] := by cases args; simp_all
  obtain ⟨rfl, rfl⟩ := trodVars_none hV
  have k0 := h0
  have k1 := h1
  have lt0 : ∀ x ∈ p0, x.block < W.heap.size := by obtain ⟨m, hm⟩ := k0; exact DataW.trod_lt m _ _ _ hm
  have lt1 : ∀ x ∈ p1, x.block < W.heap.size := by obtain ⟨m, hm⟩ := k1; exact DataW.trod_lt m _ _ _ hm
  obtain ⟨A, n, c, l, rfl, hn, hm, hfit, hin⟩ := routes_of (hval 0 58 v0 rfl rfl) h0
  obtain ⟨a, rfl, _, _, hwf⟩ := open_int Try.underlying27 (hval 1 27 v1 rfl rfl) h1
  clear hA0 hval0
  refine (order_ok A n c l a W hn hm (wf_u32_bounds hwf) hfit hin).mono fun e W' ⟨he, hw⟩ => ?_
  have bel : Below W.heap.size W W' := hw.below (by simp) (Nat.le_refl _)
  subst he
  exact ⟨_, rfl, _, _, _, [], _, [], hW', trodAll_mk1 (shut_bool Try.underlying4 _), (trodAll_cons_mk (Below.trod laidOut (by kernel_rfl) (of_decide_eq_true (by kernel_rfl)) k0 bel lt0) (trodAll_cons_mk (Below.trod laidOut (by kernel_rfl) (of_decide_eq_true (by kernel_rfl)) k1 bel lt1) trodAll_mk0)), rfl, bel.frame _, fun h => by cases h⟩

theorem packetsOrder_holds : Rows.PacketsOrderSaid :=
  OpenClaim.holds_of_wide 8 Try.f8 rfl rfl rfl rfl rfl rfl rfl ⟨rfl, rfl, rfl, rfl, rfl⟩ rfl rfl rfl rfl rfl (by kernel_rfl) Try.func8 (by kernel_rfl)
    (of_decide_eq_true (by kernel_rfl)) (by unfold Func.isWrapper; rw [if_neg (by decide +kernel)]; exact ⟨rfl, rfl⟩)
    (fun os started H enc _ => packetsOrder_lifted os started H enc)

end Go.Proofs.Ytlnejlhdkmneeaa
