/- SporadicAsks returns true for every input. No condition. -/
import Derived.Test.YtdjkgbkckmjfiaaRowShare
import Derived.Test.YtdjkgbkckmjfiaaLawAsks
namespace Go.Proofs.Ytdjkgbkckmjfiaa
open Go.ChangeShapes Go.WideShapes Go.ChangeAt Go.RowKit Go.Joins

theorem asks_walk (B P N L : Int) (a : Option Addr) (len cap : Nat) (asks : Int) (zs : List Int) (w : World) (h : IsRow .u8 w a len cap zs) (hm : len ≤ maxLen) :
    Calls Try.prog 5 #[.agg #[I64 B, I64 P, I64 N, I64 L], .slice a len cap, .int .u64 asks] w fun e w' => e = .returned (.bool true) ∧ Below w.heap.size w w' := by
  have fin : Calls Try.prog 5 #[.agg #[I64 B, I64 P, I64 N, I64 L], .slice a len cap, .int .u64 asks] w fun e w' => e = .returned (.bool true) ∧ Only [] w w' := by
    by_cases ho : okRaw B P N L
    · have hN : ((N.toNat : Nat) : Int) = N := by have := ho.2.2.2.2.1; omega
      have hp : Prm.ok ⟨B, P, N.toNat, L⟩ := by
        obtain ⟨a1, a2, a3, a4, a5, a6, a7, a8⟩ := ho
        exact ⟨a1, a2, a3, a4, by show 1 ≤ N.toNat; omega, by show N.toNat ≤ 32; omega, a7, a8⟩
      rcases Nat.lt_or_ge 200 len with hl | hl
      · have := asks_big ⟨B, P, N.toNat, L⟩ a len cap asks w hp hl hm
        simp only [hN] at this
        exact this
      · obtain ⟨gs, hgl, hg8, hR⟩ := bytes_of_row h
        subst hgl
        have := asks_small ⟨B, P, N.toNat, L⟩ a gs cap asks w hp hl hg8 hR
        simp only [hN] at this
        exact this
    · exact asks_bad B P N L a len cap asks w ho
  exact fin.mono fun e w' ⟨he, hw⟩ => ⟨he, hw.below (by simp) (Nat.le_refl _)⟩

set_option maxRecDepth 100000 in
theorem asks_lifted (os : Os) (started : os.Started) (H : Type) (enc : TypeId × Value → H) :
    ReturnsInHanded {} Try.checked os 5 .any (Rows.sporadicAsksSpec.pre6 enc Try.prog Try.f5 Rows.sporadicAsksRow.domain false) (Rows.sporadicAsksSpec.post enc Try.prog Try.f5 false true false false) := by
  refine returnsInHanded_of_change (C := Try.checked) own started (by kernel_rfl) Try.func5
    (ChangeSpec.witness6 (enc := enc) (C := Try.checked) false ⟨#[], #[.agg #[.int .i64 0, .int .i64 0, .int .i64 0, .int .i64 0], .slice none 0 0, .int .u64 0], []⟩ 8 (by kernel_rfl) (by kernel_rfl) (by kernel_rfl) (by kernel_rfl)) ?_
  intro W base args ds gs before hval0 hW hcnd _
  have hval : ∀ (j : Nat) t v, Try.f5.params[j]? = some t → args[j]? = some v → Value.okWide Try.prog W .any base t v := hval0
  have hW' := hW
  obtain ⟨p, q, hA0, hV, rfl, hfz, hnd⟩ := hW
  have hA : DataW.TrodAll enc Try.prog W 0 (fun _ => true) true Try.f5.params.toList args.toList ds p := hA0
  rw [Try.params5] at hA hval
  obtain ⟨v0, vs0, d0, ds0, p0, q0, hargs, rfl, rfl, h0, r0⟩ := trodAll_cons hA
  obtain ⟨v1, vs1, d1, ds1, p1, q1, rfl, rfl, rfl, h1, r1⟩ := trodAll_cons r0
  obtain ⟨v2, vs2, d2, ds2, p2, q2, rfl, rfl, rfl, h2, r2⟩ := trodAll_cons r1
  obtain ⟨rfl, rfl, rfl⟩ := trodAll_nil r2
  obtain rfl : args = #[v0, v1, v2] := by cases args; simp_all
  obtain ⟨rfl, rfl⟩ := trodVars_none hV
  have k0 := h0
  have lt0 : ∀ x ∈ p0, x.block < W.heap.size := by obtain ⟨m, hm⟩ := k0; exact DataW.trod_lt m _ _ _ hm
  have k1 := h1
  have lt1 : ∀ x ∈ p1, x.block < W.heap.size := by obtain ⟨m, hm⟩ := k1; exact DataW.trod_lt m _ _ _ hm
  have k2 := h2
  have lt2 : ∀ x ∈ p2, x.block < W.heap.size := by obtain ⟨m, hm⟩ := k2; exact DataW.trod_lt m _ _ _ hm
  obtain ⟨asks, rfl⟩ := okWide_int Try.underlying39 (hval 2 39 v2 rfl rfl)
  obtain ⟨c0, c1, c2, c3, y0, y1, y2, y3, m, rfl, _, _, hy0, hy1, hy2, hy3⟩ := open_agg4 Try.underlying23 (by kernel_rfl) cells_params (hval 0 23 v0 rfl rfl) h0
  obtain ⟨B, e0, _, _⟩ := DataW.trod_int Try.underlying2 hy0
  obtain ⟨P, e1, _, _⟩ := DataW.trod_int Try.underlying2 hy1
  obtain ⟨N, e2, _, _⟩ := DataW.trod_int Try.underlying3 hy2
  obtain ⟨L, e3, _, _⟩ := DataW.trod_int Try.underlying3 hy3
  simp at e0 e1 e2 e3
  subst e0 e1 e2 e3
  obtain ⟨a0, len0, cap0, rfl⟩ := okWide_slice Try.underlying24 (hval 1 24 v1 rfl rfl)
  obtain ⟨z0, w0, hm0⟩ : ∃ zs, IsRow .u8 W a0 len0 cap0 zs ∧ len0 ≤ maxLen := by
    obtain ⟨fuel, hf⟩ := h1
    rcases open_ints Try.underlying24 Try.underlying5 (by kernel_rfl) hf with ⟨hcs, _⟩ | ⟨x, l, c, zs, hcs, _, hl, hm, hz, _, hcell, hwz⟩
    · simp [Value.cells] at hcs
      obtain ⟨rfl, rfl, rfl⟩ := hcs
      exact ⟨[], .inl ⟨rfl, rfl, rfl, rfl⟩, by simp [maxLen]⟩
    · simp [Value.cells] at hcs
      obtain ⟨rfl, rfl, rfl⟩ := hcs
      exact ⟨zs, .inr ⟨_, rfl, hl, hm, by simpa using hz, hcell, hwz⟩, Nat.le_trans hl hm⟩
  clear hA0 hval0
  refine (asks_walk B P N L a0 len0 cap0 asks z0 W w0 hm0).mono fun e W' ⟨he, bel⟩ => ?_
  subst he
  exact ⟨_, rfl, _, _, _, [], _, [], hW', trodAll_mk1 (shut_bool Try.underlying4 _), (trodAll_cons_mk (Below.trod laidOut (by kernel_rfl) (of_decide_eq_true (by kernel_rfl)) k0 bel lt0) (trodAll_cons_mk (Below.trod laidOut (by kernel_rfl) (of_decide_eq_true (by kernel_rfl)) k1 bel lt1) (trodAll_cons_mk (Below.trod laidOut (by kernel_rfl) (of_decide_eq_true (by kernel_rfl)) k2 bel lt2) trodAll_mk0))), rfl, bel.frame _, fun h => by cases h⟩

theorem sporadicAsks_holds : Rows.SporadicAsksSaid :=
  OpenClaim.holds_of_wide 5 Try.f5 rfl rfl rfl rfl rfl rfl rfl ⟨rfl, rfl, rfl, rfl, rfl⟩ rfl rfl rfl rfl rfl (by kernel_rfl) Try.func5 (by kernel_rfl)
    (of_decide_eq_true (by kernel_rfl)) (by unfold Func.isWrapper; rw [if_neg (by decide +kernel)]; exact ⟨rfl, rfl⟩)
    (fun os started H enc _ => asks_lifted os started H enc)

end Go.Proofs.Ytdjkgbkckmjfiaa
