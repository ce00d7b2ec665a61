/- PartitionShares returns true for every input. No condition. -/
import Derived.Test.YtpeaojkbfllakaaRowCfg
import Derived.Test.YtpeaojkbfllakaaLawShares
namespace Go.Proofs.Ytpeaojkbfllakaa
open Go.ChangeShapes Go.WideShapes Go.ChangeAt Go.RowKit Go.Joins

theorem shares_walk (W P : Int) (a : Option Addr) (l : List (Int × Int)) (cap : Nat) (a2 : Option Addr) (len cap2 : Nat) (zs : List Int) (w : World) (hA : PartsIn w w.heap.size a l) (hcap : l.length ≤ cap) (hmax : cap ≤ maxLen) (h : IsRow .u8 w a2 len cap2 zs) (hm : len ≤ maxLen) :
    Calls Try.prog 4 #[.agg #[I64 W, I64 P, .slice a l.length cap], .slice a2 len cap2] w fun e w' => e = .returned (.bool true) ∧ Below w.heap.size w w' := by
  have fin : Calls Try.prog 4 #[.agg #[I64 W, I64 P, .slice a l.length cap], .slice a2 len cap2] w fun e w' => e = .returned (.bool true) ∧ Only [] w w' := by
    by_cases ho : chk W P l = 0
    · rcases Nat.lt_or_ge 300 len with hl | hl
      · exact shares_big W P a l cap a2 len cap2 w hA hcap ho hl hm
      · obtain ⟨gs, hgl, hg8, hR⟩ := bytes_of_row h
        subst hgl
        exact shares_good W P a l cap a2 gs cap2 w hA hcap ho hl hg8 hR
    · exact shares_bad W P a l cap a2 len cap2 w hA (by unfold maxLen at hmax; omega) ho
  exact fin.mono fun e w' ⟨he, hw⟩ => ⟨he, hw.below (by simp) (Nat.le_refl _)⟩

set_option maxRecDepth 100000 in
theorem shares_lifted (os : Os) (started : os.Started) (H : Type) (enc : TypeId × Value → H) :
    ReturnsInHanded {} Try.checked os 4 .any (Rows.partitionSharesSpec.pre6 enc Try.prog Try.f4 Rows.partitionSharesRow.domain false) (Rows.partitionSharesSpec.post enc Try.prog Try.f4 false true false false) := by
  refine returnsInHanded_of_change (C := Try.checked) own started (by kernel_rfl) Try.func4
    (ChangeSpec.witness6 (enc := enc) (C := Try.checked) false ⟨#[], #[.agg #[.int .i64 0, .int .i64 0, .slice none 0 0], .slice none 0 0], []⟩ 8 (by kernel_rfl) (by kernel_rfl) (by kernel_rfl) (by kernel_rfl)) ?_
  intro W base args ds gs before hval0 hW hcnd _
  have hval : ∀ (j : Nat) t v, Try.f4.params[j]? = some t → args[j]? = some v → Value.okWide Try.prog W .any base t v := hval0
  have hW' := hW
  obtain ⟨p, q, hA0, hV, rfl, hfz, hnd⟩ := hW
  have hA : DataW.TrodAll enc Try.prog W 0 (fun _ => true) true Try.f4.params.toList args.toList ds p := hA0
  rw [Try.params4] at hA hval
  obtain ⟨v0, vs0, d0, ds0, p0, q0, hargs, rfl, rfl, h0, r0⟩ := trodAll_cons hA
  obtain ⟨v1, vs1, d1, ds1, p1, q1, rfl, rfl, rfl, h1, r1⟩ := trodAll_cons r0
  obtain ⟨rfl, rfl, rfl⟩ := trodAll_nil r1
  obtain rfl : args = #[v0, v1] := by cases args; simp_all
  obtain ⟨rfl, rfl⟩ := trodVars_none hV
  have k0 := h0
  have lt0 : ∀ x ∈ p0, x.block < W.heap.size := by obtain ⟨m, hm⟩ := k0; exact DataW.trod_lt m _ _ _ hm
  have k1 := h1
  have lt1 : ∀ x ∈ p1, x.block < W.heap.size := by obtain ⟨m, hm⟩ := k1; exact DataW.trod_lt m _ _ _ hm
  obtain ⟨w0, pr, ca, cl, ccap, rfl, hc1, hc2, hc3⟩ := cfg_of (hval 0 24 v0 rfl rfl) h0
  obtain ⟨a0, len0, cap0, rfl⟩ := okWide_slice Try.underlying25 (hval 1 25 v1 rfl rfl)
  obtain ⟨z0, zr, hm0⟩ : ∃ zs, IsRow .u8 W a0 len0 cap0 zs ∧ len0 ≤ maxLen := by
    obtain ⟨fuel, hf⟩ := h1
    rcases open_ints Try.underlying25 Try.underlying5 (by kernel_rfl) hf with ⟨hcs, _⟩ | ⟨x, l, c, zs, hcs, _, hl, hm, hz, _, hcell, hwz⟩
    · simp [Value.cells] at hcs
      obtain ⟨rfl, rfl, rfl⟩ := hcs
      exact ⟨[], .inl ⟨rfl, rfl, rfl, rfl⟩, by simp [maxLen]⟩
    · simp [Value.cells] at hcs
      obtain ⟨rfl, rfl, rfl⟩ := hcs
      exact ⟨zs, .inr ⟨_, rfl, hl, hm, by simpa using hz, hcell, hwz⟩, Nat.le_trans hl hm⟩
  clear hA0 hval0
  refine (shares_walk w0 pr ca cl ccap a0 len0 cap0 z0 W hc3 hc1 hc2 zr hm0).mono fun e W' ⟨he, bel⟩ => ?_
  subst he
  exact ⟨_, rfl, _, _, _, [], _, [], hW', trodAll_mk1 (shut_bool Try.underlying4 _), (trodAll_cons_mk (Below.trod laidOut (by kernel_rfl) (of_decide_eq_true (by kernel_rfl)) k0 bel lt0) (trodAll_cons_mk (Below.trod laidOut (by kernel_rfl) (of_decide_eq_true (by kernel_rfl)) k1 bel lt1) trodAll_mk0)), rfl, bel.frame _, fun h => by cases h⟩

theorem partitionShares_holds : Rows.PartitionSharesSaid :=
  OpenClaim.holds_of_wide 4 Try.f4 rfl rfl rfl rfl rfl rfl rfl ⟨rfl, rfl, rfl, rfl, rfl⟩ rfl rfl rfl rfl rfl (by kernel_rfl) Try.func4 (by kernel_rfl)
    (of_decide_eq_true (by kernel_rfl)) (by unfold Func.isWrapper; rw [if_neg (by decide +kernel)]; exact ⟨rfl, rfl⟩)
    (fun os started H enc _ => shares_lifted os started H enc)

end Go.Proofs.Ytpeaojkbfllakaa
