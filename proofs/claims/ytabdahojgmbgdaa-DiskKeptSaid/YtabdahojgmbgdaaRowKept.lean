/- DiskKept returns true for every input. No condition. -/
import Derived.Test.YtabdahojgmbgdaaRowt
import Derived.Test.YtabdahojgmbgdaaRowS
import Derived.Test.YtabdahojgmbgdaaLawKept
namespace Go.Proofs.Ytabdahojgmbgdaa
open Go.ChangeShapes Go.WideShapes Go.ChangeAt Go.RowKit Go.Joins

/-- A row of bytes: what the walks ask. -/
theorem nums_of_u8 {w : World} {a : Option Addr} {len cap : Nat} {zs : List Int} (h : IsRow .u8 w a len cap zs) : ∃ gs : List Nat, gs.length = len ∧ (∀ x ∈ gs, x ≤ 255) ∧ NumsIn w .u8 a gs := by
  rcases h with ⟨rfl, rfl, rfl, rfl⟩ | ⟨x, rfl, hl, hm, hz, hcell, hwz⟩
  · exact ⟨[], rfl, by simp, fun k x hx => by simp at hx⟩
  · refine ⟨(zs.take len).map Int.toNat, by simp; omega, fun y hy => ?_, fun k y hy => ?_⟩
    · simp only [List.mem_map] at hy
      obtain ⟨z, hz1, rfl⟩ := hy
      have := wf_u8_bounds (hwz z (List.mem_of_mem_take hz1))
      omega
    · simp only [List.getElem?_map, Option.map_eq_some_iff] at hy
      obtain ⟨z, hz1, rfl⟩ := hy
      have hk : k < len := by
        have := (List.getElem?_eq_some_iff.1 hz1).1
        simp at this; omega
      rw [List.getElem?_take, if_pos hk] at hz1
      have hzw := wf_u8_bounds (hwz z (List.mem_of_getElem? hz1))
      have hc := hcell k (by omega)
      have hsp : x.spot = none := add_spot (hcell 0 (by omega))
      have e : zs.getD k 0 = z := by simp [hz1]
      rw [e] at hc
      obtain ⟨hlt, hc2⟩ := add_flat hsp hc
      exact ⟨x.block, x.off, by rw [← hsp], by rw [hc2, Int.toNat_of_nonneg hzw.1]⟩

def putC (r : Nat × Nat) : List Value := [.int .u8 (r.1 : Int), .int .u8 (r.2 : Int)]
set_option maxRecDepth 100000 in
theorem read_put {H : Type} {enc : TypeId × Value → H} {W : World} {base : Nat} {held : Bool} (fuel : Nat) (cs : List Value) (x : DataW H × List MemPlace) (hl : cs.length = 2)
    (h : DataW.trod enc Try.prog W base (fun _ => true) held fuel 47 cs = some x) : ∃ r : Nat × Nat, cs = putC r ∧ (r.1 < 256 ∧ r.2 < 256) := by
  match cs, hl with
  | [a0, a1], _ =>
    have s0 : Try.prog.cellsOf 5 = 1 := by kernel_rfl
    obtain ⟨k0, hf0⟩ := read_fields Try.underlying47 h
    obtain ⟨y0_0, t0_0⟩ : ∃ y, DataW.trod enc Try.prog W base (fun _ => true) held k0 5 (([a0, a1].drop 0).take (Try.prog.cellsOf 5)) = some y := hf0 0 _ rfl
    simp only [s0, List.drop_succ_cons, List.drop_zero, List.take_succ_cons, List.take_zero] at t0_0
    obtain ⟨y0_1, t0_1⟩ : ∃ y, DataW.trod enc Try.prog W base (fun _ => true) held k0 5 (([a0, a1].drop 1).take (Try.prog.cellsOf 5)) = some y := hf0 1 _ rfl
    simp only [s0, List.drop_succ_cons, List.drop_zero, List.take_succ_cons, List.take_zero] at t0_1
    obtain ⟨z0, q0, _, f0⟩ := DataW.trod_int Try.underlying5 t0_0
    simp at q0; subst q0
    obtain ⟨z1, q1, _, f1⟩ := DataW.trod_int Try.underlying5 t0_1
    simp at q1; subst q1
    have g0 := fit_u8 f0
    have g1 := fit_u8 f1
    exact ⟨(z0.toNat, z1.toNat), by simp only [putC]; rw [Int.toNat_of_nonneg g0.1, Int.toNat_of_nonneg g1.1], by simp only; omega, by simp only; omega⟩

theorem puts_in {w : World} {A : Option Addr} {l : List (Nat × Nat)} (h : CellsIn w A 2 l putC) : PutsIn w A l := by
  intro k x hx
  obtain ⟨b, o, hA, hc⟩ := h k x hx
  exact ⟨b, o, hA, hc 0 _ rfl, hc 1 _ rfl⟩

theorem kept_walk (nb nh ns cb ch cs : Nat) (Ab Ah As : Option Addr) (bf bh : List (Nat × Nat)) (zs : List Int) (w : World) (lb : bf.length = nb) (lh : bh.length = nh) (fb : ∀ x ∈ bf, x.1 < 256 ∧ x.2 < 256) (fh : ∀ x ∈ bh, x.1 < 256 ∧ x.2 < 256)
    (ib : CellsIn w Ab 2 bf putC) (ih : CellsIn w Ah 2 bh putC) (hr : IsRow .u8 w As ns cs zs) :
    Calls Try.prog 4 #[.slice Ab nb cb, .slice Ah nh ch, .slice As ns cs] w fun e w' => e = .returned (.bool true) ∧ Below w.heap.size w w' := by
  have fin : Calls Try.prog 4 #[.slice Ab nb cb, .slice Ah nh ch, .slice As ns cs] w fun e w' => e = .returned (.bool true) ∧ Only [] w w' := by
    obtain ⟨s, ls, s8, is⟩ := nums_of_u8 hr
    by_cases h1 : 40 < nb ∨ 40 < nh ∨ 100 < ns
    · exact kept_big nb nh ns cb ch cs Ab Ah As w h1
    · refine lawkept nb nh ns cb ch cs Ab Ah As bf bh s w ⟨lb, lh, ls, fb, fh, fun x hx => by have := s8 x hx; omega, puts_in ib, puts_in ih, is, fun h => ?_⟩ (by omega) (by omega) (by omega)
      rcases hr with ⟨_, _, h2, _⟩ | ⟨x, h2, _⟩
      · exact h2
      · rw [h] at h2; cases h2
  exact fin.mono fun e w' ⟨he, hw⟩ => ⟨he, hw.below (by simp) (Nat.le_refl _)⟩

set_option maxRecDepth 100000 in
theorem kept_lifted (os : Os) (started : os.Started) (H : Type) (enc : TypeId × Value → H) :
    ReturnsInHanded {} Try.checked os 4 .any (Rows.diskKeptSpec.pre6 enc Try.prog Try.f4 Rows.diskKeptRow.domain false) (Rows.diskKeptSpec.post enc Try.prog Try.f4 false true false false) := by
  refine returnsInHanded_of_change (C := Try.checked) own started (by kernel_rfl) Try.func4
    (ChangeSpec.witness6 (enc := enc) (C := Try.checked) false ⟨#[], #[.slice none 0 0, .slice none 0 0, .slice none 0 0], []⟩ 8 (by kernel_rfl) (by kernel_rfl) (by kernel_rfl) (by kernel_rfl)) ?_
  intro W base args ds gs before hval0 hW hcnd _
  have hval : ∀ (j : Nat) t v, Try.f4.params[j]? = some t → args[j]? = some v → Value.okWide Try.prog W .any base t v := hval0
  have hW' := hW
  obtain ⟨p, q, hA0, hV, rfl, hfz, hnd⟩ := hW
  have hA : DataW.TrodAll enc Try.prog W 0 (fun _ => true) true Try.f4.params.toList args.toList ds p := hA0
  rw [Try.params4] at hA hval
  obtain ⟨v0, vs0, d0, ds0, p0, q0, hargs, rfl, rfl, h0, r0⟩ := trodAll_cons hA
  obtain ⟨v1, vs1, d1, ds1, p1, q1, rfl, rfl, rfl, h1, r1⟩ := trodAll_cons r0
  obtain ⟨v2, vs2, d2, ds2, p2, q2, rfl, rfl, rfl, h2, r2⟩ := trodAll_cons r1
  obtain ⟨rfl, rfl, rfl⟩ := trodAll_nil r2
  obtain rfl : args = #[v0, v1, v2] := by cases args; simp_all
  obtain ⟨rfl, rfl⟩ := trodVars_none hV
  have k0 := h0
  have k1 := h1
  have k2 := h2
  have lt0 : ∀ x ∈ p0, x.block < W.heap.size := by obtain ⟨m, hm⟩ := k0; exact DataW.trod_lt m _ _ _ hm
  have lt1 : ∀ x ∈ p1, x.block < W.heap.size := by obtain ⟨m, hm⟩ := k1; exact DataW.trod_lt m _ _ _ hm
  have lt2 : ∀ x ∈ p2, x.block < W.heap.size := by obtain ⟨m, hm⟩ := k2; exact DataW.trod_lt m _ _ _ hm
  obtain ⟨Ab, nb, cb, bf, rfl, lb, -, -, fb, ib, -⟩ := arg_structs putC (fun r => r.1 < 256 ∧ r.2 < 256) 2 (by decide) (fun _ => rfl) Try.underlying38 (by kernel_rfl) read_put (hval 0 38 v0 rfl rfl) h0
  obtain ⟨Ah, nh, ch, bh, rfl, lh, -, -, fh, ih, -⟩ := arg_structs putC (fun r => r.1 < 256 ∧ r.2 < 256) 2 (by decide) (fun _ => rfl) Try.underlying38 (by kernel_rfl) read_put (hval 1 38 v1 rfl rfl) h1
  obtain ⟨As, ns, cs, zs, rfl, hr, -, -⟩ := arg_ints Try.underlying39 Try.underlying5 (by kernel_rfl) (hval 2 39 v2 rfl rfl) h2
  clear hA0 hval0
  refine (kept_walk nb nh ns cb ch cs Ab Ah As bf bh zs W lb lh fb fh ib ih hr).mono fun e W' ⟨he, bel⟩ => ?_
  subst he
  exact ⟨_, rfl, _, _, _, [], _, [], hW', trodAll_mk1 (shut_bool Try.underlying4 _), (trodAll_cons_mk (Below.trod laidOut (by kernel_rfl) (of_decide_eq_true (by kernel_rfl)) k0 bel lt0) (trodAll_cons_mk (Below.trod laidOut (by kernel_rfl) (of_decide_eq_true (by kernel_rfl)) k1 bel lt1) (trodAll_cons_mk (Below.trod laidOut (by kernel_rfl) (of_decide_eq_true (by kernel_rfl)) k2 bel lt2) trodAll_mk0))), rfl, bel.frame _, fun h => by cases h⟩

theorem diskKept_holds : Rows.DiskKeptSaid :=
  OpenClaim.holds_of_wide 4 Try.f4 rfl rfl rfl rfl rfl rfl rfl ⟨rfl, rfl, rfl, rfl, rfl⟩ rfl rfl rfl rfl rfl (by kernel_rfl) Try.func4 (by kernel_rfl)
    (of_decide_eq_true (by kernel_rfl)) (by unfold Func.isWrapper; rw [if_neg (by decide +kernel)]; exact ⟨rfl, rfl⟩)
    (fun os started H enc _ => kept_lifted os started H enc)

end Go.Proofs.Ytabdahojgmbgdaa
