/- DiskQueues returns true for every input. No condition. -/
import Derived.Test.YtabdahojgmbgdaaRowt
import Derived.Test.YtabdahojgmbgdaaRowS
import Derived.Test.YtabdahojgmbgdaaLawQueues2
namespace Go.Proofs.Ytabdahojgmbgdaa
open Go.ChangeShapes Go.WideShapes Go.ChangeAt Go.RowKit Go.Joins

set_option maxRecDepth 100000 in
theorem read_rc {H : Type} {enc : TypeId × Value → H} {W : World} {base : Nat} {held : Bool} (fuel : Nat) (cs : List Value) (x : DataW H × List MemPlace) (hl : cs.length = 4)
    (h : DataW.trod enc Try.prog W base (fun _ => true) held fuel 63 cs = some x) : ∃ r : Rc, cs = r.cells ∧ True := by
  match cs, hl with
  | [a0, a1, a2, a3], _ =>
    have s0 : Try.prog.cellsOf 4 = 1 := by kernel_rfl
    have s1 : Try.prog.cellsOf 3 = 1 := by kernel_rfl
    have s2 : Try.prog.cellsOf 2 = 1 := by kernel_rfl
    obtain ⟨k0, hf0⟩ := read_fields Try.underlying63 h
    obtain ⟨y0_0, t0_0⟩ : ∃ y, DataW.trod enc Try.prog W base (fun _ => true) held k0 4 (([a0, a1, a2, a3].drop 0).take (Try.prog.cellsOf 4)) = some y := hf0 0 _ rfl
    simp only [s0, s1, s2, List.drop_succ_cons, List.drop_zero, List.take_succ_cons, List.take_zero] at t0_0
    obtain ⟨y0_1, t0_1⟩ : ∃ y, DataW.trod enc Try.prog W base (fun _ => true) held k0 3 (([a0, a1, a2, a3].drop 1).take (Try.prog.cellsOf 3)) = some y := hf0 1 _ rfl
    simp only [s0, s1, s2, List.drop_succ_cons, List.drop_zero, List.take_succ_cons, List.take_zero] at t0_1
    obtain ⟨y0_2, t0_2⟩ : ∃ y, DataW.trod enc Try.prog W base (fun _ => true) held k0 3 (([a0, a1, a2, a3].drop 2).take (Try.prog.cellsOf 3)) = some y := hf0 2 _ rfl
    simp only [s0, s1, s2, List.drop_succ_cons, List.drop_zero, List.take_succ_cons, List.take_zero] at t0_2
    obtain ⟨y0_3, t0_3⟩ : ∃ y, DataW.trod enc Try.prog W base (fun _ => true) held k0 2 (([a0, a1, a2, a3].drop 3).take (Try.prog.cellsOf 2)) = some y := hf0 3 _ rfl
    simp only [s0, s1, s2, List.drop_succ_cons, List.drop_zero, List.take_succ_cons, List.take_zero] at t0_3
    obtain ⟨b0, q0, _⟩ := DataW.trod_bool Try.underlying4 t0_0
    simp at q0; subst q0
    obtain ⟨z1, q1, _, f1⟩ := DataW.trod_int Try.underlying3 t0_1
    simp at q1; subst q1
    obtain ⟨z2, q2, _, f2⟩ := DataW.trod_int Try.underlying3 t0_2
    simp at q2; subst q2
    obtain ⟨z3, q3, _, f3⟩ := DataW.trod_int Try.underlying2 t0_3
    simp at q3; subst q3
    exact ⟨⟨b0, z1, z2, z3⟩, rfl, trivial⟩

theorem rcs_in {w : World} {A : Option Addr} {l : List Rc} (h : CellsIn w A 4 l Rc.cells) : RcsIn w A l := h

theorem queues_walk (head : Int) (n c : Nat) (A : Option Addr) (l : List Rc) (w : World) (hl : l.length = n) (hA : CellsIn w A 4 l Rc.cells) :
    Calls Try.prog 5 #[I64 head, .slice A n c] w fun e w' => e = .returned (.bool true) ∧ Below w.heap.size w w' := by
  have fin : Calls Try.prog 5 #[I64 head, .slice A n c] w fun e w' => e = .returned (.bool true) ∧ Only [] w w' := by
    by_cases h1 : 100 < n
    · exact queues_big head A n c w h1
    · by_cases h2 : head < 0 ∨ 4096 ≤ head
      · exact queues_nil head A l n c w (by omega) hl h2 (rcs_in hA)
      · exact queues_ok head A l n c w (by omega) hl (by omega) (by omega) (rcs_in hA)
  exact fin.mono fun e w' ⟨he, hw⟩ => ⟨he, hw.below (by simp) (Nat.le_refl _)⟩

set_option maxRecDepth 100000 in
theorem diskQueues_lifted (os : Os) (started : os.Started) (H : Type) (enc : TypeId × Value → H) :
    ReturnsInHanded {} Try.checked os 5 .any (Rows.diskQueuesSpec.pre6 enc Try.prog Try.f5 Rows.diskQueuesRow.domain false) (Rows.diskQueuesSpec.post enc Try.prog Try.f5 false true false false) := by
  refine returnsInHanded_of_change (C := Try.checked) own started (by kernel_rfl) Try.func5
    (ChangeSpec.witness6 (enc := enc) (C := Try.checked) false ⟨#[], #[.int .i64 0, .slice none 0 0], []⟩ 8 (by kernel_rfl) (by kernel_rfl) (by kernel_rfl) (by kernel_rfl)) ?_
  intro W base args ds gs before hval0 hW hcnd _
  have hval : ∀ (j : Nat) t v, Try.f5.params[j]? = some t → args[j]? = some v → Value.okWide Try.prog W .any base t v := hval0
  have hW' := hW
  obtain ⟨p, q, hA0, hV, rfl, hfz, hnd⟩ := hW
  have hA : DataW.TrodAll enc Try.prog W 0 (fun _ => true) true Try.f5.params.toList args.toList ds p := hA0
  rw [Try.params5] at hA hval
  obtain ⟨v0, vs0, d0, ds0, p0, q0, hargs, rfl, rfl, h0, r0⟩ := trodAll_cons hA
  obtain ⟨v1, vs1, d1, ds1, p1, q1, rfl, rfl, rfl, h1, r1⟩ := trodAll_cons r0
  obtain ⟨rfl, rfl, rfl⟩ := trodAll_nil r1
  obtain rfl : args = #[v0, v1] := by cases args; simp_all
  obtain ⟨rfl, rfl⟩ := trodVars_none hV
  have k0 := h0
  have k1 := h1
  have lt0 : ∀ x ∈ p0, x.block < W.heap.size := by obtain ⟨m, hm⟩ := k0; exact DataW.trod_lt m _ _ _ hm
  have lt1 : ∀ x ∈ p1, x.block < W.heap.size := by obtain ⟨m, hm⟩ := k1; exact DataW.trod_lt m _ _ _ hm
  obtain ⟨a, rfl, _, _, hwf⟩ := open_int Try.underlying3 (hval 0 3 v0 rfl rfl) h0
  obtain ⟨A, n, c, l, rfl, hl, -, -, -, il, -⟩ := arg_structs Rc.cells (fun _ => True) 4 (by decide) (fun _ => rfl) Try.underlying58 (by kernel_rfl) read_rc (hval 1 58 v1 rfl rfl) h1
  clear hA0 hval0
  refine (queues_walk a n c A l W hl il).mono fun e W' ⟨he, bel⟩ => ?_
  subst he
  exact ⟨_, rfl, _, _, _, [], _, [], hW', trodAll_mk1 (shut_bool Try.underlying4 _), (trodAll_cons_mk (Below.trod laidOut (by kernel_rfl) (of_decide_eq_true (by kernel_rfl)) k0 bel lt0) (trodAll_cons_mk (Below.trod laidOut (by kernel_rfl) (of_decide_eq_true (by kernel_rfl)) k1 bel lt1) trodAll_mk0)), rfl, bel.frame _, fun h => by cases h⟩

theorem diskQueues_holds : Rows.DiskQueuesSaid :=
  OpenClaim.holds_of_wide 5 Try.f5 rfl rfl rfl rfl rfl rfl rfl ⟨rfl, rfl, rfl, rfl, rfl⟩ rfl rfl rfl rfl rfl (by kernel_rfl) Try.func5 (by kernel_rfl)
    (of_decide_eq_true (by kernel_rfl)) (by unfold Func.isWrapper; rw [if_neg (by decide +kernel)]; exact ⟨rfl, rfl⟩)
    (fun os started H enc _ => diskQueues_lifted os started H enc)

end Go.Proofs.Ytabdahojgmbgdaa
