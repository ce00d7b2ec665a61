/- NotifyNil returns true for every input. No condition. -/
import Derived.Test.YtacnmlifmjflfaaRowt
import Derived.Test.YtacnmlifmjflfaaLawNil
namespace Go.Proofs.Ytacnmlifmjflfaa
open Go.ChangeShapes Go.WideShapes Go.ChangeAt Go.RowKit Go.Joins Go.Deep

theorem cells_act : Try.prog.cellsOf 45 = 11 := by kernel_rfl

set_option maxRecDepth 100000 in
theorem act_of {H : Type} {enc : TypeId × Value → H} {W : World} {b0 : Nat} {v : Value} {d : DataW H} {p : List MemPlace} {base : Nat} {spare : Nat → Bool} {held : Bool} {r : Reach}
    (hv : Value.okWide Try.prog W r b0 45 v) (h : DataW.Trod enc Try.prog W base spare held 45 v d p) :
    ∃ (kd n m t e0 e1 e2 e3 e4 : Int) (kp : Bool) (A : Option Addr) (l c : Nat), v = actV kd n m t e0 e1 e2 e3 e4 kp A l c := by
  obtain ⟨cs, k, rfl, hl, hf⟩ := open_agg_any Try.underlying45 hv h
  rw [cells_act] at hl
  match cs, hl with
  | [a0, a1, a2, a3, a4, a5, a6, a7, a8, a9, a10], _ =>
    obtain ⟨y0, t0⟩ : ∃ y, DataW.trod enc Try.prog W base spare held k 5 (([a0, a1, a2, a3, a4, a5, a6, a7, a8, a9, a10].drop 0).take (Try.prog.cellsOf 5)) = some y := hf 0 _ rfl
    obtain ⟨y1, t1⟩ : ∃ y, DataW.trod enc Try.prog W base spare held k 3 (([a0, a1, a2, a3, a4, a5, a6, a7, a8, a9, a10].drop 1).take (Try.prog.cellsOf 3)) = some y := hf 1 _ rfl
    obtain ⟨y2, t2⟩ : ∃ y, DataW.trod enc Try.prog W base spare held k 3 (([a0, a1, a2, a3, a4, a5, a6, a7, a8, a9, a10].drop 2).take (Try.prog.cellsOf 3)) = some y := hf 2 _ rfl
    obtain ⟨y3, t3⟩ : ∃ y, DataW.trod enc Try.prog W base spare held k 2 (([a0, a1, a2, a3, a4, a5, a6, a7, a8, a9, a10].drop 3).take (Try.prog.cellsOf 2)) = some y := hf 3 _ rfl
    obtain ⟨y4, t4⟩ : ∃ y, DataW.trod enc Try.prog W base spare held k 30 (([a0, a1, a2, a3, a4, a5, a6, a7, a8, a9, a10].drop 4).take (Try.prog.cellsOf 30)) = some y := hf 4 _ rfl
    obtain ⟨y5, t5⟩ : ∃ y, DataW.trod enc Try.prog W base spare held k 4 (([a0, a1, a2, a3, a4, a5, a6, a7, a8, a9, a10].drop 9).take (Try.prog.cellsOf 4)) = some y := hf 5 _ rfl
    obtain ⟨y6, t6⟩ : ∃ y, DataW.trod enc Try.prog W base spare held k 43 (([a0, a1, a2, a3, a4, a5, a6, a7, a8, a9, a10].drop 10).take (Try.prog.cellsOf 43)) = some y := hf 6 _ rfl
    have s1 : Try.prog.cellsOf 5 = 1 := by kernel_rfl
    have s2 : Try.prog.cellsOf 3 = 1 := by kernel_rfl
    have s3 : Try.prog.cellsOf 2 = 1 := by kernel_rfl
    have s4 : Try.prog.cellsOf 30 = 5 := by kernel_rfl
    have s5 : Try.prog.cellsOf 4 = 1 := by kernel_rfl
    have s6 : Try.prog.cellsOf 43 = 1 := by kernel_rfl
    simp only [s1, s2, s3, s4, s5, s6, List.drop_succ_cons, List.drop_zero, List.take_succ_cons, List.take_zero] at t0 t1 t2 t3 t4 t5 t6
    obtain ⟨z0, q0, _, _⟩ := DataW.trod_int Try.underlying5 t0
    obtain ⟨z1, q1, _, _⟩ := DataW.trod_int Try.underlying3 t1
    obtain ⟨z2, q2, _, _⟩ := DataW.trod_int Try.underlying3 t2
    obtain ⟨z3, q3, _, _⟩ := DataW.trod_int Try.underlying2 t3
    obtain ⟨z5, q5, _⟩ := DataW.trod_bool Try.underlying4 t5
    obtain ⟨xs, k', _, _, _, hxl, hg⟩ := DataW.trod_struct Try.underlying30 t4
    have hx : ∀ j, j < 5 → ∃ y, xs[j]? = some y := fun j hj => ⟨_, List.getElem?_eq_getElem (by rw [hxl]; exact hj)⟩
    obtain ⟨u0, b0⟩ := hx 0 (by omega)
    obtain ⟨u1, b1⟩ := hx 1 (by omega)
    obtain ⟨u2, b2⟩ := hx 2 (by omega)
    obtain ⟨u3, b3⟩ := hx 3 (by omega)
    obtain ⟨u4, b4⟩ := hx 4 (by omega)
    have g0 : DataW.trod enc Try.prog W base spare held k' 3 (([a4, a5, a6, a7, a8].drop 0).take (Try.prog.cellsOf 3)) = some u0 := (hg 0 _ rfl).trans b0
    have g1 : DataW.trod enc Try.prog W base spare held k' 3 (([a4, a5, a6, a7, a8].drop 1).take (Try.prog.cellsOf 3)) = some u1 := (hg 1 _ rfl).trans b1
    have g2 : DataW.trod enc Try.prog W base spare held k' 3 (([a4, a5, a6, a7, a8].drop 2).take (Try.prog.cellsOf 3)) = some u2 := (hg 2 _ rfl).trans b2
    have g3 : DataW.trod enc Try.prog W base spare held k' 3 (([a4, a5, a6, a7, a8].drop 3).take (Try.prog.cellsOf 3)) = some u3 := (hg 3 _ rfl).trans b3
    have g4 : DataW.trod enc Try.prog W base spare held k' 2 (([a4, a5, a6, a7, a8].drop 4).take (Try.prog.cellsOf 2)) = some u4 := (hg 4 _ rfl).trans b4
    simp only [s2, s3, List.drop_succ_cons, List.drop_zero, List.take_succ_cons, List.take_zero] at g0 g1 g2 g3 g4
    obtain ⟨w0, p0, _, _⟩ := DataW.trod_int Try.underlying3 g0
    obtain ⟨w1, p1, _, _⟩ := DataW.trod_int Try.underlying3 g1
    obtain ⟨w2, p2, _, _⟩ := DataW.trod_int Try.underlying3 g2
    obtain ⟨w3, p3, _, _⟩ := DataW.trod_int Try.underlying3 g3
    obtain ⟨w4, p4, _, _⟩ := DataW.trod_int Try.underlying2 g4
    have hsl : ∃ A l c, a10 = .slice A l c := by
      cases k with
      | zero => simp [DataW.trod] at t6
      | succ k =>
        rcases open_slice Try.underlying43 t6 with h0 | ⟨a, len, cap, _, _, _, _, hcs, _⟩
        · have := h0.1; simp at this; exact ⟨_, _, _, this⟩
        · simp at hcs; exact ⟨_, _, _, hcs⟩
    obtain ⟨A, l, c, rfl⟩ := hsl
    simp at q0 q1 q2 q3 q5 p0 p1 p2 p3 p4
    subst q0 q1 q2 q3 q5 p0 p1 p2 p3 p4
    exact ⟨z0, z1, z2, z3, w0, w1, w2, w3, w4, z5, A, l, c, rfl⟩

set_option maxRecDepth 100000 in
theorem nil_lifted (os : Os) (started : os.Started) (H : Type) (enc : TypeId × Value → H) :
    ReturnsInHanded {} Try.checked os 6 .any (Rows.notifyNilSpec.pre6 enc Try.prog Try.f6 Rows.notifyNilRow.domain false) (Rows.notifyNilSpec.post enc Try.prog Try.f6 false true false false) := by
  refine returnsInHanded_of_change (C := Try.checked) own started (by kernel_rfl) Try.func6
    (ChangeSpec.witness6 (enc := enc) (C := Try.checked) false ⟨#[], #[.agg #[.int .u8 0, .int .i64 0, .int .i64 0, .int .i64 0, .int .i64 0, .int .i64 0, .int .i64 0, .int .i64 0, .int .i64 0, .bool false, .slice none 0 0]], []⟩ 8 (by kernel_rfl) (by kernel_rfl) (by kernel_rfl) (by kernel_rfl)) ?_
  intro W base args ds gs before hval0 hW hcnd _
  have hval : ∀ (j : Nat) t v, Try.f6.params[j]? = some t → args[j]? = some v → Value.okWide Try.prog W .any base t v := hval0
  have hW' := hW
  obtain ⟨p, q, hA0, hV, rfl, hfz, hnd⟩ := hW
  have hA : DataW.TrodAll enc Try.prog W 0 (fun _ => true) true Try.f6.params.toList args.toList ds p := hA0
  rw [Try.params6] at hA hval
  obtain ⟨v0, vs0, d0, ds0, p0, q0, hargs, rfl, rfl, h0, r0⟩ := trodAll_cons hA
  obtain ⟨rfl, rfl, rfl⟩ := trodAll_nil r0
  obtain rfl : args = #[v0] := by cases args; simp_all
  obtain ⟨rfl, rfl⟩ := trodVars_none hV
  have k0 := h0
  have lt0 : ∀ x ∈ p0, x.block < W.heap.size := by obtain ⟨m, hm⟩ := k0; exact DataW.trod_lt m _ _ _ hm
  obtain ⟨kd, n, m, t, e0, e1, e2, e3, e4, kp, A, l, c, rfl⟩ := act_of (hval 0 45 v0 rfl rfl) h0
  clear hA0 hval0
  refine (nil_true kd n m t e0 e1 e2 e3 e4 kp A l c W).mono fun e W' ⟨he, hw⟩ => ?_
  have bel : Below W.heap.size W W' := hw.below (by simp) (Nat.le_refl _)
  subst he
  exact ⟨_, rfl, _, _, _, [], _, [], hW', trodAll_mk1 (shut_bool Try.underlying4 _), (trodAll_cons_mk (Below.trod laidOut (by kernel_rfl) (of_decide_eq_true (by kernel_rfl)) k0 bel lt0) trodAll_mk0), rfl, bel.frame _, fun h => by cases h⟩

theorem notifyNil_holds : Rows.NotifyNilSaid :=
  OpenClaim.holds_of_wide 6 Try.f6 rfl rfl rfl rfl rfl rfl rfl ⟨rfl, rfl, rfl, rfl, rfl⟩ rfl rfl rfl rfl rfl (by kernel_rfl) Try.func6 (by kernel_rfl)
    (of_decide_eq_true (by kernel_rfl)) (by unfold Func.isWrapper; rw [if_neg (by decide +kernel)]; exact ⟨rfl, rfl⟩)
    (fun os started H enc _ => nil_lifted os started H enc)

end Go.Proofs.Ytacnmlifmjflfaa
