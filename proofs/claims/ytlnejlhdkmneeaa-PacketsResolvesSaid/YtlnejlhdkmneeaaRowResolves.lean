/- PacketsResolves returns true for every input. No condition. -/
import Derived.Test.YtlnejlhdkmneeaaRowt
import Derived.Test.YtlnejlhdkmneeaaRowS
import Derived.Test.YtlnejlhdkmneeaaRowShare
import Derived.Test.YtlnejlhdkmneeaaLawRes
namespace Go.Proofs.Ytlnejlhdkmneeaa
open Go.ChangeShapes Go.WideShapes Go.ChangeAt Go.RowKit Go.Joins Go.Deep

set_option maxRecDepth 100000 in
theorem call_read {H : Type} {enc : TypeId × Value → H} {W : World} {base : Nat} {held : Bool} (fuel : Nat) (cs : List Value) (x : DataW H × List MemPlace) (hl : cs.length = 12)
    (h : DataW.trod enc Try.prog W base (fun _ => true) held fuel 120 cs = some x) : ∃ ch : Cl, cs = ch.cells ∧ ch.Fit W := by
  match cs, hl with
  | [a0, a1, a2, a3, a4, a5, a6, a7, a8, a9, a10, a11], _ =>
    have s0 : Try.prog.cellsOf 3 = 1 := by kernel_rfl
    have s1 : Try.prog.cellsOf 27 = 1 := by kernel_rfl
    have s2 : Try.prog.cellsOf 90 = 1 := by kernel_rfl
    have s3 : Try.prog.cellsOf 2 = 1 := by kernel_rfl
    have s4 : Try.prog.cellsOf 30 = 8 := by kernel_rfl
    have s5 : Try.prog.cellsOf 4 = 1 := by kernel_rfl
    have s6 : Try.prog.cellsOf 28 = 1 := by kernel_rfl
    obtain ⟨k0, hf0⟩ := read_fields Try.underlying120 h
    obtain ⟨y0_0, t0_0⟩ : ∃ y, DataW.trod enc Try.prog W base (fun _ => true) held k0 3 (([a0, a1, a2, a3, a4, a5, a6, a7, a8, a9, a10, a11].drop 0).take (Try.prog.cellsOf 3)) = some y := hf0 0 _ rfl
    simp only [s0, s1, s2, s3, s4, s5, s6, List.drop_succ_cons, List.drop_zero, List.take_succ_cons, List.take_zero] at t0_0
    obtain ⟨y0_1, t0_1⟩ : ∃ y, DataW.trod enc Try.prog W base (fun _ => true) held k0 27 (([a0, a1, a2, a3, a4, a5, a6, a7, a8, a9, a10, a11].drop 1).take (Try.prog.cellsOf 27)) = some y := hf0 1 _ rfl
    simp only [s0, s1, s2, s3, s4, s5, s6, List.drop_succ_cons, List.drop_zero, List.take_succ_cons, List.take_zero] at t0_1
    obtain ⟨y0_2, t0_2⟩ : ∃ y, DataW.trod enc Try.prog W base (fun _ => true) held k0 90 (([a0, a1, a2, a3, a4, a5, a6, a7, a8, a9, a10, a11].drop 2).take (Try.prog.cellsOf 90)) = some y := hf0 2 _ rfl
    simp only [s0, s1, s2, s3, s4, s5, s6, List.drop_succ_cons, List.drop_zero, List.take_succ_cons, List.take_zero] at t0_2
    obtain ⟨y0_3, t0_3⟩ : ∃ y, DataW.trod enc Try.prog W base (fun _ => true) held k0 2 (([a0, a1, a2, a3, a4, a5, a6, a7, a8, a9, a10, a11].drop 3).take (Try.prog.cellsOf 2)) = some y := hf0 3 _ rfl
    simp only [s0, s1, s2, s3, s4, s5, s6, List.drop_succ_cons, List.drop_zero, List.take_succ_cons, List.take_zero] at t0_3
    obtain ⟨y0_4, t0_4⟩ : ∃ y, DataW.trod enc Try.prog W base (fun _ => true) held k0 30 (([a0, a1, a2, a3, a4, a5, a6, a7, a8, a9, a10, a11].drop 4).take (Try.prog.cellsOf 30)) = some y := hf0 4 _ rfl
    simp only [s0, s1, s2, s3, s4, s5, s6, List.drop_succ_cons, List.drop_zero, List.take_succ_cons, List.take_zero] at t0_4
    obtain ⟨z0, q0, _, f0⟩ := DataW.trod_int Try.underlying3 t0_0
    simp at q0; subst q0
    obtain ⟨z1, q1, _, f1⟩ := DataW.trod_int Try.underlying27 t0_1
    simp at q1; subst q1
    obtain ⟨z2, q2, _, f2⟩ := DataW.trod_int Try.underlying90 t0_2
    simp at q2; subst q2
    obtain ⟨z3, q3, _, f3⟩ := DataW.trod_int Try.underlying2 t0_3
    simp at q3; subst q3
    obtain ⟨k1, hf1⟩ := read_fields Try.underlying30 t0_4
    obtain ⟨y1_0, t1_0⟩ : ∃ y, DataW.trod enc Try.prog W base (fun _ => true) held k1 27 (([a4, a5, a6, a7, a8, a9, a10, a11].drop 0).take (Try.prog.cellsOf 27)) = some y := hf1 0 _ rfl
    simp only [s0, s1, s2, s3, s4, s5, s6, List.drop_succ_cons, List.drop_zero, List.take_succ_cons, List.take_zero] at t1_0
    obtain ⟨y1_1, t1_1⟩ : ∃ y, DataW.trod enc Try.prog W base (fun _ => true) held k1 27 (([a4, a5, a6, a7, a8, a9, a10, a11].drop 1).take (Try.prog.cellsOf 27)) = some y := hf1 1 _ rfl
    simp only [s0, s1, s2, s3, s4, s5, s6, List.drop_succ_cons, List.drop_zero, List.take_succ_cons, List.take_zero] at t1_1
    obtain ⟨y1_2, t1_2⟩ : ∃ y, DataW.trod enc Try.prog W base (fun _ => true) held k1 3 (([a4, a5, a6, a7, a8, a9, a10, a11].drop 2).take (Try.prog.cellsOf 3)) = some y := hf1 2 _ rfl
    simp only [s0, s1, s2, s3, s4, s5, s6, List.drop_succ_cons, List.drop_zero, List.take_succ_cons, List.take_zero] at t1_2
    obtain ⟨y1_3, t1_3⟩ : ∃ y, DataW.trod enc Try.prog W base (fun _ => true) held k1 3 (([a4, a5, a6, a7, a8, a9, a10, a11].drop 3).take (Try.prog.cellsOf 3)) = some y := hf1 3 _ rfl
    simp only [s0, s1, s2, s3, s4, s5, s6, List.drop_succ_cons, List.drop_zero, List.take_succ_cons, List.take_zero] at t1_3
    obtain ⟨y1_4, t1_4⟩ : ∃ y, DataW.trod enc Try.prog W base (fun _ => true) held k1 3 (([a4, a5, a6, a7, a8, a9, a10, a11].drop 4).take (Try.prog.cellsOf 3)) = some y := hf1 4 _ rfl
    simp only [s0, s1, s2, s3, s4, s5, s6, List.drop_succ_cons, List.drop_zero, List.take_succ_cons, List.take_zero] at t1_4
    obtain ⟨y1_5, t1_5⟩ : ∃ y, DataW.trod enc Try.prog W base (fun _ => true) held k1 3 (([a4, a5, a6, a7, a8, a9, a10, a11].drop 5).take (Try.prog.cellsOf 3)) = some y := hf1 5 _ rfl
    simp only [s0, s1, s2, s3, s4, s5, s6, List.drop_succ_cons, List.drop_zero, List.take_succ_cons, List.take_zero] at t1_5
    obtain ⟨y1_6, t1_6⟩ : ∃ y, DataW.trod enc Try.prog W base (fun _ => true) held k1 4 (([a4, a5, a6, a7, a8, a9, a10, a11].drop 6).take (Try.prog.cellsOf 4)) = some y := hf1 6 _ rfl
    simp only [s0, s1, s2, s3, s4, s5, s6, List.drop_succ_cons, List.drop_zero, List.take_succ_cons, List.take_zero] at t1_6
    obtain ⟨y1_7, t1_7⟩ : ∃ y, DataW.trod enc Try.prog W base (fun _ => true) held k1 28 (([a4, a5, a6, a7, a8, a9, a10, a11].drop 7).take (Try.prog.cellsOf 28)) = some y := hf1 7 _ rfl
    simp only [s0, s1, s2, s3, s4, s5, s6, List.drop_succ_cons, List.drop_zero, List.take_succ_cons, List.take_zero] at t1_7
    obtain ⟨z4, q4, _, f4⟩ := DataW.trod_int Try.underlying27 t1_0
    simp at q4; subst q4
    obtain ⟨z5, q5, _, f5⟩ := DataW.trod_int Try.underlying27 t1_1
    simp at q5; subst q5
    obtain ⟨z6, q6, _, f6⟩ := DataW.trod_int Try.underlying3 t1_2
    simp at q6; subst q6
    obtain ⟨z7, q7, _, f7⟩ := DataW.trod_int Try.underlying3 t1_3
    simp at q7; subst q7
    obtain ⟨z8, q8, _, f8⟩ := DataW.trod_int Try.underlying3 t1_4
    simp at q8; subst q8
    obtain ⟨z9, q9, _, f9⟩ := DataW.trod_int Try.underlying3 t1_5
    simp at q9; subst q9
    obtain ⟨b10, q10, _⟩ := DataW.trod_bool Try.underlying4 t1_6
    simp at q10; subst q10
    obtain ⟨A11, n11, c11, zs11, rfl, f11⟩ := read_ints Try.underlying28 Try.underlying5 (by kernel_rfl) t1_7
    obtain ⟨hr, hm, hc⟩ := f11
    obtain ⟨gs, hg, h8, hN⟩ := nums_of_u8 hr
    subst hg
    refine ⟨⟨z0, z1, z2, z3, ⟨z4, z5, z6, z7, z8, z9, b10, A11, c11, gs⟩⟩, rfl, fit_u32 f1, hN, hm, ?_, ?_⟩
    · intro hA
      rcases hr with ⟨_, h1, h2, _⟩ | ⟨x, h1, h2, _⟩
      · exact ⟨h1, h2⟩
      · exact absurd (h1.symm.trans hA) (by simp)
    · intro g o s hA hd
      obtain ⟨b, o2, h1, h2⟩ := hN 0 (gs[0]'(by simp only at hd; exact List.length_pos_iff.2 hd)) (List.getElem?_eq_getElem _)
      have h3 : b < W.heap.size := World.block_lt_of_cell? _ _ h2
      rw [h1] at hA; injection hA with hA; injection hA with hA; omega

set_option maxRecDepth 100000 in
set_option maxHeartbeats 2000000 in
theorem resolves_law (life : Int) (A : Option Addr) (n c : Nat) (l : List Cl) (w : World) (hn : l.length = n) (hm : n ≤ maxLen) (hf : ∀ x ∈ l, x.Fit w) (hA : ClsIn w A l) :
    Calls Try.prog 13 #[I64 life, .slice A n c] w fun e w' => e = .returned (.bool true) ∧ Only [] w w' := by
  by_cases hbig : 60 < n
  · unfold maxLen at hm
    clear hA hn hf
    go_enter Try.func13, Try.ntmps13
    go_wp2_with fail
    refine (awake_ok _).mono ?_
    rintro e w4 ⟨rfl, ho4⟩
    have H4 := hide ho4
    clear ho4
    go_wp2
    go_ret
    exact ⟨rfl, H4.out⟩
  · exact lawres life A n c l w hn hbig hf hA

set_option maxRecDepth 100000 in
theorem packetsResolves_lifted (os : Os) (started : os.Started) (H : Type) (enc : TypeId × Value → H) :
    ReturnsInHanded {} Try.checked os 13 .any (Rows.packetsResolvesSpec.pre6 enc Try.prog Try.f13 Rows.packetsResolvesRow.domain false) (Rows.packetsResolvesSpec.post enc Try.prog Try.f13 false true false false) := by
  refine returnsInHanded_of_change (C := Try.checked) own started (by kernel_rfl) Try.func13
    (ChangeSpec.witness6 (enc := enc) (C := Try.checked) false ⟨#[], #[.int .i64 0, .slice none 0 0], []⟩ 8 (by kernel_rfl) (by kernel_rfl) (by kernel_rfl) (by kernel_rfl)) ?_
  intro W base args ds gs before hval0 hW hcnd _
  have hval : ∀ (j : Nat) t v, Try.f13.params[j]? = some t → args[j]? = some v → Value.okWide Try.prog W .any base t v := hval0
  have hW' := hW
  obtain ⟨p, q, hA0, hV, rfl, hfz, hnd⟩ := hW
  have hA : DataW.TrodAll enc Try.prog W 0 (fun _ => true) true Try.f13.params.toList args.toList ds p := hA0
  rw [Try.params13] at hA hval
  obtain ⟨v0, vs0, d0, ds0, p0, q0, hargs, rfl, rfl, h0, r0⟩ := trodAll_cons hA
  obtain ⟨v1, vs1, d1, ds1, p1, q1, rfl, rfl, rfl, h1, r1⟩ := trodAll_cons r0
  obtain ⟨rfl, rfl, rfl⟩ := trodAll_nil r1
  obtain rfl : args = #[v0, v1] := by cases args; simp_all
  obtain ⟨rfl, rfl⟩ := trodVars_none hV
  have k0 := h0
  have k1 := h1
  have lt0 : ∀ x ∈ p0, x.block < W.heap.size := by obtain ⟨m, hm⟩ := k0; exact DataW.trod_lt m _ _ _ hm
  have lt1 : ∀ x ∈ p1, x.block < W.heap.size := by obtain ⟨m, hm⟩ := k1; exact DataW.trod_lt m _ _ _ hm
  obtain ⟨life, rfl, -⟩ := open_int Try.underlying2 (hval 0 2 v0 rfl rfl) h0
  obtain ⟨A, n, c, l, rfl, hn, hnc, hcm, hfit, hin, -⟩ := arg_structs Cl.cells (Cl.Fit W) 12 (by decide) (fun _ => rfl) Try.underlying118 (by kernel_rfl) call_read (hval 1 118 v1 rfl rfl) h1
  clear hA0 hval0
  refine (resolves_law life A n c l W hn (Nat.le_trans hnc hcm) hfit hin).mono fun e W' ⟨he, hw⟩ => ?_
  have bel : Below W.heap.size W W' := hw.below (by simp) (Nat.le_refl _)
  subst he
  exact ⟨_, rfl, _, _, _, [], _, [], hW', trodAll_mk1 (shut_bool Try.underlying4 _), (trodAll_cons_mk (Below.trod laidOut (by kernel_rfl) (of_decide_eq_true (by kernel_rfl)) k0 bel lt0) (trodAll_cons_mk (Below.trod laidOut (by kernel_rfl) (of_decide_eq_true (by kernel_rfl)) k1 bel lt1) trodAll_mk0)), rfl, bel.frame _, fun h => by cases h⟩

theorem packetsResolves_holds : Rows.PacketsResolvesSaid :=
  OpenClaim.holds_of_wide 13 Try.f13 rfl rfl rfl rfl rfl rfl rfl ⟨rfl, rfl, rfl, rfl, rfl⟩ rfl rfl rfl rfl rfl (by kernel_rfl) Try.func13 (by kernel_rfl)
    (of_decide_eq_true (by kernel_rfl)) (by unfold Func.isWrapper; rw [if_neg (by decide +kernel)]; exact ⟨rfl, rfl⟩)
    (fun os started H enc _ => packetsResolves_lifted os started H enc)

end Go.Proofs.Ytlnejlhdkmneeaa
