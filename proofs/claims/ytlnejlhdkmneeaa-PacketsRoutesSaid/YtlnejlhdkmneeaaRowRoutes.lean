/- PacketsRoutes returns true for every input. No condition. -/
import Derived.Test.YtlnejlhdkmneeaaRowt
import Derived.Test.YtlnejlhdkmneeaaRowShare
import Derived.Test.YtlnejlhdkmneeaaLawRou
namespace Go.Proofs.Ytlnejlhdkmneeaa
open Go.ChangeShapes Go.WideShapes Go.ChangeAt Go.RowKit Go.Joins Go.Deep

theorem trod_fields {H : Type} {enc : TypeId × Value → H} {P : Program} {w : World} {base : Nat} {spare : Nat → Bool} {held : Bool} {t : TypeId} {fs : Array Field} {fuel : Nat} {cs : List Value} {x : DataW H × List MemPlace} (hs : P.underlying t = some (.struct fs))
    (h : DataW.trod enc P w base spare held fuel t cs = some x) : ∃ n : Nat, ∀ (j : Nat) (f : Field), fs[j]? = some f → ∃ y, DataW.trod enc P w base spare held n f.type ((cs.drop f.offset).take (P.cellsOf f.type)) = some y := by
  obtain ⟨xs, n, _, hx, _, hlen, hg⟩ := DataW.trod_struct hs h
  refine ⟨n, fun j f hj => ?_⟩
  have hjl : j < fs.size := (Array.getElem?_eq_some_iff.1 hj).1
  have hys : xs[j]? = some (xs[j]'(by omega)) := List.getElem?_eq_getElem (by omega)
  exact ⟨_, (hg j f hj).trans hys⟩
set_option maxRecDepth 100000 in
theorem change_cells {H : Type} {enc : TypeId × Value → H} {W : World} {base : Nat} {spare : Nat → Bool} {held : Bool} {fuel : Nat} {cs : List Value} {x : DataW H × List MemPlace} (hl : cs.length = 7)
    (h : DataW.trod enc Try.prog W base spare held fuel 102 cs = some x) : ∃ ch : Ch, cs = ch.cells ∧ ch.Fit := by
  match cs, hl with
  | [a0, a1, a2, a3, a4, a5, a6], _ =>
    obtain ⟨k, hf⟩ := trod_fields Try.underlying102 h
    obtain ⟨y0, t0⟩ : ∃ y, DataW.trod enc Try.prog W base spare held k 3 (([a0, a1, a2, a3, a4, a5, a6].drop 0).take (Try.prog.cellsOf 3)) = some y := hf 0 _ rfl
    obtain ⟨y1, t1⟩ : ∃ y, DataW.trod enc Try.prog W base spare held k 63 (([a0, a1, a2, a3, a4, a5, a6].drop 1).take (Try.prog.cellsOf 63)) = some y := hf 1 _ rfl
    obtain ⟨y2, t2⟩ : ∃ y, DataW.trod enc Try.prog W base spare held k 3 (([a0, a1, a2, a3, a4, a5, a6].drop 6).take (Try.prog.cellsOf 3)) = some y := hf 2 _ rfl
    have s1 : Try.prog.cellsOf 3 = 1 := by kernel_rfl
    have s2 : Try.prog.cellsOf 27 = 1 := by kernel_rfl
    have s5 : Try.prog.cellsOf 63 = 5 := by kernel_rfl
    simp only [s1, s5, List.drop_succ_cons, List.drop_zero, List.take_succ_cons, List.take_zero] at t0 t1 t2
    obtain ⟨k2, hg⟩ := trod_fields Try.underlying63 t1
    obtain ⟨u0, r0⟩ : ∃ y, DataW.trod enc Try.prog W base spare held k2 27 (([a1, a2, a3, a4, a5].drop 0).take (Try.prog.cellsOf 27)) = some y := hg 0 _ rfl
    obtain ⟨u1, r1⟩ : ∃ y, DataW.trod enc Try.prog W base spare held k2 3 (([a1, a2, a3, a4, a5].drop 1).take (Try.prog.cellsOf 3)) = some y := hg 1 _ rfl
    obtain ⟨u2, r2⟩ : ∃ y, DataW.trod enc Try.prog W base spare held k2 27 (([a1, a2, a3, a4, a5].drop 2).take (Try.prog.cellsOf 27)) = some y := hg 2 _ rfl
    obtain ⟨u3, r3⟩ : ∃ y, DataW.trod enc Try.prog W base spare held k2 3 (([a1, a2, a3, a4, a5].drop 3).take (Try.prog.cellsOf 3)) = some y := hg 3 _ rfl
    obtain ⟨u4, r4⟩ : ∃ y, DataW.trod enc Try.prog W base spare held k2 3 (([a1, a2, a3, a4, a5].drop 4).take (Try.prog.cellsOf 3)) = some y := hg 4 _ rfl
    simp only [s1, s2, List.drop_succ_cons, List.drop_zero, List.take_succ_cons, List.take_zero] at r0 r1 r2 r3 r4
    obtain ⟨z0, e0, _, _⟩ := DataW.trod_int Try.underlying3 t0
    obtain ⟨z1, e1, _, f1⟩ := DataW.trod_int Try.underlying27 r0
    obtain ⟨z2, e2, _, _⟩ := DataW.trod_int Try.underlying3 r1
    obtain ⟨z3, e3, _, _⟩ := DataW.trod_int Try.underlying27 r2
    obtain ⟨z4, e4, _, _⟩ := DataW.trod_int Try.underlying3 r3
    obtain ⟨z5, e5, _, _⟩ := DataW.trod_int Try.underlying3 r4
    obtain ⟨z6, e6, _, f6⟩ := DataW.trod_int Try.underlying3 t2
    simp at e0 e1 e2 e3 e4 e5 e6
    subst e0 e1 e2 e3 e4 e5 e6
    exact ⟨⟨z0, ⟨z1, z2, z3, z4, z5⟩, z6⟩, rfl, wf_u32_bounds f1, (wf_i64_bounds f6).1⟩

theorem cells_change : Try.prog.cellsOf 102 = 7 := by kernel_rfl
set_option maxRecDepth 100000 in
theorem changes_of {H : Type} {enc : TypeId × Value → H} {W : World} {b0 : Nat} {v : Value} {d : DataW H} {p : List MemPlace} {base : Nat} {held : Bool} {r : Reach}
    (hv : Value.okWide Try.prog W r b0 98 v) (h : DataW.Trod enc Try.prog W base (fun _ => true) held 98 v d p) :
    ∃ (A : Option Addr) (n c : Nat) (l : List Ch), v = .slice A n c ∧ l.length = n ∧ n ≤ maxLen ∧ (∀ x ∈ l, x.Fit) ∧ ChsIn W A l := by
  obtain ⟨a0, n0, c0, rfl⟩ := okWide_slice Try.underlying98 hv
  obtain ⟨fuel, hf⟩ := h
  rcases open_slice Try.underlying98 hf with h0 | ⟨A, n, c, m, k, D, Pl, hcs, _, hl, hm, hmm, hx, hall⟩
  · have hcs := h0.1
    simp [Value.cells] at hcs
    obtain ⟨rfl, rfl, rfl⟩ := hcs
    exact ⟨none, 0, 0, [], rfl, rfl, by simp [maxLen], by simp, fun k x hx => by simp at hx⟩
  · simp [Value.cells] at hcs
    obtain ⟨rfl, rfl, rfl⟩ := hcs
    have key : ∀ i, i < n0 → ∃ x : Ch, x.Fit ∧ ∀ j u, x.cells[j]? = some u → W.cell? (A.add (i * 7 + j)) = some u := by
      intro i hi
      obtain ⟨cs', hc, ht'⟩ := hall i (by rw [hmm]; split <;> omega)
      rw [cells_change] at hc
      obtain ⟨_, hcl, hat⟩ := World.cells?_some hc
      obtain ⟨ch, he, hfit⟩ := change_cells hcl ht'
      refine ⟨ch, hfit, fun j u hu => ?_⟩
      have hj : j < 7 := by have := (List.getElem?_eq_some_iff.1 hu).1; simpa [Ch.cells] using this
      have := hat j hj
      rw [he, hu] at this
      rw [← Go.Deep.add_add]
      exact this
    have key2 : ∀ i, i < n0 → ∃ x : Ch, x.Fit ∧ ∃ b o, some A = some (⟨b, o, none⟩ : Addr) ∧ ∀ (j : Nat) (v : Value), x.cells[j]? = some v → W.cell? ⟨b, o + i * 7 + j, none⟩ = some v := by
      intro i hi
      have hsp : A.spot = none := by
        obtain ⟨x, _, hx⟩ := key 0 (by omega)
        exact add_spot (by simpa using hx 0 _ rfl)
      obtain ⟨x, hfit, hx⟩ := key i hi
      refine ⟨x, hfit, A.block, A.off, by rw [← hsp], fun j u hu => ?_⟩
      rw [Nat.add_assoc]
      exact (add_flat hsp (hx j u hu)).2
    obtain ⟨l, hll, hq⟩ := list_of n0 key2
    refine ⟨some A, n0, c0, l, rfl, hll, by omega, fun x hx => ?_, fun k x hx => (hq k x hx).2⟩
    obtain ⟨k, hk, e⟩ := List.getElem_of_mem hx
    exact (hq k x (by rw [List.getElem?_eq_getElem hk, e])).1

set_option maxHeartbeats 2000000 in
theorem routes_law (A : Option Addr) (n c : Nat) (l : List Ch) (w : World) (hn : l.length = n) (hm : n ≤ maxLen) (hf : ∀ x ∈ l, x.Fit) (hA : ChsIn w A l) :
    Calls Try.prog 12 #[.slice A n c] w fun e w' => e = .returned (.bool true) ∧ Only [] w w' := by
  by_cases hbig : 60 < n
  · unfold maxLen at hm
    clear hA hn hf
    go_enter Try.func12, Try.ntmps12
    go_wp2_with fail
    refine (awake_ok _).mono ?_
    rintro e w4 ⟨rfl, ho4⟩
    have H4 := hide ho4
    clear ho4
    go_wp2
    go_ret
    exact ⟨rfl, H4.out⟩
  · exact lawrou A n c l w hn hbig hf hA

set_option maxRecDepth 100000 in
theorem packetsRoutes_lifted (os : Os) (started : os.Started) (H : Type) (enc : TypeId × Value → H) :
    ReturnsInHanded {} Try.checked os 12 .any (Rows.packetsRoutesSpec.pre6 enc Try.prog Try.f12 Rows.packetsRoutesRow.domain false) (Rows.packetsRoutesSpec.post enc Try.prog Try.f12 false true false false) := by
  refine returnsInHanded_of_change (C := Try.checked) own started (by kernel_rfl) Try.func12
    (ChangeSpec.witness6 (enc := enc) (C := Try.checked) false ⟨#[], #[.slice none 0 0], []⟩ 8 (by kernel_rfl) (by kernel_rfl) (by kernel_rfl) (by kernel_rfl)) ?_
  intro W base args ds gs before hval0 hW hcnd _
  have hval : ∀ (j : Nat) t v, Try.f12.params[j]? = some t → args[j]? = some v → Value.okWide Try.prog W .any base t v := hval0
  have hW' := hW
  obtain ⟨p, q, hA0, hV, rfl, hfz, hnd⟩ := hW
  have hA : DataW.TrodAll enc Try.prog W 0 (fun _ => true) true Try.f12.params.toList args.toList ds p := hA0
  rw [Try.params12] at hA hval
  obtain ⟨v0, vs0, d0, ds0, p0, q0, hargs, rfl, rfl, h0, r0⟩ := trodAll_cons hA
  obtain ⟨rfl, rfl, rfl⟩ := trodAll_nil r0
  obtain rfl : args = #[v0] := by cases args; simp_all
  obtain ⟨rfl, rfl⟩ := trodVars_none hV
  have k0 := h0
  have lt0 : ∀ x ∈ p0, x.block < W.heap.size := by obtain ⟨m, hm⟩ := k0; exact DataW.trod_lt m _ _ _ hm
  obtain ⟨A, n, c, l, rfl, hn, hm, hfit, hin⟩ := changes_of (hval 0 98 v0 rfl rfl) h0
  clear hA0 hval0
  refine (routes_law A n c l W hn hm hfit hin).mono fun e W' ⟨he, hw⟩ => ?_
  have bel : Below W.heap.size W W' := hw.below (by simp) (Nat.le_refl _)
  subst he
  exact ⟨_, rfl, _, _, _, [], _, [], hW', trodAll_mk1 (shut_bool Try.underlying4 _), (trodAll_cons_mk (Below.trod laidOut (by kernel_rfl) (of_decide_eq_true (by kernel_rfl)) k0 bel lt0) trodAll_mk0), rfl, bel.frame _, fun h => by cases h⟩

theorem packetsRoutes_holds : Rows.PacketsRoutesSaid :=
  OpenClaim.holds_of_wide 12 Try.f12 rfl rfl rfl rfl rfl rfl rfl ⟨rfl, rfl, rfl, rfl, rfl⟩ rfl rfl rfl rfl rfl (by kernel_rfl) Try.func12 (by kernel_rfl)
    (of_decide_eq_true (by kernel_rfl)) (by unfold Func.isWrapper; rw [if_neg (by decide +kernel)]; exact ⟨rfl, rfl⟩)
    (fun os started H enc _ => packetsRoutes_lifted os started H enc)

end Go.Proofs.Ytlnejlhdkmneeaa
