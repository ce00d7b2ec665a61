/- PartitionPlays returns true for every input. No condition. -/
import Derived.Test.YtpeaojkbfllakaaRowCfg
import Derived.Test.YtpeaojkbfllakaaLawPlays
namespace Go.Proofs.Ytpeaojkbfllakaa
open Go.ChangeShapes Go.WideShapes Go.ChangeAt Go.RowKit Go.Joins Go.Deep

theorem plays_walk (W P : Int) (a : Option Addr) (l : List (Int × Int)) (cap : Nat) (a2 : Option Addr) (len cap2 : Nat) (al : List AV) (w : World) (hA : PartsIn w w.heap.size a l) (hcap : l.length ≤ cap) (hmax : cap ≤ maxLen) (hm : len ≤ maxLen) (hl : al.length = len) (hok : ∀ x ∈ al, x.ok) (hA2 : ActsAt w w.heap.size a2 al) :
    Calls Try.prog 6 #[.agg #[I64 W, I64 P, .slice a l.length cap], .slice a2 len cap2] w fun e w' => e = .returned (.bool true) ∧ Below w.heap.size w w' := by
  by_cases hb : 20 < l.length ∨ 60 < len
  · exact (plays_big W P a l.length cap a2 len cap2 w hb (Nat.le_trans hcap hmax) hm).mono fun e w' ⟨he, hw⟩ => ⟨he, hw.below (by simp) (Nat.le_refl _)⟩
  · subst hl
    by_cases ho : chk W P l = 0
    · exact plays_good W P a l l.length cap a2 al cap2 w hA rfl hcap ho (by omega) hok hA2
    · exact plays_bad W P a l l.length cap a2 al cap2 w hA rfl (by omega) ho (by omega) hok hA2

theorem acts_of {H : Type} {enc : TypeId × Value → H} {W : World} {a : Option Addr} {len cap base : Nat} {spare : Nat → Bool} {held : Bool} {x : DataW H × List MemPlace} {fuel : Nat}
    (h : DataW.trod enc Try.prog W base spare held fuel 42 [.slice a len cap] = some x) : len ≤ maxLen ∧ ∃ l : List AV, l.length = len ∧ (∀ x ∈ l, x.ok) ∧ ActsAt W W.heap.size a l := by
  rcases open_slice_fields Try.underlying42 Try.underlying53 (by kernel_rfl) (by kernel_rfl) h with hcs | ⟨A, n, c, hcs, _, hl, hm, hall⟩
  · simp at hcs
    obtain ⟨rfl, rfl, rfl⟩ := hcs
    exact ⟨by simp [maxLen], [], rfl, by simp, fun k x hx => by simp at hx⟩
  · simp at hcs
    obtain ⟨rfl, rfl, rfl⟩ := hcs
    have : ∀ i, i < len → ∃ x : AV, x.ok ∧ ∃ b o, some A = some (⟨b, o, none⟩ : Addr) ∧ b < W.heap.size ∧ W.cell? ⟨b, o + i * 6, none⟩ = some (.int .u8 x.d) ∧ W.cell? ⟨b, o + i * 6 + 1, none⟩ = some (.int .u8 x.gap) ∧
        W.cell? ⟨b, o + i * 6 + 2, none⟩ = some (I64 x.raw) ∧ W.cell? ⟨b, o + i * 6 + 3, none⟩ = some (I64 x.a) ∧ W.cell? ⟨b, o + i * 6 + 4, none⟩ = some (I64 x.b) ∧ W.cell? ⟨b, o + i * 6 + 5, none⟩ = some (.bool x.c) := by
      intro i hi
      obtain ⟨n, hf⟩ := hall i hi
      obtain ⟨v0, y0, c0, t0⟩ := hf 0 _ rfl
      obtain ⟨v1, y1, c1, t1⟩ := hf 1 _ rfl
      obtain ⟨v2, y2, c2, t2⟩ := hf 2 _ rfl
      obtain ⟨v3, y3, c3, t3⟩ := hf 3 _ rfl
      obtain ⟨v4, y4, c4, t4⟩ := hf 4 _ rfl
      obtain ⟨v5, y5, c5, t5⟩ := hf 5 _ rfl
      obtain ⟨z0, e0, _, u0⟩ := DataW.trod_int Try.underlying5 t0
      obtain ⟨z1, e1, _, u1⟩ := DataW.trod_int Try.underlying5 t1
      obtain ⟨z2, e2, _, u2⟩ := DataW.trod_int Try.underlying2 t2
      obtain ⟨z3, e3, _, u3⟩ := DataW.trod_int Try.underlying3 t3
      obtain ⟨z4, e4, _, u4⟩ := DataW.trod_int Try.underlying3 t4
      obtain ⟨z5, e5, _⟩ := DataW.trod_bool Try.underlying4 t5
      simp at e0 e1 e2 e3 e4 e5
      subst e0 e1 e2 e3 e4 e5
      have hsp : A.spot = none := by
        obtain ⟨n, hf⟩ := hall 0 (by omega)
        obtain ⟨v, y, c, _⟩ := hf 0 _ rfl
        exact add_spot (by simpa using c)
      obtain ⟨hlt, k0⟩ := add_flat hsp c0
      obtain ⟨_, k1⟩ := add_flat hsp c1
      obtain ⟨_, k2⟩ := add_flat hsp c2
      obtain ⟨_, k3⟩ := add_flat hsp c3
      obtain ⟨_, k4⟩ := add_flat hsp c4
      obtain ⟨_, k5⟩ := add_flat hsp c5
      have := wf_u8_bounds u0
      have := wf_u8_bounds u1
      exact ⟨⟨z0, z1, z2, z3, z4, z5⟩, ⟨by dsimp only; omega, by dsimp only; omega, by dsimp only; omega, by dsimp only; omega⟩, A.block, A.off, by rw [← hsp], hlt, k0, k1, k2, k3, k4, k5⟩
    obtain ⟨l, hll, hq⟩ := list_of len this
    refine ⟨Nat.le_trans hl hm, l, hll, fun x hx => ?_, fun k x hx => (hq k x hx).2⟩
    obtain ⟨k, hk⟩ := List.getElem?_of_mem hx
    exact (hq k x hk).1

set_option maxRecDepth 100000 in
theorem plays_lifted (os : Os) (started : os.Started) (H : Type) (enc : TypeId × Value → H) :
    ReturnsInHanded {} Try.checked os 6 .any (Rows.partitionPlaysSpec.pre6 enc Try.prog Try.f6 Rows.partitionPlaysRow.domain false) (Rows.partitionPlaysSpec.post enc Try.prog Try.f6 false true false false) := by
  refine returnsInHanded_of_change (C := Try.checked) own started (by kernel_rfl) Try.func6
    (ChangeSpec.witness6 (enc := enc) (C := Try.checked) false ⟨#[], #[.agg #[.int .i64 0, .int .i64 0, .slice none 0 0], .slice none 0 0], []⟩ 8 (by kernel_rfl) (by kernel_rfl) (by kernel_rfl) (by kernel_rfl)) ?_
  intro W base args ds gs before hval0 hW hcnd _
  have hval : ∀ (j : Nat) t v, Try.f6.params[j]? = some t → args[j]? = some v → Value.okWide Try.prog W .any base t v := hval0
  have hW' := hW
  obtain ⟨p, q, hA0, hV, rfl, hfz, hnd⟩ := hW
  have hA : DataW.TrodAll enc Try.prog W 0 (fun _ => true) true Try.f6.params.toList args.toList ds p := hA0
  rw [Try.params6] at hA hval
  obtain ⟨v0, vs0, d0, ds0, p0, q0, hargs, rfl, rfl, h0, r0⟩ := trodAll_cons hA
  obtain ⟨v1, vs1, d1, ds1, p1, q1, rfl, rfl, rfl, h1, r1⟩ := trodAll_cons r0
  obtain ⟨rfl, rfl, rfl⟩ := trodAll_nil r1
  obtain rfl : args = #[v0, v1] := by cases args; simp_all
  obtain ⟨rfl, rfl⟩ := trodVars_none hV
  have k0 := h0
  have lt0 : ∀ x ∈ p0, x.block < W.heap.size := by obtain ⟨m, hm⟩ := k0; exact DataW.trod_lt m _ _ _ hm
  have k1 := h1
  have lt1 : ∀ x ∈ p1, x.block < W.heap.size := by obtain ⟨m, hm⟩ := k1; exact DataW.trod_lt m _ _ _ hm
  obtain ⟨w0, pr, ca, cl, ccap, rfl, hc1, hc2, hc3⟩ := cfg_of (hval 0 24 v0 rfl rfl) h0
  obtain ⟨a0, len0, cap0, rfl⟩ := okWide_slice Try.underlying42 (hval 1 42 v1 rfl rfl)
  obtain ⟨hm0, l, hll, hlok, hlA⟩ : len0 ≤ maxLen ∧ ∃ l : List AV, l.length = len0 ∧ (∀ x ∈ l, x.ok) ∧ ActsAt W W.heap.size a0 l := by
    obtain ⟨fuel, hf⟩ := h1
    exact acts_of (by simpa [Value.cells] using hf)
  clear hA0 hval0
  refine (plays_walk w0 pr ca cl ccap a0 len0 cap0 l W hc3 hc1 hc2 hm0 hll hlok hlA).mono fun e W' ⟨he, bel⟩ => ?_
  subst he
  exact ⟨_, rfl, _, _, _, [], _, [], hW', trodAll_mk1 (shut_bool Try.underlying4 _), (trodAll_cons_mk (Below.trod laidOut (by kernel_rfl) (of_decide_eq_true (by kernel_rfl)) k0 bel lt0) (trodAll_cons_mk (Below.trod laidOut (by kernel_rfl) (of_decide_eq_true (by kernel_rfl)) k1 bel lt1) trodAll_mk0)), rfl, bel.frame _, fun h => by cases h⟩

theorem partitionPlays_holds : Rows.PartitionPlaysSaid :=
  OpenClaim.holds_of_wide 6 Try.f6 rfl rfl rfl rfl rfl rfl rfl ⟨rfl, rfl, rfl, rfl, rfl⟩ rfl rfl rfl rfl rfl (by kernel_rfl) Try.func6 (by kernel_rfl)
    (of_decide_eq_true (by kernel_rfl)) (by unfold Func.isWrapper; rw [if_neg (by decide +kernel)]; exact ⟨rfl, rfl⟩)
    (fun os started H enc _ => plays_lifted os started H enc)

end Go.Proofs.Ytpeaojkbfllakaa
