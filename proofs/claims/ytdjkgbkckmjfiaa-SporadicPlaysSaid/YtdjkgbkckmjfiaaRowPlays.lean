/- SporadicPlays returns true for every input. No condition. -/
import Derived.Test.YtdjkgbkckmjfiaaRowShare
import Derived.Test.YtdjkgbkckmjfiaaLawPlays
import Derived.Deep.Slices
import Derived.Deep.Fields
import Derived.ChangeSame
namespace Go.Proofs.Ytdjkgbkckmjfiaa
open Go.ChangeShapes Go.WideShapes Go.ChangeAt Go.RowKit Go.Joins Go.Deep

section
variable {H : Type} {enc : TypeId × Value → H} {P : Program} {w : World} {base : Nat} {spare : Nat → Bool} {held : Bool}
theorem open_slice_fields {t e : TypeId} {fs : Array Field} {fuel : Nat} {cs : List Value} {x : DataW H × List MemPlace} (ht : P.underlying t = some (.slice e)) (he : P.underlying e = some (.struct fs))
    (hone : oneCellFields P fs = true) (hC : P.cellsOf e = fs.size) (h : DataW.trod enc P w base spare held fuel t cs = some x) :
    (cs = [.slice none 0 0]) ∨
    ∃ (a : Addr) (len cap : Nat), cs = [.slice (some a) len cap] ∧ base ≤ a.block ∧ len ≤ cap ∧ cap ≤ maxLen ∧
      ∀ i, i < len → ∃ n : Nat, ∀ (j : Nat) (f : Field), fs[j]? = some f → ∃ (v : Value) (y : DataW H × List MemPlace), w.cell? (a.add (i * fs.size + j)) = some v ∧ DataW.trod enc P w base spare held n f.type [v] = some y := by
  rcases open_slice ht h with h0 | ⟨a, len, cap, m, n, D, Pl, hcs, hb, hl, hm, hmm, hx, hi⟩
  · exact .inl h0.1
  · refine .inr ⟨a, len, cap, hcs, hb, hl, hm, fun i him => ?_⟩
    obtain ⟨cs', hc, ht'⟩ := hi i (by rw [hmm]; split <;> omega)
    rw [hC] at hc
    obtain ⟨ys, n', hn', hy, hlen, hyl, hf⟩ := DataW.trod_struct he ht'
    obtain ⟨_, hcl, hat⟩ := World.cells?_some hc
    refine ⟨n', fun j f hj => ?_⟩
    obtain ⟨ho, hk⟩ := hone_of hone j f hj
    have hjl : j < fs.size := (Array.getElem?_eq_some_iff.1 hj).1
    have hcell := hat j hjl
    have hv : cs'[j]? = some (cs'[j]'(by omega)) := List.getElem?_eq_getElem (by omega)
    have h1 := hf j f hj
    rw [ho, hk] at h1
    have hone' : (cs'.drop j).take 1 = [cs'[j]'(by omega)] := by
      rw [List.drop_eq_getElem_cons (by omega)]
      rfl
    rw [hone'] at h1
    have hys : ys[j]? = some (ys[j]'(by omega)) := List.getElem?_eq_getElem (by omega)
    refine ⟨_, _, ?_, h1.trans hys⟩
    rw [← Go.Deep.add_add, hcell, hv]
end

/-- A list out of what is known of each place. -/
theorem list_of {α : Type} {Q : Nat → α → Prop} : ∀ n : Nat, (∀ i, i < n → ∃ x, Q i x) → ∃ l : List α, l.length = n ∧ ∀ i x, l[i]? = some x → Q i x
  | 0, _ => ⟨[], rfl, fun i x h => by simp at h⟩
  | n + 1, h => by
    obtain ⟨l, hl, hq⟩ := list_of n fun i hi => h i (by omega)
    obtain ⟨x, hx⟩ := h n (by omega)
    refine ⟨l ++ [x], by simp [hl], fun i y hy => ?_⟩
    rcases Nat.lt_or_ge i n with hlt | hge
    · rw [List.getElem?_append_left (by omega)] at hy; exact hq i y hy
    · have : i = n := by
        have := (List.getElem?_eq_some_iff.1 hy).1
        simp at this; omega
      subst this
      rw [List.getElem?_append_right (by omega), hl] at hy
      simp at hy
      subst hy; exact hx
theorem add_flat {a : Addr} {j : Nat} {v : Value} {w : World} (hs : a.spot = none) (h : w.cell? (a.add j) = some v) : a.block < w.heap.size ∧ w.cell? ⟨a.block, a.off + j, none⟩ = some v := by
  have hlt := World.block_lt_of_cell? _ _ h
  obtain ⟨b, off, spot⟩ := a
  dsimp only at hs
  subst hs
  have ea : (⟨b, off, none⟩ : Addr).add j = ⟨b, off + j, none⟩ := by
    unfold Addr.add; split
    · rename_i h0; subst h0; rfl
    · rfl
  rw [ea] at h hlt
  exact ⟨hlt, h⟩
theorem add_spot {a : Addr} {v : Value} {w : World} (h : w.cell? (a.add 0) = some v) : a.spot = none := by
  have hspot := World.cell?_spot h
  simpa [Addr.add] using hspot

theorem plays_walk (B P N L : Int) (a : Option Addr) (len cap : Nat) (l : List AV) (w : World) (hm : len ≤ maxLen) (hl : l.length = len) (hok : ∀ x ∈ l, x.ok) (hA : ActsAt w w.heap.size a l) :
    Calls Try.prog 6 #[.agg #[I64 B, I64 P, I64 N, I64 L], .slice a len cap] w fun e w' => e = .returned (.bool true) ∧ Below w.heap.size w w' := by
  by_cases ho : okRaw B P N L
  · have hN : ((N.toNat : Nat) : Int) = N := by have := ho.2.2.2.2.1; omega
    have hp : Prm.ok ⟨B, P, N.toNat, L⟩ := by
      obtain ⟨a1, a2, a3, a4, a5, a6, a7, a8⟩ := ho
      exact ⟨a1, a2, a3, a4, by show 1 ≤ N.toNat; omega, by show N.toNat ≤ 32; omega, a7, a8⟩
    rcases Nat.lt_or_ge 60 len with h60 | h60
    · have := plays_big ⟨B, P, N.toNat, L⟩ a len cap w hp h60 hm
      simp only [hN] at this
      exact this.mono fun e w' ⟨he, hw⟩ => ⟨he, hw.below (by simp) (Nat.le_refl _)⟩
    · subst hl
      have := plays_good ⟨B, P, N.toNat, L⟩ a l cap w hp h60 hok hA
      simp only [hN] at this
      exact this
  · rcases Nat.lt_or_ge 60 len with h60 | h60
    · exact (plays_bad_big B P N L a len cap w ho h60 hm).mono fun e w' ⟨he, hw⟩ => ⟨he, hw.below (by simp) (Nat.le_refl _)⟩
    · subst hl
      exact plays_bad B P N L a l cap w ho h60 hok hA

theorem acts_of {H : Type} {enc : TypeId × Value → H} {W : World} {a : Option Addr} {len cap base : Nat} {spare : Nat → Bool} {held : Bool} {x : DataW H × List MemPlace} {fuel : Nat}
    (h : DataW.trod enc Try.prog W base spare held fuel 44 [.slice a len cap] = some x) : len ≤ maxLen ∧ ∃ l : List AV, l.length = len ∧ (∀ x ∈ l, x.ok) ∧ ActsAt W W.heap.size a l := by
  rcases open_slice_fields Try.underlying44 Try.underlying53 (by kernel_rfl) (by kernel_rfl) h with hcs | ⟨A, n, c, hcs, _, hl, hm, hall⟩
  · simp at hcs
    obtain ⟨rfl, rfl, rfl⟩ := hcs
    exact ⟨by simp [maxLen], [], rfl, by simp, fun k x hx => by simp at hx⟩
  · simp at hcs
    obtain ⟨rfl, rfl, rfl⟩ := hcs
    have : ∀ i, i < len → ∃ x : AV, x.ok ∧ ∃ b o, some A = some (⟨b, o, none⟩ : Addr) ∧ b < W.heap.size ∧ W.cell? ⟨b, o + i * 4, none⟩ = some (.int .u8 x.d) ∧ W.cell? ⟨b, o + i * 4 + 1, none⟩ = some (.int .u8 x.gap) ∧
        W.cell? ⟨b, o + i * 4 + 2, none⟩ = some (I64 x.raw) ∧ W.cell? ⟨b, o + i * 4 + 3, none⟩ = some (I64 x.nm) := by
      intro i hi
      obtain ⟨n, hf⟩ := hall i hi
      obtain ⟨v0, y0, c0, t0⟩ := hf 0 _ rfl
      obtain ⟨v1, y1, c1, t1⟩ := hf 1 _ rfl
      obtain ⟨v2, y2, c2, t2⟩ := hf 2 _ rfl
      obtain ⟨v3, y3, c3, t3⟩ := hf 3 _ rfl
      obtain ⟨z0, e0, _, u0⟩ := DataW.trod_int Try.underlying5 t0
      obtain ⟨z1, e1, _, u1⟩ := DataW.trod_int Try.underlying5 t1
      obtain ⟨z2, e2, _, u2⟩ := DataW.trod_int Try.underlying2 t2
      obtain ⟨z3, e3, _, u3⟩ := DataW.trod_int Try.underlying3 t3
      simp at e0 e1 e2 e3
      subst e0 e1 e2 e3
      have hsp : A.spot = none := by
        obtain ⟨n, hf⟩ := hall 0 (by omega)
        obtain ⟨v, y, c, _⟩ := hf 0 _ rfl
        exact add_spot (by simpa using c)
      obtain ⟨hlt, k0⟩ := add_flat hsp c0
      obtain ⟨_, k1⟩ := add_flat hsp c1
      obtain ⟨_, k2⟩ := add_flat hsp c2
      obtain ⟨_, k3⟩ := add_flat hsp c3
      have := wf_u8_bounds u0
      have := wf_u8_bounds u1
      exact ⟨⟨z0, z1, z2, z3⟩, ⟨by dsimp only; omega, by dsimp only; omega, by dsimp only; omega, by dsimp only; omega⟩, A.block, A.off, by rw [← hsp], hlt, k0, k1, k2, k3⟩
    obtain ⟨l, hll, hq⟩ := list_of len this
    refine ⟨Nat.le_trans hl hm, l, hll, fun x hx => ?_, fun k x hx => (hq k x hx).2⟩
    obtain ⟨k, hk⟩ := List.getElem?_of_mem hx
    exact (hq k x hk).1

set_option maxRecDepth 100000 in
theorem plays_lifted (os : Os) (started : os.Started) (H : Type) (enc : TypeId × Value → H) :
    ReturnsInHanded {} Try.checked os 6 .any (Rows.sporadicPlaysSpec.pre6 enc Try.prog Try.f6 Rows.sporadicPlaysRow.domain false) (Rows.sporadicPlaysSpec.post enc Try.prog Try.f6 false true false false) := by
  refine returnsInHanded_of_change (C := Try.checked) own started (by kernel_rfl) Try.func6
    (ChangeSpec.witness6 (enc := enc) (C := Try.checked) false ⟨#[], #[.agg #[.int .i64 0, .int .i64 0, .int .i64 0, .int .i64 0], .slice none 0 0], []⟩ 8 (by kernel_rfl) (by kernel_rfl) (by kernel_rfl) (by kernel_rfl)) ?_
  intro W base args ds gs before hval0 hW hcnd _
  have hval : ∀ (j : Nat) t v, Try.f6.params[j]? = some t → args[j]? = some v → Value.okWide Try.prog W .any base t v := hval0
  have hW' := hW
  obtain ⟨p, q, hA0, hV, rfl, hfz, hnd⟩ := hW
  have hA : DataW.TrodAll enc Try.prog W 0 (fun _ => true) true Try.f6.params.toList args.toList ds p := hA0
  rw [Try.params6] at hA hval
  obtain ⟨v0, vs0, d0, ds0, p0, q0, hargs, rfl, rfl, h0, r0⟩ := trodAll_cons hA
  obtain ⟨v1, vs1, d1, ds1, p1, q1, rfl, rfl, rfl, h1, r1⟩ := trodAll_cons r0
  obtain ⟨rfl, rfl, rfl⟩ := trodAll_nil r1
  obtain rfl : args = #[v0, v1] := by cases args; simp_all
  obtain ⟨rfl, rfl⟩ := trodVars_none hV
  have k0 := h0
  have lt0 : ∀ x ∈ p0, x.block < W.heap.size := by obtain ⟨m, hm⟩ := k0; exact DataW.trod_lt m _ _ _ hm
  have k1 := h1
  have lt1 : ∀ x ∈ p1, x.block < W.heap.size := by obtain ⟨m, hm⟩ := k1; exact DataW.trod_lt m _ _ _ hm
  obtain ⟨c0, c1, c2, c3, y0, y1, y2, y3, m, rfl, _, _, hy0, hy1, hy2, hy3⟩ := open_agg4 Try.underlying23 (by kernel_rfl) cells_params (hval 0 23 v0 rfl rfl) h0
  obtain ⟨B, e0, _, _⟩ := DataW.trod_int Try.underlying2 hy0
  obtain ⟨P, e1, _, _⟩ := DataW.trod_int Try.underlying2 hy1
  obtain ⟨N, e2, _, _⟩ := DataW.trod_int Try.underlying3 hy2
  obtain ⟨L, e3, _, _⟩ := DataW.trod_int Try.underlying3 hy3
  simp at e0 e1 e2 e3
  subst e0 e1 e2 e3
  obtain ⟨a0, len0, cap0, rfl⟩ := okWide_slice Try.underlying44 (hval 1 44 v1 rfl rfl)
  obtain ⟨hm0, l, hll, hlok, hlA⟩ : len0 ≤ maxLen ∧ ∃ l : List AV, l.length = len0 ∧ (∀ x ∈ l, x.ok) ∧ ActsAt W W.heap.size a0 l := by
    obtain ⟨fuel, hf⟩ := h1
    exact acts_of (by simpa [Value.cells] using hf)
  clear hA0 hval0
  refine (plays_walk B P N L a0 len0 cap0 l W hm0 hll hlok hlA).mono fun e W' ⟨he, bel⟩ => ?_
  subst he
  exact ⟨_, rfl, _, _, _, [], _, [], hW', trodAll_mk1 (shut_bool Try.underlying4 _), (trodAll_cons_mk (Below.trod laidOut (by kernel_rfl) (of_decide_eq_true (by kernel_rfl)) k0 bel lt0) (trodAll_cons_mk (Below.trod laidOut (by kernel_rfl) (of_decide_eq_true (by kernel_rfl)) k1 bel lt1) trodAll_mk0)), rfl, bel.frame _, fun h => by cases h⟩

theorem sporadicPlays_holds : Rows.SporadicPlaysSaid :=
  OpenClaim.holds_of_wide 6 Try.f6 rfl rfl rfl rfl rfl rfl rfl ⟨rfl, rfl, rfl, rfl, rfl⟩ rfl rfl rfl rfl rfl (by kernel_rfl) Try.func6 (by kernel_rfl)
    (of_decide_eq_true (by kernel_rfl)) (by unfold Func.isWrapper; rw [if_neg (by decide +kernel)]; exact ⟨rfl, rfl⟩)
    (fun os started H enc _ => plays_lifted os started H enc)

end Go.Proofs.Ytdjkgbkckmjfiaa
