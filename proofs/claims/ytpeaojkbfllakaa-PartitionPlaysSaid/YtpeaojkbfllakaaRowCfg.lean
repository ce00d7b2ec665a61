/- A configuration that came in, laid open. -/
import Derived.Test.YtpeaojkbfllakaaRowt
import Derived.Test.YtpeaojkbfllakaaLawA
namespace Go.Proofs.Ytpeaojkbfllakaa
open Go.ChangeShapes Go.WideShapes Go.ChangeAt Go.RowKit Go.Joins Go.Deep

theorem parts_of {H : Type} {enc : TypeId × Value → H} {W : World} {u : Value} {base : Nat} {spare : Nat → Bool} {held : Bool} {x : DataW H × List MemPlace} {fuel : Nat}
    (h : DataW.trod enc Try.prog W base spare held fuel 22 [u] = some x) : ∃ (a : Option Addr) (l : List (Int × Int)) (cap : Nat), u = .slice a l.length cap ∧ l.length ≤ cap ∧ cap ≤ maxLen ∧ PartsIn W W.heap.size a l := by
  rcases open_slice_fields Try.underlying22 Try.underlying64 (by kernel_rfl) (by kernel_rfl) h with hcs | ⟨A, n, c, hcs, _, hl, hm, hall⟩
  · simp at hcs
    exact ⟨none, [], 0, hcs, by simp, by simp [maxLen], fun k x hx => by simp at hx⟩
  · simp at hcs
    have : ∀ i, i < n → ∃ x : Int × Int, ∃ b o, some A = some (⟨b, o, none⟩ : Addr) ∧ b < W.heap.size ∧ W.cell? ⟨b, o + i * 2, none⟩ = some (I64 x.1) ∧ W.cell? ⟨b, o + i * 2 + 1, none⟩ = some (I64 x.2) := by
      intro i hi
      obtain ⟨m, hf⟩ := hall i hi
      obtain ⟨v0, y0, c0, t0⟩ := hf 0 _ rfl
      obtain ⟨v1, y1, c1, t1⟩ := hf 1 _ rfl
      obtain ⟨z0, e0, _, _⟩ := DataW.trod_int Try.underlying3 t0
      obtain ⟨z1, e1, _, _⟩ := DataW.trod_int Try.underlying3 t1
      simp at e0 e1
      subst e0 e1
      have hsp : A.spot = none := by
        obtain ⟨m, hf⟩ := hall 0 (by omega)
        obtain ⟨v, y, c, _⟩ := hf 0 _ rfl
        exact add_spot (by simpa using c)
      obtain ⟨hlt, k0⟩ := add_flat hsp c0
      obtain ⟨_, k1⟩ := add_flat hsp c1
      exact ⟨(z0, z1), A.block, A.off, by rw [← hsp], hlt, k0, k1⟩
    obtain ⟨l, hll, hq⟩ := list_of n this
    subst hll
    exact ⟨some A, l, c, hcs, hl, hm, hq⟩
theorem cfg_of {H : Type} {enc : TypeId × Value → H} {W : World} {b0 : Nat} {v : Value} {d : DataW H} {p : List MemPlace} {base : Nat} {spare : Nat → Bool} {held : Bool} {r : Reach}
    (hv : Value.okWide Try.prog W r b0 24 v) (h : DataW.Trod enc Try.prog W base spare held 24 v d p) :
    ∃ (w0 p0 : Int) (a : Option Addr) (l : List (Int × Int)) (cap : Nat), v = .agg #[I64 w0, I64 p0, .slice a l.length cap] ∧ l.length ≤ cap ∧ cap ≤ maxLen ∧ PartsIn W W.heap.size a l := by
  obtain ⟨cs, n, rfl, hl, hf⟩ := open_agg_fields Try.underlying24 (by kernel_rfl) (by kernel_rfl) hv h
  obtain ⟨u0, y0, c0, t0⟩ := hf 0 _ rfl
  obtain ⟨u1, y1, c1, t1⟩ := hf 1 _ rfl
  obtain ⟨u2, y2, c2, t2⟩ := hf 2 _ rfl
  obtain ⟨z0, e0, _, _⟩ := DataW.trod_int Try.underlying3 t0
  obtain ⟨z1, e1, _, _⟩ := DataW.trod_int Try.underlying3 t1
  simp at e0 e1
  subst e0 e1
  obtain ⟨a, l, cap, rfl, h1, h2, h3⟩ := parts_of t2
  match cs, hl, c0, c1, c2 with
  | [a0, a1, a2], _, c0, c1, c2 =>
    simp at c0 c1 c2
    subst c0 c1 c2
    exact ⟨z0, z1, a, l, cap, rfl, h1, h2, h3⟩

end Go.Proofs.Ytpeaojkbfllakaa
