/- Reading a law's arguments: slices of structs, whatever lies in them. -/
import Derived.Test.YtabdahojgmbgdaaRowt
namespace Go.Proofs.Ytabdahojgmbgdaa
open Go.ChangeShapes Go.WideShapes Go.ChangeAt Go.RowKit Go.Joins Go.Deep

theorem fit_u8 {n : Int} (h : (Lit.int .u8 n).wf = true) : 0 ≤ n ∧ n < 256 := by
  simp [Lit.wf, IntKind.min, IntKind.max, IntKind.signed, IntKind.bits] at h; omega
theorem fit_u16 {n : Int} (h : (Lit.int .u16 n).wf = true) : 0 ≤ n ∧ n < 65536 := by
  simp [Lit.wf, IntKind.min, IntKind.max, IntKind.signed, IntKind.bits] at h; omega
theorem fit_u32 {n : Int} (h : (Lit.int .u32 n).wf = true) : 0 ≤ n ∧ n < 4294967296 := by
  simp [Lit.wf, IntKind.min, IntKind.max, IntKind.signed, IntKind.bits] at h; omega
theorem fit_u64 {n : Int} (h : (Lit.int .u64 n).wf = true) : 0 ≤ n ∧ n < 18446744073709551616 := by
  simp [Lit.wf, IntKind.min, IntKind.max, IntKind.signed, IntKind.bits] at h; omega
theorem fit_i64 {n : Int} (h : (Lit.int .i64 n).wf = true) : -9223372036854775808 ≤ n ∧ n < 9223372036854775808 := by
  simp [Lit.wf, IntKind.min, IntKind.max, IntKind.signed, IntKind.bits] at h; omega

/-- The elements of a slice lie in memory, N cells each. -/
def CellsIn {α : Type} (w : World) (A : Option Addr) (N : Nat) (l : List α) (cells : α → List Value) : Prop :=
  ∀ (k : Nat) (r : α), l[k]? = some r → ∃ b o, A = some ⟨b, o, none⟩ ∧ ∀ (j : Nat) (v : Value), (cells r)[j]? = some v → w.cell? ⟨b, o + k * N + j, none⟩ = some v

section
variable {H : Type} {enc : TypeId × Value → H} {W : World} {base : Nat} {held : Bool}
theorem read_fields {spare : Nat → Bool} {t : TypeId} {fs : Array Field} {fuel : Nat} {cs : List Value} {x : DataW H × List MemPlace} (hs : Try.prog.underlying t = some (.struct fs))
    (h : DataW.trod enc Try.prog W base spare held fuel t cs = some x) : ∃ n : Nat, ∀ (j : Nat) (f : Field), fs[j]? = some f → ∃ y, DataW.trod enc Try.prog W base spare held n f.type ((cs.drop f.offset).take (Try.prog.cellsOf f.type)) = some y := by
  obtain ⟨xs, n, _, hx, _, hlen, hg⟩ := DataW.trod_struct hs h
  refine ⟨n, fun j f hj => ?_⟩
  have hjl : j < fs.size := (Array.getElem?_eq_some_iff.1 hj).1
  have hys : xs[j]? = some (xs[j]'(by omega)) := List.getElem?_eq_getElem (by omega)
  exact ⟨_, (hg j f hj).trans hys⟩

/-- A slice of integers inside a struct. -/
theorem read_ints {k : IntKind} {t e : TypeId} {fuel : Nat} {a : Value} {x : DataW H × List MemPlace} (ht : Try.prog.underlying t = some (.slice e)) (he : Try.prog.underlying e = some (.int k)) (hC : Try.prog.cellsOf e = 1)
    (h : DataW.trod enc Try.prog W base (fun _ => true) held fuel t [a] = some x) : ∃ (A : Option Addr) (n c : Nat) (zs : List Int), a = .slice A n c ∧ IsRow k W A n c zs ∧ n ≤ maxLen ∧ n ≤ c := by
  rcases open_ints ht he hC h with ⟨hcs, _⟩ | ⟨x, l, c, zs, hcs, _, hl, hm, hz, _, hcell, hwz⟩
  · simp at hcs
    exact ⟨none, 0, 0, [], hcs, .inl ⟨rfl, rfl, rfl, rfl⟩, by simp [maxLen], Nat.le_refl _⟩
  · simp at hcs
    exact ⟨some x, l, c, zs, hcs, .inr ⟨_, rfl, hl, hm, by simpa using hz, hcell, hwz⟩, Nat.le_trans hl hm, hl⟩

/-- A slice of structs inside a struct. -/
theorem read_structs {α : Type} (cells : α → List Value) (Fit : α → Prop) (N : Nat) (hN : 0 < N) (hlen : ∀ r, (cells r).length = N) {t e : TypeId} {fuel : Nat} {a : Value} {x : DataW H × List MemPlace} (ht : Try.prog.underlying t = some (.slice e)) (hC : Try.prog.cellsOf e = N)
    (hread : ∀ (fuel : Nat) (cs : List Value) (x : DataW H × List MemPlace), cs.length = N → DataW.trod enc Try.prog W base (fun _ => true) held fuel e cs = some x → ∃ r, cs = cells r ∧ Fit r)
    (h : DataW.trod enc Try.prog W base (fun _ => true) held fuel t [a] = some x) :
    ∃ (A : Option Addr) (n c : Nat) (l : List α), a = .slice A n c ∧ l.length = n ∧ n ≤ c ∧ c ≤ maxLen ∧ (∀ x ∈ l, Fit x) ∧ CellsIn W A N l cells ∧ (A = none → n = 0 ∧ c = 0) := by
  rcases open_slice ht h with h0 | ⟨A, n, c, m, k, D, Pl, hcs, _, hl, hm, hmm, hx, hall⟩
  · have h1 : a = .slice none 0 0 := by simpa using h0.1
    exact ⟨none, 0, 0, [], h1, rfl, Nat.le_refl _, by simp [maxLen], by simp, fun k x hx => by simp at hx, fun _ => ⟨rfl, rfl⟩⟩
  · have h1 : a = .slice (some A) n c := by simpa using hcs
    have key : ∀ i, i < n → ∃ x : α, Fit x ∧ ∀ j u, (cells x)[j]? = some u → W.cell? (A.add (i * N + j)) = some u := by
      intro i hi
      obtain ⟨cs', hc, ht'⟩ := hall i (by rw [hmm]; split <;> omega)
      rw [hC] at hc
      obtain ⟨_, hcl, hat⟩ := World.cells?_some hc
      obtain ⟨ch, he, hfit⟩ := hread _ _ _ hcl ht'
      refine ⟨ch, hfit, fun j u hu => ?_⟩
      have hj : j < N := by have := (List.getElem?_eq_some_iff.1 hu).1; rw [hlen] at this; exact this
      have := hat j hj
      rw [he, hu] at this
      rw [← Go.Deep.add_add]
      exact this
    have key2 : ∀ i, i < n → ∃ x : α, Fit x ∧ ∃ b o, some A = some (⟨b, o, none⟩ : Addr) ∧ ∀ (j : Nat) (v : Value), (cells x)[j]? = some v → W.cell? ⟨b, o + i * N + j, none⟩ = some v := by
      intro i hi
      have hsp : A.spot = none := by
        obtain ⟨x, _, hx⟩ := key 0 (by omega)
        exact add_spot (by simpa using hx 0 _ (List.getElem?_eq_getElem (by rw [hlen]; exact hN)))
      obtain ⟨x, hfit, hx⟩ := key i hi
      refine ⟨x, hfit, A.block, A.off, by rw [← hsp], fun j u hu => ?_⟩
      rw [Nat.add_assoc]
      exact (add_flat hsp (hx j u hu)).2
    obtain ⟨l, hll, hq⟩ := list_of n key2
    refine ⟨some A, n, c, l, h1, hll, hl, hm, fun x hx => ?_, fun k x hx => (hq k x hx).2, fun h => by cases h⟩
    obtain ⟨k, hk, e⟩ := List.getElem_of_mem hx
    exact (hq k x (by rw [List.getElem?_eq_getElem hk, e])).1

set_option maxRecDepth 100000 in
/-- A slice of structs as an argument. -/
theorem arg_structs {α : Type} (cells : α → List Value) (Fit : α → Prop) (N : Nat) (hN : 0 < N) (hlen : ∀ r, (cells r).length = N) {t e : TypeId} {b0 : Nat} {v : Value} {d : DataW H} {p : List MemPlace} {r : Reach} (ht : Try.prog.underlying t = some (.slice e)) (hC : Try.prog.cellsOf e = N)
    (hread : ∀ (fuel : Nat) (cs : List Value) (x : DataW H × List MemPlace), cs.length = N → DataW.trod enc Try.prog W base (fun _ => true) held fuel e cs = some x → ∃ r, cs = cells r ∧ Fit r)
    (hv : Value.okWide Try.prog W r b0 t v) (h : DataW.Trod enc Try.prog W base (fun _ => true) held t v d p) :
    ∃ (A : Option Addr) (n c : Nat) (l : List α), v = .slice A n c ∧ l.length = n ∧ n ≤ c ∧ c ≤ maxLen ∧ (∀ x ∈ l, Fit x) ∧ CellsIn W A N l cells ∧ (A = none → n = 0 ∧ c = 0) := by
  obtain ⟨a0, n0, c0, rfl⟩ := okWide_slice ht hv
  obtain ⟨fuel, hf⟩ := h
  exact read_structs cells Fit N hN hlen ht hC hread hf
set_option maxRecDepth 100000 in
/-- A slice of integers as an argument. -/
theorem arg_ints {k : IntKind} {t e : TypeId} {b0 : Nat} {v : Value} {d : DataW H} {p : List MemPlace} {r : Reach} (ht : Try.prog.underlying t = some (.slice e)) (he : Try.prog.underlying e = some (.int k)) (hC : Try.prog.cellsOf e = 1)
    (hv : Value.okWide Try.prog W r b0 t v) (h : DataW.Trod enc Try.prog W base (fun _ => true) held t v d p) :
    ∃ (A : Option Addr) (n c : Nat) (zs : List Int), v = .slice A n c ∧ IsRow k W A n c zs ∧ n ≤ maxLen ∧ n ≤ c := by
  obtain ⟨a0, n0, c0, rfl⟩ := okWide_slice ht hv
  obtain ⟨fuel, hf⟩ := h
  exact read_ints ht he hC hf
end

end Go.Proofs.Ytabdahojgmbgdaa
