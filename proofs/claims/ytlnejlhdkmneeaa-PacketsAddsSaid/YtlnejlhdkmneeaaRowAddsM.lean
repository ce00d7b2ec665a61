/- PacketsAdds returns true for every input. No condition. -/
import Derived.Test.YtlnejlhdkmneeaaWords
import Derived.Test.YtlnejlhdkmneeaaRows
import Derived.ProofKit
import Derived.OpenShut
import Derived.Lib.SmallJoins
import Derived.ChangeOld
import Derived.Below
import Derived.Deep.Slices
import Derived.Deep.Fields
import Derived.ChangeSame
import Derived.Test.YtlnejlhdkmneeaaWalkI
import Derived.Test.YtlnejlhdkmneeaaLawAdds
import Derived.SizedLaws

/- Slices of whole numbers that came in. -/
namespace Go.Proofs.Ytlnejlhdkmneeaa
open Go.RowKit

/-- A slice value below block B whose cells read as these numbers of kind kd. -/
def Reads (w : World) (B : Nat) (kd : IntKind) (A : Option Addr) (xs : List Int) : Prop :=
  ∀ k x, xs[k]? = some x → ∃ b o, A = some ⟨b, o, none⟩ ∧ b < B ∧ w.cell? ⟨b, o + k, none⟩ = some (.int kd x)
theorem Reads.only {S : List Nat} {w w' : World} {B : Nat} {kd : IntKind} {A : Option Addr} {xs : List Int} (h : Reads w B kd A xs) (hb : Only S w w') (hB : B ≤ w.heap.size) (hS : ∀ k, k ∈ S → B ≤ k) : Reads w' B kd A xs := by
  intro k x hx
  obtain ⟨b, o, hA, hlt, hc⟩ := h k x hx
  exact ⟨b, o, hA, hlt, by rw [World.cell?_of_block (w := w) (hb.block b (by omega) (fun hm => by have := hS b hm; omega))]; exact hc⟩
theorem Reads.below {w w' : World} {B : Nat} {kd : IntKind} {A : Option Addr} {xs : List Int} (h : Reads w B kd A xs) (hb : Below B w w') : Reads w' B kd A xs := by
  intro k x hx
  obtain ⟨b, o, hA, hlt, hc⟩ := h k x hx
  exact ⟨b, o, hA, hlt, by rw [hb.cell (by exact hlt)]; exact hc⟩

end Go.Proofs.Ytlnejlhdkmneeaa

/- What the rows of laws share: arguments laid open. -/
namespace Go.Proofs.Ytlnejlhdkmneeaa
open Go.ChangeShapes Go.WideShapes Go.ChangeAt Go.RowKit Go.Joins Go.Deep

theorem own : ownKnob Try.prog.godebug = none := by kernel_rfl
theorem laidOut : laidOutB Try.prog = true := by kernel_rfl

/-- What is known of a slice of integers that came in. -/
def IsRow (k : IntKind) (w : World) (a : Option Addr) (len cap : Nat) (zs : List Int) : Prop :=
  (a = none ∧ len = 0 ∧ cap = 0 ∧ zs = []) ∨
  ∃ x, a = some x ∧ len ≤ cap ∧ cap ≤ maxLen ∧ zs.length = cap ∧ (∀ i, i < zs.length → w.cell? (x.add i) = some (.int k (zs.getD i 0))) ∧ ∀ n ∈ zs, (Lit.int k n).wf = true

theorem wf_u8_bounds {n : Int} (h : (Lit.int .u8 n).wf = true) : 0 ≤ n ∧ n ≤ 255 := by
  simp [Lit.wf, IntKind.min, IntKind.max, IntKind.signed, IntKind.bits] at h
  omega
theorem wf_i64_bounds {n : Int} (h : (Lit.int .i64 n).wf = true) : -9223372036854775808 ≤ n ∧ n ≤ 9223372036854775807 := by
  simp [Lit.wf, IntKind.min, IntKind.max, IntKind.signed, IntKind.bits] at h
  omega

theorem add_flat {a : Addr} {j : Nat} {v : Value} {w : World} (hs : a.spot = none) (h : w.cell? (a.add j) = some v) : a.block < w.heap.size ∧ w.cell? ⟨a.block, a.off + j, none⟩ = some v := by
  have hlt := World.block_lt_of_cell? _ _ h
  obtain ⟨b, off, spot⟩ := a
  dsimp only at hs
  subst hs
  have ea : (⟨b, off, none⟩ : Addr).add j = ⟨b, off + j, none⟩ := by
    unfold Addr.add; split
    · rename_i h0; subst h0; rfl
    · rfl
  rw [ea] at h hlt
  exact ⟨hlt, h⟩
theorem add_spot {a : Addr} {v : Value} {w : World} (h : w.cell? (a.add 0) = some v) : a.spot = none := by
  have hspot := World.cell?_spot h
  simpa [Addr.add] using hspot

/-- A row of bytes as the walks want it. -/
theorem bytes_of_row {w : World} {a : Option Addr} {len cap : Nat} {zs : List Int} (h : IsRow .u8 w a len cap zs) :
    ∃ gs : List Nat, gs.length = len ∧ (∀ x ∈ gs, x ≤ 255) ∧ Reads w w.heap.size .u8 a (gs.map fun (x : Nat) => (x : Int)) := by
  rcases h with ⟨rfl, rfl, rfl, rfl⟩ | ⟨x, rfl, hl, hm, hz, hcell, hwz⟩
  · exact ⟨[], rfl, by simp, fun k x hx => by simp at hx⟩
  · refine ⟨(zs.take len).map Int.toNat, by simp; omega, fun y hy => ?_, fun k y hy => ?_⟩
    · simp only [List.mem_map] at hy
      obtain ⟨z, hz1, rfl⟩ := hy
      have := wf_u8_bounds (hwz z (List.mem_of_mem_take hz1))
      omega
    · simp only [List.map_map, List.getElem?_map, Option.map_eq_some_iff, Function.comp] at hy
      obtain ⟨z, hz1, rfl⟩ := hy
      have hk : k < len := by
        have := (List.getElem?_eq_some_iff.1 hz1).1
        simp at this; omega
      rw [List.getElem?_take, if_pos hk] at hz1
      have hzw := wf_u8_bounds (hwz z (List.mem_of_getElem? hz1))
      have hc := hcell k (by omega)
      have hsp : x.spot = none := add_spot (hcell 0 (by omega))
      have e : zs.getD k 0 = z := by simp [hz1]
      rw [e] at hc
      obtain ⟨hlt, hc2⟩ := add_flat hsp hc
      exact ⟨x.block, x.off, by rw [← hsp], hlt, by rw [hc2, Int.toNat_of_nonneg hzw.1]⟩

/-- A list out of what is known of each place. -/
theorem list_of {α : Type} {Q : Nat → α → Prop} : ∀ n : Nat, (∀ i, i < n → ∃ x, Q i x) → ∃ l : List α, l.length = n ∧ ∀ i x, l[i]? = some x → Q i x
  | 0, _ => ⟨[], rfl, fun i x h => by simp at h⟩
  | n + 1, h => by
    obtain ⟨l, hl, hq⟩ := list_of n fun i hi => h i (by omega)
    obtain ⟨x, hx⟩ := h n (by omega)
    refine ⟨l ++ [x], by simp [hl], fun i y hy => ?_⟩
    rcases Nat.lt_or_ge i n with hlt | hge
    · rw [List.getElem?_append_left (by omega)] at hy; exact hq i y hy
    · have : i = n := by
        have := (List.getElem?_eq_some_iff.1 hy).1
        simp at this; omega
      subst this
      rw [List.getElem?_append_right (by omega), hl] at hy
      simp at hy
      subst hy; exact hx

section
variable {H : Type} {enc : TypeId × Value → H} {P : Program} {w : World} {base : Nat} {spare : Nat → Bool} {held : Bool}
/-- A slice of structs whose fields are one cell each. -/
theorem open_slice_fields {t e : TypeId} {fs : Array Field} {fuel : Nat} {cs : List Value} {x : DataW H × List MemPlace} (ht : P.underlying t = some (.slice e)) (he : P.underlying e = some (.struct fs))
    (hone : oneCellFields P fs = true) (hC : P.cellsOf e = fs.size) (h : DataW.trod enc P w base spare held fuel t cs = some x) :
    (cs = [.slice none 0 0]) ∨
    ∃ (a : Addr) (len cap : Nat), cs = [.slice (some a) len cap] ∧ base ≤ a.block ∧ len ≤ cap ∧ cap ≤ maxLen ∧
      ∀ i, i < len → ∃ n : Nat, ∀ (j : Nat) (f : Field), fs[j]? = some f → ∃ (v : Value) (y : DataW H × List MemPlace), w.cell? (a.add (i * fs.size + j)) = some v ∧ DataW.trod enc P w base spare held n f.type [v] = some y := by
  rcases open_slice ht h with h0 | ⟨a, len, cap, m, n, D, Pl, hcs, hb, hl, hm, hmm, hx, hi⟩
  · exact .inl h0.1
  · refine .inr ⟨a, len, cap, hcs, hb, hl, hm, fun i him => ?_⟩
    obtain ⟨cs', hc, ht'⟩ := hi i (by rw [hmm]; split <;> omega)
    rw [hC] at hc
    obtain ⟨ys, n', hn', hy, hlen, hyl, hf⟩ := DataW.trod_struct he ht'
    obtain ⟨_, hcl, hat⟩ := World.cells?_some hc
    refine ⟨n', fun j f hj => ?_⟩
    obtain ⟨ho, hk⟩ := hone_of hone j f hj
    have hjl : j < fs.size := (Array.getElem?_eq_some_iff.1 hj).1
    have hcell := hat j hjl
    have hv : cs'[j]? = some (cs'[j]'(by omega)) := List.getElem?_eq_getElem (by omega)
    have h1 := hf j f hj
    rw [ho, hk] at h1
    have hone' : (cs'.drop j).take 1 = [cs'[j]'(by omega)] := by
      rw [List.drop_eq_getElem_cons (by omega)]
      rfl
    rw [hone'] at h1
    have hys : ys[j]? = some (ys[j]'(by omega)) := List.getElem?_eq_getElem (by omega)
    refine ⟨_, _, ?_, h1.trans hys⟩
    rw [← Go.Deep.add_add, hcell, hv]

/-- A struct of one-cell fields by value, whatever their number. -/
theorem open_agg_fields {r : Reach} {b0 : Nat} {t : TypeId} {fs : Array Field} {v : Value} {d : DataW H} {p : List MemPlace} (hs : P.underlying t = some (.struct fs)) (hone : oneCellFields P fs = true) (hC : P.cellsOf t = fs.size)
    (hv : Value.okWide P w r b0 t v) (h : DataW.Trod enc P w base spare held t v d p) :
    ∃ (cs : List Value) (n : Nat), v = .agg cs.toArray ∧ cs.length = fs.size ∧ ∀ (j : Nat) (f : Field), fs[j]? = some f → ∃ (u : Value) (y : DataW H × List MemPlace), cs[j]? = some u ∧ DataW.trod enc P w base spare held n f.type [u] = some y := by
  obtain ⟨cs, rfl, hsz⟩ := okWide_struct hs hv
  obtain ⟨l⟩ := cs
  have hl : l.length = fs.size := by simpa [hC] using hsz
  obtain ⟨fuel, hf⟩ := h
  obtain ⟨xs, n, _, hx, _, hlen, hg⟩ := DataW.trod_struct hs hf
  refine ⟨l, n, rfl, hl, fun j f hj => ?_⟩
  obtain ⟨ho, hk⟩ := hone_of hone j f hj
  have hjl : j < fs.size := (Array.getElem?_eq_some_iff.1 hj).1
  have h1 := hg j f hj
  rw [ho, hk] at h1
  have hone' : ((Value.agg ⟨l⟩).cells.toList.drop j).take 1 = [l[j]'(by omega)] := by
    show (l.drop j).take 1 = _
    rw [List.drop_eq_getElem_cons (by omega)]
    rfl
  rw [hone'] at h1
  have hys : xs[j]? = some (xs[j]'(by omega)) := List.getElem?_eq_getElem (by omega)
  exact ⟨l[j]'(by omega), _, List.getElem?_eq_getElem (by omega), h1.trans hys⟩

/-- A struct by value, whatever its fields. -/
theorem open_agg_any {r : Reach} {b0 : Nat} {t : TypeId} {fs : Array Field} {v : Value} {d : DataW H} {p : List MemPlace} (hs : P.underlying t = some (.struct fs))
    (hv : Value.okWide P w r b0 t v) (h : DataW.Trod enc P w base spare held t v d p) :
    ∃ (cs : List Value) (n : Nat), v = .agg cs.toArray ∧ cs.length = P.cellsOf t ∧ ∀ (j : Nat) (f : Field), fs[j]? = some f → ∃ y, DataW.trod enc P w base spare held n f.type ((cs.drop f.offset).take (P.cellsOf f.type)) = some y := by
  obtain ⟨cs, rfl, hsz⟩ := okWide_struct hs hv
  obtain ⟨l⟩ := cs
  have hl : l.length = P.cellsOf t := by simpa using hsz
  obtain ⟨fuel, hf⟩ := h
  obtain ⟨xs, n, _, hx, _, hlen, hg⟩ := DataW.trod_struct hs hf
  refine ⟨l, n, rfl, hl, fun j f hj => ?_⟩
  have hjl : j < fs.size := (Array.getElem?_eq_some_iff.1 hj).1
  have hys : xs[j]? = some (xs[j]'(by omega)) := List.getElem?_eq_getElem (by omega)
  exact ⟨_, (hg j f hj).trans hys⟩
end

end Go.Proofs.Ytlnejlhdkmneeaa

/- Reading a law's arguments: slices of structs, whatever lies in them. -/
namespace Go.Proofs.Ytlnejlhdkmneeaa
open Go.ChangeShapes Go.WideShapes Go.ChangeAt Go.RowKit Go.Joins Go.Deep

theorem fit_u8 {n : Int} (h : (Lit.int .u8 n).wf = true) : 0 ≤ n ∧ n < 256 := by
  simp [Lit.wf, IntKind.min, IntKind.max, IntKind.signed, IntKind.bits] at h; omega
theorem fit_u16 {n : Int} (h : (Lit.int .u16 n).wf = true) : 0 ≤ n ∧ n < 65536 := by
  simp [Lit.wf, IntKind.min, IntKind.max, IntKind.signed, IntKind.bits] at h; omega
theorem fit_u32 {n : Int} (h : (Lit.int .u32 n).wf = true) : 0 ≤ n ∧ n < 4294967296 := by
  simp [Lit.wf, IntKind.min, IntKind.max, IntKind.signed, IntKind.bits] at h; omega
theorem fit_u64 {n : Int} (h : (Lit.int .u64 n).wf = true) : 0 ≤ n ∧ n < 18446744073709551616 := by
  simp [Lit.wf, IntKind.min, IntKind.max, IntKind.signed, IntKind.bits] at h; omega
theorem fit_i64 {n : Int} (h : (Lit.int .i64 n).wf = true) : -9223372036854775808 ≤ n ∧ n < 9223372036854775808 := by
  simp [Lit.wf, IntKind.min, IntKind.max, IntKind.signed, IntKind.bits] at h; omega

/-- The elements of a slice lie in memory, N cells each. -/
def CellsIn {α : Type} (w : World) (A : Option Addr) (N : Nat) (l : List α) (cells : α → List Value) : Prop :=
  ∀ (k : Nat) (r : α), l[k]? = some r → ∃ b o, A = some ⟨b, o, none⟩ ∧ ∀ (j : Nat) (v : Value), (cells r)[j]? = some v → w.cell? ⟨b, o + k * N + j, none⟩ = some v

section
variable {H : Type} {enc : TypeId × Value → H} {W : World} {base : Nat} {held : Bool}
theorem read_fields {spare : Nat → Bool} {t : TypeId} {fs : Array Field} {fuel : Nat} {cs : List Value} {x : DataW H × List MemPlace} (hs : Try.prog.underlying t = some (.struct fs))
    (h : DataW.trod enc Try.prog W base spare held fuel t cs = some x) : ∃ n : Nat, ∀ (j : Nat) (f : Field), fs[j]? = some f → ∃ y, DataW.trod enc Try.prog W base spare held n f.type ((cs.drop f.offset).take (Try.prog.cellsOf f.type)) = some y := by
  obtain ⟨xs, n, _, hx, _, hlen, hg⟩ := DataW.trod_struct hs h
  refine ⟨n, fun j f hj => ?_⟩
  have hjl : j < fs.size := (Array.getElem?_eq_some_iff.1 hj).1
  have hys : xs[j]? = some (xs[j]'(by omega)) := List.getElem?_eq_getElem (by omega)
  exact ⟨_, (hg j f hj).trans hys⟩

/-- A slice of integers inside a struct. -/
theorem read_ints {k : IntKind} {t e : TypeId} {fuel : Nat} {a : Value} {x : DataW H × List MemPlace} (ht : Try.prog.underlying t = some (.slice e)) (he : Try.prog.underlying e = some (.int k)) (hC : Try.prog.cellsOf e = 1)
    (h : DataW.trod enc Try.prog W base (fun _ => true) held fuel t [a] = some x) : ∃ (A : Option Addr) (n c : Nat) (zs : List Int), a = .slice A n c ∧ IsRow k W A n c zs ∧ n ≤ maxLen ∧ n ≤ c := by
  rcases open_ints ht he hC h with ⟨hcs, _⟩ | ⟨x, l, c, zs, hcs, _, hl, hm, hz, _, hcell, hwz⟩
  · simp at hcs
    exact ⟨none, 0, 0, [], hcs, .inl ⟨rfl, rfl, rfl, rfl⟩, by simp [maxLen], Nat.le_refl _⟩
  · simp at hcs
    exact ⟨some x, l, c, zs, hcs, .inr ⟨_, rfl, hl, hm, by simpa using hz, hcell, hwz⟩, Nat.le_trans hl hm, hl⟩

/-- A slice of structs inside a struct. -/
theorem read_structs {α : Type} (cells : α → List Value) (Fit : α → Prop) (N : Nat) (hN : 0 < N) (hlen : ∀ r, (cells r).length = N) {t e : TypeId} {fuel : Nat} {a : Value} {x : DataW H × List MemPlace} (ht : Try.prog.underlying t = some (.slice e)) (hC : Try.prog.cellsOf e = N)
    (hread : ∀ (fuel : Nat) (cs : List Value) (x : DataW H × List MemPlace), cs.length = N → DataW.trod enc Try.prog W base (fun _ => true) held fuel e cs = some x → ∃ r, cs = cells r ∧ Fit r)
    (h : DataW.trod enc Try.prog W base (fun _ => true) held fuel t [a] = some x) :
    ∃ (A : Option Addr) (n c : Nat) (l : List α), a = .slice A n c ∧ l.length = n ∧ n ≤ c ∧ c ≤ maxLen ∧ (∀ x ∈ l, Fit x) ∧ CellsIn W A N l cells ∧ (A = none → n = 0 ∧ c = 0) := by
  rcases open_slice ht h with h0 | ⟨A, n, c, m, k, D, Pl, hcs, _, hl, hm, hmm, hx, hall⟩
  · have h1 : a = .slice none 0 0 := by simpa using h0.1
    exact ⟨none, 0, 0, [], h1, rfl, Nat.le_refl _, by simp [maxLen], by simp, fun k x hx => by simp at hx, fun _ => ⟨rfl, rfl⟩⟩
  · have h1 : a = .slice (some A) n c := by simpa using hcs
    have key : ∀ i, i < n → ∃ x : α, Fit x ∧ ∀ j u, (cells x)[j]? = some u → W.cell? (A.add (i * N + j)) = some u := by
      intro i hi
      obtain ⟨cs', hc, ht'⟩ := hall i (by rw [hmm]; split <;> omega)
      rw [hC] at hc
      obtain ⟨_, hcl, hat⟩ := World.cells?_some hc
      obtain ⟨ch, he, hfit⟩ := hread _ _ _ hcl ht'
      refine ⟨ch, hfit, fun j u hu => ?_⟩
      have hj : j < N := by have := (List.getElem?_eq_some_iff.1 hu).1; rw [hlen] at this; exact this
      have := hat j hj
      rw [he, hu] at this
      rw [← Go.Deep.add_add]
      exact this
    have key2 : ∀ i, i < n → ∃ x : α, Fit x ∧ ∃ b o, some A = some (⟨b, o, none⟩ : Addr) ∧ ∀ (j : Nat) (v : Value), (cells x)[j]? = some v → W.cell? ⟨b, o + i * N + j, none⟩ = some v := by
      intro i hi
      have hsp : A.spot = none := by
        obtain ⟨x, _, hx⟩ := key 0 (by omega)
        exact add_spot (by simpa using hx 0 _ (List.getElem?_eq_getElem (by rw [hlen]; exact hN)))
      obtain ⟨x, hfit, hx⟩ := key i hi
      refine ⟨x, hfit, A.block, A.off, by rw [← hsp], fun j u hu => ?_⟩
      rw [Nat.add_assoc]
      exact (add_flat hsp (hx j u hu)).2
    obtain ⟨l, hll, hq⟩ := list_of n key2
    refine ⟨some A, n, c, l, h1, hll, hl, hm, fun x hx => ?_, fun k x hx => (hq k x hx).2, fun h => by cases h⟩
    obtain ⟨k, hk, e⟩ := List.getElem_of_mem hx
    exact (hq k x (by rw [List.getElem?_eq_getElem hk, e])).1

set_option maxRecDepth 100000 in
/-- A slice of structs as an argument. -/
theorem arg_structs {α : Type} (cells : α → List Value) (Fit : α → Prop) (N : Nat) (hN : 0 < N) (hlen : ∀ r, (cells r).length = N) {t e : TypeId} {b0 : Nat} {v : Value} {d : DataW H} {p : List MemPlace} {r : Reach} (ht : Try.prog.underlying t = some (.slice e)) (hC : Try.prog.cellsOf e = N)
    (hread : ∀ (fuel : Nat) (cs : List Value) (x : DataW H × List MemPlace), cs.length = N → DataW.trod enc Try.prog W base (fun _ => true) held fuel e cs = some x → ∃ r, cs = cells r ∧ Fit r)
    (hv : Value.okWide Try.prog W r b0 t v) (h : DataW.Trod enc Try.prog W base (fun _ => true) held t v d p) :
    ∃ (A : Option Addr) (n c : Nat) (l : List α), v = .slice A n c ∧ l.length = n ∧ n ≤ c ∧ c ≤ maxLen ∧ (∀ x ∈ l, Fit x) ∧ CellsIn W A N l cells ∧ (A = none → n = 0 ∧ c = 0) := by
  obtain ⟨a0, n0, c0, rfl⟩ := okWide_slice ht hv
  obtain ⟨fuel, hf⟩ := h
  exact read_structs cells Fit N hN hlen ht hC hread hf
set_option maxRecDepth 100000 in
/-- A slice of integers as an argument. -/
theorem arg_ints {k : IntKind} {t e : TypeId} {b0 : Nat} {v : Value} {d : DataW H} {p : List MemPlace} {r : Reach} (ht : Try.prog.underlying t = some (.slice e)) (he : Try.prog.underlying e = some (.int k)) (hC : Try.prog.cellsOf e = 1)
    (hv : Value.okWide Try.prog W r b0 t v) (h : DataW.Trod enc Try.prog W base (fun _ => true) held t v d p) :
    ∃ (A : Option Addr) (n c : Nat) (zs : List Int), v = .slice A n c ∧ IsRow k W A n c zs ∧ n ≤ maxLen ∧ n ≤ c := by
  obtain ⟨a0, n0, c0, rfl⟩ := okWide_slice ht hv
  obtain ⟨fuel, hf⟩ := h
  exact read_ints ht he hC hf
end

end Go.Proofs.Ytlnejlhdkmneeaa

/- A packet, a byte, as they come in. -/
namespace Go.Proofs.Ytlnejlhdkmneeaa
open Go.ChangeShapes Go.WideShapes Go.ChangeAt Go.RowKit Go.Joins Go.Deep

theorem wf_u32_bounds {n : Int} (h : (Lit.int .u32 n).wf = true) : 0 ≤ n ∧ n < 4294967296 := by
  simp [Lit.wf, IntKind.min, IntKind.max, IntKind.signed, IntKind.bits] at h
  omega

/-- A row of bytes: what the walks ask. -/
theorem nums_of_u8 {w : World} {a : Option Addr} {len cap : Nat} {zs : List Int} (h : IsRow .u8 w a len cap zs) : ∃ gs : List Nat, gs.length = len ∧ (∀ x ∈ gs, x ≤ 255) ∧ NumsIn w .u8 a gs := by
  rcases h with ⟨rfl, rfl, rfl, rfl⟩ | ⟨x, rfl, hl, hm, hz, hcell, hwz⟩
  · exact ⟨[], rfl, by simp, fun k x hx => by simp at hx⟩
  · refine ⟨(zs.take len).map Int.toNat, by simp; omega, fun y hy => ?_, fun k y hy => ?_⟩
    · simp only [List.mem_map] at hy
      obtain ⟨z, hz1, rfl⟩ := hy
      have := wf_u8_bounds (hwz z (List.mem_of_mem_take hz1))
      omega
    · simp only [List.getElem?_map, Option.map_eq_some_iff] at hy
      obtain ⟨z, hz1, rfl⟩ := hy
      have hk : k < len := by
        have := (List.getElem?_eq_some_iff.1 hz1).1
        simp at this; omega
      rw [List.getElem?_take, if_pos hk] at hz1
      have hzw := wf_u8_bounds (hwz z (List.mem_of_getElem? hz1))
      have hc := hcell k (by omega)
      have hsp : x.spot = none := add_spot (hcell 0 (by omega))
      have e : zs.getD k 0 = z := by simp [hz1]
      rw [e] at hc
      obtain ⟨hlt, hc2⟩ := add_flat hsp hc
      exact ⟨x.block, x.off, by rw [← hsp], by rw [hc2, Int.toNat_of_nonneg hzw.1]⟩

set_option maxRecDepth 100000 in
theorem byte_of {H : Type} {enc : TypeId × Value → H} {W : World} {b0 : Nat} {v : Value} {d : DataW H} {p : List MemPlace} {base : Nat} {held : Bool} {r : Reach}
    (hv : Value.okWide Try.prog W r b0 5 v) (h : DataW.Trod enc Try.prog W base (fun _ => true) held 5 v d p) : ∃ a : Nat, v = .int .u8 (a : Int) ∧ a ≤ 255 := by
  obtain ⟨n, rfl, _, _, hn⟩ := open_int Try.underlying5 hv h
  have := wf_u8_bounds hn
  exact ⟨n.toNat, by rw [Int.toNat_of_nonneg this.1], by omega⟩

theorem cells_packet : Try.prog.cellsOf 30 = 8 := by kernel_rfl

set_option maxRecDepth 100000 in
theorem packet_of {H : Type} {enc : TypeId × Value → H} {W : World} {b0 : Nat} {v : Value} {d : DataW H} {p : List MemPlace} {base : Nat} {held : Bool} {r : Reach}
    (hv : Value.okWide Try.prog W r b0 30 v) (h : DataW.Trod enc Try.prog W base (fun _ => true) held 30 v d p) :
    ∃ pk : Pkt, v = pk.V ∧ pk.Fit ∧ pk.data.length ≤ maxLen ∧ NumsIn W .u8 pk.A pk.data ∧ (pk.A = none → pk.data.length = 0 ∧ pk.cap = 0) ∧ pk.data.length ≤ pk.cap := by
  obtain ⟨cs, k, rfl, hl, hf⟩ := open_agg_any Try.underlying30 hv h
  rw [cells_packet] at hl
  match cs, hl with
  | [a0, a1, a2, a3, a4, a5, a6, a7], _ =>
    obtain ⟨y0, t0⟩ : ∃ y, DataW.trod enc Try.prog W base (fun _ => true) held k 27 (([a0, a1, a2, a3, a4, a5, a6, a7].drop 0).take (Try.prog.cellsOf 27)) = some y := hf 0 _ rfl
    obtain ⟨y1, t1⟩ : ∃ y, DataW.trod enc Try.prog W base (fun _ => true) held k 27 (([a0, a1, a2, a3, a4, a5, a6, a7].drop 1).take (Try.prog.cellsOf 27)) = some y := hf 1 _ rfl
    obtain ⟨y2, t2⟩ : ∃ y, DataW.trod enc Try.prog W base (fun _ => true) held k 3 (([a0, a1, a2, a3, a4, a5, a6, a7].drop 2).take (Try.prog.cellsOf 3)) = some y := hf 2 _ rfl
    obtain ⟨y3, t3⟩ : ∃ y, DataW.trod enc Try.prog W base (fun _ => true) held k 3 (([a0, a1, a2, a3, a4, a5, a6, a7].drop 3).take (Try.prog.cellsOf 3)) = some y := hf 3 _ rfl
    obtain ⟨y4, t4⟩ : ∃ y, DataW.trod enc Try.prog W base (fun _ => true) held k 3 (([a0, a1, a2, a3, a4, a5, a6, a7].drop 4).take (Try.prog.cellsOf 3)) = some y := hf 4 _ rfl
    obtain ⟨y5, t5⟩ : ∃ y, DataW.trod enc Try.prog W base (fun _ => true) held k 3 (([a0, a1, a2, a3, a4, a5, a6, a7].drop 5).take (Try.prog.cellsOf 3)) = some y := hf 5 _ rfl
    obtain ⟨y6, t6⟩ : ∃ y, DataW.trod enc Try.prog W base (fun _ => true) held k 4 (([a0, a1, a2, a3, a4, a5, a6, a7].drop 6).take (Try.prog.cellsOf 4)) = some y := hf 6 _ rfl
    obtain ⟨y7, t7⟩ : ∃ y, DataW.trod enc Try.prog W base (fun _ => true) held k 28 (([a0, a1, a2, a3, a4, a5, a6, a7].drop 7).take (Try.prog.cellsOf 28)) = some y := hf 7 _ rfl
    have s1 : Try.prog.cellsOf 27 = 1 := by kernel_rfl
    have s2 : Try.prog.cellsOf 3 = 1 := by kernel_rfl
    have s5 : Try.prog.cellsOf 4 = 1 := by kernel_rfl
    have s6 : Try.prog.cellsOf 28 = 1 := by kernel_rfl
    simp only [s1, s2, s5, s6, List.drop_succ_cons, List.drop_zero, List.take_succ_cons, List.take_zero] at t0 t1 t2 t3 t4 t5 t6 t7
    obtain ⟨z0, q0, _, f0⟩ := DataW.trod_int Try.underlying27 t0
    obtain ⟨z1, q1, _, f1⟩ := DataW.trod_int Try.underlying27 t1
    obtain ⟨z2, q2, _, _⟩ := DataW.trod_int Try.underlying3 t2
    obtain ⟨z3, q3, _, _⟩ := DataW.trod_int Try.underlying3 t3
    obtain ⟨z4, q4, _, _⟩ := DataW.trod_int Try.underlying3 t4
    obtain ⟨z5, q5, _, _⟩ := DataW.trod_int Try.underlying3 t5
    obtain ⟨z6, q6, _⟩ := DataW.trod_bool Try.underlying4 t6
    have hsl : ∃ A l c zs, a7 = .slice A l c ∧ IsRow .u8 W A l c zs ∧ l ≤ maxLen := by
      rcases open_ints Try.underlying28 Try.underlying5 (by kernel_rfl) t7 with ⟨hcs, _⟩ | ⟨x, l, c, zs, hcs, _, hl, hm, hz, _, hcell, hwz⟩
      · simp at hcs
        exact ⟨none, 0, 0, [], hcs, .inl ⟨rfl, rfl, rfl, rfl⟩, by simp [maxLen]⟩
      · simp at hcs
        exact ⟨some x, l, c, zs, hcs, .inr ⟨_, rfl, hl, hm, by simpa using hz, hcell, hwz⟩, Nat.le_trans hl hm⟩
    obtain ⟨A, l, c, zs, rfl, hr, hm⟩ := hsl
    simp at q0 q1 q2 q3 q4 q5 q6
    subst q0 q1 q2 q3 q4 q5 q6
    obtain ⟨gs, hg, h8, hN⟩ := nums_of_u8 hr
    subst hg
    have g0 := wf_u32_bounds f0
    have g1 := wf_u32_bounds f1
    have hx : (A = none → gs.length = 0 ∧ c = 0) ∧ gs.length ≤ c := by
      rcases hr with ⟨_, h1, h2, _⟩ | ⟨x, h1, h2, _⟩
      · exact ⟨fun _ => ⟨h1, h2⟩, by omega⟩
      · exact ⟨fun h => (by rw [h1] at h; cases h), h2⟩
    exact ⟨⟨z0, z1, z2, z3, z4, z5, z6, A, c, gs⟩, rfl, ⟨g0.1, g0.2, g1.1, g1.2, h8⟩, hm, hN, hx.1, hx.2⟩

end Go.Proofs.Ytlnejlhdkmneeaa

/- PacketsAdds returns true for every input. No condition. -/
namespace Go.Proofs.Ytlnejlhdkmneeaa
open Go.ChangeShapes Go.WideShapes Go.ChangeAt Go.RowKit Go.Joins Go.Deep

section
variable {H : Type} {enc : TypeId × Value → H} {W : World} {base : Nat} {held : Bool}
theorem weightsAll_mem {P : Program} {e : TypeId} : ∀ {l : List (DataW H)} {d : DataW H}, d ∈ l → ∀ y ∈ d.weights P e, y ∈ DataW.weightsAll P e l
  | [], _, h, _, _ => by cases h
  | x :: r, d, h, y, hy => by
    rw [DataW.weightsAll]
    rcases List.mem_cons.1 h with rfl | h
    · exact List.mem_append_left _ hy
    · exact List.mem_append_right _ (weightsAll_mem h y hy)
/-- The size of a slice of integers that is read. -/
theorem ints_sized {k : IntKind} {t e : TypeId} {fuel : Nat} {A : Option Addr} {n c : Nat} {x : DataW H × List MemPlace} (ht : Try.prog.underlying t = some (.slice e)) (he : Try.prog.underlying e = some (.int k)) (hC : Try.prog.cellsOf e = 1) (hB : Try.prog.bytesOf e = 1)
    (h : DataW.trod enc Try.prog W base (fun _ => true) held fuel t [.slice A n c] = some x) (hs : ∀ y ∈ x.1.weights Try.prog t, y ≤ reachBytes) : n ≤ 140737488355328 := by
  rcases open_ints ht he hC h with ⟨hcs, _⟩ | ⟨ad, l, c', zs, hcs, _, hl, hm, hz, hx, _, _⟩
  · simp at hcs
    omega
  · simp at hcs
    obtain ⟨-, rfl, rfl⟩ := hcs
    subst hx
    have h1 := hs (((lits (H := H) k (zs.take n)).length + (lits (H := H) k (zs.drop n)).length) * Try.prog.bytesOf e) (by simp only [DataW.weights, ht]; exact List.mem_cons_self ..)
    rw [hB] at h1
    simp only [if_true] at hz
    have h2 : (lits (H := H) k (zs.take n)).length = n := by simp [lits]; omega
    rw [h2] at h1
    simp only [reachBytes] at h1
    omega
/-- A slice of structs, each known to be of a size. -/
theorem read_structs_sized {α : Type} (cells : α → List Value) (Fit : α → Prop) (N : Nat) (hN : 0 < N) (hlen : ∀ r, (cells r).length = N) {t e : TypeId} {fuel : Nat} {a : Value} {x : DataW H × List MemPlace} (ht : Try.prog.underlying t = some (.slice e)) (hC : Try.prog.cellsOf e = N)
    (hread : ∀ (fuel : Nat) (cs : List Value) (x : DataW H × List MemPlace), cs.length = N → (∀ y ∈ x.1.weights Try.prog e, y ≤ reachBytes) → DataW.trod enc Try.prog W base (fun _ => true) held fuel e cs = some x → ∃ r, cs = cells r ∧ Fit r)
    (h : DataW.trod enc Try.prog W base (fun _ => true) held fuel t [a] = some x) (hs : ∀ y ∈ x.1.weights Try.prog t, y ≤ reachBytes) :
    ∃ (A : Option Addr) (n c : Nat) (l : List α), a = .slice A n c ∧ l.length = n ∧ n ≤ c ∧ c ≤ maxLen ∧ (∀ x ∈ l, Fit x) ∧ CellsIn W A N l cells ∧ (A = none → n = 0 ∧ c = 0) := by
  rcases open_slice ht h with h0 | ⟨A, n, c, m, k, D, Pl, hcs, _, hl, hm, hmm, hx, hall⟩
  · have h1 : a = .slice none 0 0 := by simpa using h0.1
    exact ⟨none, 0, 0, [], h1, rfl, Nat.le_refl _, by simp [maxLen], by simp, fun k x hx => by simp at hx, fun _ => ⟨rfl, rfl⟩⟩
  · have h1 : a = .slice (some A) n c := by simpa using hcs
    have hw : ∀ i, i < n → ∀ y ∈ (D i).weights Try.prog e, y ≤ reachBytes := fun i hi y hy => by
      refine hs y ?_
      rw [hx]
      simp only [DataW.weights, ht]
      refine List.mem_cons_of_mem _ (List.mem_append_left _ (weightsAll_mem (List.mem_map.2 ⟨i, List.mem_range.2 hi, rfl⟩) y hy))
    have key : ∀ i, i < n → ∃ x : α, Fit x ∧ ∀ j u, (cells x)[j]? = some u → W.cell? (A.add (i * N + j)) = some u := by
      intro i hi
      obtain ⟨cs', hc, ht'⟩ := hall i (by rw [hmm]; split <;> omega)
      rw [hC] at hc
      obtain ⟨_, hcl, hat⟩ := World.cells?_some hc
      obtain ⟨ch, he, hfit⟩ := hread _ _ _ hcl (hw i hi) ht'
      refine ⟨ch, hfit, fun j u hu => ?_⟩
      have hj : j < N := by have := (List.getElem?_eq_some_iff.1 hu).1; rw [hlen] at this; exact this
      have := hat j hj
      rw [he, hu] at this
      rw [← Go.Deep.add_add]
      exact this
    have key2 : ∀ i, i < n → ∃ x : α, Fit x ∧ ∃ b o, some A = some (⟨b, o, none⟩ : Addr) ∧ ∀ (j : Nat) (v : Value), (cells x)[j]? = some v → W.cell? ⟨b, o + i * N + j, none⟩ = some v := by
      intro i hi
      have hsp : A.spot = none := by
        obtain ⟨x, _, hx⟩ := key 0 (by omega)
        exact add_spot (by simpa using hx 0 _ (List.getElem?_eq_getElem (by rw [hlen]; exact hN)))
      obtain ⟨x, hfit, hx⟩ := key i hi
      refine ⟨x, hfit, A.block, A.off, by rw [← hsp], fun j u hu => ?_⟩
      rw [Nat.add_assoc]
      exact (add_flat hsp (hx j u hu)).2
    obtain ⟨l, hll, hq⟩ := list_of n key2
    refine ⟨some A, n, c, l, h1, hll, hl, hm, fun x hx => ?_, fun k x hx => (hq k x hx).2, fun h => by cases h⟩
    obtain ⟨k, hk, e⟩ := List.getElem_of_mem hx
    exact (hq k x (by rw [List.getElem?_eq_getElem hk, e])).1

set_option maxRecDepth 100000 in
theorem arr_read (fuel : Nat) (cs : List Value) (x : DataW H × List MemPlace) (hl : cs.length = 9) (hsz : ∀ y ∈ x.1.weights Try.prog arrT, y ≤ reachBytes)
    (h : DataW.trod enc Try.prog W base (fun _ => true) held fuel arrT cs = some x) : ∃ a : Arr, cs = a.cells ∧ a.Fit W := by
  match cs, hl with
  | [a0, a1, a2, a3, a4, a5, a6, a7, a8], _ =>
    have s0 : Try.prog.cellsOf 3 = 1 := by kernel_rfl
    have s1 : Try.prog.cellsOf 27 = 1 := by kernel_rfl
    have s3 : Try.prog.cellsOf 2 = 1 := by kernel_rfl
    have s4 : Try.prog.cellsOf 30 = 8 := by kernel_rfl
    have s5 : Try.prog.cellsOf 4 = 1 := by kernel_rfl
    have s6 : Try.prog.cellsOf 28 = 1 := by kernel_rfl
    obtain ⟨y0, y1, k0, hx, -, t0, t8⟩ := trod_struct2 Try.underlying73 h
    simp only [s0, s1, s3, s4, s5, s6, List.drop_succ_cons, List.drop_zero, List.take_succ_cons, List.take_zero] at t0 t8
    obtain ⟨xs, k1, -, hx1, -, hlen1, hf1⟩ := DataW.trod_struct Try.underlying30 t0
    obtain ⟨b0, b1, b2, b3, b4, b5, b6, b7, rfl⟩ : ∃ b0 b1 b2 b3 b4 b5 b6 b7, xs = [b0, b1, b2, b3, b4, b5, b6, b7] := match xs, hlen1 with
      | [b0, b1, b2, b3, b4, b5, b6, b7], _ => ⟨b0, b1, b2, b3, b4, b5, b6, b7, rfl⟩
    have t1_0 : DataW.trod enc Try.prog W base (fun _ => true) held k1 27 (([a0, a1, a2, a3, a4, a5, a6, a7].drop 0).take (Try.prog.cellsOf 27)) = some b0 := hf1 0 _ rfl
    simp only [s0, s1, s3, s4, s5, s6, List.drop_succ_cons, List.drop_zero, List.take_succ_cons, List.take_zero] at t1_0
    have t1_1 : DataW.trod enc Try.prog W base (fun _ => true) held k1 27 (([a0, a1, a2, a3, a4, a5, a6, a7].drop 1).take (Try.prog.cellsOf 27)) = some b1 := hf1 1 _ rfl
    simp only [s0, s1, s3, s4, s5, s6, List.drop_succ_cons, List.drop_zero, List.take_succ_cons, List.take_zero] at t1_1
    have t1_2 : DataW.trod enc Try.prog W base (fun _ => true) held k1 3 (([a0, a1, a2, a3, a4, a5, a6, a7].drop 2).take (Try.prog.cellsOf 3)) = some b2 := hf1 2 _ rfl
    simp only [s0, s1, s3, s4, s5, s6, List.drop_succ_cons, List.drop_zero, List.take_succ_cons, List.take_zero] at t1_2
    have t1_3 : DataW.trod enc Try.prog W base (fun _ => true) held k1 3 (([a0, a1, a2, a3, a4, a5, a6, a7].drop 3).take (Try.prog.cellsOf 3)) = some b3 := hf1 3 _ rfl
    simp only [s0, s1, s3, s4, s5, s6, List.drop_succ_cons, List.drop_zero, List.take_succ_cons, List.take_zero] at t1_3
    have t1_4 : DataW.trod enc Try.prog W base (fun _ => true) held k1 3 (([a0, a1, a2, a3, a4, a5, a6, a7].drop 4).take (Try.prog.cellsOf 3)) = some b4 := hf1 4 _ rfl
    simp only [s0, s1, s3, s4, s5, s6, List.drop_succ_cons, List.drop_zero, List.take_succ_cons, List.take_zero] at t1_4
    have t1_5 : DataW.trod enc Try.prog W base (fun _ => true) held k1 3 (([a0, a1, a2, a3, a4, a5, a6, a7].drop 5).take (Try.prog.cellsOf 3)) = some b5 := hf1 5 _ rfl
    simp only [s0, s1, s3, s4, s5, s6, List.drop_succ_cons, List.drop_zero, List.take_succ_cons, List.take_zero] at t1_5
    have t1_6 : DataW.trod enc Try.prog W base (fun _ => true) held k1 4 (([a0, a1, a2, a3, a4, a5, a6, a7].drop 6).take (Try.prog.cellsOf 4)) = some b6 := hf1 6 _ rfl
    simp only [s0, s1, s3, s4, s5, s6, List.drop_succ_cons, List.drop_zero, List.take_succ_cons, List.take_zero] at t1_6
    have t1_7 : DataW.trod enc Try.prog W base (fun _ => true) held k1 28 (([a0, a1, a2, a3, a4, a5, a6, a7].drop 7).take (Try.prog.cellsOf 28)) = some b7 := hf1 7 _ rfl
    simp only [s0, s1, s3, s4, s5, s6, List.drop_succ_cons, List.drop_zero, List.take_succ_cons, List.take_zero] at t1_7
    have hw : ∀ y ∈ b7.1.weights Try.prog 28, y ≤ reachBytes := fun y hy => by
      refine hsz y ?_
      rw [hx]
      simp only [DataW.weights, Try.underlying73]
      simp only [DataW.weightsEach, List.map_cons, List.map_nil]
      refine List.mem_append_left _ ?_
      rw [hx1]
      simp only [DataW.weights, Try.underlying30]
      simp only [DataW.weightsEach, List.map_cons, List.map_nil, List.mem_append]
      simp [hy]
    obtain ⟨z0, q0, _, f0⟩ := DataW.trod_int Try.underlying27 t1_0
    simp at q0; subst q0
    obtain ⟨z1, q1, _, f1⟩ := DataW.trod_int Try.underlying27 t1_1
    simp at q1; subst q1
    obtain ⟨z2, q2, _, f2⟩ := DataW.trod_int Try.underlying3 t1_2
    simp at q2; subst q2
    obtain ⟨z3, q3, _, f3⟩ := DataW.trod_int Try.underlying3 t1_3
    simp at q3; subst q3
    obtain ⟨z4, q4, _, f4⟩ := DataW.trod_int Try.underlying3 t1_4
    simp at q4; subst q4
    obtain ⟨z5, q5, _, f5⟩ := DataW.trod_int Try.underlying3 t1_5
    simp at q5; subst q5
    obtain ⟨b6', q6, _⟩ := DataW.trod_bool Try.underlying4 t1_6
    simp at q6; subst q6
    obtain ⟨A7, n7, c7, zs7, rfl, f7⟩ := read_ints Try.underlying28 Try.underlying5 (by kernel_rfl) t1_7
    have hn7 := ints_sized Try.underlying28 Try.underlying5 (by kernel_rfl) (by kernel_rfl) t1_7 hw
    obtain ⟨z8, q8, _, f8⟩ := DataW.trod_int Try.underlying2 t8
    simp at q8; subst q8
    obtain ⟨hr, hm, hc⟩ := f7
    obtain ⟨gs, hg, h8, hN⟩ := nums_of_u8 hr
    subst hg
    refine ⟨⟨⟨z0, z1, z2, z3, z4, z5, b6', A7, c7, gs⟩, z8⟩, rfl, ⟨fit_u32 f0, fit_u32 f1, fit_i64 f2, fit_i64 f4⟩, hN, hn7, ?_, fit_i64 f5⟩
    intro hA
    rcases hr with ⟨_, h1, h2, _⟩ | ⟨x, h1, h2, _⟩
    · exact ⟨h1, h2⟩
    · exact absurd (h1.symm.trans hA) (by simp)
end

set_option maxRecDepth 100000 in
set_option maxHeartbeats 2000000 in
theorem adds_law (A : Option Addr) (n c : Nat) (l : List Arr) (w : World) (hn : l.length = n) (hm : n ≤ maxLen) (hf : ∀ x ∈ l, x.Fit w) (hA : ArrsIn w A l) :
    Calls Try.prog 9 #[.slice A n c] w fun e w' => e = .returned (.bool true) ∧ Only [] w w' := by
  by_cases hbig : 40 < n
  · unfold maxLen at hm
    clear hA hn hf
    go_enter Try.func9, Try.ntmps9
    go_wp2_with fail
    refine (awake_ok _).mono ?_
    rintro e w4 ⟨rfl, ho4⟩
    have H4 := hide ho4
    clear ho4
    go_wp2
    go_ret
    exact ⟨rfl, H4.out⟩
  · exact lawadds A n c l w hn hbig hf hA

set_option maxRecDepth 100000 in
theorem packetsAdds_lifted (os : Os) (started : os.Started) (H : Type) (enc : TypeId × Value → H) :
    ReturnsInHanded {} Try.checked os 9 .any (Rows.packetsAddsSpec.pre6 enc Try.prog Try.f9 Rows.packetsAddsRow.domain false) (Rows.packetsAddsSpec.post enc Try.prog Try.f9 false true false false) := by
  refine returnsInHanded_of_change_sized (C := Try.checked) own started (by kernel_rfl) Try.func9
    (ChangeSpec.witness6 (enc := enc) (C := Try.checked) false ⟨#[], #[.slice none 0 0], []⟩ 8 (by kernel_rfl) (by kernel_rfl) (by kernel_rfl) (by kernel_rfl)) ?_
  intro W base args ds gs before hval0 hW hcnd hwt _
  have hval : ∀ (j : Nat) t v, Try.f9.params[j]? = some t → args[j]? = some v → Value.okWide Try.prog W .any base t v := hval0
  have hW' := hW
  obtain ⟨p, q, hA0, hV, rfl, hfz, hnd⟩ := hW
  have hA : DataW.TrodAll enc Try.prog W 0 (fun _ => true) true Try.f9.params.toList args.toList ds p := hA0
  have hwt2 : (DataW.weightsEach Try.prog (Try.f9.params.toList ++ Rows.packetsAddsSpec.plain.varTypes Try.prog) (ds ++ gs)).all (· ≤ reachBytes) = true := hwt
  rw [Try.params9] at hA hval hwt2
  obtain ⟨v0, vs0, d0, ds0, p0, q0, hargs, rfl, rfl, h0, r0⟩ := trodAll_cons hA
  obtain ⟨rfl, rfl, rfl⟩ := trodAll_nil r0
  obtain rfl : args = #[v0] := by cases args; simp_all
  obtain ⟨rfl, rfl⟩ := trodVars_none hV
  have k0 := h0
  have lt0 : ∀ x ∈ p0, x.block < W.heap.size := by obtain ⟨m, hm⟩ := k0; exact DataW.trod_lt m _ _ _ hm
  have hs0 : ∀ y ∈ d0.weights Try.prog 67, y ≤ reachBytes := fun y hy => by
    have h1 := List.all_eq_true.1 hwt2 y (by
      show y ∈ DataW.weightsEach Try.prog (67 :: _) (d0 :: _)
      rw [DataW.weightsEach]
      exact List.mem_append_left _ hy)
    simpa using h1
  obtain ⟨a0, n0, c0, rfl⟩ := okWide_slice Try.underlying67 (hval 0 67 v0 rfl rfl)
  obtain ⟨fuel, hf0⟩ := h0
  obtain ⟨A, n, c, l, he, hn, hnc, hcm, hfit, hin, -⟩ := read_structs_sized Arr.cells (Arr.Fit W) 9 (by decide) (fun _ => rfl) Try.underlying67 (by kernel_rfl) arr_read hf0 hs0
  rw [he] at hW' ⊢
  clear hA0 hval0
  refine (adds_law A n c l W hn (Nat.le_trans hnc hcm) hfit hin).mono fun e W' ⟨he2, hw⟩ => ?_
  have bel : Below W.heap.size W W' := hw.below (by simp) (Nat.le_refl _)
  subst he2
  rw [he] at k0
  exact ⟨_, rfl, _, _, _, [], _, [], hW', trodAll_mk1 (shut_bool Try.underlying4 _), (trodAll_cons_mk (Below.trod laidOut (by kernel_rfl) (of_decide_eq_true (by kernel_rfl)) k0 bel lt0) trodAll_mk0), rfl, bel.frame _, fun h => by cases h⟩

theorem packetsAdds_holds : Rows.PacketsAddsSaid :=
  OpenClaim.holds_of_wide 9 Try.f9 rfl rfl rfl rfl rfl rfl rfl ⟨rfl, rfl, rfl, rfl, rfl⟩ rfl rfl rfl rfl rfl (by kernel_rfl) Try.func9 (by kernel_rfl)
    (of_decide_eq_true (by kernel_rfl)) (by unfold Func.isWrapper; rw [if_neg (by decide +kernel)]; exact ⟨rfl, rfl⟩)
    (fun os started H enc _ => packetsAdds_lifted os started H enc)

end Go.Proofs.Ytlnejlhdkmneeaa
