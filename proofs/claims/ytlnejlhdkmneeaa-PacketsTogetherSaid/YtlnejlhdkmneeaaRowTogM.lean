/- PacketsTogether returns true for every input. No condition. -/
import Derived.Test.YtlnejlhdkmneeaaWords
import Derived.Test.YtlnejlhdkmneeaaRows
import Derived.ProofKit
import Derived.OpenShut
import Derived.Lib.SmallJoins
import Derived.ChangeOld
import Derived.Below
import Derived.Deep.Slices
import Derived.Deep.Fields
import Derived.ChangeSame
import Derived.Test.YtlnejlhdkmneeaaWalkI
import Derived.Test.YtlnejlhdkmneeaaLawTog

/- Slices of whole numbers that came in. -/
namespace Go.Proofs.Ytlnejlhdkmneeaa
open Go.RowKit

/-- A slice value below block B whose cells read as these numbers of kind kd. -/
def Reads (w : World) (B : Nat) (kd : IntKind) (A : Option Addr) (xs : List Int) : Prop :=
  ∀ k x, xs[k]? = some x → ∃ b o, A = some ⟨b, o, none⟩ ∧ b < B ∧ w.cell? ⟨b, o + k, none⟩ = some (.int kd x)
theorem Reads.only {S : List Nat} {w w' : World} {B : Nat} {kd : IntKind} {A : Option Addr} {xs : List Int} (h : Reads w B kd A xs) (hb : Only S w w') (hB : B ≤ w.heap.size) (hS : ∀ k, k ∈ S → B ≤ k) : Reads w' B kd A xs := by
  intro k x hx
  obtain ⟨b, o, hA, hlt, hc⟩ := h k x hx
  exact ⟨b, o, hA, hlt, by rw [World.cell?_of_block (w := w) (hb.block b (by omega) (fun hm => by have := hS b hm; omega))]; exact hc⟩
theorem Reads.below {w w' : World} {B : Nat} {kd : IntKind} {A : Option Addr} {xs : List Int} (h : Reads w B kd A xs) (hb : Below B w w') : Reads w' B kd A xs := by
  intro k x hx
  obtain ⟨b, o, hA, hlt, hc⟩ := h k x hx
  exact ⟨b, o, hA, hlt, by rw [hb.cell (by exact hlt)]; exact hc⟩

end Go.Proofs.Ytlnejlhdkmneeaa

/- What the rows of laws share: arguments laid open. -/
namespace Go.Proofs.Ytlnejlhdkmneeaa
open Go.ChangeShapes Go.WideShapes Go.ChangeAt Go.RowKit Go.Joins Go.Deep

theorem own : ownKnob Try.prog.godebug = none := by kernel_rfl
theorem laidOut : laidOutB Try.prog = true := by kernel_rfl

/-- What is known of a slice of integers that came in. -/
def IsRow (k : IntKind) (w : World) (a : Option Addr) (len cap : Nat) (zs : List Int) : Prop :=
  (a = none ∧ len = 0 ∧ cap = 0 ∧ zs = []) ∨
  ∃ x, a = some x ∧ len ≤ cap ∧ cap ≤ maxLen ∧ zs.length = cap ∧ (∀ i, i < zs.length → w.cell? (x.add i) = some (.int k (zs.getD i 0))) ∧ ∀ n ∈ zs, (Lit.int k n).wf = true

theorem wf_u8_bounds {n : Int} (h : (Lit.int .u8 n).wf = true) : 0 ≤ n ∧ n ≤ 255 := by
  simp [Lit.wf, IntKind.min, IntKind.max, IntKind.signed, IntKind.bits] at h
  omega
theorem wf_i64_bounds {n : Int} (h : (Lit.int .i64 n).wf = true) : -9223372036854775808 ≤ n ∧ n ≤ 9223372036854775807 := by
  simp [Lit.wf, IntKind.min, IntKind.max, IntKind.signed, IntKind.bits] at h
  omega

theorem add_flat {a : Addr} {j : Nat} {v : Value} {w : World} (hs : a.spot = none) (h : w.cell? (a.add j) = some v) : a.block < w.heap.size ∧ w.cell? ⟨a.block, a.off + j, none⟩ = some v := by
  have hlt := World.block_lt_of_cell? _ _ h
  obtain ⟨b, off, spot⟩ := a
  dsimp only at hs
  subst hs
  have ea : (⟨b, off, none⟩ : Addr).add j = ⟨b, off + j, none⟩ := by
    unfold Addr.add; split
    · rename_i h0; subst h0; rfl
    · rfl
  rw [ea] at h hlt
  exact ⟨hlt, h⟩
theorem add_spot {a : Addr} {v : Value} {w : World} (h : w.cell? (a.add 0) = some v) : a.spot = none := by
  have hspot := World.cell?_spot h
  simpa [Addr.add] using hspot

/-- A row of bytes as the walks want it. -/
theorem bytes_of_row {w : World} {a : Option Addr} {len cap : Nat} {zs : List Int} (h : IsRow .u8 w a len cap zs) :
    ∃ gs : List Nat, gs.length = len ∧ (∀ x ∈ gs, x ≤ 255) ∧ Reads w w.heap.size .u8 a (gs.map fun (x : Nat) => (x : Int)) := by
  rcases h with ⟨rfl, rfl, rfl, rfl⟩ | ⟨x, rfl, hl, hm, hz, hcell, hwz⟩
  · exact ⟨[], rfl, by simp, fun k x hx => by simp at hx⟩
  · refine ⟨(zs.take len).map Int.toNat, by simp; omega, fun y hy => ?_, fun k y hy => ?_⟩
    · simp only [List.mem_map] at hy
      obtain ⟨z, hz1, rfl⟩ := hy
      have := wf_u8_bounds (hwz z (List.mem_of_mem_take hz1))
      omega
    · simp only [List.map_map, List.getElem?_map, Option.map_eq_some_iff, Function.comp] at hy
      obtain ⟨z, hz1, rfl⟩ := hy
      have hk : k < len := by
        have := (List.getElem?_eq_some_iff.1 hz1).1
        simp at this; omega
      rw [List.getElem?_take, if_pos hk] at hz1
      have hzw := wf_u8_bounds (hwz z (List.mem_of_getElem? hz1))
      have hc := hcell k (by omega)
      have hsp : x.spot = none := add_spot (hcell 0 (by omega))
      have e : zs.getD k 0 = z := by simp [hz1]
      rw [e] at hc
      obtain ⟨hlt, hc2⟩ := add_flat hsp hc
      exact ⟨x.block, x.off, by rw [← hsp], hlt, by rw [hc2, Int.toNat_of_nonneg hzw.1]⟩

/-- A list out of what is known of each place. -/
theorem list_of {α : Type} {Q : Nat → α → Prop} : ∀ n : Nat, (∀ i, i < n → ∃ x, Q i x) → ∃ l : List α, l.length = n ∧ ∀ i x, l[i]? = some x → Q i x
  | 0, _ => ⟨[], rfl, fun i x h => by simp at h⟩
  | n + 1, h => by
    obtain ⟨l, hl, hq⟩ := list_of n fun i hi => h i (by omega)
    obtain ⟨x, hx⟩ := h n (by omega)
    refine ⟨l ++ [x], by simp [hl], fun i y hy => ?_⟩
    rcases Nat.lt_or_ge i n with hlt | hge
    · rw [List.getElem?_append_left (by omega)] at hy; exact hq i y hy
    · have : i = n := by
        have := (List.getElem?_eq_some_iff.1 hy).1
        simp at this; omega
      subst this
      rw [List.getElem?_append_right (by omega), hl] at hy
      simp at hy
      subst hy; exact hx

section
variable {H : Type} {enc : TypeId × Value → H} {P : Program} {w : World} {base : Nat} {spare : Nat → Bool} {held : Bool}
/-- A slice of structs whose fields are one cell each. -/
theorem open_slice_fields {t e : TypeId} {fs : Array Field} {fuel : Nat} {cs : List Value} {x : DataW H × List MemPlace} (ht : P.underlying t = some (.slice e)) (he : P.underlying e = some (.struct fs))
    (hone : oneCellFields P fs = true) (hC : P.cellsOf e = fs.size) (h : DataW.trod enc P w base spare held fuel t cs = some x) :
    (cs = [.slice none 0 0]) ∨
    ∃ (a : Addr) (len cap : Nat), cs = [.slice (some a) len cap] ∧ base ≤ a.block ∧ len ≤ cap ∧ cap ≤ maxLen ∧
      ∀ i, i < len → ∃ n : Nat, ∀ (j : Nat) (f : Field), fs[j]? = some f → ∃ (v : Value) (y : DataW H × List MemPlace), w.cell? (a.add (i * fs.size + j)) = some v ∧ DataW.trod enc P w base spare held n f.type [v] = some y := by
  rcases open_slice ht h with h0 | ⟨a, len, cap, m, n, D, Pl, hcs, hb, hl, hm, hmm, hx, hi⟩
  · exact .inl h0.1
  · refine .inr ⟨a, len, cap, hcs, hb, hl, hm, fun i him => ?_⟩
    obtain ⟨cs', hc, ht'⟩ := hi i (by rw [hmm]; split <;> omega)
    rw [hC] at hc
    obtain ⟨ys, n', hn', hy, hlen, hyl, hf⟩ := DataW.trod_struct he ht'
    obtain ⟨_, hcl, hat⟩ := World.cells?_some hc
    refine ⟨n', fun j f hj => ?_⟩
    obtain ⟨ho, hk⟩ := hone_of hone j f hj
    have hjl : j < fs.size := (Array.getElem?_eq_some_iff.1 hj).1
    have hcell := hat j hjl
    have hv : cs'[j]? = some (cs'[j]'(by omega)) := List.getElem?_eq_getElem (by omega)
    have h1 := hf j f hj
    rw [ho, hk] at h1
    have hone' : (cs'.drop j).take 1 = [cs'[j]'(by omega)] := by
      rw [List.drop_eq_getElem_cons (by omega)]
      rfl
    rw [hone'] at h1
    have hys : ys[j]? = some (ys[j]'(by omega)) := List.getElem?_eq_getElem (by omega)
    refine ⟨_, _, ?_, h1.trans hys⟩
    rw [← Go.Deep.add_add, hcell, hv]

/-- A struct of one-cell fields by value, whatever their number. -/
theorem open_agg_fields {r : Reach} {b0 : Nat} {t : TypeId} {fs : Array Field} {v : Value} {d : DataW H} {p : List MemPlace} (hs : P.underlying t = some (.struct fs)) (hone : oneCellFields P fs = true) (hC : P.cellsOf t = fs.size)
    (hv : Value.okWide P w r b0 t v) (h : DataW.Trod enc P w base spare held t v d p) :
    ∃ (cs : List Value) (n : Nat), v = .agg cs.toArray ∧ cs.length = fs.size ∧ ∀ (j : Nat) (f : Field), fs[j]? = some f → ∃ (u : Value) (y : DataW H × List MemPlace), cs[j]? = some u ∧ DataW.trod enc P w base spare held n f.type [u] = some y := by
  obtain ⟨cs, rfl, hsz⟩ := okWide_struct hs hv
  obtain ⟨l⟩ := cs
  have hl : l.length = fs.size := by simpa [hC] using hsz
  obtain ⟨fuel, hf⟩ := h
  obtain ⟨xs, n, _, hx, _, hlen, hg⟩ := DataW.trod_struct hs hf
  refine ⟨l, n, rfl, hl, fun j f hj => ?_⟩
  obtain ⟨ho, hk⟩ := hone_of hone j f hj
  have hjl : j < fs.size := (Array.getElem?_eq_some_iff.1 hj).1
  have h1 := hg j f hj
  rw [ho, hk] at h1
  have hone' : ((Value.agg ⟨l⟩).cells.toList.drop j).take 1 = [l[j]'(by omega)] := by
    show (l.drop j).take 1 = _
    rw [List.drop_eq_getElem_cons (by omega)]
    rfl
  rw [hone'] at h1
  have hys : xs[j]? = some (xs[j]'(by omega)) := List.getElem?_eq_getElem (by omega)
  exact ⟨l[j]'(by omega), _, List.getElem?_eq_getElem (by omega), h1.trans hys⟩

/-- A struct by value, whatever its fields. -/
theorem open_agg_any {r : Reach} {b0 : Nat} {t : TypeId} {fs : Array Field} {v : Value} {d : DataW H} {p : List MemPlace} (hs : P.underlying t = some (.struct fs))
    (hv : Value.okWide P w r b0 t v) (h : DataW.Trod enc P w base spare held t v d p) :
    ∃ (cs : List Value) (n : Nat), v = .agg cs.toArray ∧ cs.length = P.cellsOf t ∧ ∀ (j : Nat) (f : Field), fs[j]? = some f → ∃ y, DataW.trod enc P w base spare held n f.type ((cs.drop f.offset).take (P.cellsOf f.type)) = some y := by
  obtain ⟨cs, rfl, hsz⟩ := okWide_struct hs hv
  obtain ⟨l⟩ := cs
  have hl : l.length = P.cellsOf t := by simpa using hsz
  obtain ⟨fuel, hf⟩ := h
  obtain ⟨xs, n, _, hx, _, hlen, hg⟩ := DataW.trod_struct hs hf
  refine ⟨l, n, rfl, hl, fun j f hj => ?_⟩
  have hjl : j < fs.size := (Array.getElem?_eq_some_iff.1 hj).1
  have hys : xs[j]? = some (xs[j]'(by omega)) := List.getElem?_eq_getElem (by omega)
  exact ⟨_, (hg j f hj).trans hys⟩
end

end Go.Proofs.Ytlnejlhdkmneeaa

/- Reading a law's arguments: slices of structs, whatever lies in them. -/
namespace Go.Proofs.Ytlnejlhdkmneeaa
open Go.ChangeShapes Go.WideShapes Go.ChangeAt Go.RowKit Go.Joins Go.Deep

theorem fit_u8 {n : Int} (h : (Lit.int .u8 n).wf = true) : 0 ≤ n ∧ n < 256 := by
  simp [Lit.wf, IntKind.min, IntKind.max, IntKind.signed, IntKind.bits] at h; omega
theorem fit_u16 {n : Int} (h : (Lit.int .u16 n).wf = true) : 0 ≤ n ∧ n < 65536 := by
  simp [Lit.wf, IntKind.min, IntKind.max, IntKind.signed, IntKind.bits] at h; omega
theorem fit_u32 {n : Int} (h : (Lit.int .u32 n).wf = true) : 0 ≤ n ∧ n < 4294967296 := by
  simp [Lit.wf, IntKind.min, IntKind.max, IntKind.signed, IntKind.bits] at h; omega
theorem fit_u64 {n : Int} (h : (Lit.int .u64 n).wf = true) : 0 ≤ n ∧ n < 18446744073709551616 := by
  simp [Lit.wf, IntKind.min, IntKind.max, IntKind.signed, IntKind.bits] at h; omega
theorem fit_i64 {n : Int} (h : (Lit.int .i64 n).wf = true) : -9223372036854775808 ≤ n ∧ n < 9223372036854775808 := by
  simp [Lit.wf, IntKind.min, IntKind.max, IntKind.signed, IntKind.bits] at h; omega

/-- The elements of a slice lie in memory, N cells each. -/
def CellsIn {α : Type} (w : World) (A : Option Addr) (N : Nat) (l : List α) (cells : α → List Value) : Prop :=
  ∀ (k : Nat) (r : α), l[k]? = some r → ∃ b o, A = some ⟨b, o, none⟩ ∧ ∀ (j : Nat) (v : Value), (cells r)[j]? = some v → w.cell? ⟨b, o + k * N + j, none⟩ = some v

section
variable {H : Type} {enc : TypeId × Value → H} {W : World} {base : Nat} {held : Bool}
theorem read_fields {spare : Nat → Bool} {t : TypeId} {fs : Array Field} {fuel : Nat} {cs : List Value} {x : DataW H × List MemPlace} (hs : Try.prog.underlying t = some (.struct fs))
    (h : DataW.trod enc Try.prog W base spare held fuel t cs = some x) : ∃ n : Nat, ∀ (j : Nat) (f : Field), fs[j]? = some f → ∃ y, DataW.trod enc Try.prog W base spare held n f.type ((cs.drop f.offset).take (Try.prog.cellsOf f.type)) = some y := by
  obtain ⟨xs, n, _, hx, _, hlen, hg⟩ := DataW.trod_struct hs h
  refine ⟨n, fun j f hj => ?_⟩
  have hjl : j < fs.size := (Array.getElem?_eq_some_iff.1 hj).1
  have hys : xs[j]? = some (xs[j]'(by omega)) := List.getElem?_eq_getElem (by omega)
  exact ⟨_, (hg j f hj).trans hys⟩

/-- A slice of integers inside a struct. -/
theorem read_ints {k : IntKind} {t e : TypeId} {fuel : Nat} {a : Value} {x : DataW H × List MemPlace} (ht : Try.prog.underlying t = some (.slice e)) (he : Try.prog.underlying e = some (.int k)) (hC : Try.prog.cellsOf e = 1)
    (h : DataW.trod enc Try.prog W base (fun _ => true) held fuel t [a] = some x) : ∃ (A : Option Addr) (n c : Nat) (zs : List Int), a = .slice A n c ∧ IsRow k W A n c zs ∧ n ≤ maxLen ∧ n ≤ c := by
  rcases open_ints ht he hC h with ⟨hcs, _⟩ | ⟨x, l, c, zs, hcs, _, hl, hm, hz, _, hcell, hwz⟩
  · simp at hcs
    exact ⟨none, 0, 0, [], hcs, .inl ⟨rfl, rfl, rfl, rfl⟩, by simp [maxLen], Nat.le_refl _⟩
  · simp at hcs
    exact ⟨some x, l, c, zs, hcs, .inr ⟨_, rfl, hl, hm, by simpa using hz, hcell, hwz⟩, Nat.le_trans hl hm, hl⟩

/-- A slice of structs inside a struct. -/
theorem read_structs {α : Type} (cells : α → List Value) (Fit : α → Prop) (N : Nat) (hN : 0 < N) (hlen : ∀ r, (cells r).length = N) {t e : TypeId} {fuel : Nat} {a : Value} {x : DataW H × List MemPlace} (ht : Try.prog.underlying t = some (.slice e)) (hC : Try.prog.cellsOf e = N)
    (hread : ∀ (fuel : Nat) (cs : List Value) (x : DataW H × List MemPlace), cs.length = N → DataW.trod enc Try.prog W base (fun _ => true) held fuel e cs = some x → ∃ r, cs = cells r ∧ Fit r)
    (h : DataW.trod enc Try.prog W base (fun _ => true) held fuel t [a] = some x) :
    ∃ (A : Option Addr) (n c : Nat) (l : List α), a = .slice A n c ∧ l.length = n ∧ n ≤ c ∧ c ≤ maxLen ∧ (∀ x ∈ l, Fit x) ∧ CellsIn W A N l cells ∧ (A = none → n = 0 ∧ c = 0) := by
  rcases open_slice ht h with h0 | ⟨A, n, c, m, k, D, Pl, hcs, _, hl, hm, hmm, hx, hall⟩
  · have h1 : a = .slice none 0 0 := by simpa using h0.1
    exact ⟨none, 0, 0, [], h1, rfl, Nat.le_refl _, by simp [maxLen], by simp, fun k x hx => by simp at hx, fun _ => ⟨rfl, rfl⟩⟩
  · have h1 : a = .slice (some A) n c := by simpa using hcs
    have key : ∀ i, i < n → ∃ x : α, Fit x ∧ ∀ j u, (cells x)[j]? = some u → W.cell? (A.add (i * N + j)) = some u := by
      intro i hi
      obtain ⟨cs', hc, ht'⟩ := hall i (by rw [hmm]; split <;> omega)
      rw [hC] at hc
      obtain ⟨_, hcl, hat⟩ := World.cells?_some hc
      obtain ⟨ch, he, hfit⟩ := hread _ _ _ hcl ht'
      refine ⟨ch, hfit, fun j u hu => ?_⟩
      have hj : j < N := by have := (List.getElem?_eq_some_iff.1 hu).1; rw [hlen] at this; exact this
      have := hat j hj
      rw [he, hu] at this
      rw [← Go.Deep.add_add]
      exact this
    have key2 : ∀ i, i < n → ∃ x : α, Fit x ∧ ∃ b o, some A = some (⟨b, o, none⟩ : Addr) ∧ ∀ (j : Nat) (v : Value), (cells x)[j]? = some v → W.cell? ⟨b, o + i * N + j, none⟩ = some v := by
      intro i hi
      have hsp : A.spot = none := by
        obtain ⟨x, _, hx⟩ := key 0 (by omega)
        exact add_spot (by simpa using hx 0 _ (List.getElem?_eq_getElem (by rw [hlen]; exact hN)))
      obtain ⟨x, hfit, hx⟩ := key i hi
      refine ⟨x, hfit, A.block, A.off, by rw [← hsp], fun j u hu => ?_⟩
      rw [Nat.add_assoc]
      exact (add_flat hsp (hx j u hu)).2
    obtain ⟨l, hll, hq⟩ := list_of n key2
    refine ⟨some A, n, c, l, h1, hll, hl, hm, fun x hx => ?_, fun k x hx => (hq k x hx).2, fun h => by cases h⟩
    obtain ⟨k, hk, e⟩ := List.getElem_of_mem hx
    exact (hq k x (by rw [List.getElem?_eq_getElem hk, e])).1

set_option maxRecDepth 100000 in
/-- A slice of structs as an argument. -/
theorem arg_structs {α : Type} (cells : α → List Value) (Fit : α → Prop) (N : Nat) (hN : 0 < N) (hlen : ∀ r, (cells r).length = N) {t e : TypeId} {b0 : Nat} {v : Value} {d : DataW H} {p : List MemPlace} {r : Reach} (ht : Try.prog.underlying t = some (.slice e)) (hC : Try.prog.cellsOf e = N)
    (hread : ∀ (fuel : Nat) (cs : List Value) (x : DataW H × List MemPlace), cs.length = N → DataW.trod enc Try.prog W base (fun _ => true) held fuel e cs = some x → ∃ r, cs = cells r ∧ Fit r)
    (hv : Value.okWide Try.prog W r b0 t v) (h : DataW.Trod enc Try.prog W base (fun _ => true) held t v d p) :
    ∃ (A : Option Addr) (n c : Nat) (l : List α), v = .slice A n c ∧ l.length = n ∧ n ≤ c ∧ c ≤ maxLen ∧ (∀ x ∈ l, Fit x) ∧ CellsIn W A N l cells ∧ (A = none → n = 0 ∧ c = 0) := by
  obtain ⟨a0, n0, c0, rfl⟩ := okWide_slice ht hv
  obtain ⟨fuel, hf⟩ := h
  exact read_structs cells Fit N hN hlen ht hC hread hf
set_option maxRecDepth 100000 in
/-- A slice of integers as an argument. -/
theorem arg_ints {k : IntKind} {t e : TypeId} {b0 : Nat} {v : Value} {d : DataW H} {p : List MemPlace} {r : Reach} (ht : Try.prog.underlying t = some (.slice e)) (he : Try.prog.underlying e = some (.int k)) (hC : Try.prog.cellsOf e = 1)
    (hv : Value.okWide Try.prog W r b0 t v) (h : DataW.Trod enc Try.prog W base (fun _ => true) held t v d p) :
    ∃ (A : Option Addr) (n c : Nat) (zs : List Int), v = .slice A n c ∧ IsRow k W A n c zs ∧ n ≤ maxLen ∧ n ≤ c := by
  obtain ⟨a0, n0, c0, rfl⟩ := okWide_slice ht hv
  obtain ⟨fuel, hf⟩ := h
  exact read_ints ht he hC hf
end

end Go.Proofs.Ytlnejlhdkmneeaa

/- A packet, a byte, as they come in. -/
namespace Go.Proofs.Ytlnejlhdkmneeaa
open Go.ChangeShapes Go.WideShapes Go.ChangeAt Go.RowKit Go.Joins Go.Deep

theorem wf_u32_bounds {n : Int} (h : (Lit.int .u32 n).wf = true) : 0 ≤ n ∧ n < 4294967296 := by
  simp [Lit.wf, IntKind.min, IntKind.max, IntKind.signed, IntKind.bits] at h
  omega

/-- A row of bytes: what the walks ask. -/
theorem nums_of_u8 {w : World} {a : Option Addr} {len cap : Nat} {zs : List Int} (h : IsRow .u8 w a len cap zs) : ∃ gs : List Nat, gs.length = len ∧ (∀ x ∈ gs, x ≤ 255) ∧ NumsIn w .u8 a gs := by
  rcases h with ⟨rfl, rfl, rfl, rfl⟩ | ⟨x, rfl, hl, hm, hz, hcell, hwz⟩
  · exact ⟨[], rfl, by simp, fun k x hx => by simp at hx⟩
  · refine ⟨(zs.take len).map Int.toNat, by simp; omega, fun y hy => ?_, fun k y hy => ?_⟩
    · simp only [List.mem_map] at hy
      obtain ⟨z, hz1, rfl⟩ := hy
      have := wf_u8_bounds (hwz z (List.mem_of_mem_take hz1))
      omega
    · simp only [List.getElem?_map, Option.map_eq_some_iff] at hy
      obtain ⟨z, hz1, rfl⟩ := hy
      have hk : k < len := by
        have := (List.getElem?_eq_some_iff.1 hz1).1
        simp at this; omega
      rw [List.getElem?_take, if_pos hk] at hz1
      have hzw := wf_u8_bounds (hwz z (List.mem_of_getElem? hz1))
      have hc := hcell k (by omega)
      have hsp : x.spot = none := add_spot (hcell 0 (by omega))
      have e : zs.getD k 0 = z := by simp [hz1]
      rw [e] at hc
      obtain ⟨hlt, hc2⟩ := add_flat hsp hc
      exact ⟨x.block, x.off, by rw [← hsp], by rw [hc2, Int.toNat_of_nonneg hzw.1]⟩

set_option maxRecDepth 100000 in
theorem byte_of {H : Type} {enc : TypeId × Value → H} {W : World} {b0 : Nat} {v : Value} {d : DataW H} {p : List MemPlace} {base : Nat} {held : Bool} {r : Reach}
    (hv : Value.okWide Try.prog W r b0 5 v) (h : DataW.Trod enc Try.prog W base (fun _ => true) held 5 v d p) : ∃ a : Nat, v = .int .u8 (a : Int) ∧ a ≤ 255 := by
  obtain ⟨n, rfl, _, _, hn⟩ := open_int Try.underlying5 hv h
  have := wf_u8_bounds hn
  exact ⟨n.toNat, by rw [Int.toNat_of_nonneg this.1], by omega⟩

theorem cells_packet : Try.prog.cellsOf 30 = 8 := by kernel_rfl

set_option maxRecDepth 100000 in
theorem packet_of {H : Type} {enc : TypeId × Value → H} {W : World} {b0 : Nat} {v : Value} {d : DataW H} {p : List MemPlace} {base : Nat} {held : Bool} {r : Reach}
    (hv : Value.okWide Try.prog W r b0 30 v) (h : DataW.Trod enc Try.prog W base (fun _ => true) held 30 v d p) :
    ∃ pk : Pkt, v = pk.V ∧ pk.Fit ∧ pk.data.length ≤ maxLen ∧ NumsIn W .u8 pk.A pk.data ∧ (pk.A = none → pk.data.length = 0 ∧ pk.cap = 0) ∧ pk.data.length ≤ pk.cap := by
  obtain ⟨cs, k, rfl, hl, hf⟩ := open_agg_any Try.underlying30 hv h
  rw [cells_packet] at hl
  match cs, hl with
  | [a0, a1, a2, a3, a4, a5, a6, a7], _ =>
    obtain ⟨y0, t0⟩ : ∃ y, DataW.trod enc Try.prog W base (fun _ => true) held k 27 (([a0, a1, a2, a3, a4, a5, a6, a7].drop 0).take (Try.prog.cellsOf 27)) = some y := hf 0 _ rfl
    obtain ⟨y1, t1⟩ : ∃ y, DataW.trod enc Try.prog W base (fun _ => true) held k 27 (([a0, a1, a2, a3, a4, a5, a6, a7].drop 1).take (Try.prog.cellsOf 27)) = some y := hf 1 _ rfl
    obtain ⟨y2, t2⟩ : ∃ y, DataW.trod enc Try.prog W base (fun _ => true) held k 3 (([a0, a1, a2, a3, a4, a5, a6, a7].drop 2).take (Try.prog.cellsOf 3)) = some y := hf 2 _ rfl
    obtain ⟨y3, t3⟩ : ∃ y, DataW.trod enc Try.prog W base (fun _ => true) held k 3 (([a0, a1, a2, a3, a4, a5, a6, a7].drop 3).take (Try.prog.cellsOf 3)) = some y := hf 3 _ rfl
    obtain ⟨y4, t4⟩ : ∃ y, DataW.trod enc Try.prog W base (fun _ => true) held k 3 (([a0, a1, a2, a3, a4, a5, a6, a7].drop 4).take (Try.prog.cellsOf 3)) = some y := hf 4 _ rfl
    obtain ⟨y5, t5⟩ : ∃ y, DataW.trod enc Try.prog W base (fun _ => true) held k 3 (([a0, a1, a2, a3, a4, a5, a6, a7].drop 5).take (Try.prog.cellsOf 3)) = some y := hf 5 _ rfl
    obtain ⟨y6, t6⟩ : ∃ y, DataW.trod enc Try.prog W base (fun _ => true) held k 4 (([a0, a1, a2, a3, a4, a5, a6, a7].drop 6).take (Try.prog.cellsOf 4)) = some y := hf 6 _ rfl
    obtain ⟨y7, t7⟩ : ∃ y, DataW.trod enc Try.prog W base (fun _ => true) held k 28 (([a0, a1, a2, a3, a4, a5, a6, a7].drop 7).take (Try.prog.cellsOf 28)) = some y := hf 7 _ rfl
    have s1 : Try.prog.cellsOf 27 = 1 := by kernel_rfl
    have s2 : Try.prog.cellsOf 3 = 1 := by kernel_rfl
    have s5 : Try.prog.cellsOf 4 = 1 := by kernel_rfl
    have s6 : Try.prog.cellsOf 28 = 1 := by kernel_rfl
    simp only [s1, s2, s5, s6, List.drop_succ_cons, List.drop_zero, List.take_succ_cons, List.take_zero] at t0 t1 t2 t3 t4 t5 t6 t7
    obtain ⟨z0, q0, _, f0⟩ := DataW.trod_int Try.underlying27 t0
    obtain ⟨z1, q1, _, f1⟩ := DataW.trod_int Try.underlying27 t1
    obtain ⟨z2, q2, _, _⟩ := DataW.trod_int Try.underlying3 t2
    obtain ⟨z3, q3, _, _⟩ := DataW.trod_int Try.underlying3 t3
    obtain ⟨z4, q4, _, _⟩ := DataW.trod_int Try.underlying3 t4
    obtain ⟨z5, q5, _, _⟩ := DataW.trod_int Try.underlying3 t5
    obtain ⟨z6, q6, _⟩ := DataW.trod_bool Try.underlying4 t6
    have hsl : ∃ A l c zs, a7 = .slice A l c ∧ IsRow .u8 W A l c zs ∧ l ≤ maxLen := by
      rcases open_ints Try.underlying28 Try.underlying5 (by kernel_rfl) t7 with ⟨hcs, _⟩ | ⟨x, l, c, zs, hcs, _, hl, hm, hz, _, hcell, hwz⟩
      · simp at hcs
        exact ⟨none, 0, 0, [], hcs, .inl ⟨rfl, rfl, rfl, rfl⟩, by simp [maxLen]⟩
      · simp at hcs
        exact ⟨some x, l, c, zs, hcs, .inr ⟨_, rfl, hl, hm, by simpa using hz, hcell, hwz⟩, Nat.le_trans hl hm⟩
    obtain ⟨A, l, c, zs, rfl, hr, hm⟩ := hsl
    simp at q0 q1 q2 q3 q4 q5 q6
    subst q0 q1 q2 q3 q4 q5 q6
    obtain ⟨gs, hg, h8, hN⟩ := nums_of_u8 hr
    subst hg
    have g0 := wf_u32_bounds f0
    have g1 := wf_u32_bounds f1
    have hx : (A = none → gs.length = 0 ∧ c = 0) ∧ gs.length ≤ c := by
      rcases hr with ⟨_, h1, h2, _⟩ | ⟨x, h1, h2, _⟩
      · exact ⟨fun _ => ⟨h1, h2⟩, by omega⟩
      · exact ⟨fun h => (by rw [h1] at h; cases h), h2⟩
    exact ⟨⟨z0, z1, z2, z3, z4, z5, z6, A, c, gs⟩, rfl, ⟨g0.1, g0.2, g1.1, g1.2, h8⟩, hm, hN, hx.1, hx.2⟩

end Go.Proofs.Ytlnejlhdkmneeaa

/- PacketsTogether returns true for every input. No condition. -/
namespace Go.Proofs.Ytlnejlhdkmneeaa
open Go.ChangeShapes Go.WideShapes Go.ChangeAt Go.RowKit Go.Joins Go.Deep

section
variable {H : Type} {enc : TypeId × Value → H} {W : World} {base : Nat} {held : Bool}
theorem okWide_arr {P : Program} {w : World} {r : Reach} {b0 n : Nat} {t e : TypeId} {v : Value} (ht : P.underlying t = some (.array n e)) (h : Value.okWide P w r b0 t v) : ∃ cs, v = .agg cs ∧ cs.size = P.cellsOf t := by
  simp only [Value.okWide, ht] at h
  obtain ⟨cs, h1, h2, _⟩ := h
  exact ⟨cs, h1, h2⟩
set_option maxRecDepth 100000 in
/-- Two limits. -/
theorem limits_of {r : Reach} {b0 : Nat} {v : Value} {d : DataW H} {p : List MemPlace} (hv : Value.okWide Try.prog W r b0 80 v) (h : DataW.Trod enc Try.prog W base (fun _ => true) held 80 v d p) :
    ∃ L1 L2 : Nat, v = .agg #[.int .u16 (L1 : Int), .int .u16 (L2 : Int)] ∧ L1 ≤ 65535 ∧ L2 ≤ 65535 := by
  obtain ⟨cs, rfl, hsz⟩ := okWide_arr Try.underlying80 hv
  obtain ⟨l⟩ := cs
  have hc : Try.prog.cellsOf 80 = 2 := by kernel_rfl
  have hc1 : Try.prog.cellsOf 23 = 1 := by kernel_rfl
  have hl : l.length = 2 := by rw [hc] at hsz; simpa using hsz
  obtain ⟨fuel, hf⟩ := h
  match l, hl with
  | [a0, a1], _ =>
    obtain ⟨xs, m, -, -, -, hxl, hel⟩ := DataW.trod_array Try.underlying80 hf
    obtain ⟨y0, y1, rfl⟩ : ∃ y0 y1, xs = [y0, y1] := match xs, hxl with
      | [y0, y1], _ => ⟨y0, y1, rfl⟩
    have t0 := hel 0 (by decide)
    have t1 := hel 1 (by decide)
    rw [hc1] at t0 t1
    have t0' : DataW.trod enc Try.prog W base (fun _ => true) held m 23 [a0] = some y0 := t0
    have t1' : DataW.trod enc Try.prog W base (fun _ => true) held m 23 [a1] = some y1 := t1
    obtain ⟨z0, q0, _, f0⟩ := DataW.trod_int Try.underlying23 t0'
    obtain ⟨z1, q1, _, f1⟩ := DataW.trod_int Try.underlying23 t1'
    simp at q0 q1
    subst q0 q1
    have g0 := fit_u16 f0
    have g1 := fit_u16 f1
    refine ⟨z0.toNat, z1.toNat, ?_, by omega, by omega⟩
    rw [Int.toNat_of_nonneg g0.1, Int.toNat_of_nonneg g1.1]
end

set_option maxRecDepth 100000 in
theorem packetsTogether_lifted (os : Os) (started : os.Started) (H : Type) (enc : TypeId × Value → H) :
    ReturnsInHanded {} Try.checked os 10 .any (Rows.packetsTogetherSpec.pre6 enc Try.prog Try.f10 Rows.packetsTogetherRow.domain false) (Rows.packetsTogetherSpec.post enc Try.prog Try.f10 false true false false) := by
  refine returnsInHanded_of_change (C := Try.checked) own started (by kernel_rfl) Try.func10
    (ChangeSpec.witness6 (enc := enc) (C := Try.checked) false ⟨#[], #[.agg #[.int .u32 0, .int .u32 0, .int .i64 0, .int .i64 0, .int .i64 0, .int .i64 0, .bool false, .slice none 0 0], .agg #[.int .u16 0, .int .u16 0], .slice none 0 0], []⟩ 8 (by kernel_rfl) (by kernel_rfl) (by kernel_rfl) (by kernel_rfl)) ?_
  intro W base args ds gs before hval0 hW hcnd _
  have hval : ∀ (j : Nat) t v, Try.f10.params[j]? = some t → args[j]? = some v → Value.okWide Try.prog W .any base t v := hval0
  have hW' := hW
  obtain ⟨p, q, hA0, hV, rfl, hfz, hnd⟩ := hW
  have hA : DataW.TrodAll enc Try.prog W 0 (fun _ => true) true Try.f10.params.toList args.toList ds p := hA0
  rw [Try.params10] at hA hval
  obtain ⟨v0, vs0, d0, ds0, p0, q0, hargs, rfl, rfl, h0, r0⟩ := trodAll_cons hA
  obtain ⟨v1, vs1, d1, ds1, p1, q1, rfl, rfl, rfl, h1, r1⟩ := trodAll_cons r0
  obtain ⟨v2, vs2, d2, ds2, p2, q2, rfl, rfl, rfl, h2, r2⟩ := trodAll_cons r1
  obtain ⟨rfl, rfl, rfl⟩ := trodAll_nil r2
  obtain rfl : args = #[v0, v1, v2] := by cases args; simp_all
  obtain ⟨rfl, rfl⟩ := trodVars_none hV
  have k0 := h0
  have k1 := h1
  have k2 := h2
  have lt0 : ∀ x ∈ p0, x.block < W.heap.size := by obtain ⟨m, hm⟩ := k0; exact DataW.trod_lt m _ _ _ hm
  have lt1 : ∀ x ∈ p1, x.block < W.heap.size := by obtain ⟨m, hm⟩ := k1; exact DataW.trod_lt m _ _ _ hm
  have lt2 : ∀ x ∈ p2, x.block < W.heap.size := by obtain ⟨m, hm⟩ := k2; exact DataW.trod_lt m _ _ _ hm
  obtain ⟨pk, rfl, hfit, hl, hN, hN0, hcap⟩ := packet_of (hval 0 30 v0 rfl rfl) h0
  obtain ⟨L1, L2, rfl, g1, g2⟩ := limits_of (hval 1 80 v1 rfl rfl) h1
  obtain ⟨A2, n2, c2, zs2, rfl, hr2, hm2, -⟩ := arg_ints Try.underlying28 Try.underlying5 (by kernel_rfl) (hval 2 28 v2 rfl rfl) h2
  obtain ⟨gs2, hg2, hb2, hN2⟩ := nums_of_u8 hr2
  clear hA0 hval0
  refine (lawtog pk L1 L2 A2 n2 c2 gs2 W hfit hN hN0 hcap hl g1 g2 hg2 hm2 hN2 hb2).mono fun e W' ⟨he, hw⟩ => ?_
  have bel : Below W.heap.size W W' := hw.below (by simp) (Nat.le_refl _)
  subst he
  exact ⟨_, rfl, _, _, _, [], _, [], hW', trodAll_mk1 (shut_bool Try.underlying4 _), (trodAll_cons_mk (Below.trod laidOut (by kernel_rfl) (of_decide_eq_true (by kernel_rfl)) k0 bel lt0) (trodAll_cons_mk (Below.trod laidOut (by kernel_rfl) (of_decide_eq_true (by kernel_rfl)) k1 bel lt1) (trodAll_cons_mk (Below.trod laidOut (by kernel_rfl) (of_decide_eq_true (by kernel_rfl)) k2 bel lt2) trodAll_mk0))), rfl, bel.frame _, fun h => by cases h⟩

theorem packetsTogether_holds : Rows.PacketsTogetherSaid :=
  OpenClaim.holds_of_wide 10 Try.f10 rfl rfl rfl rfl rfl rfl rfl ⟨rfl, rfl, rfl, rfl, rfl⟩ rfl rfl rfl rfl rfl (by kernel_rfl) Try.func10 (by kernel_rfl)
    (of_decide_eq_true (by kernel_rfl)) (by unfold Func.isWrapper; rw [if_neg (by decide +kernel)]; exact ⟨rfl, rfl⟩)
    (fun os started H enc _ => packetsTogether_lifted os started H enc)

end Go.Proofs.Ytlnejlhdkmneeaa
