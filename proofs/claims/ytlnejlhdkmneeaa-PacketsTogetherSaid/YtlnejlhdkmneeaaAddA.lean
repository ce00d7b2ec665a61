/- The reassembly: its keys. -/
import Derived.Test.YtlnejlhdkmneeaaRefD
import Derived.Test.YtlnejlhdkmneeaaOff
import Derived.Test.YtlnejlhdkmneeaaPtrRange
namespace Go.Proofs.Ytlnejlhdkmneeaa
open Go.RowKit

abbrev keyT : TypeId := 150
theorem laidOutP : laidOutB Try.prog = true := by kernel_rfl
theorem kKey : Maps.Keyed Try.prog keyT := Maps.Keyed.of_law (deep_law_laid laidOutP (m := 3) (by omega) (of_decide_eq_true (by kernel_rfl)) (by kernel_rfl) (by kernel_rfl))
def keyV (s d p i : Int) : Value := .agg #[.int .u32 s, .int .u32 d, I64 p, I64 i]
structure KeyFit (s d p i : Int) : Prop where
  s0 : 0 ≤ s ∧ s < 4294967296
  d0 : 0 ≤ d ∧ d < 4294967296
  p0 : -9223372036854775808 ≤ p ∧ p < 9223372036854775808
  i0 : -9223372036854775808 ≤ i ∧ i < 9223372036854775808
theorem key_lit {s d p i : Int} (h : KeyFit s d p i) : ∃ kl, keyOf Try.prog keyT (keyV s d p i) = some kl := by
  have w1 : (Lit.int .u32 s).wf = true := by simp [Lit.wf, IntKind.min, IntKind.max, IntKind.signed, IntKind.bits]; have := h.s0; omega
  have w2 : (Lit.int .u32 d).wf = true := by simp [Lit.wf, IntKind.min, IntKind.max, IntKind.signed, IntKind.bits]; have := h.d0; omega
  have w3 : (Lit.int .i64 p).wf = true := by simp [Lit.wf, IntKind.min, IntKind.max, IntKind.signed, IntKind.bits]; have := h.p0; omega
  have w4 : (Lit.int .i64 i).wf = true := by simp [Lit.wf, IntKind.min, IntKind.max, IntKind.signed, IntKind.bits]; have := h.i0; omega
  have k1 : Try.prog.keyType keyT = true := by kernel_rfl
  have k2 : Value.formed Try.prog keyT (keyV s d p i) = true := by kernel_rfl
  have c1 : Try.prog.cellsOf 27 = 1 := by kernel_rfl
  have c2 : Try.prog.cellsOf 3 = 1 := by kernel_rfl
  have c3 : Try.prog.cellsOf keyT = 4 := by kernel_rfl
  obtain ⟨n, hn⟩ : ∃ n, Try.prog.types.size = n + 1 := ⟨Try.prog.types.size - 1, by have h0 : 0 < Try.prog.types.size := of_decide_eq_true (by kernel_rfl); omega⟩
  have hl : (keyV s d p i).cells.toList = [.int .u32 s, .int .u32 d, .int .i64 p, .int .i64 i] := rfl
  have h1 : ∃ ls, Try.prog.keyLits (Try.prog.types.size + 1) keyT [.int .u32 s, .int .u32 d, .int .i64 p, .int .i64 i] = some ls := by
    rw [hn]
    simp [Program.keyLits, Try.underlying150, Try.underlying27, Try.underlying3, c1, c2, c3, w1, w2, w3, w4]
  obtain ⟨ls, h1⟩ := h1
  refine ⟨.string (keyBytes ls), ?_⟩
  unfold keyOf
  rw [Try.underlying150]
  simp only
  rw [k1, k2, hl, h1]
  rfl

end Go.Proofs.Ytlnejlhdkmneeaa
