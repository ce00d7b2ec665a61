/- What the rows of this chapter share. -/
import Derived.Test.YtdjkgbkckmjfiaaRows
import Derived.Test.YtdjkgbkckmjfiaaSlices
import Derived.ProofKit
import Derived.OpenShut
import Derived.Lib.SmallJoins
import Derived.ChangeOld
import Derived.Below
namespace Go.Proofs.Ytdjkgbkckmjfiaa
open Go.ChangeShapes Go.WideShapes Go.ChangeAt Go.RowKit Go.Joins

theorem own : ownKnob Try.prog.godebug = none := by kernel_rfl
theorem laidOut : laidOutB Try.prog = true := by kernel_rfl

/-- What is known of a slice of integers that came in. -/
def IsRow (k : IntKind) (w : World) (a : Option Addr) (len cap : Nat) (zs : List Int) : Prop :=
  (a = none ∧ len = 0 ∧ cap = 0 ∧ zs = []) ∨
  ∃ x, a = some x ∧ len ≤ cap ∧ cap ≤ maxLen ∧ zs.length = cap ∧ (∀ i, i < zs.length → w.cell? (x.add i) = some (.int k (zs.getD i 0))) ∧ ∀ n ∈ zs, (Lit.int k n).wf = true

theorem wf_u8_bounds {n : Int} (h : (Lit.int .u8 n).wf = true) : 0 ≤ n ∧ n ≤ 255 := by
  simp [Lit.wf, IntKind.min, IntKind.max, IntKind.signed, IntKind.bits] at h
  omega

/-- A row of bytes as the walks want it. -/
theorem bytes_of_row {w : World} {a : Option Addr} {len cap : Nat} {zs : List Int} (h : IsRow .u8 w a len cap zs) :
    ∃ gs : List Nat, gs.length = len ∧ (∀ x ∈ gs, x ≤ 255) ∧ Reads w w.heap.size .u8 a (gs.map fun (x : Nat) => (x : Int)) := by
  rcases h with ⟨rfl, rfl, rfl, rfl⟩ | ⟨x, rfl, hl, hm, hz, hcell, hwz⟩
  · exact ⟨[], rfl, by simp, fun k x hx => by simp at hx⟩
  · refine ⟨(zs.take len).map Int.toNat, by simp; omega, fun y hy => ?_, fun k y hy => ?_⟩
    · simp only [List.mem_map] at hy
      obtain ⟨z, hz1, rfl⟩ := hy
      have := wf_u8_bounds (hwz z (List.mem_of_mem_take hz1))
      omega
    · simp only [List.map_map, List.getElem?_map, Option.map_eq_some_iff, Function.comp] at hy
      obtain ⟨z, hz1, rfl⟩ := hy
      have hk : k < len := by
        have := (List.getElem?_eq_some_iff.1 hz1).1
        simp at this; omega
      rw [List.getElem?_take, if_pos hk] at hz1
      have hzw := wf_u8_bounds (hwz z (List.mem_of_getElem? hz1))
      have hc := hcell k (by omega)
      obtain ⟨b, off, spot⟩ := x
      have hspot : spot = none := by
        have := World.cell?_spot (hcell 0 (by omega))
        simpa [Addr.add] using this
      subst hspot
      have hc2 : w.cell? ⟨b, off + k, none⟩ = some (.int .u8 z) := by
        have e : zs.getD k 0 = z := by simp [hz1]
        rw [e] at hc
        have ea : (⟨b, off, none⟩ : Addr).add k = ⟨b, off + k, none⟩ := by
          unfold Addr.add; split
          · rename_i h0; subst h0; rfl
          · rfl
        rw [ea] at hc; exact hc
      refine ⟨b, off, rfl, ?_, ?_⟩
      · exact World.block_lt_of_cell? _ _ hc2
      · rw [hc2, Int.toNat_of_nonneg hzw.1]

theorem cells_params : Try.prog.cellsOf 23 = 4 := by kernel_rfl

end Go.Proofs.Ytdjkgbkckmjfiaa
