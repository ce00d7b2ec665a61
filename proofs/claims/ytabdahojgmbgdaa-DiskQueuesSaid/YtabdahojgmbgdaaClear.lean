/- The builtin clear at a slice of structs. -/
import Derived.Test.YtabdahojgmbgdaaFblk
import Derived.Lib.SliceRun
import Derived.Laws.AppendOwn
namespace Go.Proofs.Ytabdahojgmbgdaa
open Go.RowKit

theorem zeroCells_one (z : Array Value) (n : Nat) (h1 : ∀ v ∈ z, v.oneCell' = true) : ∀ v ∈ (Builtin.zeroCells z n).toList, v.oneCell' = true := by
  intro v hv
  simp only [Builtin.zeroCells, Array.toList_map, List.mem_map, Array.mem_toList_iff] at hv
  obtain ⟨i, hi, rfl⟩ := hv
  have hz : 0 < z.size := by
    rcases Nat.eq_zero_or_pos z.size with h0 | h0
    · simp [h0] at hi
    · exact h0
  have := Nat.mod_lt i hz
  rw [getElem!_pos z _ this]
  exact h1 _ (Array.getElem_mem this)

theorem run_clear_cells {P : Program} (w : World) (b off m cap : Nat) (ts te t : TypeId) (z : Value) (sz : Nat) (cs : List Value) (hb : Blk w b t cs) (hu : P.underlying ts = some (.slice te)) (hz : ∀ w, (zeroValue te).run P w = .ok z w)
    (hs : z.cells.size = sz) (hl : off + m * sz ≤ cs.length) (h1 : ∀ v ∈ z.cells, v.oneCell' = true) :
    ∃ w', (∀ ty, (Builtin.clear_ #[ts] ty #[.slice (some ⟨b, off, none⟩) m cap]).run P w = .ok (.tuple #[]) w') ∧ ∃ vs, vs.length = m * sz ∧ StoredCells w b off t cs vs w' := by
  have h := run_storeCells_at (P := P) b off t (Builtin.zeroCells z.cells m).toList 0 cs.toArray w hb (by simp [size_zeroCells, hs]; omega) (zeroCells_one _ _ h1)
  simp only [Nat.add_zero, List.toList_toArray] at h
  rcases Nat.eq_zero_or_pos m with rfl | hm
  · refine ⟨w, fun ty => ?_, [], by simp, ?_, Only.refl _ _, rfl⟩
    · simp [Builtin.clear_, run_underlying hu]
    · simpa using hb
  · refine ⟨w.setRow b (cs.take off ++ (Builtin.zeroCells z.cells m).toList ++ cs.drop (off + (Builtin.zeroCells z.cells m).toList.length)).toArray, fun ty => ?_, (Builtin.zeroCells z.cells m).toList, by simp [size_zeroCells, hs], ?_, ?_, setRow_size _ _ _⟩
    · obtain ⟨k, rfl⟩ : ∃ k, m = k + 1 := ⟨m - 1, by omega⟩
      simp [Builtin.clear_, run_underlying hu, hz]
      simp only [List.append_assoc] at h ⊢
      simp [h]
    · have := setRow_heap w b cs.toArray (cs.take off ++ (Builtin.zeroCells z.cells m).toList ++ cs.drop (off + (Builtin.zeroCells z.cells m).toList.length)).toArray t (0, 0) hb
      simpa [Blk] using this
    · exact ⟨rfl, rfl, rfl, by simp, fun k hk hn => setRow_other w b k _ (by simpa using hn)⟩

end Go.Proofs.Ytabdahojgmbgdaa
