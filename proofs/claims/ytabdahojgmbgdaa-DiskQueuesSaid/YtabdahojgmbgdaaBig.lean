/- Wide values: an allocation, a struct literal with an array in it, a slice literal of one wide part: no cell is spelled. -/
import Derived.Test.YtabdahojgmbgdaaFblk
import Derived.Great.BuildSlice
import Derived.Great.Walk
namespace Go.Proofs.Ytabdahojgmbgdaa
open Go.RowKit

section
variable {P : Program}
theorem addr_add (b o j : Nat) : (⟨b, o, none⟩ : Addr).add j = ⟨b, o + j, none⟩ := by
  unfold Addr.add
  split <;> simp_all

theorem exec_alloc {o : Oper} {ev : Operand → Value} {w : World} (ty : TypeId) (ho : o.op = .alloc ty) (z : Value) (hz : (P.info? ty).bind (·.zero) = some z) :
    (execOp ev o).run P w = .ok (.value (.pointer (some ⟨w.heap.size, 0, none⟩))) (w.alloc (.cells z.cells ty)) := by
  cases hi : P.info? ty with
  | none => simp [hi] at hz
  | some i =>
    have hz' : i.zero = some z := by simpa [hi] using hz
    unfold execOp
    simp [ho, Instr.alloc, zeroValue, typeInfo, hi, hz', newVar, newRow]
theorem wpList_alloc_cells {ops : Array Oper} {rest : List Oper} {o : Oper} {a : Act} {w : World} {Q : Exit → Act → World → Prop} (hgd : o.guard = none) (ty : TypeId) (ho : o.op = .alloc ty) (z : Value) (hz : (P.info? ty).bind (·.zero) = some z)
    (h : wpList P ops Q rest (a.put o.dst (.pointer (some ⟨w.heap.size, 0, none⟩))) (w.alloc (.cells z.cells ty))) : wpList P ops Q (o :: rest) a w :=
  Great.wpList_runTo hgd o.dst rfl _ _ (exec_alloc ty ho z hz) h
theorem wpList_alloc_agg {ops : Array Oper} {rest : List Oper} {o : Oper} {a : Act} {w : World} {Q : Exit → Act → World → Prop} (hgd : o.guard = none) (ty : TypeId) (ho : o.op = .alloc ty) (zs : Array Value) (hz : (P.info? ty).bind (·.zero) = some (.agg zs))
    (h : wpList P ops Q rest (a.put o.dst (.pointer (some ⟨w.heap.size, 0, none⟩))) (w.alloc (.cells zs ty))) : wpList P ops Q (o :: rest) a w := wpList_alloc_cells hgd ty ho (.agg zs) hz h
end

theorem fill_two {place : Nat → Option (Nat × Nat)} {m : Nat} (h0 : place 0 = some (0, 1)) (h1 : place 1 = some (1, m)) (a : Value) (ha : a.cells = #[a]) (ds : List Value) (hd : ds.length = m) (z : Array Value) (hz : z.size = m + 1) :
    Instr.fill place z [(0, a), (1, .agg ds.toArray)] = some (a :: ds).toArray := by
  unfold Instr.fill
  simp only [h0, ha]
  rw [if_neg (by simp [hz])]
  unfold Instr.fill
  simp only [h1]
  rw [if_neg (by simp [Value.cells, hd, hz, Nat.add_comm])]
  unfold Instr.fill
  congr 1
  simp only [Value.cells]
  obtain ⟨g1, g2⟩ := Great.foldl_set 1 ds 0 (z.setIfInBounds 0 a)
  have hz1 : (#[a].zipIdx.foldl (fun cs (x : Value × Nat) => cs.setIfInBounds (0 + x.2) x.1) z) = z.setIfInBounds 0 a := by simp
  have hz2 : (ds.toArray.zipIdx.foldl (fun cs (x : Value × Nat) => cs.setIfInBounds (1 + x.2) x.1) (z.setIfInBounds 0 a)) = (ds.zipIdx 0).foldl (fun cs (x : Value × Nat) => cs.setIfInBounds (1 + x.2) x.1) (z.setIfInBounds 0 a) := by
    rw [← Array.foldl_toList, Array.toList_zipIdx]
  rw [hz1, hz2]
  apply Array.ext_getElem?
  intro k
  rw [g2 k]
  cases k with
  | zero => simp [hz]
  | succ k =>
    simp only [Array.size_setIfInBounds, hz, hd]
    by_cases hk : k < m
    · rw [if_pos (by omega)]
      simp [show k + 1 - (1 + 0) = k by omega]
    · rw [if_neg (by omega), Array.getElem?_eq_none (by simp [hz]; omega), Array.getElem?_eq_none (by simp; omega)]

/-- An element of an array that is a value. -/
theorem run_index_cells {P : Program} (t e : TypeId) (n : Nat) (h : P.underlying t = some (.array n e)) (d : TypeDesc) (he : P.underlying e = some d) (hd : (match d with | .struct _ | .array _ _ => false | _ => true) = true) (hs : (P.info? e).map (·.size) = some 1)
    (cs : List Value) (i : Nat) (v : Value) (hi : i < n) (hv : cs[i]? = some v) (k : IntKind) (hk : k.wrap (i : Int) = i) (w : World) : (Instr.index t (.agg cs.toArray) (.int k (i : Int))).run P w = .ok v w := by
  cases hq : P.info? e with
  | none => simp [hq] at hs
  | some q =>
    have hs' : q.size = 1 := by simpa [hq] using hs
    have hag : (isAgg e).run P w = .ok false w := by
      unfold isAgg
      rw [Sem.run_bind, run_underlying he w]
      cases d <;> simp_all
    simp [Instr.index, asIntOf, run_underlying h, sizeOf, typeInfo, hq, hs', part, hag, hv, hk, hi]

/-- A struct of a number and an array. -/
theorem build_two {P : Program} {t : TypeId} {m : Nat} (fs : Array Field) (hu : P.underlying t = some (.struct fs)) (it : TypeInfo) (hit : P.info? t = some it) (z : Value) (hz : it.zero = some z) (hzs : z.cells.size = m + 1)
    (pl : List (Nat × Nat)) (hpl : fs.toList.mapM (fun f => (P.info? f.type).map fun i => (f.offset, i.size)) = some pl) (h0 : pl[0]? = some (0, 1)) (h1 : pl[1]? = some (1, m))
    (a : Value) (ha : a.cells = #[a]) (ds : List Value) (hd : ds.length = m) : P.built t [(0, a), (1, .agg ds.toArray)] = some (a :: ds).toArray := by
  unfold Program.built
  simp only [hit, hu, hz, hpl]
  exact fill_two (by simpa using h0) (by simpa using h1) a ha ds hd _ hzs

theorem exec_build {P : Program} {o : Oper} {ev : Operand → Value} {w : World} (t : TypeId) (parts : Array (Nat × Operand)) (ho : o.op = .build t parts) (cells : Array Value) (l : List (Nat × Value)) (hl : (parts.map fun (i, x) => (i, ev x)).toList = l) (h : P.built t l = some cells) :
    (execOp ev o).run P w = .ok (.value (.agg cells)) w := by
  unfold execOp
  simp only [ho, Sem.run_bind, run_build w t _ cells (by rw [hl]; exact h), Result.andThen_ok, Sem.run_pure]

end Go.Proofs.Ytabdahojgmbgdaa
