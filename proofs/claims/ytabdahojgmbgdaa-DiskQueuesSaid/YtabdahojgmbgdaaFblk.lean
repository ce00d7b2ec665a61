/- A block whose cells are given by a function; loads and stores of several cells. -/
import Derived.Test.YtabdahojgmbgdaaWords
import Derived.Laws.Rows
import Derived.Laws.CopyRow
namespace Go.Proofs.Ytabdahojgmbgdaa
open Go.RowKit

/-- Block b has n cells: cell j is f j. -/
def FBlk (w : World) (b : Nat) (t : TypeId) (n : Nat) (f : Nat → Value) : Prop := Blk w b t ((List.range n).map f)

section
variable {w w' : World} {b g n : Nat} {t : TypeId} {f k : Nat → Value}
theorem FBlk.lt (h : FBlk w b t n f) : b < w.heap.size := Blk.lt h
theorem FBlk.cell (h : FBlk w b t n f) {i : Nat} (hi : i < n) : w.cell? ⟨b, i, none⟩ = some (f i) := Blk.cell h (by simp [hi])
theorem FBlk.cell' (h : FBlk w b t n f) {i : Nat} {v : Value} (hi : i < n) (hv : f i = v) : w.cell? ⟨b, i, none⟩ = some v := by rw [← hv]; exact h.cell hi
theorem FBlk.frozen (h : FBlk w b t n f) (i : Nat) : w.frozen? ⟨b, i, none⟩ = false := Blk.frozen h i
theorem FBlk.drew (h : FBlk w b t n f) : FBlk w.drew b t n f := h
theorem FBlk.drewN (h : FBlk w b t n f) (m : Nat) : FBlk (w.drewN m) b t n f := h
theorem FBlk.alloc (h : FBlk w b t n f) (o : Obj) : FBlk (w.alloc o) b t n f := Blk.alloc h o
theorem FBlk.far (h : FBlk w b t n f) {p : Addr} (hp : b ≠ p.block) (u : Value) : FBlk (w.setCell p u) b t n f := Blk.far h hp u
theorem FBlk.congr (h : FBlk w b t n f) (e : ∀ j, j < n → f j = k j) : FBlk w b t n k := by
  unfold FBlk at *
  rw [List.map_congr_left (g := f) (by intro j hj; exact (e j (by simpa using hj)).symm)]
  exact h
theorem FBlk.set (h : FBlk w b t n f) (i : Nat) (v : Value) : FBlk (w.setCell ⟨b, i, none⟩ v) b t n (fun j => if j = i then v else f j) := by
  refine Blk.to (Blk.set h i v) ?_
  apply List.ext_getElem?
  intro j
  rw [List.getElem?_set]
  by_cases hj : i = j
  · subst hj
    by_cases hn : i < n <;> simp [hn]
  · rw [if_neg hj]
    by_cases hn : j < n
    · simp [hn, Ne.symm hj]
    · simp [hn]
theorem FBlk.only {S : List Nat} (h : FBlk w b t n f) (ho : Only S w w') (hb : b ∉ S) : FBlk w' b t n f := ho.blk h hb
theorem FBlk.ne (h : FBlk w b t n f) {t' : TypeId} {cs' : List Value} (h' : Blk w g t' cs') (hne : t ≠ t') : b ≠ g := Blk.ne h h' hne
theorem FBlk.of_list {cs : List Value} (h : Blk w b t cs) (hn : cs.length = n) : FBlk w b t n (fun j => cs.getD j undef) := by
  refine Blk.to h ?_
  apply List.ext_getElem?
  intro j
  by_cases hj : j < n
  · simp [hj, List.getD, List.getElem?_eq_getElem (show j < cs.length by omega)]
  · rw [List.getElem?_eq_none (by omega)]
    simp [hj]
end

section
variable {P : Program}
theorem run_loadVar_cells (w : World) (b off : Nat) (ty : TypeId) (cs : List Value) (d : TypeDesc) (hc : ∀ j v, cs[j]? = some v → w.cell? ⟨b, off + j, none⟩ = some v)
    (hu : P.underlying ty = some d) (hd : (match d with | .struct _ | .array _ _ => true | _ => false) = true) (hi : (P.info? ty).map (·.size) = some cs.length) :
    (loadVar ty ⟨b, off, none⟩).run P w = .ok (.agg cs.toArray) w := by
  have hl : (loadCells ⟨b, off, none⟩ cs.length).run P w = .ok cs.toArray w :=
    run_loadCells_list (P := P) w ⟨b, off, none⟩ cs (fun j v hv => by
      have hadd : (⟨b, off, none⟩ : Addr).add j = ⟨b, off + j, none⟩ := by unfold Addr.add; split <;> simp_all
      rw [hadd]
      exact hc j v hv)
  cases hq : P.info? ty with
  | none => simp [hq] at hi
  | some i =>
    have hs : i.size = cs.length := by simpa [hq] using hi
    have hagg : (isAgg ty).run P w = .ok true w := by
      unfold isAgg
      rw [Sem.run_bind, run_underlying hu w]
      cases d <;> simp_all
    simp [loadVar, Sem.run_bind, hagg, sizeOf, typeInfo, hq, hs, hl]

/-- A load of a struct or an array whose cells are known. -/
theorem wpList_load_cells {ops : Array Oper} {rest : List Oper} {o : Oper} {a : Act} {w : World} {Q : Exit → Act → World → Prop} (hgd : o.guard = none) (ty : TypeId) (x : Operand) (ho : o.op = .load ty x)
    (b off : Nat) (hx : a.eval x = .pointer (some ⟨b, off, none⟩)) (cs : List Value) (d : TypeDesc) (hc : ∀ j v, cs[j]? = some v → w.cell? ⟨b, off + j, none⟩ = some v)
    (hu : P.underlying ty = some d) (hd : (match d with | .struct _ | .array _ _ => true | _ => false) = true) (hi : (P.info? ty).map (·.size) = some cs.length)
    (h : wpList P ops Q rest (a.put o.dst (.agg cs.toArray)) w) : wpList P ops Q (o :: rest) a w :=
  wpList_plain hgd fun K hK => by
    unfold Oper.wp execOp
    simp only [ho, hx, Instr.loadAt, Instr.sureAddr, Sem.run_bind, Sem.run_pure, Result.andThen_ok, run_loadVar_cells w b off ty cs d hc hu hd hi]
    exact hK _ _ h

/-- What is known behind a store of cells vs at place off. -/
def StoredCells (w : World) (b off : Nat) (t : TypeId) (cs vs : List Value) (w' : World) : Prop :=
  Blk w' b t (cs.take off ++ vs ++ cs.drop (off + vs.length)) ∧ Only [b] w w' ∧ w'.heap.size = w.heap.size

theorem run_storeVar_cells (w : World) (b off : Nat) (ty t : TypeId) (cs vs : List Value) (hb : Blk w b t cs) (hl : off + vs.length ≤ cs.length)
    (hi : (P.info? ty).map (·.size) = some vs.length) (h1 : ∀ v ∈ vs, v.oneCell' = true) :
    ∃ w', (storeVar ty ⟨b, off, none⟩ (.agg vs.toArray)).run P w = .ok () w' ∧ StoredCells w b off t cs vs w' := by
  have h := run_storeCells_at (P := P) b off t vs 0 cs.toArray w hb (by simpa using hl) h1
  simp only [Nat.add_zero, List.toList_toArray] at h
  refine ⟨w.setRow b (cs.take off ++ vs ++ cs.drop (off + vs.length)).toArray, ?_, ?_, ?_, setRow_size _ _ _⟩
  · cases hq : P.info? ty with
    | none => simp [hq] at hi
    | some i =>
      have hs : vs.length = i.size := by simp [hq] at hi; omega
      rw [List.append_assoc] at h
      simp [storeVar, sizeOf, typeInfo, hq, Value.cells, hs]
      rw [← hs]
      exact h
  · have := setRow_heap w b cs.toArray (cs.take off ++ vs ++ cs.drop (off + vs.length)).toArray t (0, 0) hb
    simpa [Blk] using this
  · exact ⟨rfl, rfl, rfl, by simp, fun k hk hn => setRow_other w b k _ (by simpa using hn)⟩

theorem exec_load_cells {o : Oper} {ev : Operand → Value} {w : World} (ty : TypeId) (x : Operand) (ho : o.op = .load ty x)
    (b off : Nat) (hx : ev x = .pointer (some ⟨b, off, none⟩)) (cs : List Value) (d : TypeDesc) (hc : ∀ j v, cs[j]? = some v → w.cell? ⟨b, off + j, none⟩ = some v)
    (hu : P.underlying ty = some d) (hd : (match d with | .struct _ | .array _ _ => true | _ => false) = true) (hi : (P.info? ty).map (·.size) = some cs.length) :
    (execOp ev o).run P w = .ok (.value (.agg cs.toArray)) w := by
  unfold execOp
  simp only [ho, hx, Instr.loadAt, Instr.sureAddr, Sem.run_bind, Sem.run_pure, Result.andThen_ok, run_loadVar_cells w b off ty cs d hc hu hd hi]

/-- The same at an operation alone. -/
theorem wp_load_cells {o : Oper} {a : Act} {w : World} {K : Act → World → Prop} {Q : Exit → Act → World → Prop} (ty : TypeId) (x : Operand) (ho : o.op = .load ty x)
    (b off : Nat) (hx : a.eval x = .pointer (some ⟨b, off, none⟩)) (cs : List Value) (d : TypeDesc) (hc : ∀ j v, cs[j]? = some v → w.cell? ⟨b, off + j, none⟩ = some v)
    (hu : P.underlying ty = some d) (hd : (match d with | .struct _ | .array _ _ => true | _ => false) = true) (hi : (P.info? ty).map (·.size) = some cs.length)
    (h : K (a.put o.dst (.agg cs.toArray)) w) : o.wp P a w K Q := by
  unfold Oper.wp execOp
  simp only [ho, hx, Instr.loadAt, Instr.sureAddr, Sem.run_bind, Sem.run_pure, Result.andThen_ok, run_loadVar_cells w b off ty cs d hc hu hd hi]
  exact h

/-- A store of a struct or an array into a block that is known. -/
theorem wpList_store_cells {ops : Array Oper} {rest : List Oper} {o : Oper} {a : Act} {w : World} {Q : Exit → Act → World → Prop} (hgd : o.guard = none) (ty : TypeId) (x y : Operand) (ho : o.op = .store ty x y)
    (b off : Nat) (hx : a.eval x = .pointer (some ⟨b, off, none⟩)) (vs : List Value) (hy : a.eval y = .agg vs.toArray) (t : TypeId) (cs : List Value) (hb : Blk w b t cs) (hl : off + vs.length ≤ cs.length)
    (hi : (P.info? ty).map (·.size) = some vs.length) (h1 : ∀ v ∈ vs, v.oneCell' = true)
    (h : ∀ w', StoredCells w b off t cs vs w' → wpList P ops Q rest (a.put o.dst undef) w') : wpList P ops Q (o :: rest) a w :=
  wpList_plain hgd fun K hK => by
    obtain ⟨w', hr, hs⟩ := run_storeVar_cells w b off ty t cs vs hb hl hi h1
    unfold Oper.wp execOp
    simp only [ho, hx, hy, Instr.storeAt, Instr.sureAddr, Sem.run_bind, Sem.run_pure, Result.andThen_ok, hr]
    exact hK _ _ (h w' hs)
end

/-- The function's view of a store of cells. -/
theorem FBlk.stored {w w' : World} {b off n : Nat} {t : TypeId} {f : Nat → Value} {vs : List Value} (hs : StoredCells w b off t ((List.range n).map f) vs w') (hl : off + vs.length ≤ n) :
    FBlk w' b t n (fun j => if off ≤ j ∧ j < off + vs.length then vs.getD (j - off) undef else f j) := by
  refine Blk.to hs.1 ?_
  apply List.ext_getElem?
  intro j
  by_cases hn : j < n
  · rw [List.getElem?_map, List.getElem?_range hn]
    simp only [Option.map_some]
    by_cases h1 : j < off
    · rw [if_neg (by omega), List.append_assoc, List.getElem?_append_left (by simp; omega), List.getElem?_take]
      simp [h1, hn]
    · by_cases h2 : j < off + vs.length
      · rw [if_pos (by omega), List.append_assoc, List.getElem?_append_right (by simp; omega), List.getElem?_append_left (by simp; omega)]
        simp only [List.length_take, List.length_map, List.length_range, List.getD]
        rw [show min off n = off from by omega, List.getElem?_eq_getElem (by omega)]
        rfl
      · rw [if_neg (by omega), List.getElem?_append_right (by simp; omega)]
        simp only [List.length_append, List.length_take, List.length_map, List.length_range, List.getElem?_drop]
        rw [show off + vs.length + (j - (min off n + vs.length)) = j from by omega]
        simp [hn]
  · rw [List.getElem?_eq_none (by simp; omega), List.getElem?_eq_none (by simp; omega)]

end Go.Proofs.Ytabdahojgmbgdaa
