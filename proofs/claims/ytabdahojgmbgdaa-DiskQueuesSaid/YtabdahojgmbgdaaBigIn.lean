/- Wide values inside a range over a function: the three operations. -/
import Derived.Test.YtabdahojgmbgdaaBig
import Derived.Test.YtabdahojgmbgdaaOnlyT
import Derived.RangeFuncNested
import Derived.RangeFuncBound
import Derived.RangeFuncCalls
import Derived.RangeFuncLeaves
import Derived.RangeFuncBox
import Derived.Shelf.Abstract
import Derived.Shelf.RegionOpen
import Derived.OwnWalkIn
import Derived.TacticsInMore
import Derived.LoopNIn
import Derived.LoopIn
import Derived.Maps.AppendAt
import Derived.Sort.QuietTacIn
namespace Go.Proofs.Ytabdahojgmbgdaa
open Go.RowKit Go.Shelf

section
variable {P : Program} {F : Fence} {n : Nat}
theorem wpListIn_runTo {ops : Array Oper} {rest : List Oper} {o : Oper} {a : Act} {w : World} {Q : Exit → Act → World → Prop} (hg : o.guard = none) (hab : o.about P w a.eval = none) (hnd : ∀ c, o.op ≠ .defer c)
    (v : Value) (w' : World) (hrun : (execOp a.eval o).run P w = .ok (.value v) w') (h : wpListIn F n P ops Q rest (a.put o.dst v) w') : wpListIn F n P ops Q (o :: rest) a w := by
  refine wpListIn_plain hg fun K hK => ?_
  unfold Oper.wpIn
  refine ⟨fun f hf => (by rw [hab] at hf; cases hf), ?_⟩
  rw [Oper.semAt_plain F _ _ hnd, hrun]
  exact hK _ _ h

theorem wpListIn_load_cells {ops : Array Oper} {rest : List Oper} {o : Oper} {a : Act} {w : World} {Q : Exit → Act → World → Prop} (hgd : o.guard = none) (ty : TypeId) (x : Operand) (ho : o.op = .load ty x)
    (b off : Nat) (hx : a.eval x = .pointer (some ⟨b, off, none⟩)) (cs : List Value) (d : TypeDesc) (hc : ∀ j v, cs[j]? = some v → w.cell? ⟨b, off + j, none⟩ = some v)
    (hu : P.underlying ty = some d) (hd : (match d with | .struct _ | .array _ _ => true | _ => false) = true) (hi : (P.info? ty).map (·.size) = some cs.length)
    (h : wpListIn F n P ops Q rest (a.put o.dst (.agg cs.toArray)) w) : wpListIn F n P ops Q (o :: rest) a w :=
  wpListIn_runTo hgd (by simp [Oper.about, ho]) (by rw [ho]; intro c hc'; cases hc') _ _ (exec_load_cells ty x ho b off hx cs d hc hu hd hi) h
theorem wpListIn_alloc_cells {ops : Array Oper} {rest : List Oper} {o : Oper} {a : Act} {w : World} {Q : Exit → Act → World → Prop} (hgd : o.guard = none) (ty : TypeId) (ho : o.op = .alloc ty) (z : Value) (hz : (P.info? ty).bind (·.zero) = some z)
    (h : wpListIn F n P ops Q rest (a.put o.dst (.pointer (some ⟨w.heap.size, 0, none⟩))) (w.alloc (.cells z.cells ty))) : wpListIn F n P ops Q (o :: rest) a w :=
  wpListIn_runTo hgd (by simp [Oper.about, ho]) (by rw [ho]; intro c hc'; cases hc') _ _ (exec_alloc ty ho z hz) h
theorem wpListIn_alloc_agg {ops : Array Oper} {rest : List Oper} {o : Oper} {a : Act} {w : World} {Q : Exit → Act → World → Prop} (hgd : o.guard = none) (ty : TypeId) (ho : o.op = .alloc ty) (zs : Array Value) (hz : (P.info? ty).bind (·.zero) = some (.agg zs))
    (h : wpListIn F n P ops Q rest (a.put o.dst (.pointer (some ⟨w.heap.size, 0, none⟩))) (w.alloc (.cells zs ty))) : wpListIn F n P ops Q (o :: rest) a w := wpListIn_alloc_cells hgd ty ho (.agg zs) hz h
theorem wpListIn_store_cells {ops : Array Oper} {rest : List Oper} {o : Oper} {a : Act} {w : World} {Q : Exit → Act → World → Prop} (hgd : o.guard = none) (ty : TypeId) (x y : Operand) (ho : o.op = .store ty x y)
    (b off : Nat) (hx : a.eval x = .pointer (some ⟨b, off, none⟩)) (vs : List Value) (hy : a.eval y = .agg vs.toArray) (t : TypeId) (cs : List Value) (hb : Blk w b t cs) (hl : off + vs.length ≤ cs.length)
    (hi : (P.info? ty).map (·.size) = some vs.length) (h1 : ∀ v ∈ vs, v.oneCell' = true)
    (h : ∀ w', StoredCells w b off t cs vs w' → wpListIn F n P ops Q rest (a.put o.dst undef) w') : wpListIn F n P ops Q (o :: rest) a w := by
  obtain ⟨w', hr, hs⟩ := run_storeVar_cells w b off ty t cs vs hb hl hi h1
  refine wpListIn_plain hgd fun K hK => ?_
  unfold Oper.wpIn
  refine ⟨fun f hf => (by simp [Oper.about, ho] at hf), ?_⟩
  rw [Oper.semAt_plain F _ _ (by rw [ho]; intro c hc'; cases hc')]
  unfold execOp
  simp only [ho, hx, hy, Instr.storeAt, Instr.sureAddr, Sem.run_bind, Sem.run_pure, Result.andThen_ok, hr]
  exact hK _ _ (h w' hs)
end

/-- A block known whole abides what the loop's own records do. -/
theorem blk_own {β : Type} (b : Nat) (t : TypeId) (f : β → List Value) : Own (fun (s : β) W => Blk W b t (f s)) := fun s W W' row hs hg hr =>
  Blk.grown hs hg (fun e => by
    obtain ⟨o, ho, hc⟩ := hr b e
    have : W.heap[b]? = some (.cells (f s).toArray t (0, 0)) := hs
    rw [this] at ho
    injection ho with ho
    subst ho
    simp [Obj.isCells] at hc)

theorem Blk.put' {w : World} {b D : Nat} {t : TypeId} {cs : List Value} {o : Obj} (o' : Obj) (h : Blk w b t cs) (hD : w.heap[D]? = some o) (ho : o.isCells = false) : Blk (w.putObj D o') b t cs :=
  Blk.grown h (grownBy_putObj' w D o') (fun e => by
    have e : D = b := by injection e
    subst e
    have hb : w.heap[D]? = some (.cells cs.toArray t (0, 0)) := h
    rw [hb] at hD
    injection hD with hD
    subst hD
    simp [Obj.isCells] at ho)
theorem keeps_only {w w' : World} {b : Nat} {t : TypeId} {cs : List Value} (hb : Blk w b t cs) (h : Only [b] w w') : KeepsOthers w w' :=
  ⟨h.size, fun k o hk ho => by
    have hlt := (Array.getElem?_eq_some_iff.1 hk).1
    refine (h.block k hlt ?_).trans hk
    intro hm
    simp at hm
    subst hm
    have hb' : w.heap[k]? = some (.cells cs.toArray t (0, 0)) := hb
    rw [hb'] at hk
    injection hk with hk
    subst hk
    simp [Obj.isCells] at ho⟩

end Go.Proofs.Ytabdahojgmbgdaa
