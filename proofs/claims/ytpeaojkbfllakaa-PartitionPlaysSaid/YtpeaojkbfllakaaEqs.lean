/- '==' of arrays of whole numbers. -/
import Derived.Test.YtpeaojkbfllakaaWords
import Derived.ChangeKeysEq
namespace Go.Proofs.Ytpeaojkbfllakaa
open Go.RowKit

section
variable {P : Program}
theorem run_equalIn_int1 {d : Nat} {e : TypeId} {k : IntKind} (he : P.underlying e = some (.int k)) (a b : Int) (w : World) : (Op.equalIn (d + 1) e (.int k a) (.int k b)).run P w = .ok (a == b) w := by
  simp [Op.equalIn, Sem.run_bind, run_underlying he]
theorem plain_int {e : TypeId} {k : IntKind} (he : P.underlying e = some (.int k)) : P.plainKey e = true := by
  simp [Program.plainKey, he]
theorem run_eqItems_ints {d : Nat} {e : TypeId} {k : IntKind} (he : P.underlying e = some (.int k)) (xs ys : List Int) (w : World) : ∀ is : List Nat, (∀ i ∈ is, i < xs.length ∧ i < ys.length) →
    (Op.eqItems (d + 1) e 1 (xs.map (Value.int k)).toArray (ys.map (Value.int k)).toArray is).run P w = .ok (decide (∀ i ∈ is, xs[i]? = ys[i]?)) w
  | [], _ => by simp [Op.eqItems]
  | i :: is, h => by
    have ih := run_eqItems_ints (d := d) he xs ys w is fun j hj => h j (by simp [hj])
    obtain ⟨h1, h2⟩ := h i (by simp)
    have p1 : (part e (xs.map (Value.int k)).toArray (i * 1)).run P w = .ok (.int k xs[i]) w := run_part_plain w (plain_int he) (by simp [h1])
    have p2 : (part e (ys.map (Value.int k)).toArray (i * 1)).run P w = .ok (.int k ys[i]) w := run_part_plain w (plain_int he) (by simp [h2])
    simp only [Op.eqItems, Sem.run_bind, p1, p2, Result.andThen_ok, run_equalIn_int1 he]
    by_cases e : xs[i] = ys[i]
    · simp only [e, beq_self_eq_true, Bool.not_true, Bool.false_eq_true, if_false]
      rw [ih]
      congr 1
      simp [h1, h2, e]
    · have : (xs[i] == ys[i]) = false := by simpa using e
      simp only [this, Bool.not_false, if_true, Sem.run_pure]
      congr 1
      symm
      rw [decide_eq_false_iff_not]
      intro hh
      have := hh i (by simp)
      simp [h1, h2] at this
      exact e this
theorem run_equal_ints {d n : Nat} {t e : TypeId} {k : IntKind} {i : TypeInfo} (hu : P.underlying t = some (.array n e)) (he : P.underlying e = some (.int k)) (hi : P.info? e = some i) (hc : P.cellsOf e = 1) (xs ys : List Int)
    (hx : xs.length = n) (hy : ys.length = n) (w : World) : (Op.equalIn (d + 2) t (.agg (xs.map (Value.int k)).toArray) (.agg (ys.map (Value.int k)).toArray)).run P w = .ok (decide (xs = ys)) w := by
  rw [run_equalIn_array w (d + 1) _ _ hu hi, hc, run_eqItems_ints he xs ys w _ (by simp; omega)]
  congr 1
  rw [decide_eq_decide]
  constructor
  · intro h
    apply List.ext_getElem?
    intro j
    rcases Nat.lt_or_ge j n with hj | hj
    · exact h j (by simpa using hj)
    · rw [List.getElem?_eq_none (by omega), List.getElem?_eq_none (by omega)]
  · intro h j _; rw [h]
end

end Go.Proofs.Ytpeaojkbfllakaa
