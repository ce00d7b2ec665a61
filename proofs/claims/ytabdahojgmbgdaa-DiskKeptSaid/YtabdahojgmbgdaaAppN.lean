/- append of bytes that came in. -/
import Derived.Test.YtabdahojgmbgdaaOff
import Derived.Test.YtabdahojgmbgdaaBMap
namespace Go.Proofs.Ytabdahojgmbgdaa
open Go.RowKit

set_option maxRecDepth 50000 in
theorem wpList_append_nums {w : World} {ops : Array Oper} {rest : List Oper} {o : Oper} {a : Act} {Q : Exit → Act → World → Prop} (hgd : o.guard = none) (s x : Operand)
    (ho : o.op = .call { callee := .builtin .append, args := #[s, x], argTypes := #[39, 39] }) (i : TypeInfo) (hi : Try.prog.info? 5 = some i) (hz : i.zero = some (.int .u8 0)) (hsize : i.size = 1) (hby : i.bytes = 1)
    (base : Nat) (v : Value) (n : Nat) (xs : List Value) (hs : a.eval s = v) (hown : offRow w base 5 1 v n xs) (hbase : base ≤ w.heap.size)
    (A : Option Addr) (m c : Nat) (l : List Nat) (hx : a.eval x = .slice A m c) (hA : NumsIn w .u8 A l) (hl : l.length = m) (hnil : A = none → c = 0) (h63 : n + m ≤ 1000000000)
    (h : ∀ v' w', offRow w' base 5 1 v' (n + m) (xs ++ l.map (fun (y : Nat) => Value.int .u8 (y : Int))) → Only v.ownBlock.toList w w' → (v'.ownBlock = v.ownBlock ∨ ∀ k, v'.ownBlock = some k → w.heap.size ≤ k) → wpList Try.prog ops Q rest (a.put o.dst v') w') : wpList Try.prog ops Q (o :: rest) a w := by
  have h1 : ∀ u ∈ l.map (fun (y : Nat) => Value.int .u8 (y : Int)), u.oneCell' = true := by
    intro u hu
    obtain ⟨y, -, rfl⟩ := List.mem_map.1 hu
    rfl
  cases A with
  | none =>
    obtain rfl := hnil rfl
    obtain rfl : m = 0 := by
      rcases Nat.eq_zero_or_pos m with h0 | h0
      · exact h0
      · obtain ⟨b, o, h2, -⟩ := hA 0 _ (List.getElem?_eq_getElem (by omega))
        cases h2
    obtain rfl : l = [] := List.eq_nil_of_length_eq_zero hl
    exact wpList_append_offs w hgd s x 39 ho 5 i (.int .u8 0) 1 1 Try.underlying39 hi hz hsize hby rfl (by decide) base v n xs hs hown hbase 0 (.slice none 0 0) 0 [] hx (off_nil _ _ _ _) (by simp) (by simp only [maxLen]; omega) (by omega) h
  | some ad =>
    refine wpList_append_off w hgd s x 39 ho 5 i (.int .u8 0) 1 1 Try.underlying39 hi hz hsize hby rfl (by decide) base v n xs hs hown hbase ad m c _ hx (by rw [List.length_map, hl]; omega) ?_ h1 (by simp only [maxLen]; omega) (by omega) h
    intro j u hu
    obtain ⟨y, hy, rfl⟩ : ∃ y, l[j]? = some y ∧ Value.int .u8 (y : Int) = u := by
      rw [List.getElem?_map] at hu
      cases hy : l[j]? with
      | none => rw [hy] at hu; cases hu
      | some y => rw [hy] at hu; injection hu with hu; exact ⟨y, rfl, hu⟩
    obtain ⟨b, o, h2, h3⟩ := hA j y hy
    injection h2 with h2
    subst h2
    have e : (⟨b, o, none⟩ : Addr).add j = ⟨b, o + j, none⟩ := by unfold Addr.add; split <;> simp_all
    rw [e]
    exact h3

end Go.Proofs.Ytabdahojgmbgdaa
