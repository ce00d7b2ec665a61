/- append(xs, make([]T, m)...): m zeros behind a slice (elements of one cell). -/
import Derived.Test.YtlnejlhdkmneeaaOff
namespace Go.Proofs.Ytlnejlhdkmneeaa
open Go.RowKit

theorem zeroCells_one (z : Value) (m : Nat) : (Builtin.zeroCells #[z] m).toList = List.replicate m z := by
  unfold Builtin.zeroCells
  apply List.ext_getElem?
  intro j
  by_cases hj : j < m
  · simp [hj, Nat.mod_one]
  · simp [hj]
theorem zeroCells_one' (z : Value) (m : Nat) : Builtin.zeroCells #[z] m = (List.replicate m z).toArray := by
  apply Array.ext'
  rw [zeroCells_one]

section
variable {P : Program} (w : World)
theorem run_append_zeros (t tx ty e : TypeId) (i : TypeInfo) (z : Value) (bytes : Nat) (ht : P.underlying t = some (.slice e)) (hx : P.underlying tx = some (.int .i64)) (hi : P.info? e = some i) (hz : i.zero = some z)
    (hsize : i.size = 1) (hby : i.bytes = bytes) (hzs : z.cells = #[z]) (hone : z.oneCell' = true)
    (base : Nat) (v : Value) (n : Nat) (xs : List Value) (hown : offRow w base e 1 v n xs) (hbase : base ≤ w.heap.size)
    (m : Nat) (hm : 0 < m) (h63 : n + m ≤ maxLen) (hbytes : (n + m) * bytes ≤ 140737488355328) :
    ∃ v' w', (Builtin.append_ #[t, tx] ty #[v, .int .i64 m]).run P w = .ok v' w' ∧ offRow w' base e 1 v' (n + m) (xs ++ List.replicate m z) ∧ Only v.ownBlock.toList w w' ∧ (v'.ownBlock = v.ownBlock ∨ ∀ k, v'.ownBlock = some k → w.heap.size ≤ k) := by
  have hlen0 : m ≤ 9223372036854775807 := by simp only [maxLen] at h63; omega
  have hw : IntKind.i64.wrap (m : Int) = (m : Int) := by simp [IntKind.wrap, IntKind.bits, IntKind.signed]; omega
  have hmb : m * bytes ≤ 140737488355328 := Nat.le_trans (Nat.mul_le_mul_right _ (by omega)) hbytes
  have hmb' : ¬ (281474976710656 < (m : Int) * (bytes : Int)) := by
    have : (m : Int) * (bytes : Int) = ((m * bytes : Nat) : Int) := by simp
    omega
  have hm0 : ¬ m = 0 := by omega
  have hn0 : ¬ ((m : Int) < 0) := by omega
  have hai : ∀ w' : World, (asIntOf (.int .i64 (m : Int))).run P w' = .ok (.i64, (m : Int)) w' := fun _ => rfl
  have h63' : ¬ (9223372036854775807 < (n : Int) + (m : Int)) := by simp only [maxLen] at h63; omega
  have hcells : (List.replicate m z).length = m := by simp
  have hon : ∀ u ∈ List.replicate m z, u.oneCell' = true := by intro u hu; rw [List.eq_of_mem_replicate hu]; exact hone
  have grow : ∀ (A : Option Addr) (cap : Nat) (olds : List Value), olds = xs → cap < n + m → (Builtin.firstCells 1 n (.slice A n cap)).run P w.drew = .ok olds.toArray w.drew →
      (Builtin.append_ #[t, tx] ty #[.slice A n cap, .int .i64 m]).run P w = .ok (.slice (some ⟨w.heap.size, 0, none⟩) (n + m) (grownCap w (n + m) cap e)) (w.drew.alloc (.cells ((olds ++ List.replicate m z).toArray ++ Builtin.zeroCells z.cells (grownCap w (n + m) cap e - (n + m))) e)) := by
    intro A cap olds _ hg hf
    have hn1 : ¬ (n + m ≤ cap) := by omega
    have h48' : ¬ (281474976710656 < Builtin.nextslicecap (n + m) cap * bytes) := by have := growslice_fits hg hbytes; omega
    simp [Builtin.append_, run_underlying ht, run_underlying hx, sizeOf, typeInfo, hi, hsize, hby, asInt, hai, hw, hmb', hm0, hn0, zeroValue, hz, hzs, hn1, h63', h48', Question.forced, hf, newRow, grownCap, zeroCells_one']
    congr 2
    apply Array.ext'
    simp [List.append_assoc, ← List.replicate_append_replicate]
  have fin : ∀ (cap : Nat) (A : Option Addr), cap < n + m → (∃ v' w', (Builtin.append_ #[t, tx] ty #[.slice A n cap, .int .i64 m]).run P w = .ok v' w' ∧ v' = (.slice (some ⟨w.heap.size, 0, none⟩) (n + m) (grownCap w (n + m) cap e)) ∧ w' = (w.drew.alloc (.cells ((xs ++ List.replicate m z).toArray ++ Builtin.zeroCells z.cells (grownCap w (n + m) cap e - (n + m))) e))) →
      ∃ v' w', (Builtin.append_ #[t, tx] ty #[.slice A n cap, .int .i64 m]).run P w = .ok v' w' ∧ offRow w' base e 1 v' (n + m) (xs ++ List.replicate m z) ∧ Only [] w w' ∧ (∀ k, v'.ownBlock = some k → w.heap.size ≤ k) := by
    rintro cap A hg ⟨v', w', hr, rfl, rfl⟩
    have hge := grownCap_ge w (n + m) cap e
    have hcm := grownCap_le_maxLen w (n + m) cap e h63
    have hx1 := hown.1
    refine ⟨_, _, hr, ⟨by rw [List.length_append, hx1, hcells]; omega, .inr ⟨w.heap.size, 0, _, _, rfl, hbase, Blk.newA rfl, hge, hcm, ?_, ?_⟩⟩, ((Only.refl [] w).drew).alloc _, fun k hk => by simp [Value.ownBlock] at hk; omega⟩
    · simp only [Array.toList_append, List.length_append, hzs, zeroCells_one, List.length_replicate, List.toList_toArray, hx1]
      omega
    · simp only [Array.toList_append, List.drop_zero, List.toList_toArray]
      rw [List.take_left' (by rw [List.length_append, hx1, hcells]; omega)]
  rcases hown.2 with ⟨rfl, rfl⟩ | ⟨g, f, cap, cs, rfl, hb, hg, hn, hcm, hlen, htk⟩
  · have hxs : xs = [] := List.eq_nil_of_length_eq_zero (by simpa using hown.1)
    obtain ⟨v', w', h1, h2, h3, h4⟩ := fin 0 none (by omega) ⟨_, _, grow none 0 xs rfl (by omega) (by rw [hxs]; rfl), rfl, rfl⟩
    exact ⟨v', w', h1, h2, h3.mono (by simp), .inr h4⟩
  · by_cases hr : n + m ≤ cap
    · have hsp : ∀ j, j < (List.replicate m z).length → f + n + j < cs.length := fun j hj => by rw [hcells] at hj; omega
      have hst := run_storeCells_cells (P := P) g (f + n) (List.replicate m z) 0 w (fun j hj => by rw [Nat.add_zero, hg.cell (List.getElem?_eq_getElem (hsp j hj))]; rfl) (fun j _ => hg.frozen _) hon
      rw [Nat.add_zero] at hst
      refine ⟨.slice (some ⟨g, f, none⟩) (n + m) cap, w.setCells g (f + n) (List.replicate m z), ?_, ?_, Only.setCells (by simp [Value.ownBlock]) _ _ (Only.refl _ _), .inl rfl⟩
      · simp [Builtin.append_, run_underlying ht, run_underlying hx, sizeOf, typeInfo, hi, hsize, hby, asInt, hai, hw, hmb', hm0, hn0, zeroValue, hz, hzs, hr, zeroCells_one', Addr.add_lit, hst]
        try omega
      · have hx1 := hown.1
        refine ⟨by rw [List.length_append, hx1, hcells]; omega, .inr ⟨g, f, cap, _, rfl, hb, hg.setCells _ (f + n), hr, hcm, by rw [setL_len]; exact hlen, ?_⟩⟩
        rw [setL_eq _ _ _ (by rw [hcells]; omega), hcells]
        have ht1 : (cs.take (f + n)).drop f = xs := by rw [← htk, List.drop_take]; congr 1; omega
        have hfl : f ≤ (cs.take (f + n)).length := by rw [List.length_take]; omega
        rw [List.append_assoc, List.drop_append_of_le_length hfl, ht1, ← List.append_assoc, List.take_left' (by rw [List.length_append, hx1, hcells]; omega)]
    · obtain ⟨v', w', h1, h2, h3, h4⟩ := fin cap (some ⟨g, f, none⟩) (by omega) ⟨_, _, grow (some ⟨g, f, none⟩) cap xs rfl (by omega) (by
        have := run_firstCells_some (P := P) w.drew 1 n ⟨g, f, none⟩ n cap xs hown.1 (fun j u hu => by rw [Addr.add_lit]; exact off_cells hown rfl j u hu)
        exact this), rfl, rfl⟩
      exact ⟨v', w', h1, h2, h3.mono (by simp), .inr h4⟩
theorem wp_append_zeros {o : Oper} {a : Act} {K : Act → World → Prop} {Q : Exit → Act → World → Prop} (s x : Operand) (t tx : TypeId)
    (ho : o.op = .call { callee := .builtin .append, args := #[s, x], argTypes := #[t, tx] })
    (e : TypeId) (i : TypeInfo) (z : Value) (bytes : Nat) (ht : P.underlying t = some (.slice e)) (hx : P.underlying tx = some (.int .i64)) (hi : P.info? e = some i) (hz : i.zero = some z)
    (hsize : i.size = 1) (hby : i.bytes = bytes) (hzs : z.cells = #[z]) (hone : z.oneCell' = true)
    (base : Nat) (v : Value) (n : Nat) (xs : List Value) (hs : a.eval s = v) (hown : offRow w base e 1 v n xs) (hbase : base ≤ w.heap.size)
    (m : Nat) (hm : 0 < m) (hxv : a.eval x = .int .i64 m) (h63 : n + m ≤ maxLen) (hbytes : (n + m) * bytes ≤ 140737488355328)
    (h : ∀ v' w', offRow w' base e 1 v' (n + m) (xs ++ List.replicate m z) → Only v.ownBlock.toList w w' → (v'.ownBlock = v.ownBlock ∨ ∀ k, v'.ownBlock = some k → w.heap.size ≤ k) → K (a.put o.dst v') w') : o.wp P a w K Q := by
  obtain ⟨v', w', hr, h1, h2, h3⟩ := run_append_zeros (P := P) w t tx o.type e i z bytes ht hx hi hz hsize hby hzs hone base v n xs hown hbase m hm h63 hbytes
  unfold Oper.wp execOp
  simp only [ho, resolve, invoke, builtin, Sem.run_bind, Sem.run_pure, Result.andThen_ok, List.map_toArray, List.map_cons, List.map_nil, hs, hxv, hr]
  exact h v' w' h1 h2 h3
end

end Go.Proofs.Ytlnejlhdkmneeaa
