/- Rows of one kind that are new since w0, each in a block of its own (any size of element; a row may begin inside its block). -/
import Derived.Test.YtlnejlhdkmneeaaOff
namespace Go.Proofs.Ytlnejlhdkmneeaa
open Go.RowKit

structure RowG where
  v : Value
  n : Nat
  xs : List Value

def RowsG (T : TypeId) (size : Nat) (w0 w : World) (l : List RowG) : Prop :=
  Only [] w0 w ∧ (∀ r ∈ l, offRow w w0.heap.size T size r.v r.n r.xs) ∧ l.Pairwise (fun r s => ∀ k, r.v.ownBlock = some k → s.v.ownBlock ≠ some k)

section
variable {T : TypeId} {size : Nat} {w0 w w' : World} {l : List RowG}
theorem RowsG.nil (T : TypeId) (size : Nat) (w0 : World) : RowsG T size w0 w0 [] := ⟨Only.refl _ _, by simp, .nil⟩
theorem RowsG.only (h : RowsG T size w0 w l) (ho : Only [] w w') : RowsG T size w0 w' l :=
  ⟨Only.trans h.1 ho, fun r hr => off_keep (h.2.1 r hr) ho, h.2.2⟩
theorem RowsG.get (h : RowsG T size w0 w l) (i : Nat) {r : RowG} (hr : l[i]? = some r) : offRow w w0.heap.size T size r.v r.n r.xs := h.2.1 r (List.mem_of_getElem? hr)
theorem RowsG.made (h : RowsG T size w0 w l) (cs : Array Value) (n : Nat) (xs : List Value) (hc : cs.toList = xs) (hn : xs.length = n * size) (hm : n ≤ 1000) : RowsG T size w0 (w.alloc (.cells cs T)) (⟨.slice (some ⟨w.heap.size, 0, none⟩) n n, n, xs⟩ :: l) := by
  have h1 := h.only ((Only.refl [] w).alloc (.cells cs T))
  refine ⟨h1.1, ?_, ?_⟩
  · intro r hr
    rcases List.mem_cons.1 hr with rfl | hr
    · refine ⟨hn, .inr ⟨w.heap.size, 0, n, xs, rfl, h.1.size, by rw [← hc]; exact Blk.newA rfl, Nat.le_refl _, by simp only [maxLen]; omega, by omega, ?_⟩⟩
      show (xs.drop 0).take (n * size) = xs
      rw [List.drop_zero, List.take_of_length_le (by omega)]
    · exact h1.2.1 r hr
  · refine .cons ?_ h.2.2
    intro s hs k hk he
    have a1 : w.heap.size = k := by simpa [Value.ownBlock] using hk
    have a2 := (off_ge (h.2.1 s hs) k he).2
    omega
/-- The same, the block's number spelled otherwise. -/
theorem RowsG.made' (h : RowsG T size w0 w l) (cs : Array Value) (n : Nat) (xs : List Value) (g : Nat) (hg : g = w.heap.size) (hc : cs.toList = xs) (hn : xs.length = n * size) (hm : n ≤ 1000) : RowsG T size w0 (w.alloc (.cells cs T)) (⟨.slice (some ⟨g, 0, none⟩) n n, n, xs⟩ :: l) := by
  subst hg; exact h.made cs n xs hc hn hm
end

theorem wp_appG {P : Program} {o : Oper} {a : Act} {w : World} {K : Act → World → Prop} {Q : Exit → Act → World → Prop} (s x : Operand) (t : TypeId) (ho : o.op = .call { callee := .builtin .append, args := #[s, x], argTypes := #[t, t] })
    (e : TypeId) (i : TypeInfo) (z : Value) (size bytes : Nat) (ht : P.underlying t = some (.slice e)) (hi : P.info? e = some i) (hz : i.zero = some z) (hsize : i.size = size) (hby : i.bytes = bytes) (hzs : z.cells.size = size) (hsz : 0 < size)
    (w0 : World) (l1 l2 l : List RowG) (v : Value) (n : Nat) (xs : List Value) (hl : l = l1 ++ ⟨v, n, xs⟩ :: l2) (hR : RowsG e size w0 w l) (hs : a.eval s = v)
    (b2 : Nat) (xv : Value) (m : Nat) (news : List Value) (hx : a.eval x = xv) (hsrc : offRow w b2 e size xv m news) (h1 : ∀ u ∈ news, u.oneCell' = true) (h63 : n + m ≤ maxLen) (hbytes : (n + m) * bytes ≤ 140737488355328)
    (h : ∀ v' w', RowsG e size w0 w' (l1 ++ ⟨v', n + m, xs ++ news⟩ :: l2) → K (a.put o.dst v') w') : o.wp P a w K Q := by
  subst hl
  have hown := hR.2.1 ⟨v, n, xs⟩ (by simp)
  refine wp_append_offs w s x t ho e i z size bytes ht hi hz hsize hby hzs hsz w0.heap.size v n xs hs hown hR.1.size b2 xv m news hx hsrc h1 h63 hbytes fun v' w' h2 h3 h4 => h v' w' ?_
  have hpw := List.pairwise_append.1 hR.2.2
  have hlt : ∀ k, v.ownBlock = some k → w0.heap.size ≤ k := fun k hk => (off_ge hown k hk).1
  have hO : Only [] w0 w' := hR.1.trans' h3 (fun i hi hlt' => by have := hlt i (by simpa using hi); omega)
  have keep : ∀ r : RowG, offRow w w0.heap.size e size r.v r.n r.xs → (∀ k, r.v.ownBlock = some k → v.ownBlock ≠ some k) → offRow w' w0.heap.size e size r.v r.n r.xs := fun r hr hne =>
    off_only hr h3 fun k hk hm => hne k hk (by simpa using hm)
  have far : ∀ r : RowG, offRow w w0.heap.size e size r.v r.n r.xs → (∀ k, r.v.ownBlock = some k → v.ownBlock ≠ some k) → ∀ k, r.v.ownBlock = some k → v'.ownBlock ≠ some k := fun r hr hne k hk he => by
    rcases h4 with h4 | h4
    · rw [h4] at he; exact hne k hk he
    · have := h4 k he
      have := (off_ge hr k hk).2; omega
  have d1 : ∀ r ∈ l1, ∀ k, r.v.ownBlock = some k → v.ownBlock ≠ some k := fun r hr => hpw.2.2 r hr ⟨v, n, xs⟩ (by simp)
  have d2 : ∀ r ∈ l2, ∀ k, r.v.ownBlock = some k → v.ownBlock ≠ some k := fun r hr k hk he => List.rel_of_pairwise_cons hpw.2.1 hr k he hk
  refine ⟨hO, ?_, ?_⟩
  · intro r hr
    rcases List.mem_append.1 hr with hr | hr
    · exact keep r (hR.2.1 r (by simp [hr])) (d1 r hr)
    · rcases List.mem_cons.1 hr with rfl | hr
      · exact h2
      · exact keep r (hR.2.1 r (by simp [hr])) (d2 r hr)
  · refine List.pairwise_append.2 ⟨hpw.1, .cons ?_ (List.pairwise_cons.1 hpw.2.1).2, ?_⟩
    · intro r hr k hk he
      exact far r (hR.2.1 r (by simp [hr])) (d2 r hr) k he hk
    · intro r hr s hs k hk
      rcases List.mem_cons.1 hs with rfl | hs
      · exact far r (hR.2.1 r (by simp [hr])) (d1 r hr) k hk
      · exact hpw.2.2 r hr s (by simp [hs]) k hk

end Go.Proofs.Ytlnejlhdkmneeaa
