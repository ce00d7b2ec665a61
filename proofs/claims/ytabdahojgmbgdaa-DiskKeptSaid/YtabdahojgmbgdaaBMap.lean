/- A map of bools over int keys. -/
import Derived.Test.YtabdahojgmbgdaaRows
import Derived.Test.YtabdahojgmbgdaaOnlyT
import Derived.Maps.OwnSet
import Derived.Maps.OwnOps
import Derived.Laws.Entries
namespace Go.Proofs.Ytabdahojgmbgdaa
open Go.RowKit

abbrev wf64 (k : Int) : Prop := (Lit.int .i64 k).wf = true
theorem wf64_of {k : Int} (h1 : -9223372036854775808 ≤ k) (h2 : k ≤ 9223372036854775807) : wf64 k := by
  simp [wf64, Lit.wf, IntKind.min, IntKind.max, IntKind.signed, IntKind.bits]; omega
theorem kint : Maps.Keyed Try.prog 3 := Maps.int_keyed (q := .i64) Try.underlying3

theorem plainElem_bool_inv {P : Program} {e : TypeId} (he : P.underlying e = some .bool) {v : Value} {z : DataW Unit × List MemPlace} (h : plainElem P e v = some z) : ∃ x, v = .bool x ∧ z = (.lit (.bool x), []) := by
  unfold plainElem at h
  rw [he] at h
  cases v <;> simp at h
  exact ⟨_, rfl, h.symm⟩

def BMap (w : World) (b m : Nat) (f : Int → Bool) : Prop :=
  ∃ n, ∃ D : DataW Unit, n ≤ m ∧ w.ownsMap Try.prog 3 (plainElem Try.prog 4) b n D ∧ ∀ k, wf64 k → D.atKey (.int .i64 k) (.lit (.bool false)) = .lit (.bool (f k))

theorem BMap.made (w : World) (m : Nat) : BMap (w.alloc (.map #[] 0)) w.heap.size m (fun _ => false) :=
  ⟨0, .map [], Nat.zero_le _, World.ownsMap_made _ _ _ _, fun k _ => rfl⟩
theorem BMap.lt {w : World} {b m : Nat} {f : Int → Bool} (h : BMap w b m f) : b < w.heap.size := by
  obtain ⟨n, D, _, h, _⟩ := h; exact h.lt
theorem BMap.same {w w' : World} {b m : Nat} {f : Int → Bool} (h : BMap w b m f) (e : w'.heap[b]? = w.heap[b]?) : BMap w' b m f := by
  obtain ⟨n, D, hn, ⟨es, clock, hb, r⟩, ha⟩ := h
  exact ⟨n, D, hn, ⟨es, clock, e.trans hb, r⟩, ha⟩
theorem BMap.heap {w : World} {b m : Nat} {f : Int → Bool} (h : BMap w b m f) : ∃ es clock, w.heap[b]? = some (.map es clock) := by
  obtain ⟨n, D, hn, ⟨es, clock, hb, r⟩, ha⟩ := h
  exact ⟨es, clock, hb⟩
theorem BMap.ne {w : World} {b m g : Nat} {f : Int → Bool} {T : TypeId} {cs : List Value} (h : BMap w b m f) (hg : Blk w g T cs) : b ≠ g := by
  rintro rfl
  obtain ⟨es, clock, hb⟩ := h.heap
  unfold Blk at hg
  rw [hg] at hb
  cases hb
theorem BMap.ne_own {w : World} {b m base size n : Nat} {f : Int → Bool} {e : TypeId} {v : Value} {xs : List Value} (h : BMap w b m f) (hr : w.ownsRow base e size v n xs) : v.ownBlock ≠ some b := by
  rcases hr.2 with ⟨rfl, -⟩ | ⟨g, c, cur, rfl, -, hg, -⟩
  · simp [Value.ownBlock]
  · intro e
    obtain rfl : g = b := by simpa [Value.ownBlock] using e
    obtain ⟨es, clock, hb⟩ := h.heap
    rw [hg] at hb
    cases hb
theorem BMap.only {S : List Nat} {w w' : World} {b m : Nat} {f : Int → Bool} (h : BMap w b m f) (ho : Only S w w') (hb : b ∉ S) : BMap w' b m f := h.same (ho.block b h.lt hb)
theorem BMap.look {w : World} {b m : Nat} {f : Int → Bool} (h : BMap w b m f) {k : Int} (hk : wf64 k) :
    (Instr.lookup 32 (.map (some b)) (.int .i64 k) false).run Try.prog w = .ok (.bool (f k)) w := by
  obtain ⟨n, D, hn, h, ha⟩ := h
  obtain ⟨v, ps, h1, h2⟩ := h.lookup kint (t := 32) (e := 4) Try.underlying32 (z := .bool false) (by kernel_rfl) (plainElem_bool Try.underlying4 false) (Maps.keyOf_int_mk Try.underlying3 hk)
  rw [ha k hk] at h2
  obtain ⟨x, rfl, hx⟩ := plainElem_bool_inv Try.underlying4 h2
  simp at hx
  rw [h1, hx.1]
theorem BMap.store {w : World} {b m : Nat} {f : Int → Bool} (h : BMap w b m f) {k : Int} {c : Bool} (hm : m < maxLen) (hk : wf64 k) :
    ∃ w', (Instr.mapUpdate 32 (.map (some b)) (.int .i64 k) (.bool c)).run Try.prog w = .ok () w' ∧ BMap w' b (m + 1) (fun j => if j = k then c else f j) ∧ Only [b] w w' := by
  obtain ⟨n, D, hn, h, ha⟩ := h
  obtain ⟨w', h1, h2, h3⟩ := h.store kint (t := 32) (e := 4) Try.underlying32 (by omega) (Maps.keyOf_int_mk Try.underlying3 hk) (plainElem_bool Try.underlying4 c)
  refine ⟨w', h1, ⟨n + 1, _, by omega, h2, fun j hj => ?_⟩, Only.of_grown h3.grown (by rintro g hg; injection hg with hg; simp [hg])⟩
  by_cases e : j = k
  · subst e
    show _ = DataW.lit (Lit.bool (if j = j then c else f j))
    rw [if_pos rfl]
    exact Maps.atKey_put_same h.isMap (show WideAt.IsKeyLit (.int .i64 j) by simp [WideAt.IsKeyLit]) _ _
  · show _ = DataW.lit (Lit.bool (if j = k then c else f j))
    rw [if_neg e, Maps.atKey_put_other (fun hh => e (by injection hh))]
    exact ha j hj
theorem wpList_bmap_store {w : World} {ops : Array Oper} {rest : List Oper} {o : Oper} {a : Act} {Q : Exit → Act → World → Prop} (hg : o.guard = none) (m x v : Operand) (hop : o.op = Op.mapUpdate 32 m x v)
    (b n : Nat) (f : Int → Bool) (k : Int) (c : Bool) (hm : a.eval m = .map (some b)) (hx : a.eval x = .int .i64 k) (hv : a.eval v = .bool c) (h : BMap w b n f) (hn : n < maxLen) (hk : wf64 k)
    (hK : ∀ w', BMap w' b (n + 1) (fun j => if j = k then c else f j) → Only [b] w w' → wpList Try.prog ops Q rest (a.put o.dst undef) w') : wpList Try.prog ops Q (o :: rest) a w := by
  refine wpList_plain hg fun K' hK' => ?_
  obtain ⟨w', hrun, r1, r2⟩ := h.store (c := c) hn hk
  unfold Oper.wp
  simp [execOp, hop, hm, hx, hv, hrun, Result.andThen]
  exact hK' _ _ (hK w' r1 r2)

/-- Numbers in a row. -/
def NumsIn (w : World) (kd : IntKind) (A : Option Addr) (xs : List Nat) : Prop :=
  ∀ (k : Nat) (x : Nat), xs[k]? = some x → ∃ b o, A = some ⟨b, o, none⟩ ∧ w.cell? ⟨b, o + k, none⟩ = some (.int kd (x : Int))
theorem NumsIn.only {w w' : World} {kd : IntKind} {A : Option Addr} {xs : List Nat} (h : NumsIn w kd A xs) (ho : Only [] w w') : NumsIn w' kd A xs := by
  intro k x hx
  obtain ⟨b, o, hA, hc⟩ := h k x hx
  exact ⟨b, o, hA, by rw [World.cell?_of_block (w := w) (ho.block b (World.block_lt_of_cell? _ _ hc) (by simp))]; exact hc⟩

end Go.Proofs.Ytabdahojgmbgdaa
