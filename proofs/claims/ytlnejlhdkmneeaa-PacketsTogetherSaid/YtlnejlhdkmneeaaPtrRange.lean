/- Ranging over a Go map of pointers, with deletion on the way. -/
import Derived.Test.YtlnejlhdkmneeaaPtrMap
import Derived.Maps.RangeWalk
import Derived.DeepKeys4
namespace Go.Proofs.Ytlnejlhdkmneeaa
open Go.RowKit
open Go.Maps (Keyed)

/-- Block r ranges over the map b; 'left kl': the entry at kl is still to come; cnt of them are. -/
def PtrRange (w : World) (k : TypeId) (b r m s : Nat) (f : Lit → Option Nat) (left : Lit → Bool) (cnt : Nat) : Prop :=
  ∃ n, ∃ D : DataW Unit, n ≤ m ∧ w.ranges Try.prog k ptrElem b r n D left cnt ∧ Maps.size D = s ∧ Maps.Tidy D ∧ ∀ kl, Maps.KeysOf Try.prog k kl → D.atKey kl nilD = encP (f kl) ∧ Maps.has D kl = (f kl).isSome

section
variable {w w' : World} {k t e : TypeId} {b r m s cnt : Nat} {f : Lit → Option Nat} {left : Lit → Bool}
theorem PtrRange.map (h : PtrRange w k b r m s f left cnt) : PtrMap w k b m s f := by
  obtain ⟨n, D, h1, h2, h3⟩ := h
  exact ⟨n, D, h1, h2.owns, h3⟩
theorem PtrRange.left_eq (h : PtrRange w k b r m s f left cnt) : w.rangeLeft b r = cnt := by
  obtain ⟨n, D, h1, h2, h3⟩ := h
  exact h2.left_eq
theorem PtrRange.ne (h : PtrRange w k b r m s f left cnt) : r ≠ b := by
  obtain ⟨n, D, h1, h2, h3⟩ := h
  exact h2.ne
theorem PtrRange.lt (h : PtrRange w k b r m s f left cnt) : r < w.heap.size := by
  obtain ⟨n, D, h1, h2, h3⟩ := h
  exact h2.lt
theorem PtrRange.same (h : PtrRange w k b r m s f left cnt) (hb : w'.heap[b]? = w.heap[b]?) (hr : w'.heap[r]? = w.heap[r]?) : PtrRange w' k b r m s f left cnt := by
  obtain ⟨n, D, h1, ⟨es, clock, since, seen, c0, g1, g2, g3, g4, g5, g6⟩, h3⟩ := h
  exact ⟨n, D, h1, ⟨es, clock, since, seen, c0, hb.trans g1, g2, g3, g4, hr.trans g5, g6⟩, h3⟩
theorem PtrRange.only {S : List Nat} (h : PtrRange w k b r m s f left cnt) (ho : Only S w w') (hb : b ∉ S) (hr : r ∉ S) : PtrRange w' k b r m s f left cnt :=
  h.same (ho.block b h.map.lt hb) (ho.block r h.lt hr)
/-- A block known whole is no iterator. -/
theorem PtrRange.ne_blk {g : Nat} {T : TypeId} {cs : List Value} (h : PtrRange w k b r m s f left cnt) (hg : Blk w g T cs) : r ≠ g := by
  obtain ⟨n, D, h1, ⟨es, clock, since, seen, c0, g1, g2, g3, g4, g5, g6⟩, h3⟩ := h
  rintro rfl
  unfold Blk at hg
  rw [hg] at g5
  injection g5 with g5
  cases g5

theorem PtrRange.drop (h : PtrRange w k b r m s f left cnt) (K : Keyed Try.prog k) (ht : Try.prog.underlying t = some (.map k e)) {key : Value} {kl : Lit} (hkey : keyOf Try.prog k key = some kl) (ty : TypeId) :
    ∃ w' cnt', (Builtin.delete_ #[t, k] ty #[.map (some b), key]).run Try.prog w = .ok (.tuple #[]) w' ∧ PtrRange w' k b r m (if (f kl).isSome then s - 1 else s) (updF f kl none) (fun z => left z && !z.sameKey kl) cnt' ∧ cnt' ≤ cnt ∧ Only [b] w w' := by
  obtain ⟨n, D, hn, h, rfl, hT, ha⟩ := h
  obtain ⟨w', cnt', h1, h2, h3, h4⟩ := h.drop K ht hkey ty
  refine ⟨w', cnt', h1, ⟨n, _, hn, h2, ?_, hT.del _, fun j hj => ?_⟩, h3, Only.of_grown h4.grown (by rintro g hg; injection hg with hg; simp [hg])⟩
  · have := Maps.size_del (k := kl) hT
    rw [(ha kl ⟨key, hkey⟩).2] at this
    split <;> simp_all <;> omega
  · by_cases e : j = kl
    · subst e
      rw [updF_same]
      exact ⟨Maps.atKey_del_same _, Maps.has_del_same⟩
    · rw [updF_other _ _ e]
      exact ⟨(Maps.atKey_del_other e _).trans (ha j hj).1, (Maps.has_del_other e).trans (ha j hj).2⟩
end

section
variable (w : World) {ops : Array Oper} {rest : List Oper} {o : Oper} {a : Act} {Q : Exit → Act → World → Prop}
theorem wpList_ptr_range (hg : o.guard = none) (mm : Operand) (t : TypeId) (hop : o.op = Op.range t mm) (k e : TypeId) (K : Keyed Try.prog k) (ht : Try.prog.underlying t = some (.map k e)) (b m s : Nat) (f : Lit → Option Nat)
    (hm : a.eval mm = .map (some b)) (hown : PtrMap w k b m s f)
    (hK : ∀ w' left, PtrRange w' k b w.heap.size m s f left s → (∀ kl, Maps.KeysOf Try.prog k kl → left kl = (f kl).isSome) → Only [] w w' → w'.heap.size = w.heap.size + 1 → wpList Try.prog ops Q rest (a.put o.dst (.pointer (some ⟨w.heap.size, 0, none⟩))) w') :
    wpList Try.prog ops Q (o :: rest) a w := by
  obtain ⟨n, D, hn, h, rfl, hT, ha⟩ := hown
  refine wpList_range_own w hg mm t hop k e K ht ptrElem b n D hm h fun w' h1 h2 h3 => ?_
  exact hK w' _ ⟨n, D, hn, h1, rfl, hT, ha⟩ (fun kl hkl => (ha kl hkl).2) (Only.of_grown h2 (by simp)) h3
theorem wpList_ptr_next (hg : o.guard = none) (it : Operand) (hop : o.op = Op.next it false) (k : TypeId) (K : Keyed Try.prog k) (b r m s : Nat) (f : Lit → Option Nat) (left : Lit → Bool) (cnt : Nat)
    (hit : a.eval it = .pointer (some ⟨r, 0, none⟩)) (h : PtrRange w k b r m s f left cnt)
    (hDone : cnt = 0 → (∀ kl, left kl = false) → wpList Try.prog ops Q rest (a.put o.dst (.tuple #[.bool false])) w)
    (hMore : ∀ (key : Value) (kl : Lit) (c : Nat) (w' : World) (cnt' : Nat), keyOf Try.prog k key = some kl → left kl = true → f kl = some c → PtrRange w' k b r m s f (fun z => left z && !z.sameKey kl) cnt' → cnt' < cnt →
      Only [r] w w' → w'.heap.size = w.heap.size → (Instr.entry (.pointer (some ⟨r, 0, none⟩))).run Try.prog w' = .ok (.tuple #[key, .pointer (some ⟨c, 0, none⟩)]) w' → wpList Try.prog ops Q rest (a.put o.dst (.tuple #[.bool true, key, .pointer (some ⟨c, 0, none⟩)])) w') :
    wpList Try.prog ops Q (o :: rest) a w := by
  obtain ⟨n, D, hn, h, rfl, hT, ha⟩ := h
  refine wpList_next_ranges (α := Value) (β := Value) w hg it hop k K ptrElem id id (fun key _ _ => ⟨key, rfl⟩) (fun v _ _ => ⟨v, rfl⟩) b r n D left cnt hit h hDone ?_
  intro key v kl y w' cnt' hkey hlk hv hat hrg hlt hgr hsz hen
  have h1 := hat nilD
  have h2 := (ha kl ⟨key, hkey⟩)
  rw [h2.1] at h1
  have hs : (f kl).isSome = true := by rw [← h2.2]; exact Maps.has_true_of_atKey hat
  obtain ⟨c, hc⟩ := Option.isSome_iff_exists.1 hs
  rw [hc] at h1
  have hv' : ptrElem v = some (encP (some c), y.2) := by
    have : ptrElem v = some y := hv
    rw [this, h1]
  have hvv := ptrElem_inv hv'
  have hvc : v = .pointer (some ⟨c, 0, none⟩) := hvv
  subst hvc
  exact hMore key kl c w' cnt' hkey hlk hc ⟨n, D, hn, hrg, rfl, hT, ha⟩ hlt (Only.of_grown hgr (by rintro g hg; injection hg with hg; simp [hg])) hsz hen
end

end Go.Proofs.Ytlnejlhdkmneeaa
