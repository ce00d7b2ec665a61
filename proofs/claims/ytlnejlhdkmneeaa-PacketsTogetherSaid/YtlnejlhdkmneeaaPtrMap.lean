/- A Go map from keys of any kind to pointers, as a function from keys to blocks. -/
import Derived.Test.YtlnejlhdkmneeaaRows
import Derived.Test.YtlnejlhdkmneeaaOnlyT
import Derived.Maps.OwnSet
import Derived.Maps.OwnOps
namespace Go.Proofs.Ytlnejlhdkmneeaa
open Go.RowKit
open Go.Maps (Keyed)

/-- How a pointer to a block's begin reads. -/
def ptrElem (v : Value) : Option (DataW Unit × List MemPlace) :=
  match v with
  | .pointer none => some (.lit (.int .i64 (-1)), [])
  | .pointer (some ⟨b, 0, none⟩) => some (.lit (.int .i64 b), [])
  | _ => none
abbrev nilD : DataW Unit := .lit (.int .i64 (-1))
def encP (o : Option Nat) : DataW Unit := match o with | none => .lit (.int .i64 (-1)) | some b => .lit (.int .i64 b)
abbrev ptrV (o : Option Nat) : Value := .pointer (o.map fun b => ⟨b, 0, none⟩)
theorem ptrElem_V (o : Option Nat) : ptrElem (ptrV o) = some (encP o, []) := by cases o <;> rfl
theorem ptrElem_inv {v : Value} {o : Option Nat} {ps : List MemPlace} (h : ptrElem v = some (encP o, ps)) : v = ptrV o := by
  unfold ptrElem at h
  split at h
  · cases o with
    | none => rfl
    | some b =>
      simp only [encP, Option.some.injEq, Prod.mk.injEq] at h
      have h1 := h.1
      injection h1 with h1
      injection h1 with _ h1
      omega
  · rename_i c
    cases o with
    | none =>
      simp only [encP, Option.some.injEq, Prod.mk.injEq] at h
      have h1 := h.1
      injection h1 with h1
      injection h1 with _ h1
      omega
    | some b =>
      simp only [encP, Option.some.injEq, Prod.mk.injEq] at h
      have h1 := h.1
      injection h1 with h1
      injection h1 with _ h1
      have : c = b := by omega
      subst this
      rfl
  · cases h

open Classical in
/-- f with another answer at one key. -/
noncomputable def updF (f : Lit → Option Nat) (kl : Lit) (o : Option Nat) : Lit → Option Nat := fun j => if j = kl then o else f j
theorem updF_same (f : Lit → Option Nat) (kl : Lit) (o : Option Nat) : updF f kl o kl = o := by unfold updF; rw [if_pos rfl]
theorem updF_other (f : Lit → Option Nat) {kl j : Lit} (o : Option Nat) (h : j ≠ kl) : updF f kl o j = f j := by unfold updF; rw [if_neg h]

/-- Block b is a map (keys of type k) of at most m entries, s of them, that answers f. -/
def PtrMap (w : World) (k : TypeId) (b m s : Nat) (f : Lit → Option Nat) : Prop :=
  ∃ n, ∃ D : DataW Unit, n ≤ m ∧ w.ownsMap Try.prog k ptrElem b n D ∧ Maps.size D = s ∧ Maps.Tidy D ∧ ∀ kl, Maps.KeysOf Try.prog k kl → D.atKey kl nilD = encP (f kl) ∧ Maps.has D kl = (f kl).isSome

section
variable {w w' : World} {k t e : TypeId} {b m s : Nat} {f : Lit → Option Nat}
theorem PtrMap.made (w : World) (k : TypeId) (m : Nat) : PtrMap (w.alloc (.map #[] 0)) k w.heap.size m 0 (fun _ => none) :=
  ⟨0, .map [], Nat.zero_le _, World.ownsMap_made _ _ _ _, rfl, Maps.tidy_empty, fun kl _ => ⟨rfl, rfl⟩⟩
theorem PtrMap.lt (h : PtrMap w k b m s f) : b < w.heap.size := by
  obtain ⟨n, D, _, h, _⟩ := h; exact h.lt
theorem PtrMap.same (h : PtrMap w k b m s f) (e : w'.heap[b]? = w.heap[b]?) : PtrMap w' k b m s f := by
  obtain ⟨n, D, hn, ⟨es, clock, hb, r⟩, ha⟩ := h
  exact ⟨n, D, hn, ⟨es, clock, e.trans hb, r⟩, ha⟩
theorem PtrMap.heap (h : PtrMap w k b m s f) : ∃ es clock, w.heap[b]? = some (.map es clock) := by
  obtain ⟨n, D, hn, ⟨es, clock, hb, r⟩, ha⟩ := h
  exact ⟨es, clock, hb⟩
theorem PtrMap.ne {g : Nat} {T : TypeId} {cs : List Value} (h : PtrMap w k b m s f) (hg : Blk w g T cs) : b ≠ g := by
  rintro rfl
  obtain ⟨es, clock, hb⟩ := h.heap
  unfold Blk at hg
  rw [hg] at hb
  cases hb
theorem PtrMap.noT (h : PtrMap w k b m s f) (Ts : List TypeId) : ¬ HasT w b Ts := by
  rintro ⟨c, t, fr, hc, -⟩
  obtain ⟨es, clock, hb⟩ := h.heap
  rw [hc] at hb
  cases hb
theorem PtrMap.onlyT {base : Nat} {Ts : List TypeId} (h : PtrMap w k b m s f) (ho : OnlyT Ts base w w') : PtrMap w' k b m s f := h.same (ho.block b h.lt (.inr (h.noT Ts)))
theorem PtrMap.only (h : PtrMap w k b m s f) (ho : Only [] w w') : PtrMap w' k b m s f := h.same (ho.block b h.lt (by simp))
theorem PtrMap.onlyS {S : List Nat} (h : PtrMap w k b m s f) (ho : Only S w w') (hb : b ∉ S) : PtrMap w' k b m s f := h.same (ho.block b h.lt hb)
theorem PtrMap.alloc (h : PtrMap w k b m s f) (o : Obj) : PtrMap (w.alloc o) k b m s f := h.only ((Only.refl [] w).alloc o)
theorem PtrMap.drew (h : PtrMap w k b m s f) : PtrMap w.drew k b m s f := h
theorem PtrMap.set (h : PtrMap w k b m s f) {a : Addr} (ha : b ≠ a.block) (u : Value) : PtrMap (w.setCell a u) k b m s f := h.same (Below.heap_setCell _ _ _ _ ha)
theorem PtrMap.mono {m' : Nat} (h : PtrMap w k b m s f) (hm : m ≤ m') : PtrMap w k b m' s f := by
  obtain ⟨n, D, hn, h⟩ := h
  exact ⟨n, D, Nat.le_trans hn hm, h⟩
theorem PtrMap.ext {g : Lit → Option Nat} (h : PtrMap w k b m s f) (hm : ∀ kl, Maps.KeysOf Try.prog k kl → f kl = g kl) : PtrMap w k b m s g := by
  obtain ⟨n, D, hn, h, hs, ht, ha⟩ := h
  exact ⟨n, D, hn, h, hs, ht, fun kl hk => by rw [← hm kl hk]; exact ha kl hk⟩
theorem PtrMap.size_le (h : PtrMap w k b m s f) : s ≤ m := by
  obtain ⟨n, D, hn, h, rfl, _⟩ := h
  exact Nat.le_trans h.size_le hn

theorem PtrMap.look (h : PtrMap w k b m s f) (K : Keyed Try.prog k) (ht : Try.prog.underlying t = some (.map k e)) (hz : (zeroValue e).run Try.prog w = .ok (.pointer none) w) {key : Value} {kl : Lit} (hkey : keyOf Try.prog k key = some kl) :
    (Instr.lookup t (.map (some b)) key false).run Try.prog w = .ok (ptrV (f kl)) w := by
  obtain ⟨n, D, hn, h, hs, hT, ha⟩ := h
  obtain ⟨v, ps, h1, h2⟩ := h.lookup K ht hz (zd := nilD) (zp := []) rfl hkey
  rw [(ha kl ⟨key, hkey⟩).1] at h2
  rw [h1, ptrElem_inv h2]

theorem PtrMap.len (h : PtrMap w k b m s f) (ht : Try.prog.underlying t = some (.map k e)) (ty : TypeId) : (Builtin.len_ #[t] ty #[.map (some b)]).run Try.prog w = .ok (.int .i64 s) w := by
  obtain ⟨n, D, hn, h, rfl, _⟩ := h
  exact h.len ht ty

theorem PtrMap.store (h : PtrMap w k b m s f) (K : Keyed Try.prog k) (ht : Try.prog.underlying t = some (.map k e)) (hm : m < maxLen) {key : Value} {kl : Lit} (hkey : keyOf Try.prog k key = some kl) (c : Nat) :
    ∃ w', (Instr.mapUpdate t (.map (some b)) key (.pointer (some ⟨c, 0, none⟩))).run Try.prog w = .ok () w' ∧ PtrMap w' k b (m + 1) (if (f kl).isSome then s else s + 1) (updF f kl (some c)) ∧ Only [b] w w' := by
  obtain ⟨n, D, hn, h, rfl, hT, ha⟩ := h
  obtain ⟨w', h1, h2, h3⟩ := h.store K ht (by omega) hkey (ptrElem_V (some c))
  have hkk : WideAt.IsKeyLit kl := K.key hkey
  refine ⟨w', h1, ⟨n + 1, _, by omega, h2, ?_, hT.put hkk _, fun j hj => ?_⟩, Only.of_grown h3.grown (by rintro g hg; injection hg with hg; simp [hg])⟩
  · rw [Maps.size_put hT, (ha kl ⟨key, hkey⟩).2]
  · by_cases e : j = kl
    · subst e
      rw [updF_same]
      exact ⟨Maps.atKey_put_same hT.isMap hkk _ _, Maps.has_put_same hT.isMap hkk _⟩
    · rw [updF_other _ _ e]
      exact ⟨(Maps.atKey_put_other e _ _).trans (ha j hj).1, (Maps.has_put_other e _).trans (ha j hj).2⟩

theorem PtrMap.drop (h : PtrMap w k b m s f) (K : Keyed Try.prog k) (ht : Try.prog.underlying t = some (.map k e)) {key : Value} {kl : Lit} (hkey : keyOf Try.prog k key = some kl) (ty : TypeId) :
    ∃ w', (Builtin.delete_ #[t, k] ty #[.map (some b), key]).run Try.prog w = .ok (.tuple #[]) w' ∧ PtrMap w' k b m (if (f kl).isSome then s - 1 else s) (updF f kl none) ∧ Only [b] w w' := by
  obtain ⟨n, D, hn, h, rfl, hT, ha⟩ := h
  obtain ⟨w', h1, h2, h3⟩ := h.drop K ht hkey ty
  refine ⟨w', h1, ⟨n, _, hn, h2, ?_, hT.del _, fun j hj => ?_⟩, Only.of_grown h3.grown (by rintro g hg; injection hg with hg; simp [hg])⟩
  · have := Maps.size_del (k := kl) hT
    rw [(ha kl ⟨key, hkey⟩).2] at this
    split <;> simp_all <;> omega
  · by_cases e : j = kl
    · subst e
      rw [updF_same]
      exact ⟨Maps.atKey_del_same _, Maps.has_del_same⟩
    · rw [updF_other _ _ e]
      exact ⟨(Maps.atKey_del_other e _).trans (ha j hj).1, (Maps.has_del_other e).trans (ha j hj).2⟩
end

/-! At the operation, for the walk. -/
section
variable (w : World) {ops : Array Oper} {rest : List Oper} {o : Oper} {a : Act} {Q : Exit → Act → World → Prop}
theorem wpList_ptr_look (hg : o.guard = none) (m x : Operand) (t : TypeId) (hop : o.op = Op.lookup t m x false)
    (k e : TypeId) (K : Keyed Try.prog k) (ht : Try.prog.underlying t = some (.map k e)) (hz : (zeroValue e).run Try.prog w = .ok (.pointer none) w) (b n s : Nat) (f : Lit → Option Nat)
    (hm : a.eval m = .map (some b)) (hown : PtrMap w k b n s f) (key : Value) (kl : Lit) (hx : a.eval x = key) (hkey : keyOf Try.prog k key = some kl) (r : Option Nat) (hr : f kl = r)
    (hK : wpList Try.prog ops Q rest (a.put o.dst (ptrV r)) w) : wpList Try.prog ops Q (o :: rest) a w := by
  refine wpList_plain hg fun K' hK' => ?_
  have hrun := hown.look K ht hz hkey
  rw [hr] at hrun
  unfold Oper.wp
  simp [execOp, hop, hm, hx, hrun, Result.andThen]
  exact hK' _ _ (by simpa using hK)
theorem wpList_ptr_none (hg : o.guard = none) (m x : Operand) (t : TypeId) (hop : o.op = Op.lookup t m x false)
    (k e : TypeId) (K : Keyed Try.prog k) (ht : Try.prog.underlying t = some (.map k e)) (hz : (zeroValue e).run Try.prog w = .ok (.pointer none) w) (b n s : Nat) (f : Lit → Option Nat)
    (hm : a.eval m = .map (some b)) (hown : PtrMap w k b n s f) (key : Value) (kl : Lit) (hx : a.eval x = key) (hkey : keyOf Try.prog k key = some kl) (hr : f kl = none)
    (hK : wpList Try.prog ops Q rest (a.put o.dst (.pointer none)) w) : wpList Try.prog ops Q (o :: rest) a w :=
  wpList_ptr_look w hg m x t hop k e K ht hz b n s f hm hown key kl hx hkey none hr hK
theorem wpList_ptr_some (hg : o.guard = none) (m x : Operand) (t : TypeId) (hop : o.op = Op.lookup t m x false)
    (k e : TypeId) (K : Keyed Try.prog k) (ht : Try.prog.underlying t = some (.map k e)) (hz : (zeroValue e).run Try.prog w = .ok (.pointer none) w) (b n s : Nat) (f : Lit → Option Nat)
    (hm : a.eval m = .map (some b)) (hown : PtrMap w k b n s f) (key : Value) (kl : Lit) (hx : a.eval x = key) (hkey : keyOf Try.prog k key = some kl) (c : Nat) (hr : f kl = some c)
    (hK : wpList Try.prog ops Q rest (a.put o.dst (.pointer (some ⟨c, 0, none⟩))) w) : wpList Try.prog ops Q (o :: rest) a w :=
  wpList_ptr_look w hg m x t hop k e K ht hz b n s f hm hown key kl hx hkey (some c) hr hK
theorem wpList_ptr_len (hg : o.guard = none) (m : Operand) (t : TypeId) (hop : o.op = Op.call { callee := Callee.builtin Builtin.len, args := #[m], argTypes := #[t] })
    (k e : TypeId) (ht : Try.prog.underlying t = some (.map k e)) (b n s : Nat) (f : Lit → Option Nat) (hm : a.eval m = .map (some b)) (hown : PtrMap w k b n s f)
    (hK : wpList Try.prog ops Q rest (a.put o.dst (.int .i64 s)) w) : wpList Try.prog ops Q (o :: rest) a w := by
  refine wpList_plain hg fun K' hK' => ?_
  unfold Oper.wp
  simp [execOp, hop, resolve, invoke, builtin, hm, hown.len ht o.type, Result.andThen]
  exact hK' _ _ hK
theorem wpList_ptr_store (hg : o.guard = none) (m x v : Operand) (t : TypeId) (hop : o.op = Op.mapUpdate t m x v)
    (k e : TypeId) (K : Keyed Try.prog k) (ht : Try.prog.underlying t = some (.map k e)) (b n s : Nat) (f : Lit → Option Nat)
    (hm : a.eval m = .map (some b)) (hown : PtrMap w k b n s f) (hn : n < maxLen) (key : Value) (kl : Lit) (hx : a.eval x = key) (c : Nat) (hv : a.eval v = .pointer (some ⟨c, 0, none⟩)) (hkey : keyOf Try.prog k key = some kl)
    (hK : ∀ w', PtrMap w' k b (n + 1) (if (f kl).isSome then s else s + 1) (updF f kl (some c)) → Only [b] w w' → wpList Try.prog ops Q rest (a.put o.dst undef) w') :
    wpList Try.prog ops Q (o :: rest) a w := by
  refine wpList_plain hg fun K' hK' => ?_
  obtain ⟨w', hrun, r1, r2⟩ := hown.store K ht hn hkey c
  unfold Oper.wp
  simp [execOp, hop, hm, hx, hv, hrun, Result.andThen]
  exact hK' _ _ (hK w' r1 r2)
theorem wpList_ptr_drop (hg : o.guard = none) (m x : Operand) (t k : TypeId) (hop : o.op = Op.call { callee := Callee.builtin Builtin.delete, args := #[m, x], argTypes := #[t, k] })
    (e : TypeId) (K : Keyed Try.prog k) (ht : Try.prog.underlying t = some (.map k e)) (b n s : Nat) (f : Lit → Option Nat)
    (hm : a.eval m = .map (some b)) (hown : PtrMap w k b n s f) (key : Value) (kl : Lit) (hx : a.eval x = key) (hkey : keyOf Try.prog k key = some kl)
    (hK : ∀ w', PtrMap w' k b n (if (f kl).isSome then s - 1 else s) (updF f kl none) → Only [b] w w' → wpList Try.prog ops Q rest (a.put o.dst (.tuple #[])) w') :
    wpList Try.prog ops Q (o :: rest) a w := by
  refine wpList_plain hg fun K' hK' => ?_
  obtain ⟨w', hrun, r1, r2⟩ := hown.drop K ht hkey o.type
  unfold Oper.wp
  simp [execOp, hop, resolve, invoke, builtin, hm, hx, hrun, Result.andThen]
  exact hK' _ _ (hK w' r1 r2)
end

end Go.Proofs.Ytlnejlhdkmneeaa
