/- Words of this seat's proofs: a block that is known whole, and what becomes of it behind draws, new blocks and stores; which blocks a call may turn. -/
import Derived.WalkKit
import Derived.WalkSpells
import Derived.Deep.Draws
namespace Go.Proofs.Ytabdahojgmbgdaa
open Go.RowKit

/-- A fact put away from the walk; '.out' gives it back. -/
theorem hide {p : Prop} (h : p) : Hid p := h

/-- Block b of the heap is these cells, none of them frozen. -/
def Blk (w : World) (b : Nat) (t : TypeId) (cs : List Value) : Prop := w.heap[b]? = some (.cells cs.toArray t (0, 0))

section
variable {w w' : World} {b g : Nat} {t : TypeId} {cs : List Value}

theorem Blk.lt (h : Blk w b t cs) : b < w.heap.size := by
  unfold Blk at h
  rcases Nat.lt_or_ge b w.heap.size with hl | hl
  · exact hl
  · rw [Array.getElem?_eq_none hl] at h; cases h
theorem Blk.cell (h : Blk w b t cs) {i : Nat} {v : Value} (hv : cs[i]? = some v) : w.cell? ⟨b, i, none⟩ = some v := by
  unfold Blk at h
  simp [World.cell?, h, hv]
theorem Blk.frozen (h : Blk w b t cs) (i : Nat) : w.frozen? ⟨b, i, none⟩ = false := by
  unfold Blk at h
  simp [World.frozen?, h]
theorem Blk.ne (h : Blk w b t cs) {t' : TypeId} {cs' : List Value} (h' : Blk w g t' cs') (hne : t ≠ t') : b ≠ g := by
  rintro rfl
  unfold Blk at h h'
  rw [h] at h'
  injection h' with h'
  injection h' with _ e
  exact hne e
theorem Blk.drewN (h : Blk w b t cs) (n : Nat) : Blk (w.drewN n) b t cs := h
theorem Blk.drew (h : Blk w b t cs) : Blk w.drew b t cs := h
theorem Blk.alloc (h : Blk w b t cs) (o : Obj) : Blk (w.alloc o) b t cs := (Below.heap_alloc w o b h.lt).trans h
theorem Blk.far (h : Blk w b t cs) {p : Addr} (hp : b ≠ p.block) (u : Value) : Blk (w.setCell p u) b t cs := (Below.heap_setCell w p u b hp).trans h
theorem Blk.far' {p : Addr} {u : Value} (hp : b ≠ p.block) (h : Blk w b t cs) : Blk (w.setCell p u) b t cs := h.far hp u
theorem Blk.set (h : Blk w b t cs) (i : Nat) (u : Value) : Blk (w.setCell ⟨b, i, none⟩ u) b t (cs.set i u) := by
  unfold Blk at h ⊢
  simp [World.setCell, Array.getElem?_modify, h]
theorem Blk.new (w : World) (t : TypeId) (cs : List Value) : Blk (w.alloc (.cells cs.toArray t)) w.heap.size t cs := by
  show (w.heap.push _)[w.heap.size]? = _
  simp
theorem Blk.new' (w : World) (t : TypeId) (cs : List Value) {g : Nat} (hg : g = w.heap.size) : Blk (w.alloc (.cells cs.toArray t)) g t cs := by
  subst hg; exact Blk.new w t cs
theorem Blk.newA {c : Array Value} (hg : g = w.heap.size) : Blk (w.alloc (.cells c t)) g t c.toList := by
  subst hg
  show (w.heap.push _)[w.heap.size]? = _
  simp
theorem Blk.to (h : Blk w b t cs) {cs' : List Value} (e : cs = cs') : Blk w b t cs' := e ▸ h
theorem Blk.eq (h : Blk w b t cs) {t' : TypeId} {cs' : List Value} (h' : Blk w b t' cs') : cs = cs' := by
  unfold Blk at h h'
  rw [h] at h'
  injection h' with h'
  injection h' with h1 _
  have := congrArg Array.toList h1
  simpa using this
end

/-- From w to w' only the blocks of S, and new ones, have turned. -/
structure Only (S : List Nat) (w w' : World) : Prop where
  os : w'.os = w.os
  tape : w'.tape = w.tape
  output : w'.output = w.output
  size : w.heap.size ≤ w'.heap.size
  block : ∀ k, k < w.heap.size → k ∉ S → w'.heap[k]? = w.heap[k]?

section
variable {S S' : List Nat} {a w w' : World}
theorem Only.refl (S : List Nat) (w : World) : Only S w w := ⟨rfl, rfl, rfl, Nat.le_refl _, fun _ _ _ => rfl⟩
theorem Only.trans {c : World} (h : Only S a w) (k : Only S w c) : Only S a c :=
  ⟨k.os.trans h.os, k.tape.trans h.tape, k.output.trans h.output, Nat.le_trans h.size k.size,
   fun i hi hn => (k.block i (Nat.lt_of_lt_of_le hi h.size) hn).trans (h.block i hi hn)⟩
theorem Only.mono (h : Only S a w) (hs : ∀ k, k ∈ S → k < a.heap.size → k ∈ S') : Only S' a w :=
  ⟨h.os, h.tape, h.output, h.size, fun i hi hn => h.block i hi fun hm => hn (hs i hm hi)⟩
/-- What turns in the second step may be new since the first. -/
theorem Only.trans' {c : World} (h : Only S a w) (k : Only S' w c) (hs : ∀ i, i ∈ S' → i < a.heap.size → i ∈ S) : Only S a c :=
  ⟨k.os.trans h.os, k.tape.trans h.tape, k.output.trans h.output, Nat.le_trans h.size k.size,
   fun i hi hn => (k.block i (Nat.lt_of_lt_of_le hi h.size) fun hm => hn (hs i hm hi)).trans (h.block i hi hn)⟩
theorem Only.drewN (h : Only S a w) (n : Nat) : Only S a (w.drewN n) := ⟨h.os, h.tape, h.output, h.size, h.block⟩
theorem Only.drew (h : Only S a w) : Only S a w.drew := ⟨h.os, h.tape, h.output, h.size, h.block⟩
theorem Only.alloc (h : Only S a w) (o : Obj) : Only S a (w.alloc o) :=
  ⟨h.os, h.tape, h.output, Nat.le_trans h.size (by simp), fun i hi hn => (Below.heap_alloc w o i (Nat.lt_of_lt_of_le hi h.size)).trans (h.block i hi hn)⟩
theorem Only.set (h : Only S a w) {p : Addr} (hp : p.block ∈ S ∨ a.heap.size ≤ p.block) (u : Value) : Only S a (w.setCell p u) :=
  ⟨h.os, h.tape, h.output, by simpa [World.setCell] using h.size, fun i hi hn => (Below.heap_setCell w p u i (by
    rintro rfl
    rcases hp with hp | hp
    · exact hn hp
    · omega)).trans (h.block i hi hn)⟩
theorem Only.set' {p : Addr} {u : Value} (hp : p.block ∈ S ∨ a.heap.size ≤ p.block) (h : Only S a w) : Only S a (w.setCell p u) := h.set hp u
theorem Only.blk (h : Only S w w') {b : Nat} {t : TypeId} {cs : List Value} (hb : Blk w b t cs) (hn : b ∉ S) : Blk w' b t cs :=
  (h.block b hb.lt hn).trans hb
theorem Only.below {B : Nat} (h : Only S w w') (hs : ∀ k, k ∈ S → B ≤ k) (hB : B ≤ w.heap.size) : Below B w w' :=
  ⟨h.os, h.tape, h.output, h.size, fun i hi => h.block i (by omega) fun hm => by have := hs i hm; omega⟩
theorem Only.of_below (h : Below w.heap.size w w') (S : List Nat) : Only S w w' :=
  ⟨h.os, h.tape, h.output, h.size, fun i hi _ => h.block i hi⟩
theorem Only.of_grown {row : Option Nat} (h : w.grownBy w' row) (hr : ∀ g, row = some g → g ∈ S) : Only S w w' :=
  ⟨h.os, h.tape, h.output, h.size, fun i hi hn => h.block i hi fun e => hn (hr i e.symm)⟩
end

/-- It returned this value, and the world is such. -/
def Ret (v : Value) (Q : World → Prop) (e : Ending) (w : World) : Prop := e = .returned v ∧ Q w

end Go.Proofs.Ytabdahojgmbgdaa
