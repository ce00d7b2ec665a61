/- What a call may turn, told by the kinds of blocks: blocks of the types Ts that are new since 'base', and new blocks. -/
import Derived.Test.YtabdahojgmbgdaaWords
import Derived.Laws.AppendOwn
import Derived.Laws.OwnMore
import Derived.OwnWalk
namespace Go.Proofs.Ytabdahojgmbgdaa
open Go.RowKit

def HasT (w : World) (k : Nat) (Ts : List TypeId) : Prop := ∃ c t fr, w.heap[k]? = some (.cells c t fr) ∧ t ∈ Ts

structure OnlyT (Ts : List TypeId) (base : Nat) (w w' : World) : Prop where
  os : w'.os = w.os
  tape : w'.tape = w.tape
  output : w'.output = w.output
  size : w.heap.size ≤ w'.heap.size
  block : ∀ k, k < w.heap.size → (k < base ∨ ¬ HasT w k Ts) → w'.heap[k]? = w.heap[k]?

section
variable {Ts : List TypeId} {base : Nat} {a w w' c : World}
theorem OnlyT.refl (w : World) : OnlyT Ts base w w := ⟨rfl, rfl, rfl, Nat.le_refl _, fun _ _ _ => rfl⟩
theorem OnlyT.trans (h : OnlyT Ts base a w) (k : OnlyT Ts base w c) : OnlyT Ts base a c := by
  refine ⟨k.os.trans h.os, k.tape.trans h.tape, k.output.trans h.output, Nat.le_trans h.size k.size, fun i hi hE => ?_⟩
  have h1 := h.block i hi hE
  refine (k.block i (Nat.lt_of_lt_of_le hi h.size) ?_).trans h1
  rcases hE with hE | hE
  · exact .inl hE
  · exact .inr fun ⟨c, t, fr, hc, ht⟩ => hE ⟨c, t, fr, by rw [← h1]; exact hc, ht⟩
theorem OnlyT.mono {Us : List TypeId} (h : OnlyT Ts base a w) (hs : ∀ t, t ∈ Ts → t ∈ Us) : OnlyT Us base a w :=
  ⟨h.os, h.tape, h.output, h.size, fun i hi hE => h.block i hi (hE.imp id fun hn ⟨c, t, fr, hc, ht⟩ => hn ⟨c, t, fr, hc, hs t ht⟩)⟩
theorem OnlyT.of_only {S : List Nat} (h : Only S w w') (hS : ∀ k, k ∈ S → k < w.heap.size → base ≤ k ∧ HasT w k Ts) : OnlyT Ts base w w' :=
  ⟨h.os, h.tape, h.output, h.size, fun k hk hE => h.block k hk fun hm => by
    obtain ⟨h1, h2⟩ := hS k hm hk
    rcases hE with hE | hE
    · omega
    · exact hE h2⟩
theorem OnlyT.of_nil (h : Only [] w w') : OnlyT Ts base w w' := .of_only h (by simp)
theorem Blk.hasT {b : Nat} {t : TypeId} {cs : List Value} (h : Blk w b t cs) (ht : t ∈ Ts) : HasT w b Ts := ⟨_, _, _, h, ht⟩
theorem own_hasT {e : TypeId} {size n : Nat} {v : Value} {xs : List Value} {b0 : Nat} (own : w.ownsRow b0 e size v n xs) (he : e ∈ Ts) (hb : base ≤ b0) : ∀ k, v.ownBlock = some k → base ≤ k ∧ HasT w k Ts := by
  intro k hk
  rcases own.2 with ⟨rfl, _⟩ | ⟨g, cap, cur, rfl, h1, hh, _⟩
  · simp [Value.ownBlock] at hk
  · obtain rfl : g = k := by simpa [Value.ownBlock] using hk
    exact ⟨by omega, _, _, _, hh, he⟩
theorem OnlyT.blk (h : OnlyT Ts base w w') {b : Nat} {t : TypeId} {cs : List Value} (hb : Blk w b t cs) (ht : t ∉ Ts) : Blk w' b t cs := by
  refine (h.block b hb.lt (.inr ?_)).trans hb
  rintro ⟨c, t', fr, hc, hm⟩
  unfold Blk at hb
  rw [hb] at hc
  injection hc with hc
  injection hc with _ e
  exact ht (e ▸ hm)
theorem OnlyT.own (h : OnlyT Ts base w w') {e : TypeId} {size n : Nat} {v : Value} {xs : List Value} {b0 : Nat} (own : w.ownsRow b0 e size v n xs) (ht : e ∉ Ts) : w'.ownsRow b0 e size v n xs := by
  obtain ⟨h1, h2⟩ := own
  refine ⟨h1, ?_⟩
  rcases h2 with h2 | ⟨g, cap, cur, rfl, hg, hh, hr⟩
  · exact .inl h2
  · refine .inr ⟨g, cap, cur, rfl, hg, ?_, hr⟩
    have hlt : g < w.heap.size := by
      rcases Nat.lt_or_ge g w.heap.size with hl | hl
      · exact hl
      · rw [Array.getElem?_eq_none hl] at hh; cases hh
    refine (h.block g hlt (.inr ?_)).trans hh
    rintro ⟨c, t', fr, hc, hm⟩
    rw [hh] at hc
    injection hc with hc
    injection hc with _ e
    exact ht (e ▸ hm)
theorem OnlyT.below (h : OnlyT Ts base w w') (hb : base ≤ w.heap.size) : Below base w w' :=
  ⟨h.os, h.tape, h.output, h.size, fun k hk => h.block k (by omega) (.inl hk)⟩
theorem OnlyT.only (h : OnlyT Ts base w w') {A : World} (hA : Only [] A w) (hb : A.heap.size ≤ base) : Only [] A w' :=
  ⟨h.os.trans hA.os, h.tape.trans hA.tape, h.output.trans hA.output, Nat.le_trans hA.size h.size, fun k hk hn =>
    (h.block k (Nat.lt_of_lt_of_le hk hA.size) (.inl (by omega))).trans (hA.block k hk hn)⟩
theorem OnlyT.lift {b0 : Nat} (h : OnlyT Ts base w w') (hb : base ≤ b0) (h0 : ∀ k, k < b0 → k < w.heap.size → w'.heap[k]? = w.heap[k]?) : OnlyT Ts b0 w w' :=
  ⟨h.os, h.tape, h.output, h.size, fun k hk hE => by
    rcases hE with hE | hE
    · exact h0 k hE hk
    · exact h.block k hk (.inr hE)⟩
end

/-! Rows of a call's own, kept. -/
section
variable {w w' : World} {base : Nat} {e : TypeId} {size n : Nat} {v : Value} {xs : List Value}
theorem own_only {S : List Nat} (h : w.ownsRow base e size v n xs) (ho : Only S w w') (hn : ∀ k, v.ownBlock = some k → k ∉ S) : w'.ownsRow base e size v n xs := by
  obtain ⟨h1, h2⟩ := h
  refine ⟨h1, ?_⟩
  rcases h2 with h2 | ⟨g, cap, cur, rfl, hg, hh, hr⟩
  · exact .inl h2
  · refine .inr ⟨g, cap, cur, rfl, hg, ?_, hr⟩
    have hlt : g < w.heap.size := by
      rcases Nat.lt_or_ge g w.heap.size with hl | hl
      · exact hl
      · rw [Array.getElem?_eq_none hl] at hh; cases hh
    exact (ho.block g hlt (hn g rfl)).trans hh
theorem own_nil (h : w.ownsRow base e size v n xs) (ho : Only [] w w') : w'.ownsRow base e size v n xs := own_only h ho (by simp)
theorem own_setCell (h : w.ownsRow base e size v n xs) {p : Addr} (hp : v.ownBlock ≠ some p.block) (u : Value) : (w.setCell p u).ownsRow base e size v n xs := by
  refine own_only (S := [p.block]) h ⟨rfl, rfl, rfl, by simp [World.setCell], fun k _ hn => Below.heap_setCell w p u k (by simpa using hn)⟩ fun k hk => ?_
  simp; rintro rfl; exact hp hk
theorem own_base {b0 : Nat} (h : w.ownsRow base e size v n xs) (hb : b0 ≤ base) : w.ownsRow b0 e size v n xs := by
  refine ⟨h.1, ?_⟩
  rcases h.2 with h2 | ⟨g, cap, cur, rfl, h1, h2⟩
  · exact .inl h2
  · exact .inr ⟨g, cap, cur, rfl, by omega, h2⟩
theorem own_shape (h : w.ownsRow base e size v n xs) : ∃ A c, v = .slice A n c := by
  rcases h.2 with ⟨rfl, rfl⟩ | ⟨g, cap, cur, rfl, _⟩
  · exact ⟨_, _, rfl⟩
  · exact ⟨_, _, rfl⟩
theorem own_ne_blk {t : TypeId} {g : Nat} {cs : List Value} (h : w.ownsRow base e size v n xs) (hg : Blk w g t cs) (hne : e ≠ t) : v.ownBlock ≠ some g := by
  rcases h.2 with ⟨rfl, _⟩ | ⟨g', cap, cur, rfl, _, hh, _⟩
  · simp [Value.ownBlock]
  · intro he
    have : g' = g := by simpa [Value.ownBlock] using he
    subst this
    unfold Blk at hg
    rw [hg] at hh
    injection hh with hh
    injection hh with _ ht
    exact hne ht.symm
theorem Blk.grown {b : Nat} {t : TypeId} {cs : List Value} {row : Option Nat} (h : Blk w b t cs) (hg : w.grownBy w' row) (hn : row ≠ some b) : Blk w' b t cs :=
  (hg.block b h.lt fun e => hn e.symm).trans h
end

end Go.Proofs.Ytabdahojgmbgdaa
