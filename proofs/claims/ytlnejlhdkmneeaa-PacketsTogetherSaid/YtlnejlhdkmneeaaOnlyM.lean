/- A frame with a map: block b, and blocks of the kinds Ts since base. -/
import Derived.Test.YtlnejlhdkmneeaaOnlyT
namespace Go.Proofs.Ytlnejlhdkmneeaa
open Go.RowKit

/-- What a call may turn: one map b, and blocks of these kinds that are new since base. -/
structure OnlyM (b : Nat) (Ts : List TypeId) (base : Nat) (w w' : World) : Prop where
  os : w'.os = w.os
  tape : w'.tape = w.tape
  output : w'.output = w.output
  size : w.heap.size ≤ w'.heap.size
  block : ∀ k, k < w.heap.size → k ≠ b → (k < base ∨ ¬ HasT w k Ts) → w'.heap[k]? = w.heap[k]?

section
variable {b base : Nat} {Ts : List TypeId} {a w w' c : World}
theorem OnlyM.of (h : OnlyT Ts base w w') : OnlyM b Ts base w w' := ⟨h.os, h.tape, h.output, h.size, fun k hk _ hE => h.block k hk hE⟩
theorem OnlyM.refl (w : World) : OnlyM b Ts base w w := .of (.refl w)
theorem OnlyM.grown (h : w.grownBy w' (some b)) : OnlyM b Ts base w w' := ⟨h.os, h.tape, h.output, h.size, fun k hk hb _ => h.block k hk (by simpa using hb)⟩
theorem OnlyM.trans (h : OnlyM b Ts base a w) (k : OnlyM b Ts base w c) : OnlyM b Ts base a c := by
  refine ⟨k.os.trans h.os, k.tape.trans h.tape, k.output.trans h.output, Nat.le_trans h.size k.size, fun i hi hb hE => ?_⟩
  have h1 := h.block i hi hb hE
  refine (k.block i (Nat.lt_of_lt_of_le hi h.size) hb ?_).trans h1
  rcases hE with hE | hE
  · exact .inl hE
  · exact .inr fun ⟨c, t, fr, hc, ht⟩ => hE ⟨c, t, fr, by rw [← h1]; exact hc, ht⟩
theorem OnlyM.blk (h : OnlyM b Ts base w w') {g : Nat} {t : TypeId} {cs : List Value} (hg : Blk w g t cs) (ht : t ∉ Ts) (hb : g ≠ b) : Blk w' g t cs := by
  refine (h.block g hg.lt hb (.inr ?_)).trans hg
  rintro ⟨c, t', fr, hc, hm⟩
  unfold Blk at hg
  rw [hg] at hc
  injection hc with hc
  injection hc with _ e
  exact ht (e ▸ hm)
theorem OnlyM.only (h : OnlyM b Ts base w w') {A : World} (hA : Only [] A w) (hb : A.heap.size ≤ base) (hm : base ≤ b) : Only [] A w' :=
  ⟨h.os.trans hA.os, h.tape.trans hA.tape, h.output.trans hA.output, Nat.le_trans hA.size h.size, fun k hk hn =>
    (h.block k (Nat.lt_of_lt_of_le hk hA.size) (by omega) (.inl (by omega))).trans (hA.block k hk hn)⟩
end

end Go.Proofs.Ytlnejlhdkmneeaa
