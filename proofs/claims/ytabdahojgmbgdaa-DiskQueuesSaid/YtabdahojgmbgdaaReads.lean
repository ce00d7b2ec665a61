/- Slices of whole numbers that came in. -/
import Derived.Test.YtabdahojgmbgdaaWords
namespace Go.Proofs.Ytabdahojgmbgdaa
open Go.RowKit

/-- A slice value below block B whose cells read as these numbers of kind kd. -/
def Reads (w : World) (B : Nat) (kd : IntKind) (A : Option Addr) (xs : List Int) : Prop :=
  ∀ k x, xs[k]? = some x → ∃ b o, A = some ⟨b, o, none⟩ ∧ b < B ∧ w.cell? ⟨b, o + k, none⟩ = some (.int kd x)
theorem Reads.only {S : List Nat} {w w' : World} {B : Nat} {kd : IntKind} {A : Option Addr} {xs : List Int} (h : Reads w B kd A xs) (hb : Only S w w') (hB : B ≤ w.heap.size) (hS : ∀ k, k ∈ S → B ≤ k) : Reads w' B kd A xs := by
  intro k x hx
  obtain ⟨b, o, hA, hlt, hc⟩ := h k x hx
  exact ⟨b, o, hA, hlt, by rw [World.cell?_of_block (w := w) (hb.block b (by omega) (fun hm => by have := hS b hm; omega))]; exact hc⟩
theorem Reads.below {w w' : World} {B : Nat} {kd : IntKind} {A : Option Addr} {xs : List Int} (h : Reads w B kd A xs) (hb : Below B w w') : Reads w' B kd A xs := by
  intro k x hx
  obtain ⟨b, o, hA, hlt, hc⟩ := h k x hx
  exact ⟨b, o, hA, hlt, by rw [hb.cell (by exact hlt)]; exact hc⟩

end Go.Proofs.Ytabdahojgmbgdaa
