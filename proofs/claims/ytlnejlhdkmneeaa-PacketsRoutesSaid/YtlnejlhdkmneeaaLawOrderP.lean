/- The order in which routes are added does not matter to Lookup: plain law. -/
import Derived.Test.YtlnejlhdkmneeaaRouB
namespace Go.Proofs.Ytlnejlhdkmneeaa
open Go.RowKit

def addR (rs : List Rt) (x : Rt) : List Rt := if x.code = 0 ∧ x ∉ rs ∧ rs.length < 500 then rs ++ [x] else rs
def adds (l : List Rt) : List Rt := l.foldl addR []
theorem adds_snoc (l : List Rt) (x : Rt) : adds (l ++ [x]) = addR (adds l) x := by simp [adds]
theorem addR_len (rs : List Rt) (x : Rt) : (addR rs x).length ≤ rs.length + 1 := by unfold addR; split <;> simp
theorem addR_mem {rs : List Rt} {x y : Rt} (h : rs.length < 500) : y ∈ addR rs x ↔ y ∈ rs ∨ (y = x ∧ x.code = 0) := by
  unfold addR
  split
  · rename_i hh; simp [hh.1]
  · rename_i hh
    constructor
    · exact .inl
    · rintro (h1 | ⟨rfl, h1⟩)
      · exact h1
      · by_cases hm : y ∈ rs
        · exact hm
        · exact absurd ⟨h1, hm, h⟩ hh
theorem fold_mem : ∀ (l : List Rt) (rs : List Rt), rs.length + l.length ≤ 500 → (∀ y, y ∈ l.foldl addR rs ↔ y ∈ rs ∨ (y ∈ l ∧ y.code = 0))
  | [], rs, _, y => by simp
  | x :: l, rs, h, y => by
    simp only [List.length_cons] at h
    have h1 := addR_len rs x
    rw [List.foldl_cons, fold_mem l (addR rs x) (by omega) y, addR_mem (by omega)]
    constructor
    · rintro ((h2 | ⟨rfl, h3⟩) | ⟨h2, h3⟩)
      · exact .inl h2
      · exact .inr ⟨by simp, h3⟩
      · exact .inr ⟨by simp [h2], h3⟩
    · rintro (h2 | ⟨h2, h3⟩)
      · exact .inl (.inl h2)
      · rcases List.mem_cons.1 h2 with rfl | h2
        · exact .inl (.inr ⟨rfl, h3⟩)
        · exact .inr ⟨h2, h3⟩
theorem fold_len : ∀ (l : List Rt) (rs : List Rt), (l.foldl addR rs).length ≤ rs.length + l.length
  | [], rs => by simp
  | x :: l, rs => by
    have h1 := addR_len rs x
    have h2 := fold_len l (addR rs x)
    simp only [List.foldl_cons, List.length_cons]; omega
theorem adds_len (l : List Rt) : (adds l).length ≤ l.length := by simpa [adds] using fold_len l []
theorem adds_mem {l : List Rt} (h : l.length ≤ 500) (y : Rt) : y ∈ adds l ↔ y ∈ l ∧ y.code = 0 := by
  unfold adds; rw [fold_mem l [] (by simpa using h)]; simp
theorem code_bits {x : Rt} (h : x.code = 0) : 0 ≤ x.bits ∧ x.bits ≤ 32 := by
  unfold Rt.code at h
  split at h
  · omega
  · rename_i hf; unfold Rt.far at hf; omega

/-- What bestR answers. -/
theorem best_spec (rs : List Rt) (a : Int) : (bestR rs a = none ∧ ∀ x ∈ rs, pre a x.bits ≠ x.addr) ∨ ∃ y, bestR rs a = some y ∧ y ∈ rs ∧ pre a y.bits = y.addr ∧ ∀ x ∈ rs, pre a x.bits = x.addr → ¬ better x y := by
  have key : ∀ n, n ≤ rs.length → (bestR (rs.take n) a = none ∧ ∀ x ∈ rs.take n, pre a x.bits ≠ x.addr) ∨ ∃ y, bestR (rs.take n) a = some y ∧ y ∈ rs.take n ∧ pre a y.bits = y.addr ∧ ∀ x ∈ rs.take n, pre a x.bits = x.addr → ¬ better x y := by
    intro n
    induction n with
    | zero => intro _; exact .inl ⟨rfl, by simp⟩
    | succ n ih =>
      intro hn
      have hx := List.getElem?_eq_getElem (show n < rs.length by omega)
      generalize rs[n] = x at hx
      have e : rs.take (n + 1) = rs.take n ++ [x] := by rw [List.take_add_one, hx]; rfl
      rw [e, bestR_snoc]
      unfold pickR
      rcases ih (by omega) with ⟨h1, h2⟩ | ⟨y, h1, h2, h3, h4⟩
      · rw [h1]
        by_cases hp : pre a x.bits = x.addr
        · rw [if_pos hp]
          refine .inr ⟨x, rfl, by simp, hp, fun z hz hpz => ?_⟩
          rcases List.mem_append.1 hz with hz | hz
          · exact absurd hpz (h2 z hz)
          · obtain rfl : z = x := by simpa using hz
            unfold better; omega
        · rw [if_neg hp]
          refine .inl ⟨rfl, fun z hz => ?_⟩
          rcases List.mem_append.1 hz with hz | hz
          · exact h2 z hz
          · obtain rfl : z = x := by simpa using hz
            exact hp
      · rw [h1]
        by_cases hp : pre a x.bits = x.addr
        · rw [if_pos hp]
          simp only
          by_cases hb : better x y
          · rw [if_pos hb]
            refine .inr ⟨x, rfl, by simp, hp, fun z hz hpz => ?_⟩
            rcases List.mem_append.1 hz with hz | hz
            · have := h4 z hz hpz
              unfold better at *; omega
            · obtain rfl : z = x := by simpa using hz
              unfold better; omega
          · rw [if_neg hb]
            refine .inr ⟨y, rfl, by simp [h2], h3, fun z hz hpz => ?_⟩
            rcases List.mem_append.1 hz with hz | hz
            · exact h4 z hz hpz
            · obtain rfl : z = x := by simpa using hz
              exact hb
        · rw [if_neg hp]
          refine .inr ⟨y, rfl, by simp [h2], h3, fun z hz hpz => ?_⟩
          rcases List.mem_append.1 hz with hz | hz
          · exact h4 z hz hpz
          · obtain rfl : z = x := by simpa using hz
            exact absurd hpz hp
  have := key rs.length (Nat.le_refl _)
  rwa [List.take_length] at this

theorem order_law (l : List Rt) (a : Int) (h : l.length ≤ 30) :
    (bestR (adds l) a = none ∧ bestR (adds l.reverse) a = none) ∨ ∃ y z, bestR (adds l) a = some y ∧ bestR (adds l.reverse) a = some z ∧ y.bits = z.bits ∧ y.met = z.met := by
  have hm : ∀ y, y ∈ adds l ↔ y ∈ adds l.reverse := fun y => by rw [adds_mem (by omega), adds_mem (by simp; omega)]; simp
  rcases best_spec (adds l) a with ⟨h1, h2⟩ | ⟨y, h1, h2, h3, h4⟩
  · rcases best_spec (adds l.reverse) a with ⟨k1, k2⟩ | ⟨z, k1, k2, k3, k4⟩
    · exact .inl ⟨h1, k1⟩
    · exact absurd k3 (h2 z ((hm z).2 k2))
  · rcases best_spec (adds l.reverse) a with ⟨k1, k2⟩ | ⟨z, k1, k2, k3, k4⟩
    · exact absurd h3 (k2 y ((hm y).1 h2))
    · have q1 := h4 z ((hm z).2 k2) k3
      have q2 := k4 y ((hm y).1 h2) h3
      unfold better at q1 q2
      exact .inr ⟨y, z, h1, k1, by omega, by omega⟩

end Go.Proofs.Ytlnejlhdkmneeaa
