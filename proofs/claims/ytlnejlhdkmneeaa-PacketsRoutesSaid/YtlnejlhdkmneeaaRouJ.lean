/- Both lists of routes side by side. -/
import Derived.Test.YtlnejlhdkmneeaaRouI
import Derived.Test.YtlnejlhdkmneeaaLawOrderP
namespace Go.Proofs.Ytlnejlhdkmneeaa
open Go.RowKit

def addCode (rs : List Rt) (x : Rt) : Int := if x.code ≠ 0 then x.code else if x ∈ rs then 10 else if 500 ≤ rs.length then 18 else 0
def remCode (rs : List Rt) (x : Rt) : Int := if x.code ≠ 0 then x.code else if x ∈ rs then 0 else 22
def remL (rs : List Rt) (x : Rt) : List Rt := if x.code = 0 ∧ x ∈ rs then remR rs x else rs

/-- What a call leaves of a list that lies in memory as R says. -/
def StepS (R : World → Nat → Value → List Rt → Prop) (cd : Int) (rs' : List Rt) (b : Nat) (v : Value) (w : World) (e : Ending) (w' : World) : Prop :=
  e = .returned (I64 cd) ∧ ∃ v', R w' b v' rs' ∧ Only (b :: v.ownBlock.toList) w w' ∧ (v'.ownBlock = v.ownBlock ∨ ∃ g, v'.ownBlock = some g ∧ w.heap.size ≤ g)
theorem AddRtS.step {x : Rt} {rs : List Rt} {b : Nat} {v : Value} {w w' : World} {e : Ending} (hr : RoutesAt w b v rs) (h : AddRtS x rs b v w e w') : StepS RoutesAt (addCode rs x) (addR rs x) b v w e w' := by
  rcases h with ⟨rfl, h1, h2⟩ | ⟨h0, h1, rfl, h2⟩ | ⟨h0, h1, h5, rfl, h2⟩ | ⟨h0, h1, h5, rfl, v', h2, h3, h4⟩
  · exact ⟨by unfold addCode; rw [if_pos h1], v, by unfold addR; rw [if_neg (fun hh => h1 hh.1)]; exact hr.only h2 (by simp) (by simp), h2.mono (by simp), .inl rfl⟩
  · exact ⟨by unfold addCode; rw [if_neg (by simpa using h0), if_pos h1], v, by unfold addR; rw [if_neg (fun hh => hh.2.1 h1)]; exact hr.only h2 (by simp) (by simp), h2.mono (by simp), .inl rfl⟩
  · exact ⟨by unfold addCode; rw [if_neg (by simpa using h0), if_neg h1, if_pos h5], v, by unfold addR; rw [if_neg (fun hh => by omega)]; exact hr.only h2 (by simp) (by simp), h2.mono (by simp), .inl rfl⟩
  · exact ⟨by unfold addCode; rw [if_neg (by simpa using h0), if_neg h1, if_neg (by omega)], v', by unfold addR; rw [if_pos ⟨h0, h1, h5⟩]; exact h2, h3, h4⟩
theorem RAddRtS.step {x : Rt} {rs : List Rt} {b : Nat} {v : Value} {w w' : World} {e : Ending} (hr : RRoutesAt w b v rs) (h : RAddRtS x rs b v w e w') : StepS RRoutesAt (addCode rs x) (addR rs x) b v w e w' := by
  rcases h with ⟨rfl, h1, h2⟩ | ⟨h0, h1, rfl, h2⟩ | ⟨h0, h1, h5, rfl, h2⟩ | ⟨h0, h1, h5, rfl, v', h2, h3, h4⟩
  · exact ⟨by unfold addCode; rw [if_pos h1], v, by unfold addR; rw [if_neg (fun hh => h1 hh.1)]; exact hr.only h2 (by simp) (by simp), h2.mono (by simp), .inl rfl⟩
  · exact ⟨by unfold addCode; rw [if_neg (by simpa using h0), if_pos h1], v, by unfold addR; rw [if_neg (fun hh => hh.2.1 h1)]; exact hr.only h2 (by simp) (by simp), h2.mono (by simp), .inl rfl⟩
  · exact ⟨by unfold addCode; rw [if_neg (by simpa using h0), if_neg h1, if_pos h5], v, by unfold addR; rw [if_neg (fun hh => by omega)]; exact hr.only h2 (by simp) (by simp), h2.mono (by simp), .inl rfl⟩
  · exact ⟨by unfold addCode; rw [if_neg (by simpa using h0), if_neg h1, if_neg (by omega)], v', by unfold addR; rw [if_pos ⟨h0, h1, h5⟩]; exact h2, h3, h4⟩
theorem RemS.step {R : World → Nat → Value → List Rt → Prop} {x : Rt} {rs : List Rt} {b : Nat} {v : Value} {w w' : World} {e : Ending} (keep : Only [] w w' → R w' b v rs) (h : RemS (fun w v rs => R w b v rs) x rs b v w e w') : StepS R (remCode rs x) (remL rs x) b v w e w' := by
  rcases h with ⟨rfl, h1, h2⟩ | ⟨h0, h1, rfl, h2⟩ | ⟨h0, h1, rfl, v', h2, h3, h4⟩
  · exact ⟨by unfold remCode; rw [if_pos h1], v, by unfold remL; rw [if_neg (fun hh => h1 hh.1)]; exact keep h2, h2.mono (by simp), .inl rfl⟩
  · exact ⟨by unfold remCode; rw [if_neg (by simpa using h0), if_neg h1], v, by unfold remL; rw [if_neg (fun hh => h1 hh.2)]; exact keep h2, h2.mono (by simp), .inl rfl⟩
  · exact ⟨by unfold remCode; rw [if_neg (by simpa using h0), if_pos h1], v', by unfold remL; rw [if_pos ⟨h0, h1⟩]; exact h2, h3, h4⟩

/-- All routes of a list are good. -/
def Good (rs : List Rt) : Prop := ∀ x ∈ rs, x.code = 0 ∧ x.Fit
theorem Good.add {rs : List Rt} {x : Rt} (h : Good rs) (hx : x.Fit) : Good (addR rs x) := by
  intro y hy
  unfold addR at hy
  split at hy
  · rename_i hc
    rcases List.mem_append.1 hy with hy | hy
    · exact h y hy
    · obtain rfl : y = x := by simpa using hy
      exact ⟨hc.1, hx⟩
  · exact h y hy
theorem Good.rem {rs : List Rt} {x : Rt} (h : Good rs) : Good (remL rs x) := by
  intro y hy
  unfold remL remR at hy
  split at hy
  · exact h y (List.mem_of_mem_eraseIdx hy)
  · exact h y hy
theorem remL_len (rs : List Rt) (x : Rt) : (remL rs x).length ≤ rs.length := by
  unfold remL remR
  split
  · rw [List.length_eraseIdx]; split <;> omega
  · exact Nat.le_refl _

/-- Both lists: the same routes. -/
structure Both (w0 : World) (p q : Nat) (vx vy : Value) (rs : List Rt) (w : World) : Prop where
  x : RoutesAt w p vx rs
  y : RRoutesAt w q vy rs
  p0 : w0.heap.size ≤ p
  q0 : w0.heap.size ≤ q
  o : Only [] w0 w
  bx : ∀ g, vx.ownBlock = some g → w0.heap.size ≤ g
  by' : ∀ g, vy.ownBlock = some g → w0.heap.size ≤ g
theorem Both.only {w0 w w' : World} {p q : Nat} {vx vy : Value} {rs : List Rt} (h : Both w0 p q vx vy rs w) (ho : Only [] w w') : Both w0 p q vx vy rs w' :=
  ⟨h.x.only ho (by simp) (by simp), h.y.only ho (by simp) (by simp), h.p0, h.q0, Only.trans h.o ho, h.bx, h.by'⟩
theorem own_apart {w : World} {b1 b2 n m s1 s2 : Nat} {T U : TypeId} {v u : Value} {xs ys : List Value} (h : w.ownsRow b1 T s1 v n xs) (k : w.ownsRow b2 U s2 u m ys) (hne : T ≠ U) : ∀ g, v.ownBlock = some g → u.ownBlock ≠ some g := by
  intro g hg he
  rcases h.2 with ⟨rfl, _⟩ | ⟨g1, cap, cur, rfl, _, h1, _⟩
  · simp [Value.ownBlock] at hg
  · rcases k.2 with ⟨rfl, _⟩ | ⟨g2, cap2, cur2, rfl, _, h2, _⟩
    · simp [Value.ownBlock] at he
    · have e1 : g1 = g := by simpa [Value.ownBlock] using hg
      have e2 : g2 = g := by simpa [Value.ownBlock] using he
      subst e1; subst e2
      rw [h1] at h2
      injection h2 with h2
      injection h2 with _ h2
      exact hne h2
/-- One list's step: the other stays. -/
theorem Both.stepX {w0 w w' : World} {p q : Nat} {vx vy v' : Value} {rs rs' : List Rt} (h : Both w0 p q vx vy rs w) (h1 : RoutesAt w' p v' rs') (h2 : Only (p :: vx.ownBlock.toList) w w') (h3 : v'.ownBlock = vx.ownBlock ∨ ∃ g, v'.ownBlock = some g ∧ w.heap.size ≤ g) :
    RoutesAt w' p v' rs' ∧ RRoutesAt w' q vy rs ∧ Only [] w0 w' ∧ (∀ g, v'.ownBlock = some g → w0.heap.size ≤ g) := by
  have hqp : q ≠ p := h.y.me.ne h.x.me (by decide)
  have hvq : vx.ownBlock ≠ some q := own_ne_blk h.x.row h.y.me (by decide)
  have hyp : vy.ownBlock ≠ some p := own_ne_blk h.y.row h.x.me (by decide)
  refine ⟨h1, h.y.only h2 ?_ ?_, h.o.trans' h2 ?_, ?_⟩
  · simp only [List.mem_cons, Option.mem_toList, not_or]; exact ⟨hqp, hvq⟩
  · intro k hk
    simp only [List.mem_cons, Option.mem_toList, not_or]
    exact ⟨fun e => hyp (by rw [hk, e]), fun hh => own_apart h.x.row h.y.row (by decide) k hh hk⟩
  · intro i hi hlt
    rcases List.mem_cons.1 hi with rfl | hi
    · have := h.p0; omega
    · have := h.bx i (by simpa using hi); omega
  · intro g hg
    rcases h3 with h3 | ⟨g', h3, h4⟩
    · rw [h3] at hg; exact h.bx g hg
    · rw [h3] at hg; injection hg with hg; subst hg; exact Nat.le_trans h.o.size h4
theorem Both.stepY {w0 w w' : World} {p q : Nat} {vx vy v' : Value} {rs rs' : List Rt} (hx : RoutesAt w p vx rs') (hy : RRoutesAt w q vy rs) (p0 : w0.heap.size ≤ p) (q0 : w0.heap.size ≤ q) (ho : Only [] w0 w) (bx : ∀ g, vx.ownBlock = some g → w0.heap.size ≤ g) (by' : ∀ g, vy.ownBlock = some g → w0.heap.size ≤ g)
    (h1 : RRoutesAt w' q v' rs') (h2 : Only (q :: vy.ownBlock.toList) w w') (h3 : v'.ownBlock = vy.ownBlock ∨ ∃ g, v'.ownBlock = some g ∧ w.heap.size ≤ g) : Both w0 p q vx v' rs' w' := by
  have hqp : p ≠ q := hx.me.ne hy.me (by decide)
  have hvq : vy.ownBlock ≠ some p := own_ne_blk hy.row hx.me (by decide)
  have hyp : vx.ownBlock ≠ some q := own_ne_blk hx.row hy.me (by decide)
  refine ⟨hx.only h2 ?_ ?_, h1, p0, q0, ho.trans' h2 ?_, bx, ?_⟩
  · simp only [List.mem_cons, Option.mem_toList, not_or]; exact ⟨hqp, hvq⟩
  · intro k hk
    simp only [List.mem_cons, Option.mem_toList, not_or]
    exact ⟨fun e => hyp (by rw [hk, e]), fun hh => own_apart hy.row hx.row (by decide) k hh hk⟩
  · intro i hi hlt
    rcases List.mem_cons.1 hi with rfl | hi
    · omega
    · have := by' i (by simpa using hi); omega
  · intro g hg
    rcases h3 with h3 | ⟨g', h3, h4⟩
    · rw [h3] at hg; exact by' g hg
    · rw [h3] at hg; injection hg with hg; subst hg; exact Nat.le_trans ho.size h4

end Go.Proofs.Ytlnejlhdkmneeaa
