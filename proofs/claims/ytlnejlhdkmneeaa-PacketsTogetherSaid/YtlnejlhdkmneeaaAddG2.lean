/- The reassembly: what Add does where the collection is found; a collection taken away. -/
import Derived.Test.YtlnejlhdkmneeaaAddG
namespace Go.Proofs.Ytlnejlhdkmneeaa
open Go.RowKit

theorem room_map (l : List PC) : (roomL l).map (·.2) = roomC (l.map (·.2)) := by
  unfold roomL roomC
  rw [List.length_map]
  split
  · rw [List.map_drop]
  · rfl
/-- The list with the packet's collection in it. -/
def withC (l1 : List Col) (p : Pkt) (now : Int) : List Col := if l1.any (fun c => keyB c.h p) then l1 else roomC l1 ++ [⟨p, now, [], [], -1, 0⟩]
theorem find_key {l : List PC} {x : PC} {p : Pkt} (hf : PFit p) (hfit : ∀ x ∈ l, ColFit x.2) (hk : l.Pairwise fun x y => kl x.2.h ≠ kl y.2.h) (hx : x ∈ l) (e : kl x.2.h = kl p) : (l.map (·.2)).find? (fun c => keyB c.h p) = some x.2 := by
  induction l with
  | nil => cases hx
  | cons a r ih =>
    obtain ⟨h1, h2⟩ := List.pairwise_cons.1 hk
    rw [List.map_cons]
    rcases List.mem_cons.1 hx with rfl | hx
    · rw [List.find?_cons_of_pos (p := fun c : Col => keyB c.h p) ((keyB_iff (hfit _ (by simp)).h hf).2 e)]
    · rw [List.find?_cons_of_neg (p := fun c : Col => keyB c.h p) (fun h => h1 x hx (((keyB_iff (hfit a (by simp)).h hf).1 h).trans e.symm))]
      exact ih (fun y hy => hfit y (by simp [hy])) h2 hx
/-- Where the collection is found. -/
theorem addM_at {last now : Int} {l : List Col} {p : Pkt} {l2 : List PC} {x : PC} (hv : p.valid = 0) (ht : 0 ≤ now ∧ now ≤ 1099511627776) (hl : ¬ now < last) (ho : ¬ (p.off = 0 ∧ p.more = false)) (hm : l2.map (·.2) = withC (expC now l) p now)
    (hf : PFit p) (hfit : ∀ x ∈ l2, ColFit x.2) (hk : l2.Pairwise fun x y => kl x.2.h ≠ kl y.2.h) (hx : x ∈ l2) (e : kl x.2.h = kl p) :
    addM last l p now = if x.2.cnt = 64 then ⟨now, (l2.map (·.2)).filter (fun c => !keyB c.h p), zeroP, false, 18⟩
      else if doneB (stepC x.2 p) then ⟨now, (l2.map (·.2)).filter (fun c => !keyB c.h p), wholeP (stepC x.2 p), true, 0⟩
      else ⟨now, (l2.map (·.2)).map (fun c => if keyB c.h p then stepC x.2 p else c), zeroP, false, 0⟩ := by
  have h1 := find_key hf hfit hk hx e
  unfold addM
  rw [if_neg (by simp [hv]; omega), if_neg hl, if_neg ho]
  unfold withC at hm
  simp only
  rw [← hm, h1]
noncomputable def dropK (l : List PC) (p : Pkt) : List PC := l.filter fun y => !keyB y.2.h p
theorem dropK_map (l : List PC) (p : Pkt) : (dropK l p).map (·.2) = (l.map (·.2)).filter (fun c => !keyB c.h p) := by
  unfold dropK
  rw [List.filter_map]
  rfl
theorem dropK_spec {l : List PC} {x : PC} {p : Pkt} (hf : PFit p) (hfit : ∀ x ∈ l, ColFit x.2) (hk : l.Pairwise fun x y => kl x.2.h ≠ kl y.2.h) (hx : x ∈ l) (e : kl x.2.h = kl p) :
    fL (dropK l p) = updF (fL l) (kl p) none ∧ (dropK l p).length = l.length - 1 := by
  have hb : ∀ y ∈ l, ((!keyB y.2.h p) = true ↔ kl y.2.h ≠ kl p) := fun y hy => by
    rw [Bool.not_eq_true', ← Bool.not_eq_true, keyB_iff (hfit y hy).h hf]
  refine ⟨fL_drop _ hb, ?_⟩
  unfold dropK
  induction l with
  | nil => cases hx
  | cons a r ih =>
    obtain ⟨h1, h2⟩ := List.pairwise_cons.1 hk
    have hbr : ∀ y ∈ r, ((!keyB y.2.h p) = true ↔ kl y.2.h ≠ kl p) := fun y hy => hb y (by simp [hy])
    rcases List.mem_cons.1 hx with rfl | h3
    · rw [List.filter_cons_of_neg (p := fun y : PC => !keyB y.2.h p) (by intro hh; exact (hb x (by simp)).1 hh e), List.filter_eq_self.2 (fun y hy => (hbr y hy).2 (fun h => h1 y hy (e.trans h.symm)))]
      simp
    · rw [List.filter_cons_of_pos (p := fun y : PC => !keyB y.2.h p) ((hb a (by simp)).2 (fun h => h1 x h3 (h.trans e.symm))), List.length_cons, ih (fun y hy => hfit y (by simp [hy])) h2 h3 hbr, List.length_cons]
      have : 0 < r.length := List.length_pos_of_mem h3
      omega
theorem dropK_sub (l : List PC) (p : Pkt) : (dropK l p).Sublist l := List.filter_sublist

end Go.Proofs.Ytlnejlhdkmneeaa
