/- DiskServed in plain words. -/
import Derived.Test.YtabdahojgmbgdaaWalkH
namespace Go.Proofs.Ytabdahojgmbgdaa
open Go.RowKit

theorem leastK_false {p : Rq → Bool} {c : Rq → Rq → Int} {l : List Rq} (h : ∀ r ∈ l, p r = false) (k : Nat) : leastK p c l k = none := by
  cases e : leastK p c l k with
  | none => rfl
  | some a =>
    obtain ⟨r, hr, hp⟩ := leastK_some k a e
    rw [h r (List.mem_of_getElem? hr)] at hp
    cases hp
theorem cmpI_neg {x y : Int} : cmpI x y < 0 ↔ x < y := by unfold cmpI; split <;> (try split) <;> omega
theorem cmpI_zero {x y : Int} : cmpI x y = 0 ↔ x = y := by unfold cmpI; split <;> (try split) <;> omega
theorem orI_neg {a b i j : Int} : orI (cmpI a b) (cmpI i j) < 0 ↔ a < b ∨ (a = b ∧ i < j) := by
  unfold orI
  split
  · rename_i h; rw [cmpI_zero] at h; rw [cmpI_neg]; omega
  · rename_i h; rw [cmpI_zero] at h; rw [cmpI_neg]; omega
/-- The least is least. -/
theorem leastK_min {p : Rq → Bool} {key : Rq → Int} {l : List Rq} (k : Nat) : ∀ a, leastK p (fun a b => orI (cmpI (key a) (key b)) (cmpI a.id b.id)) l k = some a → k ≤ l.length →
    ∃ r, l[a]? = some r ∧ p r = true ∧ ∀ j x, j < k → l[j]? = some x → p x = true → key r < key x ∨ (key r = key x ∧ r.id ≤ x.id) := by
  induction k with
  | zero => intro a h; simp [leastK] at h
  | succ k ih =>
    intro a h hk
    unfold leastK at h
    cases hl : l[k]? with
    | none => rw [List.getElem?_eq_none_iff] at hl; omega
    | some y =>
      rw [hl] at h
      simp only at h
      have last : ∀ {j x}, j < k + 1 → l[j]? = some x → j < k ∨ x = y := by
        intro j x hj hx
        rcases Nat.lt_or_ge j k with h1 | h1
        · exact .inl h1
        · obtain rfl : j = k := by omega
          rw [hl] at hx; injection hx with hx; exact .inr hx.symm
      by_cases hp : p y = true
      · rw [if_pos hp] at h
        cases hm : leastK p (fun a b => orI (cmpI (key a) (key b)) (cmpI a.id b.id)) l k with
        | none =>
          rw [hm] at h
          simp at h
          subst h
          refine ⟨y, hl, hp, fun j x hj hx hpx => ?_⟩
          rcases last hj hx with h1 | rfl
          · have := leastK_none k hm j x h1 hx
            rw [this] at hpx; cases hpx
          · exact .inr ⟨rfl, Int.le_refl _⟩
        | some b =>
          rw [hm] at h
          simp only at h
          obtain ⟨z, hz, hpz, hmin⟩ := ih b hm (by omega)
          rw [hz] at h
          simp only at h
          split at h
          · rename_i hlt
            rw [orI_neg] at hlt
            simp at h
            subst h
            refine ⟨y, hl, hp, fun j x hj hx hpx => ?_⟩
            rcases last hj hx with h1 | rfl
            · have := hmin j x h1 hx hpx
              omega
            · exact .inr ⟨rfl, Int.le_refl _⟩
          · rename_i hge
            rw [orI_neg] at hge
            simp at h
            subst h
            refine ⟨z, hz, hpz, fun j x hj hx hpx => ?_⟩
            rcases last hj hx with h1 | rfl
            · exact hmin j x h1 hx hpx
            · omega
      · rw [if_neg hp] at h
        obtain ⟨z, hz, hpz, hmin⟩ := ih a h (by omega)
        refine ⟨z, hz, hpz, fun j x hj hx hpx => ?_⟩
        rcases last hj hx with h1 | rfl
        · exact hmin j x h1 hx hpx
        · exact absurd hpx hp
theorem near_min {Q : Qu} {d : Bool} {a : Nat} (h : Q.near d = some a) : ∃ r, Q.l[a]? = some r ∧ 0 ≤ dist Q.head d r ∧ ∀ x ∈ Q.l, 0 ≤ dist Q.head d x → dist Q.head d r ≤ dist Q.head d x := by
  obtain ⟨r, hr, hp, hm⟩ := leastK_min (p := fun r => decide (0 ≤ dist Q.head d r)) (key := dist Q.head d) _ a h (Nat.le_refl _)
  refine ⟨r, hr, by simpa using hp, fun x hx h0 => ?_⟩
  obtain ⟨j, hj⟩ := List.getElem?_of_mem hx
  have := hm j x (List.getElem?_eq_some_iff.1 hj).1 hj (by simpa using h0)
  omega

/-- While the law serves. -/
structure ServI (Q : Qu) (seen : Int → Bool) (ch : Int) : Prop where
  ok : QuOk Q
  due : ∀ r ∈ Q.l, r.dl = 10
  new : ∀ r ∈ Q.l, seen r.id = false
  idb : ∀ r ∈ Q.l, 0 ≤ r.id ∧ r.id ≤ 1000
  dir : (Q.down = false ∧ ch = 0) ∨ (Q.down = true ∧ ch = 1 ∧ ∀ r ∈ Q.l, r.blk ≤ Q.head)

theorem mem_erase_ne {l : List Rq} {i : Nat} {r x : Rq} (hnd : (l.map Rq.id).Nodup) (hr : l[i]? = some r) (hx : x ∈ l.eraseIdx i) : x.id ≠ r.id := by
  induction l generalizing i with
  | nil => simp at hr
  | cons y ys ih =>
    simp only [List.map_cons, List.nodup_cons] at hnd
    cases i with
    | zero =>
      simp at hr hx
      subst hr
      intro e
      exact hnd.1 (e ▸ List.mem_map.2 ⟨x, hx, rfl⟩)
    | succ i =>
      simp at hr hx
      rcases hx with rfl | hx
      · intro e
        exact hnd.1 (e ▸ List.mem_map.2 ⟨r, List.mem_of_getElem? hr, rfl⟩)
      · exact ih hnd.2 hr hx

/-- One request is served. -/
theorem ServI.step {Q : Qu} {seen : Int → Bool} {ch : Int} (h : ServI Q seen ch) (hne : Q.l ≠ []) :
    ∃ r, (Q.next 0).2 = (r, true) ∧ r ∈ Q.l ∧ seen r.id = false ∧ (Q.next 0).1.l.length + 1 = Q.l.length ∧ ServI (Q.next 0).1 (fun i => if i = r.id then true else seen i) (if (Q.next 0).1.down = Q.down then ch else ch + 1) := by
  have hdue : Q.due 0 = none := leastK_false (fun r hr => by simp [h.due r hr]) _
  -- which one
  have hpick : ∃ a d r, Q.pick 0 = (some a, d) ∧ Q.l[a]? = some r ∧ ((Q.down = false ∧ d = false) ∨ (d = true ∧ ∀ x ∈ Q.l, x.blk ≤ r.blk)) := by
    unfold Qu.pick
    rw [hdue]
    simp only
    cases hn : Q.near Q.down with
    | some a =>
      obtain ⟨r, hr, h0, hmin⟩ := near_min hn
      refine ⟨a, Q.down, r, rfl, hr, ?_⟩
      rcases h.dir with ⟨hd, -⟩ | ⟨hd, -, hle⟩
      · exact .inl ⟨hd, hd⟩
      · refine .inr ⟨hd, fun x hx => ?_⟩
        rw [hd] at hmin
        have h1 := hmin x hx (by have := hle x hx; simp [dist]; omega)
        simp [dist] at h1
        omega
    | none =>
      simp only
      obtain ⟨a, ha⟩ := near_other hne Q.down hn
      obtain ⟨r, hr, h0, hmin⟩ := near_min ha
      refine ⟨a, !Q.down, r, by rw [ha], hr, ?_⟩
      have hfar := leastK_none _ hn
      rcases h.dir with ⟨hd, -⟩ | ⟨hd, -, hle⟩
      · refine .inr ⟨by rw [hd]; rfl, fun x hx => ?_⟩
        obtain ⟨j, hj⟩ := List.getElem?_of_mem hx
        have h1 := hfar j x (List.getElem?_eq_some_iff.1 hj).1 hj
        rw [hd] at h1 hmin
        simp [dist] at h1
        have h2 := hmin x hx (by simp [dist]; omega)
        simp [dist] at h2
        omega
      · exfalso
        have h0 : 0 < Q.l.length := List.length_pos_iff.2 hne
        have h1 := hfar 0 _ h0 (List.getElem?_eq_getElem h0)
        have h2 := hle _ (List.getElem_mem h0)
        rw [hd] at h1
        simp [dist] at h1
        omega
  obtain ⟨a, d, r, hp, hr, hdir⟩ := hpick
  have hnx : Q.next 0 = (⟨r.blk, d, Q.l.eraseIdx a⟩, (r, true)) := by
    unfold Qu.next
    rw [hp]
    simp only
    rw [hr]
  have hm := List.mem_of_getElem? hr
  have ha := (List.getElem?_eq_some_iff.1 hr).1
  rw [hnx]
  refine ⟨r, rfl, hm, h.new r hm, ?_, ⟨h.ok.next hr d, fun x hx => h.due x (List.mem_of_mem_eraseIdx hx), fun x hx => ?_, fun x hx => h.idb x (List.mem_of_mem_eraseIdx hx), ?_⟩⟩
  · show (Q.l.eraseIdx a).length + 1 = _
    rw [List.length_eraseIdx, if_pos ha]
    omega
  · show (if x.id = r.id then true else seen x.id) = false
    rw [if_neg (mem_erase_ne h.ok.nd hr hx)]
    exact h.new x (List.mem_of_mem_eraseIdx hx)
  · show (d = false ∧ (if d = Q.down then ch else ch + 1) = 0) ∨ (d = true ∧ (if d = Q.down then ch else ch + 1) = 1 ∧ ∀ x ∈ Q.l.eraseIdx a, x.blk ≤ r.blk)
    rcases hdir with ⟨h1, h2⟩ | ⟨h1, h2⟩
    · refine .inl ⟨h2, ?_⟩
      rw [if_pos (by rw [h1, h2])]
      rcases h.dir with ⟨-, h3⟩ | ⟨h3, -⟩
      · exact h3
      · rw [h1] at h3; cases h3
    · refine .inr ⟨h1, ?_, fun x hx => h2 x (List.mem_of_mem_eraseIdx hx)⟩
      rcases h.dir with ⟨h3, h4⟩ | ⟨h3, h4, -⟩
      · rw [if_neg (by rw [h1, h3]; decide)]; omega
      · rw [if_pos (by rw [h1, h3])]; exact h4

/-- The requests that the law adds. -/
def servL (bs : List Nat) (k : Nat) : List Rq := (List.range k).map fun (i : Nat) => (⟨(i : Int), ((bs.getD i 0 % 4096 : Nat) : Int), 10⟩ : Rq)
theorem servL_succ (bs : List Nat) (k : Nat) : servL bs (k + 1) = servL bs k ++ [⟨(k : Int), ((bs.getD k 0 % 4096 : Nat) : Int), 10⟩] := by simp [servL, List.range_succ]
theorem servL_add (head : Int) (bs : List Nat) {k : Nat} (hk : k < 1000) : (⟨head, false, servL bs k⟩ : Qu).add ⟨(k : Int), ((bs.getD k 0 % 4096 : Nat) : Int), 10⟩ = (⟨head, false, servL bs (k + 1)⟩, 0) := by
  unfold Qu.add
  rw [if_neg (by unfold Rq.bad; simp only; omega), if_neg, if_neg (by simp [servL]; omega), servL_succ]
  simp only [servL, List.any_map, List.any_eq_true, List.mem_range, Function.comp_apply, beq_iff_eq, not_exists, not_and]
  intro x hx e
  omega
theorem servL_start {head : Int} {bs : List Nat} {n : Nat} (hn : n ≤ 40) (h : QuOk ⟨head, false, servL bs n⟩) : ServI ⟨head, false, servL bs n⟩ (fun _ => false) 0 :=
  ⟨h, fun r hr => by simp [servL] at hr; obtain ⟨i, _, rfl⟩ := hr; rfl, fun _ _ => rfl, fun r hr => by simp [servL] at hr; obtain ⟨i, hi, rfl⟩ := hr; simp only; omega, .inl ⟨rfl, rfl⟩⟩

end Go.Proofs.Ytabdahojgmbgdaa
