/- The budget, what is pending and the open chunk add up to Budget; telling twice: on plain numbers. -/
import Derived.Test.YtdjkgbkckmjfiaaBounds
namespace Go.Proofs.Ytdjkgbkckmjfiaa

theorem takeL_takeL (l : List (Int × Int)) (left a b : Int) (h : a ≤ b) : takeL (takeL l left a).1 (takeL l left a).2 b = takeL l left b := by
  induction l generalizing left with
  | nil => simp [takeL]
  | cons x l ih =>
    by_cases hx : x.1 ≤ a
    · simp only [takeL, if_pos hx, if_pos (show x.1 ≤ b by omega)]
      exact ih _
    · simp only [takeL, if_neg hx]
theorem take_take (s : Srv) (a b : Int) (h : a ≤ b) : (s.take a).take b = s.take b := by
  unfold Srv.take
  simp only [takeL_takeL s.list s.left a b h]
def Srv.at_ (s : Srv) (n : Int) : Srv := { s with now := n }
theorem at_take (s : Srv) (n u : Int) : (s.take u).at_ n = (s.at_ n).take u := rfl
theorem at_endc (s : Srv) (n : Int) : s.endc.at_ n = (s.at_ n).endc := by
  unfold Srv.endc
  by_cases h : s.list.length = s.p.N
  · rw [if_pos h, if_pos (show (s.at_ n).list.length = (s.at_ n).p.N from h)]; rfl
  · rw [if_neg h, if_neg (show ¬ (s.at_ n).list.length = (s.at_ n).p.N from h)]; rfl
theorem at_at (s : Srv) (m n : Int) : (s.at_ m).at_ n = s.at_ n := rfl

theorem tell_yes {s : Srv} {n : Int} (h : s.run = true ∧ s.last + 1 < n) : s.tell n = (((s.at_ n).take (s.last + 1)).endc).take n := by unfold Srv.tell; rw [if_pos h]; rfl
theorem tell_no {s : Srv} {n : Int} (h : ¬ (s.run = true ∧ s.last + 1 < n)) : s.tell n = (s.at_ n).take n := by unfold Srv.tell; rw [if_neg h]; rfl

theorem tell_tell (s : Srv) (a b : Int) (h : a ≤ b) : (s.tell a).tell b = s.tell b := by
  by_cases hc : s.run = true ∧ s.last + 1 < a
  · have hr : (s.tell a).run = false := by rw [tell_yes hc]; exact (endc_rest _).2.2.2.2.1
    rw [tell_no (s := s.tell a) (by rw [hr]; simp), tell_yes hc, tell_yes (n := b) ⟨hc.1, by omega⟩, at_take, at_endc, at_take, at_at, take_take _ _ _ h]
  · have hr : (s.tell a).run = s.run := by rw [tell_no hc]; rfl
    have hl : (s.tell a).last = s.last := by rw [tell_no hc]; rfl
    by_cases hd : s.run = true ∧ s.last + 1 < b
    · have hle : a ≤ s.last + 1 := by
        rcases Int.lt_or_le (s.last + 1) a with hh | hh
        · exact absurd ⟨hd.1, hh⟩ hc
        · exact hh
      rw [tell_yes (s := s.tell a) (n := b) (by rw [hr, hl]; exact hd), hl, tell_no hc, tell_yes hd, at_take, at_at, take_take _ _ _ hle]
    · rw [tell_no (s := s.tell a) (n := b) (by rw [hr, hl]; exact hd), tell_no hc, tell_no hd, at_take, at_at, take_take _ _ _ h]

theorem runs_eq (s : Srv) (now : Int) (ht : inTime now = true) (h : s.now ≤ now) (hr : now ≠ s.ran) : s.runs now = (s.tell now).tick now := by
  unfold Srv.runs; rw [if_neg (by rw [ht]; simp), if_neg (by omega)]
theorem budget_eq (s : Srv) (now : Int) (ht : inTime now = true) (h : s.now ≤ now) : s.budget now = (s.tell now, (s.tell now).left, 0) := by
  unfold Srv.budget; rw [if_neg (by rw [ht]; simp), if_neg (by omega)]
theorem inTime_of {n : Int} (h0 : 0 ≤ n) (h1 : n ≤ 1099511627776) : inTime n = true := by simp [inTime, h0, h1]

/-- What the loop of SporadicSums keeps. -/
structure SumInv (p : Prm) (s : Srv) (now last opn : Int) : Prop where
  inv : s.Inv
  prm : s.p = p
  order : s.now ≤ now
  ran : s.ran < now
  ran0 : -1 ≤ s.ran
  last : last = s.ran
  opn : opn = s.opens
  left : s.run = true → 0 < s.left
  time : ∀ x ∈ s.list, x.1 ≤ s.ran + 1 + s.p.P

theorem SumInv.new (p : Prm) (h : p.ok) : SumInv p (Srv.new p) 0 (-1) 0 := by
  refine ⟨Srv.Inv.news h, rfl, by simp [Srv.new], by simp [Srv.new], by simp [Srv.new], by simp [Srv.new], by simp [Srv.new, Srv.opens], by simp [Srv.new], by simp [Srv.new]⟩

theorem take_left_le (s : Srv) (u : Int) (h : ∀ x ∈ s.list, 0 ≤ x.2) : s.left ≤ (s.take u).left := takeL_left s.list s.left u h

/-- The telling ahead of the run. -/
theorem SumInv.tells {p : Prm} {s : Srv} {now last opn : Int} (h : SumInv p s now last opn) (hn : now ≤ 1099511627776) :
    SumInv p (s.tell now) now last (if last + 1 < now ∨ (s.tell now).left = 0 then 0 else opn) := by
  have hI := h.inv
  have hIt := hI.tells h.order hn
  obtain ⟨t1, t2, t3, t4, t5, t6⟩ := tell_rest s now
  have htime : ∀ x ∈ (s.tell now).list, x.1 ≤ s.ran + 1 + s.p.P := by
    unfold Srv.tell
    split
    · rename_i hc
      intro x hx
      have hx1 := takeL_mem _ _ _ x hx
      have hA := (hI.at h.order hn).takes (s.last + 1)
      refine endc_mem _ hA.prm (fun x => x.1 ≤ s.ran + 1 + s.p.P) (fun y hy => h.time y (takeL_mem _ _ _ y hy)) ?_ (fun y hy => ?_) x hx1
      · have := (hI.chunk hc.1).2.2.2
        show s.last + 1 + s.p.P ≤ _; omega
      · have h1 := h.time y (takeL_mem _ _ _ y hy)
        have h2 := (hI.chunk hc.1).2.2.2
        simp only [merge]
        split
        · show s.last + 1 + s.p.P ≤ _; omega
        · exact h1
    · intro x hx; exact h.time x (takeL_mem _ _ _ x hx)
  have hmain : (if last + 1 < now ∨ (s.tell now).left = 0 then 0 else opn) = (s.tell now).opens ∧ ((s.tell now).run = true → 0 < (s.tell now).left) := by
    by_cases hr : s.run = true
    · have hc := hI.chunk hr
      by_cases hl : s.last + 1 < now
      · have hrt : (s.tell now).run = false := by
          cases hh : (s.tell now).run
          · rfl
          · have := (t6 hh).2; omega
        rw [if_pos (.inl (by rw [h.last]; omega))]
        exact ⟨by simp [Srv.opens, hrt], fun hh => (by rw [hrt] at hh; cases hh)⟩
      · have e1 : s.tell now = (s.at_ now).take now := tell_no (by omega)
        have hrt : (s.tell now).run = true := by rw [e1]; exact hr
        have hlp : 0 < (s.tell now).left := by
          have := take_left_le (s.at_ now) now hI.amt
          have h2 := h.left hr
          rw [e1]
          exact Int.lt_of_lt_of_le h2 this
        rw [if_neg (by rw [h.last]; omega), h.opn]
        exact ⟨by simp only [Srv.opens, hrt, hr, t4, t5], fun _ => hlp⟩
    · have hr' : s.run = false := by simpa using hr
      have hrt : (s.tell now).run = false := by
        cases hh : (s.tell now).run
        · rfl
        · have := (t6 hh).1; rw [hr'] at this; cases this
      have h0 : opn = 0 := by rw [h.opn]; simp [Srv.opens, hr']
      refine ⟨by rw [h0]; simp [Srv.opens, hrt], fun hh => (by rw [hrt] at hh; cases hh)⟩
  exact ⟨hIt, by rw [t1]; exact h.prm, by rw [t2]; exact Int.le_refl _, by rw [t3]; exact h.ran, by rw [t3]; exact h.ran0, by rw [t3]; exact h.last, hmain.1, hmain.2, by rw [t3, t1]; exact htime⟩

/-- The run behind the telling: what it answers, and what the loop keeps. -/
theorem SumInv.runs {p : Prm} {s : Srv} {now last opn : Int} (h : SumInv p s now last opn) (hs : s.now = now) (ht : s.tell now = s) (hn : inTime now = true) :
    (s.left = 0 → s.runs now = (s, 18) ∧ opn = 0) ∧
    (s.left ≠ 0 → (s.runs now).2 = 0 ∧ SumInv p (s.runs now).1 (now + 1) now (if s.left - 1 = 0 then 0 else opn + 1) ∧ (s.runs now).1.left = s.left - 1) := by
  have he := runs_eq s now hn (by omega) (by have := h.ran; omega)
  rw [ht] at he
  refine ⟨fun h0 => ⟨by rw [he]; unfold Srv.tick; rw [if_pos h0], ?_⟩, fun h0 => ?_⟩
  · rw [h.opn]
    unfold Srv.opens
    split
    · rename_i hr; have := h.left hr; omega
    · rfl
  · have hchunk : s.run = true → s.last + 1 = now := by
      have := tell_chunk h.inv (now := now) (by omega) (by have := h.ran; omega)
      rwa [ht] at this
    have hI := h.inv.spends hs hchunk h0
    have hn' : 0 ≤ now := by simp [inTime] at hn; omega
    have hl := h.inv.left
    have hop : (s.spend now).opens = opn + 1 := by
      rw [h.opn]
      cases hr : s.run
      · simp [Srv.opens, Srv.spend, hr]
      · have := hchunk hr
        simp [Srv.opens, Srv.spend, hr]; omega
    have htime : ∀ x ∈ (s.spend now).list, x.1 ≤ now + 1 + s.p.P := fun x hx => by
      have := h.time x hx
      have := h.ran
      omega
    rw [he, tick_eq s now h0]
    by_cases h1 : s.left = 1
    · simp only [if_pos h1]
      obtain ⟨e1, e2, e3, e4, e5, e6, e7⟩ := endc_rest (s.spend now)
      refine ⟨trivial, ⟨hI.ends rfl, by rw [e1]; exact h.prm, by rw [e6]; show s.now ≤ _; omega, by rw [e7]; show now < _; omega, by rw [e7]; show -1 ≤ now; omega, by rw [e7]; rfl, ?_, fun hh => (by rw [e5] at hh; cases hh), ?_⟩, by rw [e2]; rfl⟩
      · rw [if_pos (by omega)]; simp [Srv.opens, e5]
      · rw [e7, e1]
        refine endc_mem _ hI.prm (fun x => x.1 ≤ now + 1 + s.p.P) htime ?_ fun x hx => ?_
        · exact Int.le_refl _
        · have := htime x hx
          simp only [merge]
          split
          · exact Int.le_refl _
          · exact this
    · simp only [if_neg h1]
      refine ⟨trivial, ⟨hI, h.prm, by show s.now ≤ _; omega, by show now < _; omega, by show -1 ≤ now; omega, rfl, ?_, fun _ => by show 0 < s.left - 1; omega, htime⟩, rfl⟩
      rw [if_neg (by omega)]; exact hop.symm

theorem takeL_all (l : List (Int × Int)) (left u : Int) (h : ∀ x ∈ l, x.1 ≤ u) : takeL l left u = ([], left + sumA l) := by
  induction l generalizing left with
  | nil => simp [takeL]
  | cons x l ih =>
    simp only [takeL]
    rw [if_pos (h x (by simp)), ih _ fun y hy => h y (by simp [hy])]
    simp; omega

/-- One period behind the last tick the budget is full. -/
theorem SumInv.full {p : Prm} {s : Srv} {now last opn u : Int} (h : SumInv p s now last opn) (h1 : last + 1 + p.P ≤ u) (h2 : now ≤ u) (h3 : u ≤ 1099511627776) : (s.tell u).left = p.B := by
  have hI := h.inv
  have hP : 1 ≤ s.p.P := by have := hI.prm; unfold Prm.ok at this; omega
  have hp := h.prm
  have hlast := h.last
  have hall : ∀ x ∈ (s.tell u).list, x.1 ≤ u := by
    have := (h.tells (by have := h2; omega)).time
    intro x hx
    have ho := h.order
    have hT := SumInv.tells (now := u) ⟨hI, h.prm, by omega, by have := h.ran; omega, h.ran0, h.last, h.opn, h.left, h.time⟩ h3
    have := hT.time x hx
    obtain ⟨t1, t2, t3, t4, t5, t6⟩ := tell_rest s u
    rw [t3, t1, hp] at this
    omega
  have hIt := hI.tells (now := u) (by have := h.order; omega) h3
  have hid : (s.tell u).tell u = s.tell u := tell_tell s u u (Int.le_refl _)
  obtain ⟨t1, t2, t3, t4, t5, t6⟩ := tell_rest s u
  have hrt : (s.tell u).run = false := by
    cases hh : (s.tell u).run
    · rfl
    · obtain ⟨hr, hl⟩ := t6 hh
      have := (hI.chunk hr).2.2.2
      rw [hp] at hP
      omega
  have e1 : (s.tell u).tell u = ((s.tell u).at_ u).take u := tell_no (by rw [hrt]; simp)
  have e2 : ((s.tell u).at_ u).take u = { ((s.tell u).at_ u) with list := [], left := (s.tell u).left + sumA (s.tell u).list } := by
    unfold Srv.take
    have := takeL_all ((s.tell u).at_ u).list ((s.tell u).at_ u).left u hall
    rw [this]; rfl
  have hnil : (s.tell u).list = [] := by rw [← hid, e1, e2]
  have hsum := hIt.sum
  rw [hnil, t1, hp] at hsum
  simp [Srv.opens, hrt] at hsum
  omega

end Go.Proofs.Ytdjkgbkckmjfiaa
