/- The sporadic server as plain numbers: what every call keeps. -/
import Derived.Test.YtdjkgbkckmjfiaaModel
namespace Go.Proofs.Ytdjkgbkckmjfiaa

theorem lastOf_eq (l : List (Int × Int)) (h : l ≠ []) : lastOf l = l.getLast h := by
  rw [lastOf, List.getLastD_eq_getLast?, List.getLast?_eq_some_getLast h]; rfl
theorem split_last (l : List (Int × Int)) (h : l ≠ []) : l = l.dropLast ++ [lastOf l] := by
  rw [lastOf_eq l h]
  exact (List.dropLast_concat_getLast h).symm
theorem sumA_merge (l : List (Int × Int)) (h : l ≠ []) (x : Int × Int) : sumA (l.dropLast ++ [merge (lastOf l) x]) = sumA l + x.2 := by
  have := congrArg sumA (split_last l h)
  simp at this
  simp [merge]; omega

theorem merge_bd (l x : Int × Int) {a b : Int} (h0 : a ≤ l.1) (h1 : l.1 ≤ b) (h2 : a ≤ x.1) (h3 : x.1 ≤ b) : a ≤ (merge l x).1 ∧ (merge l x).1 ≤ b := by
  simp only [merge]
  split <;> omega
theorem endc_sum (s : Srv) (hp : s.p.ok) : s.endc.left + sumA s.endc.list = s.left + sumA s.list + s.item.2 := by
  obtain ⟨_, _, _, _, h5, _⟩ := hp
  unfold Srv.endc
  split
  · rename_i h
    have hne : s.list ≠ [] := by intro e; rw [e] at h; simp at h; omega
    simp only [sumA_merge _ hne]; omega
  · simp; omega
theorem endc_len (s : Srv) (hp : s.p.ok) (h : s.list.length ≤ s.p.N) : s.endc.list.length ≤ s.p.N := by
  obtain ⟨_, _, _, _, h5, _⟩ := hp
  unfold Srv.endc
  split
  · rename_i hn; simp; omega
  · simp; omega
theorem endc_mem (s : Srv) (hp : s.p.ok) (p : Int × Int → Prop) (h : ∀ x ∈ s.list, p x) (hi : p s.item) (hm : ∀ x ∈ s.list, p (merge x s.item)) : ∀ x ∈ s.endc.list, p x := by
  obtain ⟨_, _, _, _, h5, _⟩ := hp
  unfold Srv.endc
  split
  · rename_i hn
    have hne : s.list ≠ [] := by intro e; rw [e] at hn; simp at hn; omega
    have hl : lastOf s.list ∈ s.list := by rw [lastOf_eq _ hne]; exact List.getLast_mem hne
    intro x hx
    simp only [List.mem_append, List.mem_singleton] at hx
    rcases hx with hx | rfl
    · exact h x (List.dropLast_subset _ hx)
    · exact hm _ hl
  · intro x hx
    simp only [List.mem_append, List.mem_singleton] at hx
    rcases hx with hx | rfl
    · exact h x hx
    · exact hi
theorem endc_rest (s : Srv) : s.endc.p = s.p ∧ s.endc.left = s.left ∧ s.endc.first = s.first ∧ s.endc.last = s.last ∧ s.endc.run = false ∧ s.endc.now = s.now ∧ s.endc.ran = s.ran := by
  unfold Srv.endc; split <;> exact ⟨rfl, rfl, rfl, rfl, rfl, rfl, rfl⟩
theorem take_rest (s : Srv) (u : Int) : (s.take u).p = s.p ∧ (s.take u).first = s.first ∧ (s.take u).last = s.last ∧ (s.take u).run = s.run ∧ (s.take u).now = s.now ∧ (s.take u).ran = s.ran := by
  exact ⟨rfl, rfl, rfl, rfl, rfl, rfl⟩

theorem Srv.Inv.fit {s : Srv} (h : s.Inv) : s.Fit where
  prm := h.prm
  len := h.len
  left := h.left
  amt := h.amt
  sum := by
    have h1 := h.sum
    have h2 : 0 ≤ s.opens := by
      unfold Srv.opens
      split
      · rename_i hr; have := h.chunk hr; omega
      · omega
    have h3 := h.prm.2.1
    omega
  lastb := by have := h.lastb; have := h.now1; omega
  firstb := by have := h.firstb; have := h.now1; omega

theorem Srv.Inv.at {s : Srv} (h : s.Inv) {now : Int} (h0 : s.now ≤ now) (h1 : now ≤ 1099511627776) : ({ s with now := now } : Srv).Inv where
  prm := h.prm
  len := h.len
  left := h.left
  amt := h.amt
  time := h.time
  sum := h.sum
  chunk := fun hr => by have := h.chunk hr; refine ⟨this.1, this.2.1, ?_, this.2.2.2⟩; show s.last ≤ now; omega
  now0 := by have := h.now0; show 0 ≤ now; omega
  now1 := h1
  ran := by have := h.ran; show s.ran ≤ now; omega
  lastb := by have := h.lastb; refine ⟨this.1, ?_⟩; show s.last ≤ now; omega
  firstb := by have := h.firstb; refine ⟨this.1, ?_⟩; show s.first ≤ now; omega

theorem Srv.Inv.takes {s : Srv} (h : s.Inv) (u : Int) : (s.take u).Inv where
  prm := h.prm
  len := by have := takeL_len s.list s.left u; have := h.len; simp only [Srv.take]; omega
  left := by have := takeL_left s.list s.left u h.amt; have := h.left; simp only [Srv.take]; omega
  amt := fun x hx => h.amt x (takeL_mem _ _ _ x hx)
  time := fun x hx => h.time x (takeL_mem _ _ _ x hx)
  sum := by have := takeL_sum s.list s.left u; have := h.sum; show (takeL s.list s.left u).2 + sumA (takeL s.list s.left u).1 + s.opens = s.p.B; omega
  chunk := h.chunk
  now0 := h.now0
  now1 := h.now1
  ran := h.ran
  lastb := h.lastb
  firstb := h.firstb

theorem Srv.Inv.ends {s : Srv} (h : s.Inv) (hr : s.run = true) : s.endc.Inv := by
  obtain ⟨e1, e2, e3, e4, e5, e6, e7⟩ := endc_rest s
  have hp := h.prm
  obtain ⟨p1, p2, p3, p4, p5, p6, p7, p8⟩ := hp
  have hc := h.chunk hr
  have hn := h.now1
  refine ⟨e1 ▸ h.prm, e1 ▸ endc_len s h.prm h.len, e2 ▸ h.left, ?_, ?_, ?_, fun hr' => (by rw [e5] at hr'; cases hr'), e6 ▸ h.now0, e6 ▸ h.now1, by rw [e7, e6]; exact h.ran, by rw [e4, e6]; exact h.lastb, by rw [e3, e6]; exact h.firstb⟩
  · refine endc_mem s h.prm _ h.amt ?_ fun x hx => ?_
    · simp only [Srv.item]; omega
    · have := h.amt x hx; simp only [merge, Srv.item]; omega
  · refine endc_mem s h.prm _ h.time ?_ fun x hx => ?_
    · simp only [Srv.item]; omega
    · have := h.time x hx
      exact merge_bd _ _ this.1 this.2 (by simp only [Srv.item]; omega) (by simp only [Srv.item]; omega)
  · rw [endc_sum s h.prm, e1]
    have h1 := h.sum
    simp only [Srv.opens, hr, if_true] at h1
    simp only [Srv.opens, e5, Bool.false_eq_true, if_false, Srv.item]
    omega

theorem Srv.Inv.tells {s : Srv} (h : s.Inv) {now : Int} (h0 : s.now ≤ now) (h1 : now ≤ 1099511627776) : (s.tell now).Inv := by
  unfold Srv.tell
  split
  · rename_i hc
    exact (((h.at h0 h1).takes _).ends hc.1).takes _
  · exact (h.at h0 h1).takes _

theorem tell_rest (s : Srv) (now : Int) : (s.tell now).p = s.p ∧ (s.tell now).now = now ∧ (s.tell now).ran = s.ran ∧ (s.tell now).last = s.last ∧ (s.tell now).first = s.first ∧
    ((s.tell now).run = true → s.run = true ∧ now ≤ s.last + 1) := by
  unfold Srv.tell
  split
  · rename_i hc
    have hr := endc_rest (({ s with now := now } : Srv).take (s.last + 1))
    refine ⟨hr.1, hr.2.2.2.2.2.1, hr.2.2.2.2.2.2, hr.2.2.2.1, hr.2.2.1, fun h => ?_⟩
    have : (({ s with now := now } : Srv).take (s.last + 1)).endc.run = true := h
    rw [hr.2.2.2.2.1] at this; cases this
  · rename_i hc
    refine ⟨rfl, rfl, rfl, rfl, rfl, fun h => ?_⟩
    have h' : s.run = true := h
    exact ⟨h', by
      rcases Int.lt_or_le (s.last + 1) now with hl | hl
      · exact absurd ⟨h', hl⟩ hc
      · exact hl⟩

/-- The tick's own numbers, before the chunk may end. -/
def Srv.spend (s : Srv) (now : Int) : Srv := { s with left := s.left - 1, first := if s.run then s.first else now, run := true, last := now, ran := now }

theorem Srv.Inv.spends {s : Srv} (h : s.Inv) {now : Int} (hn : s.now = now) (hr : s.run = true → s.last + 1 = now) (h0 : s.left ≠ 0) : (s.spend now).Inv := by
  unfold Srv.spend
  refine ⟨h.prm, h.len, by have := h.left; simp; omega, h.amt, h.time, ?_, fun _ => ?_, h.now0, h.now1, by simp [hn], ?_, ?_⟩
  · have h1 := h.sum
    cases hrun : s.run
    · simp only [Srv.opens, hrun, Bool.false_eq_true, if_false, if_true] at h1 ⊢; omega
    · have := hr hrun
      simp only [Srv.opens, hrun, if_true] at h1 ⊢; omega
  · have := h.now0
    cases hrun : s.run
    · simp; omega
    · have := h.chunk hrun; simp; omega
  · have := h.now0; simp; omega
  · have := h.now0
    cases hrun : s.run
    · simp; omega
    · have := h.chunk hrun; simp; omega

theorem tick_eq (s : Srv) (now : Int) (h : s.left ≠ 0) : s.tick now = (if s.left = 1 then (s.spend now).endc else s.spend now, 0) := by
  unfold Srv.tick Srv.spend
  rw [if_neg h]
  by_cases h1 : s.left = 1
  · simp [h1]
  · rw [if_neg h1]
    simp only
    rw [if_neg (by omega)]

theorem Srv.Inv.ticks {s : Srv} (h : s.Inv) {now : Int} (hn : s.now = now) (hr : s.run = true → s.last + 1 = now) : (s.tick now).1.Inv := by
  by_cases h0 : s.left = 0
  · unfold Srv.tick; rw [if_pos h0]; exact h
  · rw [tick_eq s now h0]
    split
    · exact (h.spends hn hr h0).ends rfl
    · exact h.spends hn hr h0

/-- Behind the telling an open chunk goes on with this very tick. -/
theorem tell_chunk {s : Srv} (h : s.Inv) {now : Int} (h0 : s.now ≤ now) (hne : now ≠ s.ran) : (s.tell now).run = true → (s.tell now).last + 1 = now := by
  intro hr
  obtain ⟨_, t2, t3, t4, _, t6⟩ := tell_rest s now
  obtain ⟨hr1, hr2⟩ := t6 hr
  have hc := h.chunk hr1
  rw [t4]; omega

theorem Srv.Inv.runs {s : Srv} (h : s.Inv) (now : Int) : (s.runs now).1.Inv := by
  unfold Srv.runs
  split
  · exact h
  · rename_i ht
    split
    · exact h
    · rename_i ho
      simp only [inTime, Bool.and_eq_false_iff, decide_eq_false_iff_not] at ht
      have hI := h.tells (now := now) (by omega) (by omega)
      obtain ⟨_, t2, t3, t4, _, t6⟩ := tell_rest s now
      refine hI.ticks t2 fun hr => ?_
      obtain ⟨hr1, hr2⟩ := t6 hr
      have hc := h.chunk hr1
      rw [t4]; omega
theorem Srv.Inv.budgets {s : Srv} (h : s.Inv) (now : Int) : (s.budget now).1.Inv := by
  unfold Srv.budget
  split
  · exact h
  · rename_i ht
    split
    · exact h
    · simp only [inTime, Bool.and_eq_false_iff, decide_eq_false_iff_not] at ht
      exact h.tells (by omega) (by omega)
theorem Srv.Inv.prios {s : Srv} (h : s.Inv) (now normal : Int) : (s.prio now normal).1.Inv := by
  unfold Srv.prio
  split
  · exact h
  · rename_i ht
    split
    · exact h
    · simp only [inTime, Bool.and_eq_false_iff, decide_eq_false_iff_not] at ht
      exact h.tells (by omega) (by omega)
theorem Srv.Inv.news {p : Prm} (h : p.ok) : (Srv.new p).Inv := by
  obtain ⟨p1, p2, p3, p4, p5, p6, p7, p8⟩ := h
  exact ⟨⟨p1, p2, p3, p4, p5, p6, p7, p8⟩, by simp [Srv.new], by simp [Srv.new]; omega, by simp [Srv.new], by simp [Srv.new], by simp [Srv.new, Srv.opens], by simp [Srv.new], by simp [Srv.new], by simp [Srv.new], by simp [Srv.new], by simp [Srv.new], by simp [Srv.new]⟩

end Go.Proofs.Ytdjkgbkckmjfiaa
