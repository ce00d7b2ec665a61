/- In any interval of Period ticks Run succeeds at most Budget times: on plain numbers. -/
import Derived.Test.YtdjkgbkckmjfiaaKeep
namespace Go.Proofs.Ytdjkgbkckmjfiaa

/-- What may be spent before time W: what is left, and what is added before W. -/
def availL (l : List (Int × Int)) (W : Int) : Int := sumA (l.filter fun x => decide (x.1 < W))
def Srv.avail (s : Srv) (W : Int) : Int := s.left + availL s.list W

theorem availL_cons (x : Int × Int) (l : List (Int × Int)) (W : Int) : availL (x :: l) W = (if x.1 < W then x.2 else 0) + availL l W := by
  unfold availL
  by_cases h : x.1 < W
  · simp [h]
  · simp [h]
theorem availL_append (l k : List (Int × Int)) (W : Int) : availL (l ++ k) W = availL l W + availL k W := by simp [availL]
theorem availL_nonneg (l : List (Int × Int)) (W : Int) (h : ∀ x ∈ l, 0 ≤ x.2) : 0 ≤ availL l W :=
  sumA_nonneg _ fun x hx => h x (List.mem_filter.1 hx).1
theorem availL_le (l : List (Int × Int)) (W : Int) (h : ∀ x ∈ l, 0 ≤ x.2) : availL l W ≤ sumA l := by
  induction l with
  | nil => simp [availL]
  | cons x l ih =>
    have h0 := h x (by simp)
    have := ih fun y hy => h y (by simp [hy])
    rw [availL_cons, sumA_cons]
    split <;> omega

theorem takeL_avail (l : List (Int × Int)) (left u W : Int) (h : u < W) : (takeL l left u).2 + availL (takeL l left u).1 W = left + availL l W := by
  induction l generalizing left with
  | nil => simp [takeL]
  | cons x l ih =>
    simp only [takeL]
    split
    · rw [ih, availL_cons, if_pos (by omega)]; omega
    · rfl
theorem take_avail (s : Srv) (u W : Int) (h : u < W) : (s.take u).avail W = s.avail W := takeL_avail s.list s.left u W h

theorem endc_avail (s : Srv) (W : Int) (hp : s.p.ok) (ha : ∀ x ∈ s.list, 0 ≤ x.2) (h : W ≤ s.item.1) : s.endc.avail W ≤ s.avail W := by
  obtain ⟨_, _, _, _, h5, _⟩ := hp
  unfold Srv.avail
  rw [(endc_rest s).2.1]
  unfold Srv.endc
  split
  · rename_i hn
    have hne : s.list ≠ [] := by intro e; rw [e] at hn; simp at hn; omega
    have hsp := split_last s.list hne
    have e1 : availL s.list W = availL s.list.dropLast W + availL [lastOf s.list] W := by rw [← availL_append, ← hsp]
    have h0 : 0 ≤ availL [lastOf s.list] W := availL_nonneg _ _ fun x hx => by
      simp at hx; subst hx; exact ha _ (by rw [lastOf_eq _ hne]; exact List.getLast_mem hne)
    have hm : W ≤ (merge (lastOf s.list) s.item).1 := by simp only [merge]; split <;> omega
    simp only [availL_append]
    rw [e1, availL_cons (merge _ _), if_neg (by omega)]
    simp [availL] at h0 ⊢
    omega
  · simp only [availL_append, availL_cons]
    rw [if_neg (by omega)]
    simp [availL]

theorem tell_avail (s : Srv) (hI : s.Inv) (t0 now : Int) (h0 : t0 ≤ s.last) (h1 : now < t0 + s.p.P) (h2 : s.now ≤ now) (h3 : now ≤ 1099511627776) :
    (s.tell now).avail (t0 + s.p.P) ≤ s.avail (t0 + s.p.P) := by
  unfold Srv.tell
  split
  · rename_i hc
    have hA := (hI.at h2 h3).takes (s.last + 1)
    rw [take_avail _ _ _ h1]
    refine Int.le_trans (endc_avail _ _ hA.prm hA.amt ?_) ?_
    · show t0 + s.p.P ≤ s.last + 1 + s.p.P; omega
    · rw [take_avail _ _ _ (by omega)]; exact Int.le_refl _
  · rw [take_avail _ _ _ h1]; exact Int.le_refl _

/-- The times at which Run succeeds. -/
def plays : List Nat → Srv → Int → List Int
  | [], _, _ => []
  | g :: gs, s, now => if (s.runs now).2 = 0 then now :: plays gs (s.runs now).1 (now + (1 + g)) else plays gs (s.runs now).1 (now + (1 + g))

theorem plays_ge (gs : List Nat) : ∀ (s : Srv) (now : Int), ∀ t ∈ plays gs s now, now ≤ t := by
  induction gs with
  | nil => simp [plays]
  | cons g gs ih =>
    intro s now t ht
    simp only [plays] at ht
    split at ht
    · rcases List.mem_cons.1 ht with rfl | ht
      · omega
      · have := ih _ _ t ht; omega
    · have := ih _ _ t ht; omega

theorem endc_p (s : Srv) : s.endc.p = s.p := (endc_rest s).1

theorem runs_p (s : Srv) (now : Int) : (s.runs now).1.p = s.p := by
  unfold Srv.runs
  split
  · rfl
  · split
    · rfl
    · by_cases h0 : (s.tell now).left = 0
      · unfold Srv.tick; rw [if_pos h0]; exact (tell_rest s now).1
      · rw [tick_eq _ _ h0]
        split
        · rw [endc_p]; exact (tell_rest s now).1
        · exact (tell_rest s now).1

/-- One Run in the window: a success takes one of what may be spent. -/
theorem runs_avail (s : Srv) (hI : s.Inv) (t0 now : Int) (h0 : t0 ≤ s.last) (h1 : now < t0 + s.p.P) (hn : t0 ≤ now) :
    t0 ≤ (s.runs now).1.last ∧ (s.runs now).1.avail (t0 + s.p.P) + (if (s.runs now).2 = 0 then 1 else 0) ≤ s.avail (t0 + s.p.P) := by
  unfold Srv.runs
  split
  · exact ⟨h0, by simp⟩
  · rename_i ht
    split
    · exact ⟨h0, by simp⟩
    · rename_i ho
      simp only [inTime, Bool.and_eq_false_iff, decide_eq_false_iff_not] at ht
      have hta := tell_avail s hI t0 now h0 h1 (by omega) (by omega)
      have hIt := hI.tells (now := now) (by omega) (by omega)
      obtain ⟨t1, t2, t3, t4, t5, t6⟩ := tell_rest s now
      by_cases hz : (s.tell now).left = 0
      · unfold Srv.tick
        rw [if_pos hz]
        refine ⟨by rw [t4]; exact h0, ?_⟩
        simpa using hta
      · rw [tick_eq _ _ hz]
        have hsp : ((s.tell now).spend now).avail (t0 + s.p.P) = (s.tell now).avail (t0 + s.p.P) - 1 := by
          simp only [Srv.avail, Srv.spend]; omega
        have hIs := hIt.spends t2 (tell_chunk hI (by omega) (by omega)) hz
        simp only [if_true]
        split
        · refine ⟨by rw [(endc_rest _).2.2.2.1]; exact hn, ?_⟩
          have := endc_avail ((s.tell now).spend now) (t0 + s.p.P) hIs.prm hIs.amt (by show t0 + s.p.P ≤ now + 1 + (s.tell now).p.P; rw [t1]; omega)
          omega
        · exact ⟨hn, by omega⟩

/-- The first of a window. -/
theorem runs_first (s : Srv) (hI : s.Inv) (t0 : Int) (hs : (s.runs t0).2 = 0) : t0 ≤ (s.runs t0).1.last ∧ (s.runs t0).1.avail (t0 + s.p.P) + 1 ≤ s.p.B := by
  unfold Srv.runs at hs ⊢
  split at hs
  · simp at hs
  · rename_i ht
    rw [if_neg ht]
    split at hs
    · simp at hs
    · rename_i ho
      rw [if_neg ho]
      simp only [inTime, Bool.and_eq_false_iff, decide_eq_false_iff_not] at ht
      have hIt := hI.tells (now := t0) (by omega) (by omega)
      obtain ⟨t1, t2, t3, t4, t5, t6⟩ := tell_rest s t0
      by_cases hz : (s.tell t0).left = 0
      · unfold Srv.tick at hs; rw [if_pos hz] at hs; simp at hs
      · rw [tick_eq _ _ hz]
        have hop : 0 ≤ (s.tell t0).opens := by
          unfold Srv.opens
          split
          · rename_i hr; have := hIt.chunk hr; omega
          · omega
        have hsum := hIt.sum
        have hle := availL_le (s.tell t0).list (t0 + s.p.P) hIt.amt
        have hsp : ((s.tell t0).spend t0).avail (t0 + s.p.P) = (s.tell t0).avail (t0 + s.p.P) - 1 := by
          simp only [Srv.avail, Srv.spend]; omega
        have hav : (s.tell t0).avail (t0 + s.p.P) ≤ s.p.B := by
          rw [t1] at hsum
          simp only [Srv.avail]; omega
        have hIs := hIt.spends t2 (tell_chunk hI (by omega) (by omega)) hz
        split
        · refine ⟨by rw [(endc_rest _).2.2.2.1]; exact Int.le_refl _, ?_⟩
          have := endc_avail ((s.tell t0).spend t0) (t0 + s.p.P) hIs.prm hIs.amt (by show t0 + s.p.P ≤ t0 + 1 + (s.tell t0).p.P; rw [t1]; omega)
          simp only
          omega
        · exact ⟨Int.le_refl _, by simp only; omega⟩

theorem plays_window (gs : List Nat) : ∀ (s : Srv) (now t0 : Int), s.Inv → t0 ≤ s.last → t0 ≤ now → ∀ m : Nat, m ≤ (plays gs s now).length →
    (∀ j, j < m → ∀ t, (plays gs s now)[j]? = some t → t < t0 + s.p.P) → (m : Int) ≤ s.avail (t0 + s.p.P) := by
  induction gs with
  | nil =>
    intro s now t0 hI h0 hn m hm _
    simp [plays] at hm
    have := availL_nonneg s.list (t0 + s.p.P) hI.amt
    have := hI.left
    simp only [Srv.avail]; omega
  | cons g gs ih =>
    intro s now t0 hI h0 hn m hm hw
    have hnn : 0 ≤ s.avail (t0 + s.p.P) := by
      have := availL_nonneg s.list (t0 + s.p.P) hI.amt
      have := hI.left
      simp only [Srv.avail]; omega
    by_cases hm0 : m = 0
    · omega
    · have hlt : now < t0 + s.p.P := by
        obtain ⟨t, ht⟩ : ∃ t, (plays (g :: gs) s now)[0]? = some t := ⟨_, List.getElem?_eq_getElem (by omega)⟩
        have h1 := hw 0 (by omega) t ht
        have h2 := plays_ge (g :: gs) s now t (List.mem_of_getElem? ht)
        omega
      obtain ⟨hl, ha⟩ := runs_avail s hI t0 now h0 hlt hn
      have hpp := runs_p s now
      simp only [plays] at hm hw
      split at hm
      · rename_i hs
        rw [if_pos hs] at ha
        simp only [hs, if_true] at hw
        have := ih (s.runs now).1 (now + (1 + g)) t0 (hI.runs now) hl (by omega) (m - 1) (by simp at hm; omega) (fun j hj t ht => by
          rw [hpp]
          exact hw (j + 1) (by omega) t (by simpa using ht))
        rw [hpp] at this
        omega
      · rename_i hs
        rw [if_neg hs] at ha
        simp only [hs, if_false] at hw
        have := ih (s.runs now).1 (now + (1 + g)) t0 (hI.runs now) hl (by omega) m hm (fun j hj t ht => by
          rw [hpp]
          exact hw j hj t ht)
        rw [hpp] at this
        omega

theorem plays_bound (gs : List Nat) : ∀ (s : Srv) (now : Int), s.Inv → ∀ (i m : Nat), i + m ≤ (plays gs s now).length → 0 < m → ∀ t0, (plays gs s now)[i]? = some t0 →
    (∀ j, j < m → ∀ t, (plays gs s now)[i + j]? = some t → t < t0 + s.p.P) → (m : Int) ≤ s.p.B := by
  induction gs with
  | nil => intro s now hI i m hm h0; simp [plays] at hm; omega
  | cons g gs ih =>
    intro s now hI i m hm h0 t0 ht hw
    have hpp := runs_p s now
    simp only [plays] at hm hw ht
    split at hm
    · rename_i hs
      simp only [hs, if_true] at hw ht
      cases i with
      | zero =>
        simp at ht
        subst ht
        obtain ⟨hl, ha⟩ := runs_first s hI now hs
        have := plays_window gs (s.runs now).1 (now + (1 + g)) now (hI.runs now) hl (by omega) (m - 1) (by simp at hm; omega) (fun j hj t ht => by
          rw [hpp]
          exact hw (j + 1) (by omega) t (by simpa using ht))
        rw [hpp] at this
        omega
      | succ i =>
        have := ih (s.runs now).1 (now + (1 + g)) (hI.runs now) i m (by simp at hm; omega) h0 t0 (by simpa using ht) (fun j hj t ht => by
          rw [hpp]
          exact hw j hj t (by rw [show i + 1 + j = (i + j) + 1 from by omega]; simpa using ht))
        rwa [hpp] at this
    · rename_i hs
      simp only [hs, if_false] at hw ht
      have := ih (s.runs now).1 (now + (1 + g)) (hI.runs now) i m hm h0 t0 ht (fun j hj t ht => by
        rw [hpp]
        exact hw j hj t ht)
      rwa [hpp] at this

theorem runs_time (s : Srv) (now : Int) (h : (s.runs now).2 = 0) : 0 ≤ now ∧ now ≤ 1099511627776 := by
  unfold Srv.runs at h
  split at h
  · simp at h
  · rename_i ht
    simp only [inTime, Bool.and_eq_false_iff, decide_eq_false_iff_not] at ht
    omega
theorem plays_time (gs : List Nat) : ∀ (s : Srv) (now : Int), ∀ t ∈ plays gs s now, 0 ≤ t ∧ t ≤ 1099511627776 := by
  induction gs with
  | nil => simp [plays]
  | cons g gs ih =>
    intro s now t ht
    simp only [plays] at ht
    split at ht
    · rename_i h
      rcases List.mem_cons.1 ht with rfl | ht
      · exact runs_time s _ h
      · exact ih _ _ t ht
    · exact ih _ _ t ht

/-- The law's loop: the state behind some rounds. -/
structure Played where
  s : Srv
  now : Int
  ran : List Int
def Played.step (x : Played) (g : Nat) : Played := ⟨(x.s.runs x.now).1, x.now + (1 + g), if (x.s.runs x.now).2 = 0 then x.ran ++ [x.now] else x.ran⟩
def played (gs : List Nat) (p : Prm) : Played := gs.foldl Played.step ⟨Srv.new p, 0, []⟩
theorem played_plays (gs : List Nat) : ∀ x : Played, (gs.foldl Played.step x).ran = x.ran ++ plays gs x.s x.now := by
  induction gs with
  | nil => simp [plays]
  | cons g gs ih =>
    intro x
    rw [List.foldl_cons, ih]
    simp only [Played.step, plays]
    split <;> simp
theorem played_snoc (gs : List Nat) (g : Nat) (p : Prm) : played (gs ++ [g]) p = (played gs p).step g := by simp [played]
theorem played_inv (gs : List Nat) (p : Prm) (h : p.ok) : (played gs p).s.Inv ∧ (played gs p).s.p = p := by
  have : ∀ (gs : List Nat) (x : Played), x.s.Inv ∧ x.s.p = p → (gs.foldl Played.step x).s.Inv ∧ (gs.foldl Played.step x).s.p = p := by
    intro gs
    induction gs with
    | nil => intro x hx; exact hx
    | cons g gs ih => intro x hx; exact ih _ ⟨hx.1.runs _, by rw [Played.step, runs_p]; exact hx.2⟩
  exact this gs _ ⟨Srv.Inv.news h, rfl⟩
theorem played_now (gs : List Nat) (p : Prm) (h : ∀ g ∈ gs, g ≤ 255) : 0 ≤ (played gs p).now ∧ (played gs p).now ≤ 256 * gs.length := by
  have : ∀ (gs : List Nat) (x : Played), (∀ g ∈ gs, g ≤ 255) → x.now ≤ (gs.foldl Played.step x).now ∧ (gs.foldl Played.step x).now ≤ x.now + 256 * gs.length := by
    intro gs
    induction gs with
    | nil => intro x _; simp
    | cons g gs ih =>
      intro x hx
      have h1 := ih (x.step g) fun y hy => hx y (by simp [hy])
      have h2 := hx g (by simp)
      simp only [List.foldl_cons, List.length_cons]
      simp only [Played.step] at h1 ⊢
      omega
  have := this gs ⟨Srv.new p, 0, []⟩ h
  simpa [played] using this
theorem played_ran (gs : List Nat) (p : Prm) : (played gs p).ran = plays gs (Srv.new p) 0 := by simp [played, played_plays]
theorem played_len (gs : List Nat) (p : Prm) : (played gs p).ran.length ≤ gs.length := by
  rw [played_ran]
  have : ∀ (gs : List Nat) (s : Srv) (now : Int), (plays gs s now).length ≤ gs.length := by
    intro gs
    induction gs with
    | nil => simp [plays]
    | cons g gs ih =>
      intro s now
      simp only [plays]
      split
      · have := ih (s.runs now).1 (now + (1 + g)); simp; omega
      · have := ih (s.runs now).1 (now + (1 + g)); simp; omega
  exact this gs _ _

theorem played_time (gs : List Nat) (p : Prm) : ∀ t ∈ (played gs p).ran, 0 ≤ t ∧ t ≤ 1099511627776 := by
  rw [played_ran]; exact plays_time gs _ _

/-- What the law asks of the list. -/
theorem bounds (gs : List Nat) (p : Prm) (h : p.ok) (i k : Nat) (hik : i < k) (hk : k ≤ (played gs p).ran.length) (t0 : Int) (ht : (played gs p).ran[i]? = some t0)
    (hw : ∀ j, i ≤ j → j < k → ∀ t, (played gs p).ran[j]? = some t → t < t0 + p.P) : (k : Int) - i ≤ p.B := by
  rw [played_ran] at hk ht hw
  have := plays_bound gs (Srv.new p) 0 (Srv.Inv.news h) i (k - i) (by omega) (by omega) t0 ht (fun j hj t hjt => hw (i + j) (by omega) (by omega) t hjt)
  have hp : (Srv.new p).p.B = p.B := rfl
  omega

end Go.Proofs.Ytdjkgbkckmjfiaa
