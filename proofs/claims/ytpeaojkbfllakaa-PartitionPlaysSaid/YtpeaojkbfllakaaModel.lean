/- The meter of partitions as plain numbers and lists: all charges that were made, and the present time; what the program keeps of them in its slots and sums. -/
namespace Go.Proofs.Ytpeaojkbfllakaa

structure Chg where
  t : Int
  p : Nat
  c : Bool

structure Cfg where
  W : Nat
  P : Nat
  parts : List (Int × Int)

structure Mtr where
  cfg : Cfg
  l : List Chg
  now : Int

def cnt (l : List Chg) (f : Chg → Bool) : Int := (l.countP f : Nat)

theorem cnt_nonneg (l : List Chg) (f : Chg → Bool) : 0 ≤ cnt l f := by unfold cnt; omega
@[simp] theorem cnt_nil (f : Chg → Bool) : cnt [] f = 0 := rfl
theorem cnt_cons (x : Chg) (l : List Chg) (f : Chg → Bool) : cnt (x :: l) f = (if f x then 1 else 0) + cnt l f := by
  unfold cnt; rw [List.countP_cons]; split <;> simp <;> omega
theorem cnt_append (l k : List Chg) (f : Chg → Bool) : cnt (l ++ k) f = cnt l f + cnt k f := by
  unfold cnt; rw [List.countP_append]; simp
theorem cnt_congr {l : List Chg} {f g : Chg → Bool} (h : ∀ x ∈ l, f x = g x) : cnt l f = cnt l g := by
  unfold cnt
  rw [List.countP_congr fun x hx => by rw [h x hx]]
theorem cnt_zero {l : List Chg} {f : Chg → Bool} (h : ∀ x ∈ l, f x = false) : cnt l f = 0 := by
  unfold cnt
  rw [List.countP_eq_zero.2 fun x hx => by rw [h x hx]; simp]; rfl
theorem cnt_le {l : List Chg} {f g : Chg → Bool} (h : ∀ x ∈ l, f x = true → g x = true) : cnt l f ≤ cnt l g := by
  unfold cnt
  have := List.countP_mono_left h
  omega
/-- f counts what g or h counts. -/
theorem cnt_le_add {l : List Chg} {f g h : Chg → Bool} (hh : ∀ x ∈ l, f x = true → g x = true ∨ h x = true) : cnt l f ≤ cnt l g + cnt l h := by
  induction l with
  | nil => simp
  | cons x l ih =>
    have i := ih fun y hy => hh y (by simp [hy])
    have k := hh x (by simp)
    rw [cnt_cons, cnt_cons, cnt_cons]
    cases hf : f x <;> cases hg : g x <;> cases hx : h x <;> simp [hf, hg, hx] at k ⊢ <;> omega
theorem cnt_add {l : List Chg} {f g h : Chg → Bool} (h1 : ∀ x ∈ l, f x = (g x || h x)) (h2 : ∀ x ∈ l, (g x && h x) = false) : cnt l f = cnt l g + cnt l h := by
  induction l with
  | nil => simp
  | cons x l ih =>
    have i := ih (fun y hy => h1 y (by simp [hy])) (fun y hy => h2 y (by simp [hy]))
    have k1 := h1 x (by simp)
    have k2 := h2 x (by simp)
    rw [cnt_cons, cnt_cons, cnt_cons, k1]
    cases hg : g x <;> cases hx : h x <;> simp [hg, hx] at k2 ⊢ <;> omega

/-- Does a charge count: of part p, only critical ones if asked, at a time between? -/
def inw (p : Nat) (cr : Bool) (lo hi : Int) (x : Chg) : Bool := decide (x.p = p) && (!cr || x.c) && decide (lo < x.t) && decide (x.t < hi)
/-- Is it in the slot s? -/
def ins (W : Nat) (p : Nat) (cr : Bool) (s : Nat) (lo : Int) (x : Chg) : Bool := decide (x.p = p) && (!cr || x.c) && decide (lo < x.t) && decide (x.t % (W : Int) = s)
def att (t : Int) (x : Chg) : Bool := decide (x.t = t)

def Mtr.slotv (m : Mtr) (s p : Nat) (cr : Bool) : Int := cnt m.l (ins m.cfg.W p cr s (m.now - m.cfg.W))
def Mtr.sumv (m : Mtr) (p : Nat) (cr : Bool) : Int := cnt m.l (inw p cr (m.now - m.cfg.W) m.now)
def Mtr.tickv (m : Mtr) (t : Int) : Int := cnt m.l (att t)

def Cfg.ok (c : Cfg) : Prop := 1 ≤ c.W ∧ c.W ≤ 1000 ∧ 1 ≤ c.P ∧ c.P ≤ 8 ∧ 1 ≤ c.parts.length ∧ c.parts.length ≤ 8 ∧ (∀ x ∈ c.parts, (0 ≤ x.1 ∧ x.1 ≤ 100) ∧ 0 ≤ x.2 ∧ x.2 ≤ 100) ∧ (c.parts.map (·.1)).sum = 100

structure Mtr.Inv (m : Mtr) : Prop where
  cfg : m.cfg.ok
  times : ∀ x ∈ m.l, 0 ≤ x.t ∧ x.t ≤ m.now
  parts : ∀ x ∈ m.l, x.p < m.cfg.parts.length
  now0 : 0 ≤ m.now
  now1 : m.now ≤ 1099511627776
  most : ∀ t, m.tickv t ≤ m.cfg.P

def Mtr.at_ (m : Mtr) (now : Int) : Mtr := { m with now := now }

theorem Mtr.Inv.at_ {m : Mtr} (h : m.Inv) {now : Int} (h0 : m.now ≤ now) (h1 : now ≤ 1099511627776) : (m.at_ now).Inv where
  cfg := h.cfg
  times := fun x hx => ⟨(h.times x hx).1, Int.le_trans (h.times x hx).2 h0⟩
  parts := h.parts
  now0 := Int.le_trans h.now0 h0
  now1 := h1
  most := h.most

/-- At most n times P charges in n ticks. -/
theorem most_in {l : List Chg} {P : Int} (h : ∀ t, cnt l (att t) ≤ P) (p : Nat) (cr : Bool) (a : Int) : ∀ n : Nat, cnt l (fun x => decide (a < x.t) && decide (x.t < a + n + 1)) ≤ n * P
  | 0 => by
    rw [cnt_zero]
    · simp
    · intro x _; simp; omega
  | n + 1 => by
    have ih := most_in h p cr a n
    have hn := h (a + n + 1)
    have := cnt_le_add (l := l) (f := fun x => decide (a < x.t) && decide (x.t < a + (n + 1 : Nat) + 1)) (g := fun x => decide (a < x.t) && decide (x.t < a + n + 1)) (h := att (a + n + 1)) (by
      intro x _ hx
      simp [att] at hx ⊢
      omega)
    have e : ((n + 1 : Nat) : Int) * P = n * P + P := by rw [Int.natCast_add, Int.add_mul]; simp
    omega

theorem Mtr.Inv.total {m : Mtr} (h : m.Inv) : cnt m.l (fun x => decide (m.now - m.cfg.W < x.t) && decide (x.t < m.now)) ≤ (m.cfg.W - 1) * m.cfg.P := by
  have hW := h.cfg.1
  have := most_in (l := m.l) (P := m.cfg.P) h.most 0 false (m.now - m.cfg.W) (m.cfg.W - 1)
  have e : (((m.cfg.W - 1 : Nat)) : Int) = m.cfg.W - 1 := by omega
  rw [e, show m.now - m.cfg.W + (m.cfg.W - 1 : Int) + 1 = m.now from by omega] at this
  exact this
theorem wp_bound {W P : Nat} (h1 : W ≤ 1000) (h2 : P ≤ 8) (h0 : 1 ≤ W) : ((W : Int) - 1) * P ≤ 7992 := by
  have : ((W : Int) - 1) * P ≤ 999 * 8 := Int.mul_le_mul (by omega) (by omega) (by omega) (by omega)
  omega
theorem Mtr.Inv.sum_bd {m : Mtr} (h : m.Inv) (p : Nat) (cr : Bool) : 0 ≤ m.sumv p cr ∧ m.sumv p cr ≤ 7992 := by
  have h1 := h.total
  have h2 := wp_bound h.cfg.2.1 h.cfg.2.2.2.1 h.cfg.1
  have h3 : m.sumv p cr ≤ cnt m.l (fun x => decide (m.now - m.cfg.W < x.t) && decide (x.t < m.now)) := cnt_le fun x _ hx => by
    simp [inw] at hx ⊢; omega
  exact ⟨cnt_nonneg _ _, by omega⟩
theorem Mtr.Inv.tick_bd {m : Mtr} (h : m.Inv) (t : Int) : 0 ≤ m.tickv t ∧ m.tickv t ≤ 8 := by
  have := h.most t
  have := h.cfg.2.2.2.1
  exact ⟨cnt_nonneg _ _, by omega⟩

/-- Two times less than W apart with one remainder are one. -/
theorem mod_one {W a b : Int} (h0 : 0 < W) (h : a % W = b % W) (h1 : a ≤ b) (h2 : b < a + W) : a = b := by
  have e1 := Int.mul_ediv_add_emod a W
  have e2 := Int.mul_ediv_add_emod b W
  generalize a / W = q1 at *
  generalize b / W = q2 at *
  have e3 : W * (q2 - q1) = b - a := by rw [Int.mul_sub]; omega
  rcases Int.lt_trichotomy (q2 - q1) 0 with hq | hq | hq
  · have := Int.mul_le_mul_of_nonneg_left (show q2 - q1 ≤ -1 by omega) (Int.le_of_lt h0)
    omega
  · rw [hq] at e3; omega
  · have := Int.mul_le_mul_of_nonneg_left (show 1 ≤ q2 - q1 by omega) (Int.le_of_lt h0)
    omega

section
variable {m : Mtr} (h : m.Inv)
include h
theorem Mtr.Inv.W0 : (0 : Int) < m.cfg.W := by have := h.cfg.1; omega
/-- The slot of the present tick holds its charges. -/
theorem Mtr.Inv.slot_now (p : Nat) (cr : Bool) (s : Nat) (hs : m.now % (m.cfg.W : Int) = s) : m.slotv s p cr = cnt m.l (inw p cr (m.now - 1) (m.now + 1)) := by
  refine cnt_congr fun x hx => ?_
  have ht := h.times x hx
  have hW := h.W0
  have key : (m.now - m.cfg.W < x.t ∧ x.t % (m.cfg.W : Int) = s) ↔ (m.now - 1 < x.t ∧ x.t < m.now + 1) := by
    constructor
    · rintro ⟨a, b⟩
      have := mod_one hW (b.trans hs.symm) ht.2 (by omega)
      omega
    · rintro ⟨a, b⟩
      have : x.t = m.now := by omega
      rw [this]; exact ⟨by omega, hs⟩
  simp only [ins, inw, Bool.and_assoc]
  congr 2
  rw [Bool.eq_iff_iff]
  simpa using key
/-- The slot of the next tick holds the charges of the tick that leaves. -/
theorem Mtr.Inv.slot_old (p : Nat) (cr : Bool) (s : Nat) (hs : (m.now + 1) % (m.cfg.W : Int) = s) : m.slotv s p cr = cnt m.l (inw p cr (m.now - m.cfg.W) (m.now - m.cfg.W + 2)) := by
  refine cnt_congr fun x hx => ?_
  have ht := h.times x hx
  have hW := h.W0
  have key : (m.now - m.cfg.W < x.t ∧ x.t % (m.cfg.W : Int) = s) ↔ (m.now - m.cfg.W < x.t ∧ x.t < m.now - m.cfg.W + 2) := by
    constructor
    · rintro ⟨a, b⟩
      have e : (m.now + 1 - m.cfg.W) % (m.cfg.W : Int) = x.t % (m.cfg.W : Int) := by rw [Int.sub_emod_right, hs, b]
      have := mod_one hW e (by omega) (by omega)
      omega
    · rintro ⟨a, b⟩
      refine ⟨a, ?_⟩
      have e : x.t = m.now + 1 - m.cfg.W := by omega
      rw [e, Int.sub_emod_right, hs]
  simp only [ins, inw, Bool.and_assoc]
  congr 2
  rw [Bool.eq_iff_iff]
  simpa using key
theorem Mtr.Inv.sum_next (hW2 : 2 ≤ m.cfg.W) (p : Nat) (cr : Bool) (s s' : Nat) (hs : m.now % (m.cfg.W : Int) = s) (hs' : (m.now + 1) % (m.cfg.W : Int) = s') :
    (m.at_ (m.now + 1)).sumv p cr = m.sumv p cr + m.slotv s p cr - m.slotv s' p cr := by
  rw [h.slot_now p cr s hs, h.slot_old p cr s' hs']
  have a1 : cnt m.l (inw p cr (m.now - m.cfg.W) (m.now + 1)) = m.sumv p cr + cnt m.l (inw p cr (m.now - 1) (m.now + 1)) := by
    refine cnt_add (fun x hx => ?_) (fun x hx => ?_) <;> (have ht := h.times x hx; rw [Bool.eq_iff_iff]; simp only [inw]; cases decide (x.p = p) <;> cases (!cr || x.c) <;> simp <;> omega)
  have a2 : cnt m.l (inw p cr (m.now - m.cfg.W) (m.now + 1)) = (m.at_ (m.now + 1)).sumv p cr + cnt m.l (inw p cr (m.now - m.cfg.W) (m.now - m.cfg.W + 2)) := by
    refine cnt_add (fun x hx => ?_) (fun x hx => ?_) <;> (have ht := h.times x hx; rw [Bool.eq_iff_iff]; dsimp only [inw, Mtr.at_]; cases decide (x.p = p) <;> cases (!cr || x.c) <;> simp <;> omega)
  omega
theorem Mtr.Inv.slot_next (p : Nat) (cr : Bool) (s s' : Nat) (hs' : (m.now + 1) % (m.cfg.W : Int) = s') : (m.at_ (m.now + 1)).slotv s p cr = if s = s' then 0 else m.slotv s p cr := by
  have hW := h.W0
  split
  · rename_i e
    subst e
    refine cnt_zero fun x hx => ?_
    have ht := h.times x hx
    dsimp only [ins, Mtr.at_]
    rw [Bool.eq_iff_iff]
    cases decide (x.p = p) <;> cases (!cr || x.c) <;> simp
    intro a b
    have := mod_one hW (b.trans hs'.symm) (by omega) (by omega)
    omega
  · rename_i e
    refine cnt_congr fun x hx => ?_
    have ht := h.times x hx
    dsimp only [ins, Mtr.at_]
    rw [Bool.eq_iff_iff]
    cases decide (x.p = p) <;> cases (!cr || x.c) <;> simp
    intro b
    constructor
    · intro; omega
    · intro a
      rcases Int.lt_or_le (m.now + 1 - m.cfg.W) x.t with hx' | hx'
      · exact hx'
      · have e1 : x.t = m.now + 1 - m.cfg.W := by omega
        have e2 : x.t % (m.cfg.W : Int) = s' := by rw [e1, Int.sub_emod_right, hs']
        omega
theorem Mtr.Inv.slot_high (p : Nat) (cr : Bool) (s : Nat) (hs : m.cfg.W ≤ s) : m.slotv s p cr = 0 := by
  refine cnt_zero fun x hx => ?_
  have := Int.emod_lt_of_pos x.t h.W0
  simp only [ins]
  have : ¬ (x.t % (m.cfg.W : Int) = s) := by omega
  simp [this]
theorem Mtr.Inv.slot_part (p : Nat) (cr : Bool) (s : Nat) (hp : m.cfg.parts.length ≤ p) : m.slotv s p cr = 0 := by
  refine cnt_zero fun x hx => ?_
  have := h.parts x hx
  simp only [ins]
  have : ¬ (x.p = p) := by omega
  simp [this]
theorem Mtr.Inv.slot_bd (p : Nat) (cr : Bool) (s : Nat) : 0 ≤ m.slotv s p cr ∧ m.slotv s p cr ≤ 8 := by
  refine ⟨cnt_nonneg _ _, ?_⟩
  have hW := h.W0
  -- all charges of the slot are of one tick
  rcases Nat.lt_or_ge s m.cfg.W with hs | hs
  · have e : m.slotv s p cr ≤ m.tickv (m.now - (m.now - s) % (m.cfg.W : Int)) := cnt_le fun x hx hf => by
      have ht := h.times x hx
      simp [ins] at hf
      simp only [att, decide_eq_true_eq]
      have r0 := Int.emod_nonneg (m.now - s) (Int.ne_of_gt hW)
      have r1 := Int.emod_lt_of_pos (m.now - s) hW
      have e1 : (m.now - (m.now - s) % (m.cfg.W : Int)) % (m.cfg.W : Int) = s % (m.cfg.W : Int) := by
        rw [Int.sub_emod, Int.emod_emod, ← Int.sub_emod]
        congr 1; omega
      have e2 : (s : Int) % (m.cfg.W : Int) = s := Int.emod_eq_of_lt (by omega) (by omega)
      rcases Int.le_total x.t (m.now - (m.now - s) % (m.cfg.W : Int)) with hle | hle
      · exact mod_one hW (by rw [hf.2, e1, e2]) hle (by omega)
      · exact (mod_one hW (by rw [hf.2, e1, e2]) hle (by omega)).symm
    have := h.tick_bd (m.now - (m.now - s) % (m.cfg.W : Int))
    omega
  · rw [h.slot_high p cr s hs]; omega
theorem Mtr.Inv.jump_slot {now : Int} (hn : m.cfg.W ≤ now - m.now) (p : Nat) (cr : Bool) (s : Nat) : (m.at_ now).slotv s p cr = 0 := by
  refine cnt_zero fun x hx => ?_
  have ht := h.times x hx
  dsimp only [ins, Mtr.at_]
  have : ¬ (now - m.cfg.W < x.t) := by omega
  simp [this]
theorem Mtr.Inv.jump_sum {now : Int} (hn : m.cfg.W ≤ now - m.now) (p : Nat) (cr : Bool) : (m.at_ now).sumv p cr = 0 := by
  refine cnt_zero fun x hx => ?_
  have ht := h.times x hx
  dsimp only [inw, Mtr.at_]
  have : ¬ (now - m.cfg.W < x.t) := by omega
  simp [this]
theorem Mtr.Inv.tick_later {now : Int} (hn : m.now < now) : m.tickv now = 0 := by
  refine cnt_zero fun x hx => ?_
  have ht := h.times x hx
  simp only [att]
  have : ¬ (x.t = now) := by omega
  simp [this]
end

/-! The calls. -/
def Mtr.err (m : Mtr) (now : Int) (ps : List Int) : Int :=
  if now < 0 ∨ 1099511627776 < now then 34
  else if ∃ p ∈ ps, p < 0 ∨ (m.cfg.parts.length : Int) ≤ p then 34
  else if now < m.now then 30 else 0
def Mtr.charged (m : Mtr) (now : Int) (p : Nat) (c : Bool) : Mtr := { m with l := m.l ++ [⟨now, p, c⟩], now := now }
def Mtr.charge (m : Mtr) (now part : Int) (c : Bool) : Mtr × Int :=
  if m.err now [part] ≠ 0 then (m, m.err now [part])
  else if (m.cfg.P : Int) ≤ m.tickv now then (m, 18)
  else (m.charged now part.toNat c, 0)
def Mtr.used (m : Mtr) (now part : Int) (cr : Bool) : Mtr × Int × Int :=
  if m.err now [part] ≠ 0 then (m, 0, m.err now [part]) else (m.at_ now, (m.at_ now).sumv part.toNat cr, 0)
def Cfg.bud (c : Cfg) (pc : Int) : Int := pc * c.W * c.P / 100
def Cfg.share (c : Cfg) (p : Nat) : Int × Int := c.parts.getD p (0, 0)
def Mtr.has (m : Mtr) (now part : Int) : Mtr × Bool × Int :=
  if m.err now [part] ≠ 0 then (m, false, m.err now [part]) else (m.at_ now, decide ((m.at_ now).sumv part.toNat false < m.cfg.bud (m.cfg.share part.toNat).1), 0)
def Mtr.broke (m : Mtr) (now part : Int) : Mtr × Bool × Int :=
  if m.err now [part] ≠ 0 then (m, false, m.err now [part]) else (m.at_ now, decide (m.cfg.bud (m.cfg.share part.toNat).2 ≤ (m.at_ now).sumv part.toNat true), 0)
def cmpv (x y u v : Int) : Int :=
  if x = 0 ∨ y = 0 then (if 0 < x then -1 else if 0 < y then 1 else 0)
  else if u * y < v * x then -1 else if v * x < u * y then 1 else 0
def Mtr.comp (m : Mtr) (now a b : Int) : Mtr × Int × Int :=
  if m.err now [a, b] ≠ 0 then (m, 0, m.err now [a, b])
  else (m.at_ now, cmpv (m.cfg.bud (m.cfg.share a.toNat).1) (m.cfg.bud (m.cfg.share b.toNat).1) ((m.at_ now).sumv a.toNat false) ((m.at_ now).sumv b.toNat false), 0)
def Mtr.budget (m : Mtr) (part : Int) : Int × Int × Int :=
  if part < 0 ∨ (m.cfg.parts.length : Int) ≤ part then (0, 0, 34) else (m.cfg.bud (m.cfg.share part.toNat).1, m.cfg.bud (m.cfg.share part.toNat).2, 0)

theorem Mtr.Inv.charged {m : Mtr} (h : m.Inv) {now : Int} {p : Nat} {c : Bool} (h0 : m.now ≤ now) (h1 : now ≤ 1099511627776) (hp : p < m.cfg.parts.length) (ht : m.tickv now < m.cfg.P) : (m.charged now p c).Inv where
  cfg := h.cfg
  times := by
    intro x hx
    simp only [Mtr.charged, List.mem_append, List.mem_singleton] at hx ⊢
    rcases hx with hx | rfl
    · have := h.times x hx; omega
    · have := h.now0; dsimp only; omega
  parts := by
    intro x hx
    simp only [Mtr.charged, List.mem_append, List.mem_singleton] at hx ⊢
    rcases hx with hx | rfl
    · exact h.parts x hx
    · exact hp
  now0 := Int.le_trans h.now0 h0
  now1 := h1
  most := by
    intro t
    simp only [Mtr.charged, Mtr.tickv, cnt_append, cnt_cons, cnt_nil]
    have := h.most t
    simp only [Mtr.tickv] at this ht
    by_cases e : now = t
    · subst e; simp [att]; omega
    · simp [att, e]; omega

theorem Cfg.ok.share {c : Cfg} (h : c.ok) (p : Nat) : (0 ≤ (c.share p).1 ∧ (c.share p).1 ≤ 100) ∧ 0 ≤ (c.share p).2 ∧ (c.share p).2 ≤ 100 := by
  unfold Cfg.share
  rw [List.getD_eq_getElem?_getD]
  cases hp : c.parts[p]? with
  | none => simp
  | some x => exact h.2.2.2.2.2.2.1 x (List.mem_of_getElem? hp)
theorem bud_bd {c : Cfg} (h : c.ok) {pc : Int} (h0 : 0 ≤ pc) (h1 : pc ≤ 100) : 0 ≤ pc * c.W ∧ pc * c.W ≤ 100000 ∧ 0 ≤ pc * c.W * c.P ∧ pc * c.W * c.P ≤ 800000 ∧ 0 ≤ c.bud pc ∧ c.bud pc ≤ 8000 := by
  have a1 : 0 ≤ pc * c.W := Int.mul_nonneg h0 (by omega)
  have a2 : pc * c.W ≤ 100 * 1000 := Int.mul_le_mul h1 (by have := h.2.1; omega) (by omega) (by omega)
  have a3 : 0 ≤ pc * c.W * c.P := Int.mul_nonneg a1 (by omega)
  have a4 : pc * c.W * c.P ≤ 100000 * 8 := Int.mul_le_mul (by omega) (by have := h.2.2.2.1; omega) (by omega) (by omega)
  unfold Cfg.bud
  omega

end Go.Proofs.Ytpeaojkbfllakaa
