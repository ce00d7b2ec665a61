/- The sporadic server as plain numbers and lists: what New, Run, Budget, Priority and Next do to it; a list kept in a ring. -/
namespace Go.Proofs.Ytdjkgbkckmjfiaa

structure Prm where
  B : Int
  P : Int
  N : Nat
  L : Int

structure Srv where
  p : Prm
  left : Int
  list : List (Int × Int)
  first : Int
  last : Int
  run : Bool
  now : Int
  ran : Int

def sumA (l : List (Int × Int)) : Int := (l.map (·.2)).sum

@[simp] theorem sumA_nil : sumA [] = 0 := rfl
@[simp] theorem sumA_cons (x : Int × Int) (l : List (Int × Int)) : sumA (x :: l) = x.2 + sumA l := by simp [sumA]
@[simp] theorem sumA_append (l k : List (Int × Int)) : sumA (l ++ k) = sumA l + sumA k := by simp [sumA]
theorem sumA_nonneg (l : List (Int × Int)) (h : ∀ x ∈ l, 0 ≤ x.2) : 0 ≤ sumA l := by
  induction l with
  | nil => simp
  | cons x l ih =>
    have h1 := h x (by simp)
    have h2 := ih fun y hy => h y (by simp [hy])
    simp; omega

def Srv.item (s : Srv) : Int × Int := (s.last + 1 + s.p.P, s.last - s.first + 1)
def lastOf (l : List (Int × Int)) : Int × Int := l.getLastD (0, 0)
def merge (l x : Int × Int) : Int × Int := (if l.1 < x.1 then x.1 else l.1, l.2 + x.2)

def Srv.endc (s : Srv) : Srv :=
  if s.list.length = s.p.N then { s with run := false, list := s.list.dropLast ++ [merge (lastOf s.list) s.item] }
  else { s with run := false, list := s.list ++ [s.item] }

def takeL : List (Int × Int) → Int → Int → List (Int × Int) × Int
  | [], left, _ => ([], left)
  | x :: l, left, u => if x.1 ≤ u then takeL l (left + x.2) u else (x :: l, left)

def Srv.take (s : Srv) (u : Int) : Srv := { s with list := (takeL s.list s.left u).1, left := (takeL s.list s.left u).2 }

def Srv.tell (s : Srv) (now : Int) : Srv :=
  if s.run = true ∧ s.last + 1 < now then ((({ s with now := now } : Srv).take (s.last + 1)).endc).take now
  else ({ s with now := now } : Srv).take now

def inTime (now : Int) : Bool := decide (0 ≤ now) && decide (now ≤ 1099511627776)

/-- The part of Run behind the checks and the telling. -/
def Srv.tick (s : Srv) (now : Int) : Srv × Int :=
  if s.left = 0 then (s, 18)
  else
    let t : Srv := { s with left := s.left - 1, first := if s.run then s.first else now, run := true, last := now, ran := now }
    (if t.left = 0 then t.endc else t, 0)

def Srv.runs (s : Srv) (now : Int) : Srv × Int :=
  if inTime now = false then (s, 34)
  else if now < s.now ∨ now = s.ran then (s, 30)
  else (s.tell now).tick now

def Srv.budget (s : Srv) (now : Int) : Srv × Int × Int :=
  if inTime now = false then (s, 0, 34)
  else if now < s.now then (s, 0, 30)
  else (s.tell now, (s.tell now).left, 0)

def Srv.prio (s : Srv) (now normal : Int) : Srv × Int × Int :=
  if inTime now = false ∨ normal < 0 ∨ 255 < normal then (s, 0, 34)
  else if now < s.now then (s, 0, 30)
  else (s.tell now, (if 0 < (s.tell now).left then normal else if s.p.L < normal then s.p.L else normal), 0)

def Prm.ok (p : Prm) : Prop := 1 ≤ p.B ∧ p.B ≤ 1000000 ∧ p.B ≤ p.P ∧ p.P ≤ 1000000 ∧ 1 ≤ p.N ∧ p.N ≤ 32 ∧ 0 ≤ p.L ∧ p.L ≤ 255

def Srv.new (p : Prm) : Srv := { p, left := p.B, list := [], first := 0, last := 0, run := false, now := 0, ran := -1 }

/-- The ticks of the open chunk. -/
def Srv.opens (s : Srv) : Int := if s.run then s.last - s.first + 1 else 0

/-- What every call keeps. -/
structure Srv.Inv (s : Srv) : Prop where
  prm : s.p.ok
  len : s.list.length ≤ s.p.N
  left : 0 ≤ s.left
  amt : ∀ x ∈ s.list, 0 ≤ x.2
  time : ∀ x ∈ s.list, 0 ≤ x.1 ∧ x.1 ≤ 2199023255552
  sum : s.left + sumA s.list + s.opens = s.p.B
  chunk : s.run = true → 0 ≤ s.first ∧ s.first ≤ s.last ∧ s.last ≤ s.now ∧ s.last = s.ran
  now0 : 0 ≤ s.now
  now1 : s.now ≤ 1099511627776
  ran : s.ran ≤ s.now
  lastb : 0 ≤ s.last ∧ s.last ≤ s.now
  firstb : 0 ≤ s.first ∧ s.first ≤ s.now

/-- What end and take want of the numbers. -/
structure Srv.Fit (s : Srv) : Prop where
  prm : s.p.ok
  len : s.list.length ≤ s.p.N
  left : 0 ≤ s.left
  amt : ∀ x ∈ s.list, 0 ≤ x.2
  sum : s.left + sumA s.list ≤ 1000000
  lastb : 0 ≤ s.last ∧ s.last ≤ 1099511627776
  firstb : 0 ≤ s.first ∧ s.first ≤ 1099511627776

theorem takeL_sum (l : List (Int × Int)) (left u : Int) : (takeL l left u).2 + sumA (takeL l left u).1 = left + sumA l := by
  induction l generalizing left with
  | nil => simp [takeL]
  | cons x l ih =>
    simp only [takeL]
    split
    · rw [ih]; simp; omega
    · rfl
theorem takeL_mem (l : List (Int × Int)) (left u : Int) : ∀ x ∈ (takeL l left u).1, x ∈ l := by
  induction l generalizing left with
  | nil => simp [takeL]
  | cons x l ih =>
    simp only [takeL]
    split
    · intro y hy; exact List.mem_cons_of_mem _ (ih _ y hy)
    · intro y hy; exact hy
theorem takeL_len (l : List (Int × Int)) (left u : Int) : (takeL l left u).1.length ≤ l.length := by
  induction l generalizing left with
  | nil => simp [takeL]
  | cons x l ih =>
    simp only [takeL]
    split
    · have := ih (left + x.2); simp; omega
    · simp
theorem takeL_left (l : List (Int × Int)) (left u : Int) (h : ∀ x ∈ l, 0 ≤ x.2) : left ≤ (takeL l left u).2 := by
  induction l generalizing left with
  | nil => simp [takeL]
  | cons x l ih =>
    simp only [takeL]
    split
    · have h1 := ih (left + x.2) (fun y hy => h y (by simp [hy]))
      have h2 := h x (by simp); omega
    · simp

theorem Srv.Fit.take {s : Srv} (h : s.Fit) (u : Int) : (s.take u).Fit where
  prm := h.prm
  len := by have := takeL_len s.list s.left u; have := h.len; simp only [Srv.take]; omega
  left := by have := takeL_left s.list s.left u h.amt; have := h.left; simp only [Srv.take]; omega
  amt := fun x hx => h.amt x (takeL_mem _ _ _ x hx)
  sum := by have := takeL_sum s.list s.left u; have := h.sum; simp only [Srv.take]; omega
  lastb := h.lastb
  firstb := h.firstb

/-! The ring. -/
structure Ring (N fr : Nat) (buf list : List (Int × Int)) : Prop where
  size : buf.length = N
  from_ : fr < N
  len : list.length ≤ N
  at_ : ∀ i, i < list.length → buf[(fr + i) % N]? = list[i]?

theorem Ring.push {N fr : Nat} {buf list : List (Int × Int)} (h : Ring N fr buf list) (hn : list.length < N) (x : Int × Int) :
    Ring N fr (buf.set ((fr + list.length) % N) x) (list ++ [x]) where
  size := by simp [h.size]
  from_ := h.from_
  len := by simp; omega
  at_ := by
    intro i hi
    have hf := h.from_
    have hb := h.size
    have hm : (fr + list.length) % N < N := Nat.mod_lt _ (by omega)
    simp only [List.length_append, List.length_singleton] at hi
    by_cases he : i = list.length
    · subst he
      rw [List.getElem?_set_self (by omega)]; simp
    · have hlt : i < list.length := by omega
      have hne : (fr + list.length) % N ≠ (fr + i) % N := by
        intro e
        rcases Nat.lt_or_ge (fr + list.length) N with a | a <;> rcases Nat.lt_or_ge (fr + i) N with c | c
        · rw [Nat.mod_eq_of_lt a, Nat.mod_eq_of_lt c] at e; omega
        · rw [Nat.mod_eq_of_lt a, Nat.mod_eq_sub_mod c, Nat.mod_eq_of_lt (by omega)] at e; omega
        · rw [Nat.mod_eq_of_lt c, Nat.mod_eq_sub_mod a, Nat.mod_eq_of_lt (by omega)] at e; omega
        · rw [Nat.mod_eq_sub_mod a, Nat.mod_eq_sub_mod c, Nat.mod_eq_of_lt (by omega), Nat.mod_eq_of_lt (by omega)] at e; omega
      rw [List.getElem?_set_ne hne, h.at_ i hlt, List.getElem?_append_left hlt]

theorem Ring.pop {N fr : Nat} {buf list : List (Int × Int)} {x : Int × Int} (h : Ring N fr buf (x :: list)) : Ring N ((fr + 1) % N) buf list where
  size := h.size
  from_ := Nat.mod_lt _ (by have := h.from_; omega)
  len := by have := h.len; simp at this; omega
  at_ := by
    intro i hi
    have := h.at_ (i + 1) (by simp; omega)
    simp only [List.getElem?_cons_succ] at this
    rw [← this, Nat.mod_add_mod, show fr + 1 + i = fr + (i + 1) from by omega]

theorem Ring.setLast {N fr : Nat} {buf list : List (Int × Int)} (h : Ring N fr buf list) (hn : 0 < list.length) (x : Int × Int) :
    Ring N fr (buf.set ((fr + (list.length - 1)) % N) x) (list.dropLast ++ [x]) := by
  have hd : Ring N fr buf list.dropLast := by
    refine ⟨h.size, h.from_, ?_, ?_⟩
    · have := h.len; simp; omega
    · intro i hi
      simp only [List.length_dropLast] at hi
      rw [h.at_ i (by omega), List.getElem?_dropLast, if_pos (by omega)]
  have := hd.push (by have := h.len; simp; omega) x
  simpa using this

end Go.Proofs.Ytdjkgbkckmjfiaa
