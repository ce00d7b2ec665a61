/- A statement whose order Go leaves open, walked in the order of the text: its head may hold operations that change the world, one behind the other, if what the others read (S) stays; its tail is one chain. -/
import Derived.Test.YtabdahojgmbgdaaWords
import Derived.OrdersHeld
import Derived.StillTail
namespace Go.Proofs.Ytabdahojgmbgdaa

/-- Q, and no panic, and no want of memory. -/
def NoX (Q : Exit → Act → World → Prop) : Exit → Act → World → Prop
  | .panic _, _, _ => False
  | .outgrown, _, _ => False
  | e, a, w => Q e a w
theorem NoX.imp {Q : Exit → Act → World → Prop} : ∀ (e : Exit) (a : Act) (w : World), NoX Q e a w → Q e a w := fun e a w h => by
  cases e <;> first | exact h | exact (h : False).elim
theorem NoX.out {Q : Exit → Act → World → Prop} : ¬ LetsOut (NoX Q) := fun ⟨_, _, h⟩ => h
theorem NoX.normal {Q : Exit → Act → World → Prop} {a : Act} {w : World} (h : Q .normal a w) : NoX Q .normal a w := h

/-- The kinds of operations of a region: of the tail; changes the world and keeps S; yields its value in whatever world; yields it in every world that meets S; yields it where it stands. -/
abbrev OpKind := Option (Option Ordering)

def kindOf (n : Nat) (eff pur held : List Nat) (i : Nat) : OpKind :=
  if n ≤ i then none else if eff.contains i then (some none) else if pur.contains i then (some (some .lt)) else if held.contains i then (some (some .eq)) else (some (some .gt))

/-- May the two change places? -/
def kindsOk : OpKind → OpKind → Bool
  | (some (some .lt)), _ => true
  | _, (some (some .lt)) => true
  | none, _ => false
  | _, none => false
  | (some none), (some none) => false
  | (some none), (some (some .gt)) => false
  | (some (some .gt)), (some none) => false
  | _, _ => true

section
variable {P : Program} {ops : Array Oper} {Q : Exit → Act → World → Prop} {md : Region.Mode} {S : World → Prop} {kd : Nat → OpKind}

theorem yields_unique {o : Oper} {v v' : Value} {a : Act} {w : World} (hS : S w) (h : YieldsIf P ops S o v a) (h' : YieldsIf P ops S o v' a) : v = v' := by
  rcases h with ⟨hw, h⟩ | ⟨hw, rfl⟩ <;> rcases h' with ⟨hw', h'⟩ | ⟨hw', rfl⟩
  · have := (h w hS).symm.trans (h' w hS)
    injection this with this; injection this
  · rw [hw] at hw'; cases hw'
  · rw [hw] at hw'; cases hw'
  · rfl

theorem Calls.some {f : FuncId} {args : Array Value} {w : World} {R : Ending → World → Prop} (h : Calls P f args w R) : ∃ e w', R e w' := by
  obtain ⟨e, w', _, h, _⟩ := h []
  exact ⟨e, w', h⟩
theorem Rows.some {row : String} {args : Array Value} {w : World} {R : Value → World → Prop} (h : Rows P row args w R) : ∃ v w', R v w' := by
  obtain ⟨v, w', h, _⟩ := h default []
  exact ⟨v, w', h⟩

/-- An operation that changes the world, then one that yields: the second may go first. -/
theorem swap_ey {i j : Nat} {oi oj : Oper} (hi : ops[i]? = some oi) (hj : ops[j]? = some oj) (hap : oi.apart ops oj = true)
    (hsi : ∀ cs b, oi.op ≠ .select cs b) (hsj : ∀ cs b, oj.op ≠ .select cs b) {K : Act → World → Prop} {a : Act} {w : World}
    (h : wpOp P ops (NoX Q) i (fun a' w' => S w' ∧ ∃ v, YieldsIf P ops S oj v a' ∧ K (a'.put oj.dst v) w') a w) :
    ∃ v, YieldsIf P ops S oj v a ∧ wpOp P ops (NoX Q) i (fun a' w' => S w' ∧ K a' w') (a.put oj.dst v) w := by
  obtain ⟨h1, h2, h3⟩ := Oper.apart_spec hap
  have back : ∀ (a : Act) u v, YieldsIf P ops S oj v (a.put oi.dst u) → YieldsIf P ops S oj v a := fun a u v hy =>
    hy.of_same (execOp_put oj hsj a oi.dst u h1).symm (wanted_put oj a oi.dst u h1).symm
  have fwd : ∀ (a : Act) u v, YieldsIf P ops S oj v a → YieldsIf P ops S oj v (a.put oi.dst u) := fun a u v hy =>
    hy.of_same (execOp_put oj hsj a oi.dst u h1) (wanted_put oj a oi.dst u h1)
  have backD : ∀ (a : Act) d v, YieldsIf P ops S oj v { a with defers := d :: a.defers } → YieldsIf P ops S oj v a := fun a d v hy => hy.of_same rfl rfl
  have hput : ∀ (a : Act) u v, (a.put oi.dst u).put oj.dst v = (a.put oj.dst v).put oi.dst u := fun a u v => by rw [Act.put_comm a u v h2]
  have fin : ∀ (v : Value) (u : Value) (w' : World), (S w' ∧ ∃ v, YieldsIf P ops S oj v (a.put oi.dst u) ∧ K ((a.put oi.dst u).put oj.dst v) w') → YieldsIf P ops S oj v a →
      S w' ∧ K ((a.put oj.dst v).put oi.dst u) w' := by
    rintro v u w' ⟨hS', v', hy', hK⟩ hy
    have := yields_unique hS' hy (back a u v' hy')
    subst this
    exact ⟨hS', by rw [← hput]; exact hK⟩
  unfold wpOp at h
  simp only [hi] at h
  unfold wpOp
  simp only [hi]
  by_cases hw : Region.wanted oi (yielded ops a.tmps) = true
  · simp only [hw, if_true] at h
    rcases h with h | ⟨_, h⟩
    case inr => exact (NoX.out h).elim
    unfold Oper.wp at h
    generalize hr : (execOp a.eval oi).run P w = r at h
    have hx : ∀ v, (execOp (a.put oj.dst v).eval oi).run P w = r := fun v => by rw [execOp_put oi hsi a oj.dst v h3]; exact hr
    have hw' : ∀ v, Region.wanted oi (yielded ops (a.put oj.dst v).tmps) = true := fun v => by rw [wanted_put oi a oj.dst v h3]; exact hw
    cases r with
    | ok n w' =>
      cases n <;> simp only [Oper.upon] at h
      case value u =>
        obtain ⟨hS', v, hy, hK⟩ := h
        refine ⟨v, back a u v hy, ?_⟩
        rw [if_pos (hw' v)]
        refine .inl ?_
        simp only [Oper.wp, hx, Oper.upon]
        exact fin v u w' ⟨hS', v, hy, hK⟩ (back a u v hy)
      case skip =>
        obtain ⟨hS', v, hy, hK⟩ := h
        refine ⟨v, back a undef v hy, ?_⟩
        rw [if_pos (hw' v)]
        refine .inl ?_
        simp only [Oper.wp, hx, Oper.upon]
        exact fin v undef w' ⟨hS', v, hy, hK⟩ (back a undef v hy)
      case defer d =>
        obtain ⟨hS', v, hy, hK⟩ := h
        refine ⟨v, backD a d v (back _ undef v hy), ?_⟩
        rw [if_pos (hw' v)]
        refine .inl ?_
        simp only [Oper.wp, hx, Oper.upon]
        refine ⟨hS', ?_⟩
        rw [Act.put_defers, ← hput]
        exact hK
      case enter f args =>
        obtain ⟨e0, w0, hR⟩ := Calls.some h
        cases e0 with
        | panicked c => exact (hR : False).elim
        | outgrown => exact (NoX.out hR).elim
        | returned u0 =>
          obtain ⟨_, v, hy, _⟩ := hR
          have hy0 := back a u0 v hy
          refine ⟨v, hy0, ?_⟩
          rw [if_pos (hw' v)]
          refine .inl ?_
          simp only [Oper.wp, hx, Oper.upon]
          refine Calls.mono h fun e w'' he => ?_
          cases e with
          | returned u => exact fin v u w'' he hy0
          | panicked c => exact he
          | outgrown => exact he
      case row row args =>
        obtain ⟨u0, w0, hR⟩ := Rows.some h
        obtain ⟨_, v, hy, _⟩ := hR
        have hy0 := back a u0 v hy
        refine ⟨v, hy0, ?_⟩
        rw [if_pos (hw' v)]
        refine .inl ?_
        simp only [Oper.wp, hx, Oper.upon]
        exact Rows.mono h fun u w'' he => fin v u w'' he hy0
    | halt x w' =>
      cases x <;> simp only [Oper.upon] at h
      case panic u => exact (h : False).elim
  · simp only [hw] at h
    obtain ⟨hS', v, hy, hK⟩ := h
    refine ⟨v, back a undef v hy, ?_⟩
    rw [if_neg (by rw [wanted_put oi a oj.dst v h3]; exact hw)]
    exact fin v undef w ⟨hS', v, hy, hK⟩ (back a undef v hy)

def stepK (P : Program) (ops : Array Oper) (S : World → Prop) (Q : Exit → Act → World → Prop) (kd : Nat → OpKind) (i : Nat) (K : Act → World → Prop) (a : Act) (w : World) : Prop :=
  match kd i with
  | none => (∃ o, ops[i]? = some o) ∧ wpOp P ops (NoX Q) i K a w
  | some none => (∃ o, ops[i]? = some o) ∧ wpOp P ops (NoX Q) i (fun a' w' => S w' ∧ K a' w') a w
  | some (some .lt) => ∃ o v, ops[i]? = some o ∧ YieldsIf P ops (fun _ => True) o v a ∧ K (a.put o.dst v) w
  | some (some .eq) => ∃ o v, ops[i]? = some o ∧ YieldsIf P ops S o v a ∧ K (a.put o.dst v) w
  | some (some .gt) => ∃ o v, ops[i]? = some o ∧ YieldsIf P ops (fun w' => w' = w) o v a ∧ K (a.put o.dst v) w

theorem stepK_mono {i : Nat} {K K' : Act → World → Prop} {a : Act} {w : World} (hk : ∀ a w, K a w → K' a w) (h : stepK P ops S Q kd i K a w) : stepK P ops S Q kd i K' a w := by
  unfold stepK at *
  rcases hkd : kd i with _ | (_ | (_ | _ | _)) <;> simp only [hkd] at h ⊢
  · exact ⟨h.1, wpOp_mono hk h.2⟩
  · exact ⟨h.1, wpOp_mono (fun a w h => ⟨h.1, hk a w h.2⟩) h.2⟩
  all_goals
    obtain ⟨o, v, ho, hy, hK⟩ := h
    exact ⟨o, v, ho, hy, hk _ _ hK⟩

/-- An operation that yields in the worlds of S' (and does not change the world). -/
def Yld (P : Program) (ops : Array Oper) (S' : World → World → Prop) (i : Nat) (K : Act → World → Prop) (a : Act) (w : World) : Prop :=
  ∃ o v, ops[i]? = some o ∧ YieldsIf P ops (S' w) o v a ∧ K (a.put o.dst v) w

theorem swap_yy {S1 S2 : World → World → Prop} {i j : Nat} {oi oj : Oper} (hi : ops[i]? = some oi) (hj : ops[j]? = some oj) (hap : oi.apart ops oj = true)
    (hsi : ∀ cs b, oi.op ≠ .select cs b) (hsj : ∀ cs b, oj.op ≠ .select cs b) {K : Act → World → Prop} {a : Act} {w : World}
    (h : Yld P ops S1 i (Yld P ops S2 j K) a w) : Yld P ops S2 j (Yld P ops S1 i K) a w := by
  obtain ⟨h1, h2, h3⟩ := Oper.apart_spec hap
  obtain ⟨o, vi, ho, hyi, o', vj, ho', hyj, hK⟩ := h
  have : o = oi := Option.some.inj (ho.symm.trans hi)
  subst this
  have : o' = oj := Option.some.inj (ho'.symm.trans hj)
  subst this
  refine ⟨o', vj, hj, hyj.of_same (execOp_put o' hsj a o.dst vi h1).symm (wanted_put o' a o.dst vi h1).symm, o, vi, hi,
    hyi.of_same (execOp_put o hsi a o'.dst vj h3) (wanted_put o a o'.dst vj h3), ?_⟩
  rw [← Act.put_comm a vi vj h2]
  exact hK
theorem swap_yw {S1 : World → Prop} {i j : Nat} {oi oj : Oper} (hi : ops[i]? = some oi) (hj : ops[j]? = some oj) (hap : oi.apart ops oj = true)
    (hsi : ∀ cs b, oi.op ≠ .select cs b) (hsj : ∀ cs b, oj.op ≠ .select cs b) {K : Act → World → Prop} {a : Act} {w : World}
    (h : Yld P ops (fun _ => S1) i (wpOp P ops (NoX Q) j K) a w) : wpOp P ops (NoX Q) j (Yld P ops (fun _ => S1) i K) a w := by
  obtain ⟨o, vi, ho, hyi, h⟩ := h
  have : o = oi := Option.some.inj (ho.symm.trans hi)
  subst this
  exact wpOp_mono (fun a' w' hh => ⟨o, vi, hi, hh.1, hh.2⟩) (wpOp_putIf (Q := NoX Q) hj hap hsi hsj (fun _ _ _ h => h) hyi h)

/-- A kind that yields: in which worlds. -/
def yields (S : World → Prop) : OpKind → Option (World → World → Prop)
  | some (some .lt) => some fun _ _ => True
  | some (some .eq) => some fun _ => S
  | some (some .gt) => some fun w w' => w' = w
  | _ => none
theorem stepK_yld {i : Nat} {S1 : World → World → Prop} (h : yields S (kd i) = some S1) (K : Act → World → Prop) : stepK P ops S Q kd i K = Yld P ops S1 i K := by
  funext a w
  unfold stepK
  rcases hk : kd i with _ | (_ | (_ | _ | _)) <;> rw [hk] at h <;> simp only [yields] at h <;> first | (injection h with h; subst h; rfl) | cases h
theorem stepK_tail {i : Nat} (h : kd i = none) (K : Act → World → Prop) : stepK P ops S Q kd i K = fun a w => (∃ o, ops[i]? = some o) ∧ wpOp P ops (NoX Q) i K a w := by
  funext a w; unfold stepK; simp only [h]
theorem stepK_eff {i : Nat} (h : kd i = (some none)) (K : Act → World → Prop) :
    stepK P ops S Q kd i K = fun a w => (∃ o, ops[i]? = some o) ∧ wpOp P ops (NoX Q) i (fun a' w' => S w' ∧ K a' w') a w := by
  funext a w; unfold stepK; simp only [h]

theorem swapK {i j : Nat} {oi oj : Oper} (hi : ops[i]? = some oi) (hj : ops[j]? = some oj) (hap : oi.apart ops oj = true)
    (hsi : ∀ cs b, oi.op ≠ .select cs b) (hsj : ∀ cs b, oj.op ≠ .select cs b) (hk : kindsOk (kd i) (kd j) = true)
    {K : Act → World → Prop} {a : Act} {w : World} (h : stepK P ops S Q kd i (stepK P ops S Q kd j K) a w) :
    stepK P ops S Q kd j (stepK P ops S Q kd i K) a w := by
  -- i yields, j changes
  have yw : ∀ {S1 : World → Prop}, yields S (kd i) = some (fun _ => S1) → (kd j = (some none) ∨ kd j = none) → stepK P ops S Q kd j (stepK P ops S Q kd i K) a w := by
    intro S1 hy hj'
    rw [stepK_yld hy] at h ⊢
    rcases hj' with hj' | hj'
    · rw [stepK_eff hj'] at h ⊢
      obtain ⟨o, v, ho, hyy, hh⟩ := h
      refine ⟨⟨oj, hj⟩, wpOp_mono (fun a' w' hh => ?_) (swap_yw hi hj hap hsi hsj ⟨o, v, ho, hyy, hh.2⟩)⟩
      obtain ⟨o, v, ho, hyy, hS', hK⟩ := hh
      exact ⟨hS', o, v, ho, hyy, hK⟩
    · rw [stepK_tail hj'] at h ⊢
      obtain ⟨o, v, ho, hyy, hh⟩ := h
      exact ⟨⟨oj, hj⟩, swap_yw hi hj hap hsi hsj ⟨o, v, ho, hyy, hh.2⟩⟩
  -- both yield
  have yy : ∀ {S1 S2 : World → World → Prop}, yields S (kd i) = some S1 → yields S (kd j) = some S2 → stepK P ops S Q kd j (stepK P ops S Q kd i K) a w := by
    intro S1 S2 h1 h2
    rw [stepK_yld h1, stepK_yld h2] at h
    rw [stepK_yld h2, stepK_yld h1]
    exact swap_yy hi hj hap hsi hsj h
  -- i changes, j yields
  have ey : kd i = (some none) → kd j = (some (some .eq)) → stepK P ops S Q kd j (stepK P ops S Q kd i K) a w := by
    intro h1 h2
    have h2' : yields S (kd j) = some fun _ => S := by rw [h2]; rfl
    rw [stepK_eff h1, stepK_yld h2'] at h
    rw [stepK_yld h2', stepK_eff h1]
    obtain ⟨v, hy, hK⟩ := swap_ey (S := S) (K := K) hi hj hap hsi hsj (wpOp_mono (fun a' w' hh => by
      obtain ⟨hS', o, v, ho, hy, hK⟩ := hh
      have : o = oj := Option.some.inj (ho.symm.trans hj)
      subst this
      exact ⟨hS', v, hy, hK⟩) h.2)
    exact ⟨oj, v, hj, hy, ⟨oi, hi⟩, hK⟩
  have ep : kd i = (some none) → kd j = (some (some .lt)) → stepK P ops S Q kd j (stepK P ops S Q kd i K) a w := by
    intro h1 h2
    have h2' : yields S (kd j) = some fun _ _ => True := by rw [h2]; rfl
    rw [stepK_eff h1, stepK_yld h2'] at h
    rw [stepK_yld h2', stepK_eff h1]
    obtain ⟨v, hy, hK⟩ := swap_ey (S := fun _ => True) (K := fun a' w' => S w' ∧ K a' w') hi hj hap hsi hsj (wpOp_mono (fun a' w' hh => by
      obtain ⟨hS', o, v, ho, hy, hK⟩ := hh
      have : o = oj := Option.some.inj (ho.symm.trans hj)
      subst this
      exact ⟨trivial, v, hy, hS', hK⟩) h.2)
    exact ⟨oj, v, hj, hy, ⟨oi, hi⟩, wpOp_mono (fun _ _ hh => hh.2) hK⟩
  have tp : kd i = none → kd j = (some (some .lt)) → stepK P ops S Q kd j (stepK P ops S Q kd i K) a w := by
    intro h1 h2
    have h2' : yields S (kd j) = some fun _ _ => True := by rw [h2]; rfl
    rw [stepK_tail h1, stepK_yld h2'] at h
    rw [stepK_yld h2', stepK_tail h1]
    obtain ⟨v, hy, hK⟩ := swap_ey (S := fun _ => True) (K := K) hi hj hap hsi hsj (wpOp_mono (fun a' w' hh => by
      obtain ⟨o, v, ho, hy, hK⟩ := hh
      have : o = oj := Option.some.inj (ho.symm.trans hj)
      subst this
      exact ⟨trivial, v, hy, hK⟩) h.2)
    exact ⟨oj, v, hj, hy, ⟨oi, hi⟩, wpOp_mono (fun _ _ hh => hh.2) hK⟩
  rcases hi' : kd i with _ | (_ | (_ | _ | _)) <;> rcases hj' : kd j with _ | (_ | (_ | _ | _)) <;> rw [hi', hj'] at hk <;> simp only [kindsOk] at hk <;> try (cases hk; done)
  · exact tp hi' hj'
  · exact ep hi' hj'
  · exact ey hi' hj'
  · exact yw (S1 := fun _ => True) (by rw [hi']; rfl) (.inr hj')
  · exact yw (S1 := fun _ => True) (by rw [hi']; rfl) (.inl hj')
  · exact yy (by rw [hi']; rfl) (by rw [hj']; rfl)
  · exact yy (by rw [hi']; rfl) (by rw [hj']; rfl)
  · exact yy (by rw [hi']; rfl) (by rw [hj']; rfl)
  · exact yw (S1 := S) (by rw [hi']; rfl) (.inl hj')
  · exact yy (by rw [hi']; rfl) (by rw [hj']; rfl)
  · exact yy (by rw [hi']; rfl) (by rw [hj']; rfl)
  · exact yy (by rw [hi']; rfl) (by rw [hj']; rfl)
  · exact yy (by rw [hi']; rfl) (by rw [hj']; rfl)
  · exact yy (by rw [hi']; rfl) (by rw [hj']; rfl)
  · exact yy (by rw [hi']; rfl) (by rw [hj']; rfl)

/-- The operations of a list of numbers, one behind the other. -/
def seqT (P : Program) (ops : Array Oper) (S : World → Prop) (Q : Exit → Act → World → Prop) (kd : Nat → OpKind) (fin : Act → World → Prop) : List Nat → Act → World → Prop
  | [], a, w => fin a w
  | i :: r, a, w => stepK P ops S Q kd i (seqT P ops S Q kd fin r) a w

def okPair (ops : Array Oper) (kd : Nat → OpKind) (i j : Nat) : Prop :=
  ∃ oi oj, ops[i]? = some oi ∧ ops[j]? = some oj ∧ oi.apart ops oj = true ∧ kindsOk (kd i) (kd j) = true

theorem seqT_pull {fin : Act → World → Prop} (hsel : ∀ (j : Nat) (o : Oper) cs b, ops[j]? = some o → o.op ≠ .select cs b) {j : Nat} {L2 : List Nat} :
    ∀ (L1 : List Nat) (a : Act) (w : World), (∀ i ∈ L1, okPair ops kd i j) → seqT P ops S Q kd fin (L1 ++ j :: L2) a w →
      stepK P ops S Q kd j (seqT P ops S Q kd fin (L1 ++ L2)) a w
  | [], _, _, _, h => h
  | i :: L1, a, w, hok, h => by
    obtain ⟨oi, oj, hi, hj, hap, hk⟩ := hok i (by simp)
    have h' : stepK P ops S Q kd i (stepK P ops S Q kd j (seqT P ops S Q kd fin (L1 ++ L2))) a w :=
      stepK_mono (fun a w h => seqT_pull hsel L1 a w (fun k hk => hok k (by simp [hk])) h) h
    exact swapK hi hj hap (fun cs b => hsel i oi cs b hi) (fun cs b => hsel j oj cs b hj) hk h'

/-- j waits for i, directly or through others between them. -/
def waitsD (md : Region.Mode) (ops : Array Oper) : Nat → Nat → Nat → Bool
  | 0, _, _ => false
  | d + 1, j, i => match ops[j]? with
    | some oj => (oj.after.any fun e => Region.binds md e && e.on == i) || oj.after.any fun e => Region.binds md e && decide (i < e.on) && waitsD md ops d e.on i
    | none => false

/-- What has come up, has come up behind what it waits for. -/
structure DownSet (md : Region.Mode) (ops : Array Oper) (listed : Array Bool) : Prop where
  size : listed.size = ops.size
  closed : ∀ j oj, ops[j]? = some oj → listed.getD j false = true → ∀ e ∈ oj.after, Region.binds md e = true → listed.getD e.on false = true

theorem DownSet.set {i : Nat} {listed : Array Bool} (inv : DownSet md ops listed) (hi : i ∈ Region.ready md ops listed) : DownSet md ops (listed.setIfInBounds i true) := by
  obtain ⟨_, oi, hoi, hall⟩ := mem_ready.1 hi
  refine ⟨by simp [inv.size], fun j oj hj hl e he hb => ?_⟩
  by_cases hij : i = j
  · subst hij
    have : oj = oi := Option.some.inj (hj.symm.trans hoi)
    subst this
    exact getD_set_true (hall e he hb)
  · rw [getD_set_ne false hij] at hl
    exact getD_set_true (inv.closed j oj hj hl e he hb)

theorem waitsD_listed {listed : Array Bool} (inv : DownSet md ops listed) : ∀ (d j i : Nat), waitsD md ops d j i = true →
    (∀ oj, ops[j]? = some oj → ∀ e ∈ oj.after, Region.binds md e = true → listed.getD e.on false = true) → listed.getD i false = true
  | 0, _, _, h, _ => by simp [waitsD] at h
  | d + 1, j, i, h, hall => by
    unfold waitsD at h
    split at h
    · rename_i oj hj
      rcases (Bool.or_eq_true _ _).mp h with h | h
      · obtain ⟨e, he, hb⟩ := Array.any_eq_true'.1 h
        simp only [Bool.and_eq_true, beq_iff_eq] at hb
        rw [← hb.2]
        exact hall oj hj e he hb.1
      · obtain ⟨e, he, hb⟩ := Array.any_eq_true'.1 h
        simp only [Bool.and_eq_true, decide_eq_true_eq] at hb
        have hl := hall oj hj e he hb.1.1
        exact waitsD_listed inv d e.on i hb.2 (fun o ho e' he' hb' => inv.closed e.on o ho hl e' he' hb')
    · cases h

/-- What is looked at: each operation waits for earlier ones alone; two of them either wait one for the other, or are apart and of kinds that may change places. -/
def textB (md : Region.Mode) (ops : Array Oper) (kd : Nat → OpKind) : Bool :=
  Region.noSelect ops &&
  (List.range ops.size).all (fun j => match ops[j]? with
    | some oj => oj.after.all (fun e => !Region.binds md e || decide (e.on < j)) &&
      (List.range j).all (fun i => match ops[i]? with
        | some oi => (oi.apart ops oj && kindsOk (kd i) (kd j)) || waitsD md ops 8 j i
        | none => false)
    | none => false)

theorem pairs_spec {m : Nat} (h : (List.range m).all (fun j => match ops[j]? with
    | some oj => oj.after.all (fun e => !Region.binds md e || decide (e.on < j)) &&
      (List.range j).all (fun i => match ops[i]? with
        | some oi => (oi.apart ops oj && kindsOk (kd i) (kd j)) || waitsD md ops 8 j i
        | none => false)
    | none => false) = true) : ∀ j, j < m → (∃ oj, ops[j]? = some oj ∧ ∀ e ∈ oj.after, Region.binds md e = true → e.on < j) ∧ ∀ i, i < j → okPair ops kd i j ∨ waitsD md ops 8 j i = true := by
  intro j hj
  have h1 := List.all_eq_true.1 h j (List.mem_range.2 hj)
  split at h1
  · rename_i oj hoj
    simp only [Bool.and_eq_true] at h1
    refine ⟨⟨oj, hoj, fun e he hb => ?_⟩, fun i hi => ?_⟩
    · have := Array.all_eq_true_iff_forall_mem.1 h1.1 e he
      simpa [hb] using this
    · have h2 := List.all_eq_true.1 h1.2 i (List.mem_range.2 hi)
      split at h2
      · rename_i oi hoi
        simp only [Bool.or_eq_true, Bool.and_eq_true] at h2
        rcases h2 with h2 | h2
        · exact .inl ⟨oi, oj, hoi, hoj, h2.1, h2.2⟩
        · exact .inr h2
      · cases h2
  · cases h1

/-- While an operation that looks at what S tells has not come up: S. -/
def Need (S : World → Prop) (kd : Nat → OpKind) (rem : List Nat) (w : World) : Prop := (∃ i ∈ rem, kd i = (some (some .eq))) → S w

theorem wpAny_text {fin : Act → World → Prop} (hsel : ∀ (j : Nat) (o : Oper) cs b, ops[j]? = some o → o.op ≠ .select cs b)
    (htl : ∀ i j, kd i = none → i < j → kd j = none)
    (hpairs : ∀ j, j < ops.size → (∃ oj, ops[j]? = some oj ∧ ∀ e ∈ oj.after, Region.binds md e = true → e.on < j) ∧ ∀ i, i < j → okPair ops kd i j ∨ waitsD md ops 8 j i = true)
    (hfin : ∀ a w, fin a w → Q .normal a w) :
    ∀ (f : Nat) (rem : List Nat) (listed : Array Bool) (a : Act) (w : World), rem.length = f → rem.Pairwise (· < ·) → (∀ i, i ∈ rem ↔ i < ops.size ∧ listed.getD i true = false) → DownSet md ops listed →
      Need S kd rem w → seqT P ops S Q kd fin rem a w → wpAny P md ops (NoX Q) f listed a w := by
  intro f
  induction f with
  | zero =>
    intro rem listed a w hl _ hrem inv _ h
    have : rem = [] := List.eq_nil_of_length_eq_zero hl
    subst this
    refine ⟨?_, hfin a w h⟩
    rcases hr : Region.ready md ops listed with _ | ⟨j, r⟩
    · rfl
    · exfalso
      have hj : j ∈ Region.ready md ops listed := by rw [hr]; simp
      obtain ⟨hun, o, ho, _⟩ := mem_ready.1 hj
      have := (hrem j).2 ⟨(Array.getElem?_eq_some_iff.1 ho).1, hun⟩
      simp at this
  | succ f ih =>
    intro rem listed a w hl hsort hrem inv hS h
    obtain ⟨r0, rest, rfl⟩ : ∃ r0 rest, rem = r0 :: rest := by cases rem with
      | nil => simp at hl
      | cons x y => exact ⟨x, y, rfl⟩
    have h0 := (hrem r0).1 (by simp)
    refine ⟨fun he => ?_, fun j hj => ?_⟩
    · exfalso
      obtain ⟨⟨oj, hoj, hlow⟩, _⟩ := hpairs r0 h0.1
      have : r0 ∈ Region.ready md ops listed := by
        rw [mem_ready]
        refine ⟨h0.2, oj, hoj, fun e he hb => ?_⟩
        have hlt := hlow e he hb
        cases hh : listed.getD e.on false with
        | true => rfl
        | false =>
          exfalso
          have hsz : e.on < listed.size := by rw [inv.size]; omega
          have hm := (hrem e.on).2 ⟨by omega, getD_in hsz hh⟩
          rcases List.mem_cons.1 hm with e1 | e1
          · omega
          · have := List.rel_of_pairwise_cons hsort e1; omega
      rw [he] at this; cases this
    · obtain ⟨hjun, oj, hoj, hall⟩ := mem_ready.1 hj
      have hjs : j < ops.size := (Array.getElem?_eq_some_iff.1 hoj).1
      have hjm : j ∈ r0 :: rest := (hrem j).2 ⟨hjs, hjun⟩
      obtain ⟨L1, L2, hsplit⟩ := List.append_of_mem hjm
      rw [hsplit] at h hsort hl hrem hS
      have hL1 : ∀ x, x ∈ L1 → x < j := fun x hx => (List.pairwise_append.1 hsort).2.2 x hx j (by simp)
      have hL2 : ∀ x, x ∈ L2 → j < x := fun x hx => List.rel_of_pairwise_cons (List.pairwise_append.1 hsort).2.1 hx
      have hok : ∀ i ∈ L1, okPair ops kd i j := by
        intro i hi
        rcases (hpairs j hjs).2 i (hL1 i hi) with hk | hk
        · exact hk
        · exfalso
          have h1 := waitsD_listed inv 8 j i hk (fun o ho e he hb => by
            have : o = oj := Option.some.inj (ho.symm.trans hoj)
            subst this
            exact hall e he hb)
          have h2 := ((hrem i).1 (by simp [hi])).2
          rw [getD_both h2] at h1; cases h1
      have hp := seqT_pull hsel L1 a w hok h
      have inv' := inv.set hj
      have hlen : (L1 ++ L2).length = f := by simp at hl ⊢; omega
      have hsort' : (L1 ++ L2).Pairwise (· < ·) := hsort.sublist (by simp)
      have hrem' : ∀ i, i ∈ L1 ++ L2 ↔ i < ops.size ∧ (listed.setIfInBounds j true).getD i true = false := by
        intro i
        have hji : j < listed.size := by rw [inv.size]; exact hjs
        by_cases hij : i = j
        · subst hij
          constructor
          · intro hm
            rcases List.mem_append.1 hm with hm | hm
            · have := hL1 i hm; omega
            · have := hL2 i hm; omega
          · rintro ⟨_, hh⟩
            simp [hji] at hh
        · rw [getD_set_ne true (Ne.symm hij), ← hrem i]
          simp [hij]
      have more : Need S kd (L1 ++ j :: L2) w → Need S kd (L1 ++ L2) w := fun hN ⟨i, hi, hh⟩ => hN ⟨i, by
        rcases List.mem_append.1 hi with hi | hi
        · simp [hi]
        · simp [hi], hh⟩
      have next : ∀ a' w', Need S kd (L1 ++ L2) w' → seqT P ops S Q kd fin (L1 ++ L2) a' w' → wpAny P md ops (NoX Q) f (listed.setIfInBounds j true) a' w' :=
        fun a' w' hN hK => ih (L1 ++ L2) _ a' w' hlen hsort' hrem' inv' hN hK
      unfold stepK at hp
      rcases hkj : kd j with _ | (_ | (_ | _ | _)) <;> simp only [hkj] at hp
      · refine wpOp_mono (fun a' w' hK => next a' w' (fun ⟨i, hi, hih⟩ => ?_) hK) hp.2
        exfalso
        rcases List.mem_append.1 hi with hi | hi
        · obtain ⟨_, _, _, _, _, hk⟩ := hok i hi
          rw [hih, hkj] at hk; cases hk
        · have := htl j i hkj (hL2 i hi)
          rw [hih] at this; cases this
      · exact wpOp_mono (fun a' w' hK => next a' w' (fun _ => hK.1) hK.2) hp.2
      · obtain ⟨o, v, ho, hy, hK⟩ := hp
        exact hy.wpOp ho trivial (next _ _ (more hS) hK)
      · obtain ⟨o, v, ho, hy, hK⟩ := hp
        exact hy.wpOp ho (hS ⟨j, by simp, hkj⟩) (next _ _ (more hS) hK)
      · obtain ⟨o, v, ho, hy, hK⟩ := hp
        exact hy.wpOp ho rfl (next _ _ (more hS) hK)

/-- The head as a list of operations. -/
def wpText (P : Program) (ops : Array Oper) (S : World → Prop) (Q : Exit → Act → World → Prop) (kd : Nat → OpKind) (fin : Act → World → Prop) : Nat → List Oper → Act → World → Prop
  | _, [], a, w => fin a w
  | k, o :: l, a, w =>
    match kd k with
    | none => False
    | some none =>
      if Region.wanted o (yielded ops a.tmps) then o.wp P a w (fun a' w' => S w' ∧ wpText P ops S Q kd fin (k + 1) l a' w') (NoX Q)
      else S w ∧ wpText P ops S Q kd fin (k + 1) l (a.put o.dst undef) w
    | some (some .lt) => ∃ v, YieldsIf P ops (fun _ => True) o v a ∧ wpText P ops S Q kd fin (k + 1) l (a.put o.dst v) w
    | some (some .eq) => ∃ v, YieldsIf P ops S o v a ∧ wpText P ops S Q kd fin (k + 1) l (a.put o.dst v) w
    | some (some .gt) => ∃ v, YieldsIf P ops (fun w' => w' = w) o v a ∧ wpText P ops S Q kd fin (k + 1) l (a.put o.dst v) w

theorem seqT_tail {n : Nat} {fin : Act → World → Prop} (hkd : ∀ i, n ≤ i → kd i = none) (hfin : ∀ a w, (NoX Q) .normal a w → fin a w) :
    ∀ (l : List Oper) (k : Nat) (a : Act) (w : World), n ≤ k → (∀ j, j < l.length → l[j]? = ops[k + j]?) → wpList P ops (NoX Q) l a w → seqT P ops S Q kd fin (List.range' k l.length) a w
  | [], _, _, _, _, _, h => hfin _ _ h
  | o :: l, k, a, w, hn, hl, h => by
    have h0 : ops[k]? = some o := by simpa using (hl 0 (by simp)).symm
    have ih := fun a w h => seqT_tail hkd hfin l (k + 1) a w (by omega) (fun j hj => by have := hl (j + 1) (by simp; omega); simpa [Nat.add_assoc, Nat.add_comm 1 j] using this) h
    simp only [List.length_cons, List.range'_succ, seqT]
    rw [stepK_tail (hkd k hn)]
    refine ⟨⟨o, h0⟩, ?_⟩
    refine wpOp_mono ih ?_
    unfold wpOp
    simp only [h0]
    unfold wpList at h
    exact h

theorem seqT_head {n : Nat} {fin : Act → World → Prop} {m : Nat} (fin' : Act → World → Prop) (hfin : ∀ a w, fin' a w → seqT P ops S Q kd fin (List.range' n m) a w) :
    ∀ (l : List Oper) (k : Nat) (a : Act) (w : World), k + l.length = n → (∀ j, j < l.length → l[j]? = ops[k + j]?) →
    wpText P ops S Q kd fin' k l a w → seqT P ops S Q kd fin (List.range' k (l.length + m)) a w
  | [], k, _, _, hk, _, h => by
    have : k = n := by simpa using hk
    subst this
    simpa using hfin _ _ h
  | o :: l, k, a, w, hk, hl, h => by
    have h0 : ops[k]? = some o := by simpa using (hl 0 (by simp)).symm
    simp only [List.length_cons] at hk
    have ih := fun a w h => seqT_head fin' hfin l (k + 1) a w (by omega) (fun j hj => by have := hl (j + 1) (by simp; omega); simpa [Nat.add_assoc, Nat.add_comm 1 j] using this) h
    rw [List.length_cons, show l.length + 1 + m = (l.length + m) + 1 by omega, List.range'_succ]
    simp only [seqT]
    unfold stepK
    unfold wpText at h
    rcases hkk : kd k with _ | (_ | (_ | _ | _)) <;> simp only [hkk] at h ⊢
    · refine ⟨⟨o, h0⟩, ?_⟩
      unfold wpOp
      simp only [h0]
      split
      · rename_i hw
        rw [if_pos hw] at h
        exact .inl (Oper.wp_mono (fun a' w' hh => ⟨hh.1, ih a' w' hh.2⟩) h)
      · rename_i hw
        rw [if_neg hw] at h
        exact ⟨h.1, ih _ _ h.2⟩
    all_goals
      obtain ⟨v, hy, hK⟩ := h
      exact ⟨o, v, h0, hy, ih _ _ hK⟩

theorem inv_rep (m : Nat) (hm : ops.size = m) : DownSet md ops (Array.replicate m false) :=
  ⟨by simp [hm], fun j oj _ hl => (by rw [getD_replicate_false] at hl; cases hl)⟩

end

section
variable {P : Program} {Q : Exit → Act → World → Prop} {S : World → Prop}

theorem kindOf_tail {n : Nat} {eff pur held : List Nat} {i : Nat} (h : n ≤ i) : kindOf n eff pur held i = none := by unfold kindOf; rw [if_pos h]
theorem kindOf_tail' {n : Nat} {eff pur held : List Nat} {i : Nat} (h : kindOf n eff pur held i = none) : n ≤ i := by
  unfold kindOf at h
  split at h
  · assumption
  · split at h <;> first | cases h | (split at h <;> first | cases h | (split at h <;> cases h))

/-- A region: the head (n operations) by 'wpText', the tail as it stands. -/
theorem wp_region_text {id : Nat} {a : Act} {w : World} {l : List Oper} (n : Nat) (eff pur held : List Nat) (S : World → Prop) (hm : P.follows .mixedOrders = true)
    (hB : (textB .any l.toArray (kindOf n eff pur held) && decide (n ≤ l.toArray.size)) = true)
    (hS : S w.drew) (h : wpText P l.toArray S Q (kindOf n eff pur held) (fun a' w' => wpList P l.toArray (NoX Q) (l.drop n) a' w') 0 (l.take n) a w.drew) : (Code.region id l.toArray true).wp P Q a w := by
  simp only [textB, Bool.and_eq_true, decide_eq_true_eq] at hB
  obtain ⟨⟨hsel, hp⟩, hn⟩ := hB
  have hn' : n ≤ l.length := by simpa using hn
  have hpairs := pairs_spec hp
  refine Code.wp_mono NoX.imp (wp_region_any hm ?_)
  refine wpAny_text (P := P) (md := .any) (ops := l.toArray) (Q := Q) (S := S) (kd := kindOf n eff pur held) (fin := fun a' w' => Q .normal a' w') (Region.noSelect_spec hsel)
    (fun i j hi hij => kindOf_tail (by have := kindOf_tail' hi; omega)) hpairs (fun _ _ h => h) l.toArray.size (List.range' 0 l.toArray.size) (Array.replicate l.toArray.size false) a w.drew (by simp) List.pairwise_lt_range'
    (fun i => by
      simp only [List.mem_range'_1]
      constructor
      · rintro ⟨_, hi⟩
        have : i < l.toArray.size := by omega
        exact ⟨this, by simp at this; simp [this]⟩
      · rintro ⟨hi, _⟩; omega) (inv_rep _ rfl) (fun _ => hS) ?_
  have h1 := seqT_head (P := P) (ops := l.toArray) (Q := Q) (S := S) (kd := kindOf n eff pur held) (n := n) (m := l.length - n) (fin := fun a' w' => Q .normal a' w')
    (fun a' w' => wpList P l.toArray (NoX Q) (l.drop n) a' w')
    (fun a' w' h => by
      have := seqT_tail (P := P) (ops := l.toArray) (Q := Q) (S := S) (kd := kindOf n eff pur held) (n := n) (fin := fun a' w' => Q .normal a' w') (fun i hi => kindOf_tail hi) (fun _ _ h => h) (l.drop n) n a' w' (Nat.le_refl _)
        (fun j _ => by simp [List.getElem?_drop]) h
      simpa using this)
    (l.take n) 0 a w.drew (by simp; omega) (fun j hj => by
      have hj' : j < n := by simp at hj; omega
      simp [hj']) h
  rw [List.length_take, Nat.min_eq_left hn', show n + (l.length - n) = l.length by omega] at h1
  simpa using h1

/-- A region without a tail. -/
theorem wp_region_text0 {id : Nat} {a : Act} {w : World} {l : List Oper} (n : Nat) (eff pur held : List Nat) (S : World → Prop) (hm : P.follows .mixedOrders = true)
    (hB : (textB .any l.toArray (kindOf n eff pur held) && decide (n = l.toArray.size)) = true)
    (hS : S w.drew) (h : wpText P l.toArray S Q (kindOf n eff pur held) (fun a' w' => Q .normal a' w') 0 l a w.drew) : (Code.region id l.toArray true).wp P Q a w := by
  simp only [Bool.and_eq_true, decide_eq_true_eq] at hB
  obtain ⟨hB, rfl⟩ := hB
  refine wp_region_text l.toArray.size eff pur held S hm (by simp only [Bool.and_eq_true, decide_eq_true_eq]; exact ⟨hB, Nat.le_refl _⟩) hS ?_
  have e1 : l.drop l.toArray.size = [] := by simp
  have e2 : l.take l.toArray.size = l := by simp
  rw [e1, e2]
  exact h

/-! The steps of a walk. -/
variable {ops : Array Oper} {kd : Nat → OpKind} {fin : Act → World → Prop} {k : Nat} {o : Oper} {l : List Oper} {a : Act} {w : World}

theorem wpText_nil (h : fin a w) : wpText P ops S Q kd fin k [] a w := h
theorem wpText_h (hk : kd k = (some (some .gt))) (hw : Region.wanted o (yielded ops a.tmps) = true)
    (h : ∃ v, (execOp a.eval o).run P w = .ok (.value v) w ∧ wpText P ops S Q kd fin (k + 1) l (a.put o.dst v) w) : wpText P ops S Q kd fin k (o :: l) a w := by
  obtain ⟨v, hy, h⟩ := h
  unfold wpText
  simp only [hk]
  exact ⟨v, .inl ⟨hw, fun w' hS => by subst hS; exact hy⟩, h⟩
theorem wpText_p (hk : kd k = (some (some .lt))) (hw : Region.wanted o (yielded ops a.tmps) = true)
    (h : ∃ v, (∀ w', (execOp a.eval o).run P w' = .ok (.value v) w') ∧ wpText P ops S Q kd fin (k + 1) l (a.put o.dst v) w) : wpText P ops S Q kd fin k (o :: l) a w := by
  obtain ⟨v, hy, h⟩ := h
  unfold wpText
  simp only [hk]
  exact ⟨v, .inl ⟨hw, fun w' _ => hy w'⟩, h⟩
theorem wpText_y (hk : kd k = (some (some .eq))) (hw : Region.wanted o (yielded ops a.tmps) = true)
    (h : ∃ v, (∀ w', S w' → (execOp a.eval o).run P w' = .ok (.value v) w') ∧ wpText P ops S Q kd fin (k + 1) l (a.put o.dst v) w) : wpText P ops S Q kd fin k (o :: l) a w := by
  obtain ⟨v, hy, h⟩ := h
  unfold wpText
  simp only [hk]
  exact ⟨v, .inl ⟨hw, hy⟩, h⟩
theorem wpText_skip (hk : kd k = (some (some .gt)) ∨ kd k = (some (some .lt)) ∨ kd k = (some (some .eq))) (hw : Region.wanted o (yielded ops a.tmps) = false)
    (h : wpText P ops S Q kd fin (k + 1) l (a.put o.dst undef) w) : wpText P ops S Q kd fin k (o :: l) a w := by
  unfold wpText
  rcases hk with hk | hk | hk <;> simp only [hk] <;> exact ⟨undef, .inr ⟨hw, rfl⟩, h⟩
theorem wpText_e (hk : kd k = (some none)) (hw : Region.wanted o (yielded ops a.tmps) = true)
    (h : ∀ K : Act → World → Prop, (∀ a' w', S w' → wpText P ops S Q kd fin (k + 1) l a' w' → K a' w') → o.wp P a w K (NoX Q)) : wpText P ops S Q kd fin k (o :: l) a w := by
  unfold wpText
  simp only [hk]
  rw [if_pos hw]
  exact h _ (fun _ _ h1 h2 => ⟨h1, h2⟩)
theorem wpText_eskip (hk : kd k = (some none)) (hw : Region.wanted o (yielded ops a.tmps) = false) (hS : S w)
    (h : wpText P ops S Q kd fin (k + 1) l (a.put o.dst undef) w) : wpText P ops S Q kd fin k (o :: l) a w := by
  unfold wpText
  simp only [hk]
  rw [if_neg (by rw [hw]; simp)]
  exact ⟨hS, h⟩
end

end Go.Proofs.Ytabdahojgmbgdaa
