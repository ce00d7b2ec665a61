/- A statement whose order Go leaves open, several of whose operations change the world in an order that is open too: what yields (a quiet call too) goes first; where only changes are left, the walk parts by which of them comes next. S is what holds in all worlds between. -/
import Derived.Test.YtlnejlhdkmneeaaDraw
namespace Go.Proofs.Ytlnejlhdkmneeaa

def readyB (ops : Array Oper) (rem : List Nat) (i : Nat) : Bool := match ops[i]? with
  | some o => o.after.toList.all fun e => !Region.binds .any e || !rem.contains e.on
  | none => false

section
variable {P : Program} {ops : Array Oper} {Q : Exit → Act → World → Prop} {S : World → Prop} {ef : List Nat} {fin : Act → World → Prop}

/-- It yields v in every world of S and leaves the world: at once, or as a call that does so. -/
def YieldsC (P : Program) (ops : Array Oper) (S : World → Prop) (o : Oper) (v : Value) (a : Act) : Prop :=
  (Region.wanted o (yielded ops a.tmps) = true ∧ ∀ w, S w → (execOp a.eval o).run P w = .ok (.value v) w ∨ ∃ f args, (execOp a.eval o).run P w = .ok (.enter f args) w ∧ Calls P f args w fun e w' => e = .returned v ∧ w' = w) ∨
    (Region.wanted o (yielded ops a.tmps) = false ∧ v = undef)
theorem YieldsC.of_same {o : Oper} {v : Value} {a a' : Act} (hy : YieldsC P ops S o v a) (he : execOp a'.eval o = execOp a.eval o)
    (hw : Region.wanted o (yielded ops a'.tmps) = Region.wanted o (yielded ops a.tmps)) : YieldsC P ops S o v a' := by
  unfold YieldsC at *
  rw [he, hw]; exact hy
theorem YieldsC.wpOp {i : Nat} {o : Oper} {v : Value} {a : Act} {w : World} {K : Act → World → Prop} (hi : ops[i]? = some o) (hy : YieldsC P ops S o v a) (hS : S w) (h : K (a.put o.dst v) w) : wpOp P ops (NoX Q) i K a w := by
  unfold Go.wpOp
  simp only [hi]
  rcases hy with ⟨hw, hy⟩ | ⟨hw, rfl⟩
  · rw [if_pos hw]
    refine .inl ?_
    unfold Oper.wp
    rcases hy w hS with h1 | ⟨f, args, h1, h2⟩
    · rw [h1]; exact h
    · rw [h1]
      refine Calls.mono h2 ?_
      rintro e w' ⟨rfl, rfl⟩
      exact h
  · rw [if_neg (by rw [hw]; decide)]; exact h

def stepS (P : Program) (ops : Array Oper) (S : World → Prop) (Q : Exit → Act → World → Prop) (ef : List Nat) (i : Nat) (K : Act → World → Prop) (a : Act) (w : World) : Prop :=
  if ef.contains i then (∃ o, ops[i]? = some o) ∧ wpOp P ops (NoX Q) i (fun a' w' => S w' ∧ K a' w') a w
  else ∃ o v, ops[i]? = some o ∧ YieldsC P ops S o v a ∧ K (a.put o.dst v) w
theorem stepS_mono {i : Nat} {K K' : Act → World → Prop} {a : Act} {w : World} (hk : ∀ a w, K a w → K' a w) (h : stepS P ops S Q ef i K a w) : stepS P ops S Q ef i K' a w := by
  unfold stepS at *
  split
  · rename_i he
    rw [if_pos he] at h
    exact ⟨h.1, wpOp_mono (fun a w h => ⟨h.1, hk a w h.2⟩) h.2⟩
  · rename_i he
    rw [if_neg he] at h
    obtain ⟨o, v, ho, hy, hK⟩ := h
    exact ⟨o, v, ho, hy, hk _ _ hK⟩

/-- What yields, and then any other operation: the other may go first. -/
theorem swapS {i j : Nat} {oi oj : Oper} (hi : ops[i]? = some oi) (hj : ops[j]? = some oj) (hap : oi.apart ops oj = true)
    (hsi : ∀ cs b, oi.op ≠ .select cs b) (hsj : ∀ cs b, oj.op ≠ .select cs b) (hki : ef.contains i = false)
    {K : Act → World → Prop} {a : Act} {w : World} (h : stepS P ops S Q ef i (stepS P ops S Q ef j K) a w) : stepS P ops S Q ef j (stepS P ops S Q ef i K) a w := by
  obtain ⟨h1, h2, h3⟩ := Oper.apart_spec hap
  unfold stepS at h
  rw [if_neg (by rw [hki]; decide)] at h
  obtain ⟨o, vi, ho, hyi, h⟩ := h
  have : o = oi := Option.some.inj (ho.symm.trans hi)
  subst this
  have back : ∀ (a' : Act), (∃ u, a' = a.put oj.dst u ∨ ∃ d, a' = ({ a with defers := d :: a.defers } : Act).put oj.dst u) → YieldsC P ops S o vi a' := by
    rintro a' ⟨u, rfl | ⟨d, rfl⟩⟩
    · exact hyi.of_same (execOp_put o hsi a oj.dst u h3) (wanted_put o a oj.dst u h3)
    · exact YieldsC.of_same (a := { a with defers := d :: a.defers }) (hyi.of_same rfl rfl) (execOp_put o hsi _ oj.dst u h3) (wanted_put o _ oj.dst u h3)
  by_cases hkj : ef.contains j = true
  · rw [if_pos hkj] at h
    unfold stepS
    rw [if_pos hkj]
    refine ⟨⟨oj, hj⟩, ?_⟩
    simp only [hki, Bool.false_eq_true, if_false]
    have hput : ∀ (a : Act) u, (a.put oj.dst u).put o.dst vi = (a.put o.dst vi).put oj.dst u := fun a u => (Act.put_comm a vi u h2).symm
    have hx : (execOp (a.put o.dst vi).eval oj) = execOp a.eval oj := execOp_put oj hsj a o.dst vi h1
    have hw : Region.wanted oj (yielded ops (a.put o.dst vi).tmps) = Region.wanted oj (yielded ops a.tmps) := wanted_put oj a o.dst vi h1
    have h := h.2
    unfold wpOp at h ⊢
    simp only [hj] at h ⊢
    rw [hw] at h
    by_cases hwa : Region.wanted oj (yielded ops a.tmps) = true
    · rw [if_pos hwa] at h ⊢
      rcases h with h | ⟨_, h⟩
      case inr => exact (NoX.out h).elim
      refine .inl ?_
      unfold Oper.wp at h ⊢
      rw [hx] at h
      generalize (execOp a.eval oj).run P w = r at h ⊢
      cases r with
      | ok n w' =>
        cases n <;> simp only [Oper.upon] at h ⊢
        case value u => exact ⟨h.1, o, vi, hi, back _ ⟨u, .inl rfl⟩, by rw [hput]; exact h.2⟩
        case skip => exact ⟨h.1, o, vi, hi, back _ ⟨undef, .inl rfl⟩, by rw [hput]; exact h.2⟩
        case defer d =>
          refine ⟨h.1, o, vi, hi, back _ ⟨undef, .inr ⟨d, rfl⟩⟩, ?_⟩
          have h := h.2
          rw [Act.put_defers] at h
          rw [hput]; exact h
        case enter f args =>
          refine Calls.mono h fun e w'' he => ?_
          cases e with
          | returned u => exact ⟨he.1, o, vi, hi, back _ ⟨u, .inl rfl⟩, by rw [hput]; exact he.2⟩
          | panicked c => exact he
          | outgrown => exact he
        case row row args =>
          refine Rows.mono h fun u w'' he => ?_
          exact ⟨he.1, o, vi, hi, back _ ⟨u, .inl rfl⟩, by rw [hput]; exact he.2⟩
      | halt x w' =>
        cases x <;> simp only [Oper.upon] at h ⊢
        all_goals exact h
    · rw [if_neg hwa] at h ⊢
      exact ⟨h.1, o, vi, hi, back _ ⟨undef, .inl rfl⟩, by rw [hput]; exact h.2⟩
  · rw [if_neg hkj] at h
    obtain ⟨o', vj, ho', hyj, hK⟩ := h
    have : o' = oj := Option.some.inj (ho'.symm.trans hj)
    subst this
    unfold stepS
    rw [if_neg hkj]
    refine ⟨o', vj, hj, hyj.of_same (execOp_put o' hsj a o.dst vi h1).symm (wanted_put o' a o.dst vi h1).symm, ?_⟩
    rw [if_neg (by rw [hki]; decide)]
    refine ⟨o, vi, hi, back _ ⟨vj, .inl rfl⟩, ?_⟩
    rw [← Act.put_comm a vi vj h2]
    exact hK

def schT (P : Program) (ops : Array Oper) (S : World → Prop) (Q : Exit → Act → World → Prop) (ef : List Nat) (fin : Act → World → Prop) : Nat → List Nat → Act → World → Prop
  | 0, _, a, w => fin a w
  | f + 1, rem, a, w => (∃ i, i ∈ rem ∧ readyB ops rem i = true ∧ ef.contains i = false ∧ stepS P ops S Q ef i (schT P ops S Q ef fin f (rem.erase i)) a w) ∨
      ((∀ i, i ∈ rem → readyB ops rem i = true → ef.contains i = true) ∧ ∀ e, e ∈ rem → readyB ops rem e = true → stepS P ops S Q ef e (schT P ops S Q ef fin f (rem.erase e)) a w)

theorem readyB_erase {rem : List Nat} {i j : Nat} (h : readyB ops rem i = true) : readyB ops (rem.erase j) i = true := by
  unfold readyB at *
  split at h
  · rename_i o ho
    rw [List.all_eq_true] at h ⊢
    intro e he
    have := h e he
    simp only [Bool.or_eq_true, Bool.not_eq_true', List.contains_eq_mem, decide_eq_false_iff_not] at this ⊢
    rcases this with h1 | h1
    · exact .inl h1
    · exact .inr fun hm => h1 (List.mem_of_mem_erase hm)
  · cases h

/-- What is looked at. -/
def schB (ops : Array Oper) (ef : List Nat) : Bool :=
  Region.noSelect ops &&
  (List.range ops.size).all (fun j => (match ops[j]? with
    | some oj => oj.after.all (fun e => !Region.binds .any e || decide (e.on < j))
    | none => false) &&
      (List.range ops.size).all (fun i => i == j || waitsD .any ops 8 j i || waitsD .any ops 8 i j || (ef.contains i && ef.contains j) || (match ops[i]?, ops[j]? with
        | some oi, some oj => oi.apart ops oj
        | _, _ => false)))

theorem waits_not_ready {rem : List Nat} (hdown : ∀ i o, i ∉ rem → ops[i]? = some o → ∀ e ∈ o.after, Region.binds .any e = true → e.on ∉ rem) : ∀ (d j i : Nat), waitsD .any ops d j i = true → i ∈ rem → readyB ops rem j = false := by
  intro d
  induction d with
  | zero => intro j i h; simp [waitsD] at h
  | succ d ih =>
    intro j i h hi
    unfold waitsD at h
    unfold readyB
    split at h
    · rename_i oj hj
      simp only [hj]
      rw [← Bool.not_eq_true, List.all_eq_true]
      intro hall
      rcases (Bool.or_eq_true _ _).mp h with h | h
      · obtain ⟨e, he, hb⟩ := Array.any_eq_true'.1 h
        simp only [Bool.and_eq_true, beq_iff_eq] at hb
        have := hall e (Array.mem_toList_iff.2 he)
        rw [hb.1, hb.2] at this
        simp [hi] at this
      · obtain ⟨e, he, hb⟩ := Array.any_eq_true'.1 h
        simp only [Bool.and_eq_true, decide_eq_true_eq] at hb
        have := hall e (Array.mem_toList_iff.2 he)
        rw [hb.1.1] at this
        have hnm : e.on ∉ rem := by simpa using this
        -- e.on has come up: so has all that it waits for, i among them
        have hstrong : ∀ (d k : Nat), waitsD .any ops d k i = true → k ∉ rem → False := by
          intro d
          induction d with
          | zero => intro k h; simp [waitsD] at h
          | succ d ih2 =>
            intro k h hk
            unfold waitsD at h
            split at h
            · rename_i ok hok
              rcases (Bool.or_eq_true _ _).mp h with h | h
              · obtain ⟨e, he, hb⟩ := Array.any_eq_true'.1 h
                simp only [Bool.and_eq_true, beq_iff_eq] at hb
                exact hdown k ok hk hok e he hb.1 (by rw [hb.2]; exact hi)
              · obtain ⟨e, he, hb⟩ := Array.any_eq_true'.1 h
                simp only [Bool.and_eq_true, decide_eq_true_eq] at hb
                exact ih2 e.on hb.2 (hdown k ok hk hok e he hb.1.1)
            · cases h
        exact hstrong d e.on hb.2 hnm
    · cases h


def Down (ops : Array Oper) (rem : List Nat) : Prop := ∀ i o, i ∉ rem → ops[i]? = some o → ∀ e ∈ o.after, Region.binds .any e = true → e.on ∉ rem
theorem readyB_spec {rem : List Nat} {i : Nat} {o : Oper} (h : readyB ops rem i = true) (ho : ops[i]? = some o) : ∀ e ∈ o.after, Region.binds .any e = true → e.on ∉ rem := by
  intro e he hb
  unfold readyB at h
  simp only [ho] at h
  have := List.all_eq_true.1 h e (Array.mem_toList_iff.2 he)
  rw [hb] at this
  simpa using this
theorem Down.erase {rem : List Nat} {j : Nat} (h : Down ops rem) (hr : readyB ops rem j = true) : Down ops (rem.erase j) := by
  intro i o hi ho e he hb hm
  have hm' := List.mem_of_mem_erase hm
  by_cases hij : i = j
  · subst hij; exact readyB_spec hr ho e he hb hm'
  · exact h i o (fun hh => hi ((List.mem_erase_of_ne hij).2 hh)) ho e he hb hm'

structure SchOk (ops : Array Oper) (ef : List Nat) : Prop where
  sel : ∀ (j : Nat) (o : Oper) cs b, ops[j]? = some o → o.op ≠ .select cs b
  low : ∀ j, j < ops.size → ∃ oj, ops[j]? = some oj ∧ ∀ e ∈ oj.after, Region.binds .any e = true → e.on < j
  pair : ∀ i j, i < ops.size → j < ops.size → i ≠ j → waitsD .any ops 8 j i = true ∨ waitsD .any ops 8 i j = true ∨ (ef.contains i = true ∧ ef.contains j = true) ∨ ∃ oi oj, ops[i]? = some oi ∧ ops[j]? = some oj ∧ oi.apart ops oj = true
theorem schB_spec (h : schB ops ef = true) : SchOk ops ef := by
  unfold schB at h
  simp only [Bool.and_eq_true] at h
  have h2 := fun j (hj : j < ops.size) => List.all_eq_true.1 h.2 j (List.mem_range.2 hj)
  refine ⟨Region.noSelect_spec h.1, fun j hj => ?_, fun i j hi hj hij => ?_⟩
  · have := h2 j hj
    simp only [Bool.and_eq_true] at this
    have h3 := this.1
    split at h3
    · rename_i oj hoj
      refine ⟨oj, hoj, fun e he hb => ?_⟩
      have := Array.all_eq_true_iff_forall_mem.1 h3 e he
      simpa [hb] using this
    · cases h3
  · have := h2 j hj
    simp only [Bool.and_eq_true] at this
    have h3 := List.all_eq_true.1 this.2 i (List.mem_range.2 hi)
    simp only [Bool.or_eq_true, beq_iff_eq, Bool.and_eq_true] at h3
    rcases h3 with (((h3 | h3) | h3) | h3) | h3
    · exact absurd h3 hij
    · exact .inl h3
    · exact .inr (.inl h3)
    · exact .inr (.inr (.inl h3))
    · refine .inr (.inr (.inr ?_))
      split at h3
      · rename_i oi oj hoi hoj
        exact ⟨oi, oj, hoi, hoj, h3⟩
      · cases h3

theorem SchOk.meet (hs : SchOk ops ef) {rem : List Nat} (hd : Down ops rem) {i j : Nat} (hi : i ∈ rem) (hj : j ∈ rem) (hij : i ≠ j) (hri : readyB ops rem i = true) (hrj : readyB ops rem j = true) (hlt : ∀ x ∈ rem, x < ops.size) :
    (∃ oi oj, ops[i]? = some oi ∧ ops[j]? = some oj ∧ oi.apart ops oj = true) ∨ (ef.contains i = true ∧ ef.contains j = true) := by
  rcases hs.pair i j (hlt i hi) (hlt j hj) hij with h | h | h | h
  · rw [waits_not_ready hd 8 j i h hi] at hrj; cases hrj
  · rw [waits_not_ready hd 8 i j h hj] at hri; cases hri
  · exact .inr h
  · exact .inl h

theorem schT_pull (hs : SchOk ops ef) :
    ∀ (f : Nat) (rem : List Nat) (j : Nat) (a : Act) (w : World), rem.length = f + 1 → (∀ x ∈ rem, x < ops.size) → Down ops rem → j ∈ rem → readyB ops rem j = true → schT P ops S Q ef fin (f + 1) rem a w → stepS P ops S Q ef j (schT P ops S Q ef fin f (rem.erase j)) a w := by
  intro f
  induction f with
  | zero =>
    intro rem j a w hl hlt hd hj hr h
    rcases h with ⟨i, hi, _, _, h⟩ | ⟨_, h⟩
    · match rem, hl with
      | [x], _ =>
        have e1 : i = x := by simpa using hi
        have e2 : j = x := by simpa using hj
        subst e1 e2; exact h
    · exact h j hj hr
  | succ f ih =>
    intro rem j a w hl hlt hd hj hr h
    rcases h with ⟨i, hi, hri, hy, h⟩ | ⟨_, h⟩
    · by_cases hij : i = j
      · subst hij; exact h
      · have hj' : j ∈ rem.erase i := (List.mem_erase_of_ne (Ne.symm hij)).2 hj
        have h' := stepS_mono (fun a w h => ih (rem.erase i) j a w (by rw [List.length_erase_of_mem hi]; omega) (fun x hx => hlt x (List.mem_of_mem_erase hx)) (hd.erase hri) hj' (readyB_erase hr) h) h
        rcases hs.meet hd hi hj hij hri hr hlt with ⟨oi, oj, hoi, hoj, hap⟩ | ⟨hk, _⟩
        · have h2 := swapS hoi hoj hap (fun cs b => hs.sel i oi cs b hoi) (fun cs b => hs.sel j oj cs b hoj) hy h'
          refine stepS_mono (fun a w h => .inl ⟨i, (List.mem_erase_of_ne hij).2 hi, readyB_erase hri, hy, ?_⟩) h2
          rw [List.erase_comm]; exact h
        · rw [hk] at hy; cases hy
    · exact h j hj hr

theorem wpAny_sch (hs : SchOk ops ef) (hfin : ∀ a w, fin a w → Q .normal a w) :
    ∀ (f : Nat) (rem : List Nat) (listed : Array Bool) (a : Act) (w : World), rem.length = f → rem.Pairwise (· < ·) → (∀ i, i ∈ rem ↔ i < ops.size ∧ listed.getD i true = false) → DownSet .any ops listed →
      S w → schT P ops S Q ef fin f rem a w → wpAny P .any ops (NoX Q) f listed a w := by
  intro f
  induction f with
  | zero =>
    intro rem listed a w hl _ hrem inv _ h
    have : rem = [] := List.eq_nil_of_length_eq_zero hl
    subst this
    refine ⟨?_, hfin a w h⟩
    rcases hr : Region.ready .any ops listed with _ | ⟨j, r⟩
    · rfl
    · exfalso
      have hj : j ∈ Region.ready .any ops listed := by rw [hr]; simp
      obtain ⟨hun, o, ho, _⟩ := mem_ready.1 hj
      have := (hrem j).2 ⟨(Array.getElem?_eq_some_iff.1 ho).1, hun⟩
      simp at this
  | succ f ih =>
    intro rem listed a w hl hsort hrem inv hS h
    obtain ⟨r0, rest, he0⟩ : ∃ r0 rest, rem = r0 :: rest := by cases rem with
      | nil => simp at hl
      | cons x y => exact ⟨x, y, rfl⟩
    have h0 := (hrem r0).1 (by rw [he0]; simp)
    have hlt : ∀ x ∈ rem, x < ops.size := fun x hx => ((hrem x).1 hx).1
    have hnot : ∀ k, k < ops.size → listed.getD k false = true → k ∉ rem := fun k _ hk hm => by
      have := ((hrem k).1 hm).2
      rw [getD_both this] at hk; cases hk
    have hin : ∀ k, k < ops.size → k ∉ rem → listed.getD k false = true := fun k hk hm => by
      cases hh : listed.getD k false with
      | true => rfl
      | false => exact absurd ((hrem k).2 ⟨hk, getD_in (by rw [inv.size]; exact hk) hh⟩) hm
    have hd : Down ops rem := by
      intro i o hi ho e he hb
      have hio := (Array.getElem?_eq_some_iff.1 ho).1
      obtain ⟨oi, hoi, hlow⟩ := hs.low i hio
      have : oi = o := Option.some.inj (hoi.symm.trans ho)
      subst this
      have := hlow e he hb
      exact hnot e.on (by omega) (inv.closed i oi ho (hin i hio hi) e he hb)
    refine ⟨fun he => ?_, fun j hj => ?_⟩
    · exfalso
      obtain ⟨oj, hoj, hlow⟩ := hs.low r0 h0.1
      have : r0 ∈ Region.ready .any ops listed := by
        rw [mem_ready]
        refine ⟨h0.2, oj, hoj, fun e he hb => ?_⟩
        have hlt2 := hlow e he hb
        refine hin e.on (by omega) fun hm => ?_
        rw [he0] at hm hsort
        rcases List.mem_cons.1 hm with e1 | e1
        · omega
        · have := List.rel_of_pairwise_cons hsort e1; omega
      rw [he] at this; cases this
    · obtain ⟨hjun, oj, hoj, hall⟩ := mem_ready.1 hj
      have hjs : j < ops.size := (Array.getElem?_eq_some_iff.1 hoj).1
      have hjm : j ∈ rem := (hrem j).2 ⟨hjs, hjun⟩
      have hrj : readyB ops rem j = true := by
        unfold readyB
        simp only [hoj]
        rw [List.all_eq_true]
        intro e he
        have he := Array.mem_toList_iff.1 he
        cases hb : Region.binds .any e with
        | false => simp
        | true =>
          have h1 := hall e he hb
          have h2 := hnot e.on (by
            obtain ⟨oj', hoj', hlow⟩ := hs.low j hjs
            have : oj' = oj := Option.some.inj (hoj'.symm.trans hoj)
            subst this
            have := hlow e he hb; omega) h1
          simp [h2]
      have hp := schT_pull hs f rem j a w hl hlt hd hjm hrj h
      have inv' := inv.set hj
      have hlen : (rem.erase j).length = f := by rw [List.length_erase_of_mem hjm]; omega
      have hsort' : (rem.erase j).Pairwise (· < ·) := hsort.sublist List.erase_sublist
      have hnd : rem.Nodup := hsort.imp (fun h => Nat.ne_of_lt h)
      have hrem' : ∀ i, i ∈ rem.erase j ↔ i < ops.size ∧ (listed.setIfInBounds j true).getD i true = false := by
        intro i
        have hji : j < listed.size := by rw [inv.size]; exact hjs
        by_cases hij : i = j
        · subst hij
          constructor
          · intro hm
            exact absurd hm (List.Nodup.not_mem_erase hnd)
          · rintro ⟨_, hh⟩
            simp [hji] at hh
        · rw [getD_set_ne true (Ne.symm hij), ← hrem i]
          exact List.mem_erase_of_ne hij
      have next : ∀ a' w', S w' → schT P ops S Q ef fin f (rem.erase j) a' w' → wpAny P .any ops (NoX Q) f (listed.setIfInBounds j true) a' w' :=
        fun a' w' hS hK => ih (rem.erase j) _ a' w' hlen hsort' hrem' inv' hS hK
      unfold stepS at hp
      split at hp
      · exact wpOp_mono (fun a' w' hK => next a' w' hK.1 hK.2) hp.2
      · obtain ⟨o, v, ho, hy, hK⟩ := hp
        exact hy.wpOp ho hS (next _ _ hS hK)

/-- A region walked so: what yields first, then whichever change comes next. -/
theorem wp_region_sch {id : Nat} {a : Act} {w : World} {l : List Oper} (n : Nat) (ef : List Nat) (S : World → Prop) (hm : P.follows .mixedOrders = true)
    (hB : (schB l.toArray ef && decide (n = l.toArray.size)) = true)
    (hS : S w.drew) (h : schT P l.toArray S Q ef (fun a' w' => Q .normal a' w') n (List.range n) a w.drew) : (Code.region id l.toArray true).wp P Q a w := by
  simp only [Bool.and_eq_true, decide_eq_true_eq] at hB
  obtain ⟨hs, rfl⟩ := hB
  refine Code.wp_mono NoX.imp (wp_region_any hm ?_)
  refine wpAny_sch (schB_spec hs) (fun _ _ h => h) l.toArray.size (List.range l.toArray.size) (Array.replicate l.toArray.size false) a w.drew (by simp) List.pairwise_lt_range ?_ (inv_rep _ rfl) hS h
  intro i
  simp only [List.mem_range]
  constructor
  · intro hi
    exact ⟨hi, by simp at hi; simp [hi]⟩
  · rintro ⟨hi, _⟩; exact hi

/-! The steps of a walk. -/
def firstY (ops : Array Oper) (ef : List Nat) (rem : List Nat) : Option Nat := rem.find? fun i => readyB ops rem i && !ef.contains i
theorem firstY_spec {rem : List Nat} {i : Nat} (h : firstY ops ef rem = some i) : i ∈ rem ∧ readyB ops rem i = true ∧ ef.contains i = false := by
  have h1 := List.find?_some h
  simp only [Bool.and_eq_true, Bool.not_eq_true'] at h1
  exact ⟨List.mem_of_find?_eq_some h, h1.1, h1.2⟩

variable {f : Nat} {rem rem' : List Nat} {i : Nat} {o : Oper} {a : Act} {w : World}
theorem sch_nil (h : fin a w) : schT P ops S Q ef fin 0 rem a w := h
theorem sch_any (hi : firstY ops ef rem = some i) (ho : ops.toList[i]? = some o) (hr : rem.erase i = rem') (v : Value) (hy : YieldsC P ops S o v a)
    (h : schT P ops S Q ef fin f rem' (a.put o.dst v) w) : schT P ops S Q ef fin (f + 1) rem a w := by
  obtain ⟨h1, h2, h3⟩ := firstY_spec hi
  subst hr
  refine .inl ⟨i, h1, h2, h3, ?_⟩
  unfold stepS
  rw [if_neg (by rw [h3]; decide)]
  exact ⟨o, v, by simpa using ho, hy, h⟩
theorem sch_y (hi : firstY ops ef rem = some i) (ho : ops.toList[i]? = some o) (hr : rem.erase i = rem') (hw : Region.wanted o (yielded ops a.tmps) = true)
    (h : ∃ v, (∀ w', S w' → (execOp a.eval o).run P w' = .ok (.value v) w') ∧ schT P ops S Q ef fin f rem' (a.put o.dst v) w) : schT P ops S Q ef fin (f + 1) rem a w := by
  obtain ⟨v, hv, h⟩ := h
  exact sch_any hi ho hr v (.inl ⟨hw, fun w' hS => .inl (hv w' hS)⟩) h
/-- A quiet call. -/
theorem sch_q (v : Value) (f' : FuncId) (args : Array Value) (hi : firstY ops ef rem = some i) (ho : ops.toList[i]? = some o) (hr : rem.erase i = rem') (hw : Region.wanted o (yielded ops a.tmps) = true)
    (he : ∀ w', (execOp a.eval o).run P w' = .ok (.enter f' args) w') (hc : ∀ w', S w' → Calls P f' args w' fun e w'' => e = .returned v ∧ w'' = w') (h : schT P ops S Q ef fin f rem' (a.put o.dst v) w) : schT P ops S Q ef fin (f + 1) rem a w :=
  sch_any hi ho hr v (.inl ⟨hw, fun w' hS => .inr ⟨f', args, he w', hc w' hS⟩⟩) h
theorem sch_skip (hi : firstY ops ef rem = some i) (ho : ops.toList[i]? = some o) (hr : rem.erase i = rem') (hw : Region.wanted o (yielded ops a.tmps) = false)
    (h : schT P ops S Q ef fin f rem' (a.put o.dst undef) w) : schT P ops S Q ef fin (f + 1) rem a w :=
  sch_any hi ho hr undef (.inr ⟨hw, rfl⟩) h

/-- What is to be shown of a change that comes next. -/
def effS (P : Program) (ops : Array Oper) (S : World → Prop) (Q : Exit → Act → World → Prop) (ef : List Nat) (fin : Act → World → Prop) (f : Nat) (rem' : List Nat) (o : Oper) (a : Act) (w : World) : Prop :=
  Region.wanted o (yielded ops a.tmps) = true ∧ ∀ K : Act → World → Prop, (∀ a' w', S w' → schT P ops S Q ef fin f rem' a' w' → K a' w') → o.wp P a w K (NoX Q)
theorem eff_step {e : Nat} (ho : ops.toList[e]? = some o) (hk : ef.contains e = true) (h : effS P ops S Q ef fin f rem' o a w) : stepS P ops S Q ef e (schT P ops S Q ef fin f rem') a w := by
  unfold stepS
  have ho : ops[e]? = some o := by simpa using ho
  rw [if_pos hk]
  refine ⟨⟨o, ho⟩, ?_⟩
  unfold wpOp
  simp only [ho, h.1, if_true]
  exact .inl (h.2 _ fun a' w' hS hK => ⟨hS, hK⟩)
def readys (ops : Array Oper) (rem : List Nat) : List Nat := rem.filter fun i => readyB ops rem i
theorem none_ready {es : List Nat} (hr : readys ops rem = es) (h : es.all (fun i => ef.contains i) = true) : ∀ i, i ∈ rem → readyB ops rem i = true → ef.contains i = true := by
  intro i hi hr'
  exact List.all_eq_true.1 h i (by rw [← hr]; exact List.mem_filter.2 ⟨hi, hr'⟩)
theorem sch_e1 {e1 : Nat} {o1 : Oper} {r1 : List Nat} (hr : readys ops rem = [e1]) (hk : [e1].all (fun i => ef.contains i) = true)
    (h1 : ops.toList[e1]? = some o1) (q1 : rem.erase e1 = r1) (g1 : effS P ops S Q ef fin f r1 o1 a w) : schT P ops S Q ef fin (f + 1) rem a w := by
  refine .inr ⟨none_ready hr hk, fun e he hre => ?_⟩
  have hm : e ∈ readys ops rem := List.mem_filter.2 ⟨he, hre⟩
  have hke := none_ready hr hk e he hre
  rw [hr] at hm
  obtain rfl : e = e1 := by simpa using hm
  subst q1
  exact eff_step h1 hke g1
theorem sch_e2 {e1 e2 : Nat} {o1 o2 : Oper} {r1 r2 : List Nat} (hr : readys ops rem = [e1, e2]) (hk : [e1, e2].all (fun i => ef.contains i) = true)
    (h1 : ops.toList[e1]? = some o1) (h2 : ops.toList[e2]? = some o2) (q1 : rem.erase e1 = r1) (q2 : rem.erase e2 = r2)
    (g1 : effS P ops S Q ef fin f r1 o1 a w) (g2 : effS P ops S Q ef fin f r2 o2 a w) : schT P ops S Q ef fin (f + 1) rem a w := by
  refine .inr ⟨none_ready hr hk, fun e he hre => ?_⟩
  have hm : e ∈ readys ops rem := List.mem_filter.2 ⟨he, hre⟩
  have hke := none_ready hr hk e he hre
  rw [hr] at hm
  subst q1 q2
  rcases (by simpa using hm : e = e1 ∨ e = e2) with rfl | rfl
  · exact eff_step h1 hke g1
  · exact eff_step h2 hke g2
theorem sch_e3 {e1 e2 e3 : Nat} {o1 o2 o3 : Oper} {r1 r2 r3 : List Nat} (hr : readys ops rem = [e1, e2, e3]) (hk : [e1, e2, e3].all (fun i => ef.contains i) = true)
    (h1 : ops.toList[e1]? = some o1) (h2 : ops.toList[e2]? = some o2) (h3 : ops.toList[e3]? = some o3) (q1 : rem.erase e1 = r1) (q2 : rem.erase e2 = r2) (q3 : rem.erase e3 = r3)
    (g1 : effS P ops S Q ef fin f r1 o1 a w) (g2 : effS P ops S Q ef fin f r2 o2 a w) (g3 : effS P ops S Q ef fin f r3 o3 a w) : schT P ops S Q ef fin (f + 1) rem a w := by
  refine .inr ⟨none_ready hr hk, fun e he hre => ?_⟩
  have hm : e ∈ readys ops rem := List.mem_filter.2 ⟨he, hre⟩
  have hke := none_ready hr hk e he hre
  rw [hr] at hm
  subst q1 q2 q3
  rcases (by simpa using hm : e = e1 ∨ e = e2 ∨ e = e3) with rfl | rfl | rfl
  · exact eff_step h1 hke g1
  · exact eff_step h2 hke g2
  · exact eff_step h3 hke g3
end

end Go.Proofs.Ytlnejlhdkmneeaa
