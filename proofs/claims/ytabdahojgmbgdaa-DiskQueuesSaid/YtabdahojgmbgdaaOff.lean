/- A slice that may begin inside its block: append, and xs[1:]. -/
import Derived.Test.YtabdahojgmbgdaaOnlyT
import Derived.Test.YtabdahojgmbgdaaRow
import Derived.ArgAppend
import Derived.Deep.AppendSrc
import Derived.Deep.Upon
namespace Go.Proofs.Ytabdahojgmbgdaa
open Go.RowKit

/-- cs with vs laid at o. -/
def setL : List Value → Nat → List Value → List Value
  | cs, _, [] => cs
  | cs, o, v :: r => setL (cs.set o v) (o + 1) r
theorem setL_len : ∀ (vs cs : List Value) (o : Nat), (setL cs o vs).length = cs.length
  | [], _, _ => rfl
  | v :: r, cs, o => by rw [setL, setL_len r]; simp
theorem setL_eq : ∀ (vs cs : List Value) (o : Nat), o + vs.length ≤ cs.length → setL cs o vs = cs.take o ++ vs ++ cs.drop (o + vs.length)
  | [], cs, o, _ => by simp [setL]
  | v :: r, cs, o, h => by
    have hl : o + 1 + r.length ≤ cs.length := by simp only [List.length_cons] at h; omega
    rw [setL, setL_eq r _ _ (by simpa using hl)]
    have ho : o < cs.length := by omega
    apply List.ext_getElem?
    intro i
    simp only [List.getElem?_append, List.length_append, List.length_take, List.length_set, List.length_cons, List.getElem?_take, List.getElem?_drop, List.getElem?_set]
    by_cases h1 : i < o
    · simp [show i < min (o + 1) cs.length by omega, show i < o + 1 by omega, h1, show ¬ o = i by omega, show i < min o cs.length by omega, show i < min (o + 1) cs.length + r.length by omega, show i < min o cs.length + (r.length + 1) by omega]
    · by_cases h2 : i = o
      · subst h2
        simp [show i < min (i + 1) cs.length by omega, show i < cs.length by omega, show ¬ i < min i cs.length by omega, show i < min (i + 1) cs.length + r.length by omega, show i < min i cs.length + (r.length + 1) by omega, show i - min i cs.length = 0 by omega]
      · by_cases h3 : i < o + 1 + r.length
        · obtain ⟨k, rfl⟩ : ∃ k, i = o + 1 + k := ⟨i - (o + 1), by omega⟩
          simp [show min (o + 1) cs.length = o + 1 by omega, show min o cs.length = o by omega, show o + 1 + k < o + 1 + r.length by omega, show ¬ o + 1 + k < o + 1 by omega, show ¬ o + 1 + k < o by omega, show o + 1 + k < o + (r.length + 1) by omega, show o + 1 + k - (o + 1) = k by omega, show o + 1 + k - o = k + 1 by omega]
        · simp [show min (o + 1) cs.length = o + 1 by omega, show min o cs.length = o by omega, show ¬ i < o + 1 + r.length by omega, show ¬ i < o + (r.length + 1) by omega, show i - (o + 1 + r.length) = i - (o + (r.length + 1)) by omega, show o + 1 + r.length = o + (r.length + 1) by omega]
          intro hh; omega

section
variable {w w' : World} {b : Nat} {t : TypeId}
theorem Blk.setCells : ∀ (vs : List Value) (o : Nat) {w : World} {cs : List Value}, Blk w b t cs → Blk (w.setCells b o vs) b t (setL cs o vs)
  | [], _, _, _, h => h
  | v :: r, o, w, cs, h => by rw [World.setCells, setL]; exact Blk.setCells r (o + 1) (h.set o v)
theorem Only.setCells {S : List Nat} (hb : b ∈ S) : ∀ (vs : List Value) (o : Nat) {a w : World}, Only S a w → Only S a (w.setCells b o vs)
  | [], _, _, _, h => h
  | v :: r, o, a, w, h => by rw [World.setCells]; exact Only.setCells hb r (o + 1) (h.set (p := ⟨b, o, none⟩) (.inl hb) v)
end

/-- v is a slice of n elements over a block since base, whose cells are xs. -/
def offRow (w : World) (base : Nat) (e : TypeId) (size : Nat) (v : Value) (n : Nat) (xs : List Value) : Prop :=
  xs.length = n * size ∧ ((v = .slice none 0 0 ∧ n = 0) ∨ ∃ g o cap cs, v = .slice (some ⟨g, o, none⟩) n cap ∧ base ≤ g ∧ Blk w g e cs ∧ n ≤ cap ∧ cap ≤ maxLen ∧ o + cap * size ≤ cs.length ∧ (cs.drop o).take (n * size) = xs)

section
variable {w w' : World} {base : Nat} {e : TypeId} {size n : Nat} {v : Value} {xs : List Value}
theorem off_of_own (h : w.ownsRow base e size v n xs) : offRow w base e size v n xs := by
  refine ⟨h.1, ?_⟩
  rcases h.2 with h2 | ⟨g, cap, cur, rfl, hb, hg, hn, hm, hs, ht⟩
  · exact .inl h2
  · exact .inr ⟨g, 0, cap, cur.toList, rfl, hb, by unfold Blk; simpa using hg, hn, hm, by simp [hs], by simpa using ht⟩
theorem off_nil (w : World) (base : Nat) (e : TypeId) (size : Nat) : offRow w base e size (.slice none 0 0) 0 [] := ⟨by simp, .inl ⟨rfl, rfl⟩⟩
theorem off_shape (h : offRow w base e size v n xs) : ∃ A c, v = .slice A n c := by
  rcases h.2 with ⟨rfl, rfl⟩ | ⟨g, o, cap, cs, rfl, _⟩
  · exact ⟨_, _, rfl⟩
  · exact ⟨_, _, rfl⟩
theorem off_ne_blk {t : TypeId} {g : Nat} {cs : List Value} (h : offRow w base e size v n xs) (hg : Blk w g t cs) (hne : e ≠ t) : v.ownBlock ≠ some g := by
  rcases h.2 with ⟨rfl, _⟩ | ⟨g', o, cap, cur, rfl, _, hh, _⟩
  · simp [Value.ownBlock]
  · intro he
    have : g' = g := by simpa [Value.ownBlock] using he
    subst this
    exact absurd rfl (hh.ne hg hne)
theorem off_ge (h : offRow w base e size v n xs) : ∀ k, v.ownBlock = some k → base ≤ k ∧ k < w.heap.size := by
  intro k hk
  rcases h.2 with ⟨rfl, _⟩ | ⟨g, o, cap, cs, rfl, hb, hg, _⟩
  · simp [Value.ownBlock] at hk
  · obtain rfl : g = k := by simpa [Value.ownBlock] using hk
    exact ⟨hb, hg.lt⟩
theorem off_hasT {Ts : List TypeId} (h : offRow w base e size v n xs) (he : e ∈ Ts) : ∀ k, v.ownBlock = some k → base ≤ k ∧ HasT w k Ts := by
  intro k hk
  rcases h.2 with ⟨rfl, _⟩ | ⟨g, o, cap, cs, rfl, hb, hg, _⟩
  · simp [Value.ownBlock] at hk
  · obtain rfl : g = k := by simpa [Value.ownBlock] using hk
    exact ⟨hb, hg.hasT he⟩
theorem off_same (h : offRow w base e size v n xs) (hh : ∀ k, v.ownBlock = some k → w'.heap[k]? = w.heap[k]?) : offRow w' base e size v n xs := by
  refine ⟨h.1, ?_⟩
  rcases h.2 with h2 | ⟨g, o, cap, cs, rfl, hb, hg, r⟩
  · exact .inl h2
  · exact .inr ⟨g, o, cap, cs, rfl, hb, (hh g rfl).trans hg, r⟩
theorem off_only {S : List Nat} (h : offRow w base e size v n xs) (ho : Only S w w') (hn : ∀ k, v.ownBlock = some k → k ∉ S) : offRow w' base e size v n xs :=
  off_same h fun k hk => ho.block k ((off_ge h k hk).2) (hn k hk)
theorem off_keep (h : offRow w base e size v n xs) (ho : Only [] w w') : offRow w' base e size v n xs := off_only h ho (by simp)
theorem OnlyT.off {Ts : List TypeId} {base0 : Nat} (ho : OnlyT Ts base0 w w') (h : offRow w base e size v n xs) (ht : e ∉ Ts) : offRow w' base e size v n xs :=
  off_same h fun k hk => by
    rcases h.2 with ⟨rfl, _⟩ | ⟨g, o, cap, cs, rfl, hb, hg, r⟩
    · simp [Value.ownBlock] at hk
    · obtain rfl : g = k := by simpa [Value.ownBlock] using hk
      exact (ho.blk hg ht).trans hg.symm
theorem off_set (h : offRow w base e size v n xs) {p : Addr} (hp : v.ownBlock ≠ some p.block) (u : Value) : offRow (w.setCell p u) base e size v n xs :=
  off_same h fun k hk => Below.heap_setCell w p u k (by rintro rfl; exact hp hk)
theorem off_cells (h : offRow w base e size v n xs) {g o cap : Nat} (hv : v = .slice (some ⟨g, o, none⟩) n cap) : ∀ j u, xs[j]? = some u → w.cell? ⟨g, o + j, none⟩ = some u := by
  intro j u hu
  rcases h.2 with ⟨rfl, _⟩ | ⟨g', o', cap', cs, rfl, _, hg, _, _, _, ht⟩
  · cases hv
  · injection hv with h1 h2 h3
    injection h1 with h1
    injection h1 with h1 h4
    subst h1 h4 h3
    rw [← ht, List.getElem?_take] at hu
    split at hu
    · rw [List.getElem?_drop] at hu
      exact hg.cell hu
    · cases hu
/-- xs[1:]. -/
theorem off_tail (h : offRow w base e size v (n + 1) xs) : ∃ g o cap, v = .slice (some ⟨g, o, none⟩) (n + 1) (cap + 1) ∧ offRow w base e size (.slice (some ⟨g, o + size, none⟩) n cap) n (xs.drop size) := by
  rcases h.2 with ⟨_, h2⟩ | ⟨g, o, cap, cs, rfl, hb, hg, hn, hm, hs, ht⟩
  · omega
  · obtain ⟨cap', rfl⟩ : ∃ c, cap = c + 1 := ⟨cap - 1, by omega⟩
    refine ⟨g, o, cap', rfl, by rw [List.length_drop, h.1, Nat.add_mul]; omega, .inr ⟨g, o + size, cap', cs, rfl, hb, hg, by omega, by omega, by rw [Nat.add_mul] at hs; omega, ?_⟩⟩
    rw [← ht, List.drop_take, List.drop_drop, Nat.add_mul]
    congr 1
    omega
end

section
variable {w w' : World} {base : Nat} {e : TypeId} {size n : Nat} {v : Value} {xs : List Value}
theorem off_blk (h : offRow w base e size v n xs) (hn : 0 < n) : ∃ g o cap cs, v = .slice (some ⟨g, o, none⟩) n cap ∧ Blk w g e cs ∧ o + n * size ≤ cs.length ∧ (cs.drop o).take (n * size) = xs := by
  rcases h.2 with ⟨_, h2⟩ | ⟨g, o, cap, cs, rfl, hb, hg, hc, hm, hl, ht⟩
  · omega
  · exact ⟨g, o, cap, cs, rfl, hg, by have := Nat.mul_le_mul_right size hc; omega, ht⟩
theorem take_drop_set {cs : List Value} {o p k : Nat} (u : Value) (hp : p < k) : ((cs.set (o + p) u).drop o).take k = ((cs.drop o).take k).set p u := by
  apply List.ext_getElem?
  intro i
  simp only [List.getElem?_take, List.getElem?_drop, List.getElem?_set, List.length_take, List.length_drop]
  by_cases h1 : i < k
  · by_cases h2 : p = i
    · subst h2
      simp only [h1, if_true]
      by_cases h3 : o + p < cs.length
      · simp [h3, show p < min k (cs.length - o) by omega]
      · simp [h3, show ¬ p < min k (cs.length - o) by omega]
    · simp [h1, h2, show ¬ o + p = o + i by omega]
  · simp [h1, show ¬ p = i by omega]
/-- A cell of the row is set. -/
theorem off_setIn (h : offRow w base e size v n xs) {g o cap : Nat} (hv : v = .slice (some ⟨g, o, none⟩) n cap) {p : Nat} (hp : p < n * size) (u : Value) : offRow (w.setCell ⟨g, o + p, none⟩ u) base e size v n (xs.set p u) := by
  refine ⟨by rw [List.length_set]; exact h.1, ?_⟩
  rcases h.2 with ⟨rfl, _⟩ | ⟨g', o', cap', cs, rfl, hb, hg, hc, hm, hl, ht⟩
  · cases hv
  · injection hv with h1 h2 h3
    injection h1 with h1
    injection h1 with h1 h4
    subst h1 h4 h3
    exact .inr ⟨_, _, _, _, rfl, hb, hg.set (o' + p) u, hc, hm, by rw [List.length_set]; exact hl, by rw [take_drop_set u hp, ht]⟩
/-- Cells vs are laid at place p of the row. -/
theorem off_stored (h : offRow w base e size v n xs) {g o cap : Nat} (hv : v = .slice (some ⟨g, o, none⟩) n cap) {p : Nat} {cs vs : List Value} (hb : Blk w g e cs) (hs : Blk w' g e (cs.take (o + p) ++ vs ++ cs.drop (o + p + vs.length))) (hp : p + vs.length ≤ n * size) :
    offRow w' base e size v n (xs.take p ++ vs ++ xs.drop (p + vs.length)) := by
  have hx := h.1
  refine ⟨by simp only [List.length_append, List.length_take, List.length_drop]; omega, ?_⟩
  rcases h.2 with ⟨rfl, _⟩ | ⟨g', o', cap', cs', rfl, hb', hg, hc, hm, hl, ht⟩
  · cases hv
  · injection hv with h1 h2 h3
    injection h1 with h1
    injection h1 with h1 h4
    subst h1 h4 h3
    obtain rfl := hb.eq hg
    have hnl : o' + n * size ≤ cs.length := by have := Nat.mul_le_mul_right size hc; omega
    refine .inr ⟨_, _, _, _, rfl, hb', hs, hc, hm, by simp only [List.length_append, List.length_take, List.length_drop]; omega, ?_⟩
    rw [← ht]
    apply List.ext_getElem?
    intro i
    simp only [List.getElem?_take, List.getElem?_drop, List.getElem?_append, List.length_append, List.length_take, List.length_drop]
    by_cases h1 : i < n * size
    · by_cases h2 : i < p
      · simp [h1, h2, show o' + i < o' + p by omega, show o' + i < min (o' + p) cs.length by omega, show i < min p (min (n * size) (cs.length - o')) by omega, show o' + i < min (o' + p) cs.length + vs.length by omega, show i < min p (min (n * size) (cs.length - o')) + vs.length by omega]
      · by_cases h3 : i < p + vs.length
        · simp [h1, h2, h3, show ¬ o' + i < min (o' + p) cs.length by omega, show ¬ i < min p (min (n * size) (cs.length - o')) by omega, show o' + i < min (o' + p) cs.length + vs.length by omega, show i < min p (min (n * size) (cs.length - o')) + vs.length by omega, show o' + i - min (o' + p) cs.length = i - min p (min (n * size) (cs.length - o')) by omega]
        · simp [h1, h2, h3, show ¬ o' + i < min (o' + p) cs.length + vs.length by omega, show ¬ i < min p (min (n * size) (cs.length - o')) + vs.length by omega, show p + vs.length + (i - (min p (min (n * size) (cs.length - o')) + vs.length)) < n * size by omega, show o' + p + vs.length + (o' + i - (min (o' + p) cs.length + vs.length)) = o' + (p + vs.length + (i - (min p (min (n * size) (cs.length - o')) + vs.length))) by omega]
    · have h4 : ¬ i < min p (min (n * size) (cs.length - o')) + vs.length := by omega
      simp [h1, h4, show ¬ p + vs.length + (i - (min p (min (n * size) (cs.length - o')) + vs.length)) < n * size by omega]
end

section
variable {P : Program} (w : World)
theorem wpList_append_off {ops : Array Oper} {rest : List Oper} {o : Oper} {a : Act} {Q : Exit → Act → World → Prop} (hgd : o.guard = none) (s x : Operand) (t : TypeId)
    (ho : o.op = .call { callee := .builtin .append, args := #[s, x], argTypes := #[t, t] })
    (e : TypeId) (i : TypeInfo) (z : Value) (size bytes : Nat) (ht : P.underlying t = some (.slice e)) (hi : P.info? e = some i) (hz : i.zero = some z)
    (hsize : i.size = size) (hby : i.bytes = bytes) (hzs : z.cells.size = size) (hsz : 0 < size)
    (base : Nat) (v : Value) (n : Nat) (xs : List Value) (hs : a.eval s = v) (hown : offRow w base e size v n xs) (hbase : base ≤ w.heap.size)
    (ad : Addr) (m c : Nat) (news : List Value) (hx : a.eval x = .slice (some ad) m c) (hl : news.length = m * size) (hnews : ∀ j u, news[j]? = some u → w.cell? (ad.add j) = some u) (h1 : ∀ u ∈ news, u.oneCell' = true)
    (h63 : n + m ≤ maxLen) (hbytes : (n + m) * bytes ≤ 140737488355328)
    (h : ∀ v' w', offRow w' base e size v' (n + m) (xs ++ news) → Only v.ownBlock.toList w w' → (v'.ownBlock = v.ownBlock ∨ ∀ k, v'.ownBlock = some k → w.heap.size ≤ k) → wpList P ops Q rest (a.put o.dst v') w') : wpList P ops Q (o :: rest) a w := by
  by_cases hnil : ∃ g f cap, v = .slice (some ⟨g, f, none⟩) n cap
  · obtain ⟨g, f, cap, rfl⟩ := hnil
    rcases hown.2 with ⟨hc, _⟩ | ⟨g', f', cap', cs, hc, hb, hg, hn, hm, hlen, htk⟩
    · cases hc
    · injection hc with c1 c2 c3
      injection c1 with c1
      injection c1 with c1 c4
      subst c1 c4 c3
      refine wpList_append_arg w hgd s x t ho e i z size bytes ht hi hz hsize hby hzs hsz g f n cap xs hs hown.1 (off_cells hown rfl) ad m c news hx hl hnews h1 ?_ h63 hbytes ?_ ?_
      · intro hr j hj
        have hj2 : f + n * size + j < cs.length := by
          have : (n + m) * size ≤ cap * size := Nat.mul_le_mul_right _ hr
          rw [Nat.add_mul] at this
          omega
        exact ⟨by rw [hg.cell (List.getElem?_eq_getElem hj2)]; rfl, hg.frozen _⟩
      · intro hr
        have hfit : (n + m) * size ≤ cap * size := Nat.mul_le_mul_right _ hr
        rw [Nat.add_mul] at hfit
        refine h _ _ ⟨by rw [List.length_append, hown.1, hl, Nat.add_mul], .inr ⟨g, f, cap, _, rfl, hb, hg.setCells news (f + n * size), hr, hm, by rw [setL_len]; exact hlen, ?_⟩⟩ (Only.setCells (by simp [Value.ownBlock]) _ _ (Only.refl _ _)) (.inl rfl)
        rw [setL_eq _ _ _ (by rw [hl]; omega), Nat.add_mul, ← hl]
        have hx1 : xs.length = n * size := hown.1
        have ht1 : (cs.take (f + n * size)).drop f = xs := by rw [← htk, List.drop_take]; congr 1; omega
        have hfl : f ≤ (cs.take (f + n * size)).length := by rw [List.length_take]; omega
        rw [List.append_assoc, List.drop_append_of_le_length hfl, ht1, ← hx1, ← List.append_assoc, List.take_left' (by simp)]
      · intro hr v' w' h2 h3
        refine h v' w' (off_of_own (own_base h2 hbase)) (Only.of_grown h3 (by simp)) (.inr fun k hk => (h2.lt k hk).1)
  · rcases hown.2 with ⟨rfl, rfl⟩ | ⟨g', f', cap', cs, rfl, _⟩
    · refine wpList_append_row w hgd s x t ho e i z size bytes ht hi hz hsize hby hzs hsz (.slice none 0 0) 0 xs hs ⟨hown.1, .inl ⟨rfl, rfl⟩⟩ ad m c news hx hl hnews h1 h63 hbytes ?_
      intro v' w' h2 h3 h4
      have hge : ∀ k, v'.ownBlock = some k → w.heap.size ≤ k := by
        intro k hk
        rcases h4 with h4 | h4
        · rw [h4] at hk; simp [Value.ownBlock] at hk
        · rw [h4] at hk; injection hk with hk; omega
      refine h v' w' ?_ h3 (.inr hge)
      have h5 := off_of_own h2
      refine ⟨h5.1, ?_⟩
      rcases h5.2 with h6 | ⟨g, f, cap, cs, rfl, hb, r⟩
      · exact .inl h6
      · exact .inr ⟨g, f, cap, cs, rfl, Nat.le_trans hbase (hge g rfl), r⟩
    · exact absurd ⟨_, _, _, rfl⟩ hnil
/-- .. where what is added is itself a slice, nil or not. -/
theorem wpList_append_offs {ops : Array Oper} {rest : List Oper} {o : Oper} {a : Act} {Q : Exit → Act → World → Prop} (hgd : o.guard = none) (s x : Operand) (t : TypeId)
    (ho : o.op = .call { callee := .builtin .append, args := #[s, x], argTypes := #[t, t] })
    (e : TypeId) (i : TypeInfo) (z : Value) (size bytes : Nat) (ht : P.underlying t = some (.slice e)) (hi : P.info? e = some i) (hz : i.zero = some z)
    (hsize : i.size = size) (hby : i.bytes = bytes) (hzs : z.cells.size = size) (hsz : 0 < size)
    (base : Nat) (v : Value) (n : Nat) (xs : List Value) (hs : a.eval s = v) (hown : offRow w base e size v n xs) (hbase : base ≤ w.heap.size)
    (b2 : Nat) (xv : Value) (m : Nat) (news : List Value) (hx : a.eval x = xv) (hsrc : offRow w b2 e size xv m news) (h1 : ∀ u ∈ news, u.oneCell' = true)
    (h63 : n + m ≤ maxLen) (hbytes : (n + m) * bytes ≤ 140737488355328)
    (h : ∀ v' w', offRow w' base e size v' (n + m) (xs ++ news) → Only v.ownBlock.toList w w' → (v'.ownBlock = v.ownBlock ∨ ∀ k, v'.ownBlock = some k → w.heap.size ≤ k) → wpList P ops Q rest (a.put o.dst v') w') : wpList P ops Q (o :: rest) a w := by
  rcases hsrc.2 with ⟨rfl, rfl⟩ | ⟨g, f, cap, cs, rfl, -, hg, -, -, -, htk⟩
  · obtain rfl : news = [] := List.eq_nil_of_length_eq_zero (by simpa using hsrc.1)
    have hle : ∃ A c, v = .slice A n c ∧ n ≤ c := by
      rcases hown.2 with ⟨rfl, rfl⟩ | ⟨g', f', cap', cs, rfl, -, -, hc, -⟩
      · exact ⟨_, _, rfl, Nat.le_refl _⟩
      · exact ⟨_, _, rfl, hc⟩
    obtain ⟨A, c, rfl, hnc⟩ := hle
    refine wpList_plain hgd fun _ hK => ?_
    have hr := run_append_nothing (P := P) w t t o.type e i ht hi A n c hnc (.slice none 0 0) (Src.ofNil w ht 0)
    unfold Oper.wp execOp
    simp only [ho, resolve, invoke, builtin, Sem.run_bind, Sem.run_pure, Result.andThen_ok, List.map_toArray, List.map_cons, List.map_nil, hs, hx, hr]
    exact hK _ _ (h _ _ (by simpa using hown) (Only.refl _ _) (.inl rfl))
  · refine wpList_append_off w hgd s x t ho e i z size bytes ht hi hz hsize hby hzs hsz base v n xs hs hown hbase ⟨g, f, none⟩ m cap news hx hsrc.1 (fun j u hu => ?_) h1 h63 hbytes h
    rw [Addr.add_lit]
    exact off_cells hsrc rfl j u hu
/-- The run itself. -/
theorem run_append_offs (t ty e : TypeId) (i : TypeInfo) (z : Value) (size bytes : Nat) (ht : P.underlying t = some (.slice e)) (hi : P.info? e = some i) (hz : i.zero = some z)
    (hsize : i.size = size) (hby : i.bytes = bytes) (hzs : z.cells.size = size) (hsz : 0 < size)
    (base : Nat) (v : Value) (n : Nat) (xs : List Value) (hown : offRow w base e size v n xs) (hbase : base ≤ w.heap.size)
    (b2 : Nat) (xv : Value) (m : Nat) (news : List Value) (hsrc : offRow w b2 e size xv m news) (h1 : ∀ u ∈ news, u.oneCell' = true)
    (h63 : n + m ≤ maxLen) (hbytes : (n + m) * bytes ≤ 140737488355328) :
    ∃ v' w', (Builtin.append_ #[t, t] ty #[v, xv]).run P w = .ok v' w' ∧ offRow w' base e size v' (n + m) (xs ++ news) ∧ Only v.ownBlock.toList w w' ∧ (v'.ownBlock = v.ownBlock ∨ ∀ k, v'.ownBlock = some k → w.heap.size ≤ k) := by
  rcases hsrc.2 with ⟨rfl, rfl⟩ | ⟨g, f, cap, cs, rfl, -, hg, -, -, -, htk⟩
  · obtain rfl : news = [] := List.eq_nil_of_length_eq_zero (by simpa using hsrc.1)
    have hle : ∃ A c, v = .slice A n c ∧ n ≤ c := by
      rcases hown.2 with ⟨rfl, rfl⟩ | ⟨g', f', cap', cs, rfl, -, -, hc, -⟩
      · exact ⟨_, _, rfl, Nat.le_refl _⟩
      · exact ⟨_, _, rfl, hc⟩
    obtain ⟨A, c, rfl, hnc⟩ := hle
    exact ⟨_, _, run_append_nothing (P := P) w t t ty e i ht hi A n c hnc (.slice none 0 0) (Src.ofNil w ht 0), by simpa using hown, Only.refl _ _, .inl rfl⟩
  · have hcell : ∀ j u, news[j]? = some u → w.cell? ((⟨g, f, none⟩ : Addr).add j) = some u := fun j u hu => by rw [Addr.add_lit]; exact off_cells hsrc rfl j u hu
    rcases hown.2 with ⟨rfl, rfl⟩ | ⟨g', f', cap', cs', rfl, hb', hg', hn', hm', hlen, htk'⟩
    · obtain ⟨v', w', hr, h2, h3, h4⟩ := run_append_row (P := P) w t ty e i z size bytes ht hi hz hsize hby hzs hsz (.slice none 0 0) 0 xs ⟨hown.1, .inl ⟨rfl, rfl⟩⟩ ⟨g, f, none⟩ m cap news hsrc.1 hcell h1 h63 hbytes
      have hge : ∀ k, v'.ownBlock = some k → w.heap.size ≤ k := by
        intro k hk
        rcases h4 with h4 | h4
        · rw [h4] at hk; simp [Value.ownBlock] at hk
        · rw [h4] at hk; injection hk with hk; omega
      refine ⟨v', w', hr, ?_, h3, .inr hge⟩
      have h5 := off_of_own h2
      refine ⟨h5.1, ?_⟩
      rcases h5.2 with h6 | ⟨g, f, cap, cs, rfl, hb, r⟩
      · exact .inl h6
      · exact .inr ⟨g, f, cap, cs, rfl, Nat.le_trans hbase (hge g rfl), r⟩
    · by_cases hr : n + m ≤ cap'
      · subst hsize
        have hfit : (n + m) * i.size ≤ cap' * i.size := Nat.mul_le_mul_right _ hr
        rw [Nat.add_mul] at hfit
        have hnl : news.length = m * i.size := hsrc.1
        have hsp : ∀ j, j < news.length → f' + n * i.size + j < cs'.length := fun j hj => by omega
        refine ⟨_, _, run_append_room_cells (P := P) w t ty e i ht hi g' f' n cap' ⟨g, f, none⟩ m cap news hsrc.1 hcell h1 hr (fun j hj => by rw [hg'.cell (List.getElem?_eq_getElem (hsp j hj))]; rfl) (fun j _ => hg'.frozen _), ?_, Only.setCells (by simp [Value.ownBlock]) _ _ (Only.refl _ _), .inl rfl⟩
        refine ⟨by rw [List.length_append, hown.1, hsrc.1, Nat.add_mul], .inr ⟨g', f', cap', _, rfl, hb', hg'.setCells news (f' + n * i.size), hr, hm', by rw [setL_len]; exact hlen, ?_⟩⟩
        rw [setL_eq _ _ _ (by omega), Nat.add_mul, ← hnl]
        have hx1 : xs.length = n * i.size := hown.1
        have ht1 : (cs'.take (f' + n * i.size)).drop f' = xs := by rw [← htk', List.drop_take]; congr 1; omega
        have hfl : f' ≤ (cs'.take (f' + n * i.size)).length := by rw [List.length_take]; omega
        rw [List.append_assoc, List.drop_append_of_le_length hfl, ht1, ← hx1, ← List.append_assoc, List.take_left' (by simp)]
      · obtain ⟨v', w', hrun, r1, r2⟩ := run_append_arg_grows (P := P) w t ty e i z size bytes ht hi hz hsize hby hzs hsz ⟨g', f', none⟩ n cap' xs hown.1 (fun j u hj => by rw [Addr.add_lit]; exact off_cells hown rfl j u hj) ⟨g, f, none⟩ m cap news hsrc.1 hcell (by omega) h63 hbytes
        exact ⟨v', w', hrun, off_of_own (own_base r1 hbase), Only.of_grown r2 (by simp), .inr fun k hk => (r1.lt k hk).1⟩
theorem wp_append_offs {o : Oper} {a : Act} {K : Act → World → Prop} {Q : Exit → Act → World → Prop} (s x : Operand) (t : TypeId)
    (ho : o.op = .call { callee := .builtin .append, args := #[s, x], argTypes := #[t, t] })
    (e : TypeId) (i : TypeInfo) (z : Value) (size bytes : Nat) (ht : P.underlying t = some (.slice e)) (hi : P.info? e = some i) (hz : i.zero = some z)
    (hsize : i.size = size) (hby : i.bytes = bytes) (hzs : z.cells.size = size) (hsz : 0 < size)
    (base : Nat) (v : Value) (n : Nat) (xs : List Value) (hs : a.eval s = v) (hown : offRow w base e size v n xs) (hbase : base ≤ w.heap.size)
    (b2 : Nat) (xv : Value) (m : Nat) (news : List Value) (hx : a.eval x = xv) (hsrc : offRow w b2 e size xv m news) (h1 : ∀ u ∈ news, u.oneCell' = true)
    (h63 : n + m ≤ maxLen) (hbytes : (n + m) * bytes ≤ 140737488355328)
    (h : ∀ v' w', offRow w' base e size v' (n + m) (xs ++ news) → Only v.ownBlock.toList w w' → (v'.ownBlock = v.ownBlock ∨ ∀ k, v'.ownBlock = some k → w.heap.size ≤ k) → K (a.put o.dst v') w') : o.wp P a w K Q := by
  obtain ⟨v', w', hr, h2, h3, h4⟩ := run_append_offs (P := P) w t o.type e i z size bytes ht hi hz hsize hby hzs hsz base v n xs hown hbase b2 xv m news hsrc h1 h63 hbytes
  unfold Oper.wp execOp
  simp only [ho, resolve, invoke, builtin, Sem.run_bind, Sem.run_pure, Result.andThen_ok, List.map_toArray, List.map_cons, List.map_nil, hs, hx, hr]
  exact h v' w' h2 h3 h4
end

end Go.Proofs.Ytabdahojgmbgdaa
