/- The reassembly: the list of its collections; its memory. -/
import Derived.Test.YtlnejlhdkmneeaaAddD
namespace Go.Proofs.Ytlnejlhdkmneeaa
open Go.RowKit

noncomputable def kl (p : Pkt) : Lit := (keyOf Try.prog keyT (keyV p.src p.dst p.proto p.id)).getD (.int .i64 0)
abbrev PFit (p : Pkt) : Prop := KeyFit p.src p.dst p.proto p.id
theorem kl_ok {p : Pkt} (h : PFit p) : keyOf Try.prog keyT (keyV p.src p.dst p.proto p.id) = some (kl p) := by
  obtain ⟨k, hk⟩ := key_lit h
  unfold kl
  rw [hk]
  rfl
theorem kl_eq {p q : Pkt} (hp : PFit p) (hq : PFit q) (h : kl p = kl q) : p.src = q.src ∧ p.dst = q.dst ∧ p.proto = q.proto ∧ p.id = q.id := by
  have h1 := kl_ok hp
  have h2 := kl_ok hq
  rw [← h] at h2
  have h3 := kKey.inj h1 h2
  unfold keyV at h3
  simpa using h3
theorem kl_of {p q : Pkt} (h : p.src = q.src ∧ p.dst = q.dst ∧ p.proto = q.proto ∧ p.id = q.id) : kl p = kl q := by
  obtain ⟨h1, h2, h3, h4⟩ := h
  unfold kl
  rw [h1, h2, h3, h4]

attribute [irreducible] kl
abbrev PC := CPlace × Col
open Classical in
noncomputable def fL : List PC → Lit → Option Nat
  | [], _ => none
  | x :: r, j => if kl x.2.h = j then some x.1.e else fL r j
theorem fL_inv : ∀ {l : List PC} {j : Lit} {e : Nat}, fL l j = some e → ∃ x ∈ l, kl x.2.h = j ∧ x.1.e = e
  | [], _, _, h => by cases h
  | x :: r, j, e, h => by
    unfold fL at h
    split at h
    · rename_i hj
      injection h with h
      exact ⟨x, by simp, hj, h⟩
    · obtain ⟨y, hy, h1⟩ := fL_inv h
      exact ⟨y, by simp [hy], h1⟩
theorem fL_none : ∀ {l : List PC} {j : Lit}, (∀ x ∈ l, kl x.2.h ≠ j) → fL l j = none
  | [], _, _ => rfl
  | x :: r, j, h => by
    unfold fL
    rw [if_neg (h x (by simp)), fL_none (fun y hy => h y (by simp [hy]))]
theorem fL_mem : ∀ {l : List PC} {x : PC}, l.Pairwise (fun x y => kl x.2.h ≠ kl y.2.h) → x ∈ l → fL l (kl x.2.h) = some x.1.e
  | [], _, _, h => by cases h
  | y :: r, x, hp, h => by
    unfold fL
    rcases List.mem_cons.1 h with rfl | h1
    · rw [if_pos rfl]
    · rw [if_neg ((List.pairwise_cons.1 hp).1 x h1), fL_mem (List.pairwise_cons.1 hp).2 h1]
theorem fL_snoc : ∀ {l : List PC} {x : PC}, (∀ y ∈ l, kl y.2.h ≠ kl x.2.h) → fL (l ++ [x]) = updF (fL l) (kl x.2.h) (some x.1.e)
  | [], x, _ => by
    funext j
    by_cases hj : j = kl x.2.h
    · subst hj; rw [updF_same]; simp [fL]
    · rw [updF_other _ _ hj]; simp [fL, Ne.symm hj]
  | y :: r, x, h => by
    funext j
    have ih := congrFun (fL_snoc (l := r) (x := x) (fun z hz => h z (by simp [hz]))) j
    simp only [List.cons_append, fL]
    by_cases hj : j = kl x.2.h
    · subst hj
      rw [updF_same, if_neg (h y (by simp)), ih, updF_same]
    · rw [updF_other _ _ hj] at ih ⊢
      rw [ih]
theorem fL_drop : ∀ {l : List PC} {j : Lit} (p : PC → Bool), (∀ x ∈ l, (p x = true ↔ kl x.2.h ≠ j)) → fL (l.filter p) = updF (fL l) j none
  | [], j, p, _ => by
    funext i
    by_cases hi : i = j
    · subst hi; rw [updF_same]; rfl
    · rw [updF_other _ _ hi]; rfl
  | x :: r, j, p, h => by
    funext i
    have ih := congrFun (fL_drop (l := r) (j := j) p (fun z hz => h z (by simp [hz]))) i
    rw [List.filter_cons]
    by_cases hx : p x = true
    · rw [if_pos hx]
      have hk := (h x (by simp)).1 hx
      simp only [fL]
      rw [ih]
      by_cases hi : i = j
      · subst hi; rw [if_neg hk, updF_same, updF_same]
      · rw [updF_other _ _ hi, updF_other _ _ hi]
    · rw [if_neg hx, ih]
      have hk : kl x.2.h = j := by
        rcases Classical.em (kl x.2.h = j) with h1 | h1
        · exact h1
        · exact absurd ((h x (by simp)).2 h1) hx
      by_cases hi : i = j
      · subst hi; rw [updF_same, updF_same]
      · rw [updF_other _ _ hi, updF_other _ _ hi]; simp only [fL]; rw [if_neg (by rw [hk]; exact Ne.symm hi)]

def foot (z : CPlace) : List Nat := z.e :: (z.vd.ownBlock.toList ++ z.vh.ownBlock.toList)
def feet (l : List PC) : List Nat := l.flatMap fun x => foot x.1
theorem mem_foot {z : CPlace} {k : Nat} : k ∈ foot z ↔ k = z.e ∨ z.vd.ownBlock = some k ∨ z.vh.ownBlock = some k := by
  unfold foot
  simp [List.mem_cons, List.mem_append, Option.mem_toList, Option.mem_def]
theorem mem_feet {l : List PC} {k : Nat} : k ∈ feet l ↔ ∃ x ∈ l, k ∈ foot x.1 := by simp [feet]
section
variable {base : Nat} {w w' : World} {z : CPlace} {c : Col}
theorem ColAt.only {S : List Nat} (h : ColAt base w z c) (ho : Only S w w') (hn : ∀ k, k ∈ foot z → k ∉ S) : ColAt base w' z c :=
  ⟨ho.blk h.me (hn _ (mem_foot.2 (.inl rfl))), off_only h.dr ho (fun k hk => hn k (mem_foot.2 (.inr (.inl hk)))), off_only h.hr ho (fun k hk => hn k (mem_foot.2 (.inr (.inr hk)))), h.eq, h.be⟩
theorem ColAt.lt (h : ColAt base w z c) {k : Nat} (hk : k ∈ foot z) : k < w.heap.size := by
  rcases mem_foot.1 hk with rfl | h1 | h1
  · exact h.me.lt
  · obtain ⟨cs, hb⟩ := offT' h.dr h1; exact hb.lt
  · obtain ⟨cs, hb⟩ := offT' h.hr h1; exact hb.lt
theorem ColAt.ge (h : ColAt base w z c) {k : Nat} (hk : k ∈ foot z) : base ≤ k := by
  rcases mem_foot.1 hk with rfl | h1 | h1
  · exact h.be
  · exact (off_ge h.dr _ h1).1
  · exact (off_ge h.hr _ h1).1
theorem ColAt.kind (h : ColAt base w z c) {k : Nat} (hk : k ∈ foot z) : ∃ t cs, Blk w k t cs ∧ t ≠ rasT ∧ t ≠ pktT ∧ t ≠ keyT := by
  rcases mem_foot.1 hk with rfl | h1 | h1
  · exact ⟨colT, _, h.me, by decide, by decide, by decide⟩
  · obtain ⟨cs, hb⟩ := offT' h.dr h1; exact ⟨u8T, cs, hb, by decide, by decide, by decide⟩
  · obtain ⟨cs, hb⟩ := offT' h.hr h1; exact ⟨boolT, cs, hb, by decide, by decide, by decide⟩
end

structure ColFit (c : Col) : Prop where
  h : PFit c.h
  d : c.data.length ≤ 65535
  n : c.cnt ≤ 64
  b : 0 ≤ c.bg ∧ c.bg ≤ 1099511627776

/-- How the reassembly lies in memory. -/
structure RzAt (base r b M : Nat) (w : World) (num last : Int) (l : List PC) : Prop where
  me : Blk w r rasT [.map (some b), I64 num, I64 last]
  mp : PtrMap w keyT b M l.length (fL l)
  cols : ∀ x ∈ l, ColAt base w x.1 x.2
  apart : l.Pairwise fun x y => ∀ k, k ∈ foot x.1 → k ∉ foot y.1
  keys : l.Pairwise fun x y => kl x.2.h ≠ kl y.2.h
  nums : l.Pairwise fun x y => x.1.num < y.1.num
  top : ∀ x ∈ l, x.1.num ≤ num
  fit : ∀ x ∈ l, ColFit x.2
  rb : base ≤ r
  bb : base ≤ b
section
variable {base r b M : Nat} {w w' : World} {num last : Int} {l : List PC}
theorem RzAt.far (h : RzAt base r b M w num last l) {x : PC} (hx : x ∈ l) {k : Nat} (hk : k ∈ foot x.1) : k ≠ r ∧ k ≠ b := by
  obtain ⟨t, cs, hb, h1, -, -⟩ := (h.cols x hx).kind hk
  exact ⟨hb.ne h.me h1, (h.mp.ne hb).symm⟩
theorem RzAt.rnb (h : RzAt base r b M w num last l) : b ≠ r := h.mp.ne h.me
theorem RzAt.only {S : List Nat} (h : RzAt base r b M w num last l) (ho : Only S w w') (hr : r ∉ S) (hb : b ∉ S) (hs : ∀ k, k ∈ feet l → k ∉ S) : RzAt base r b M w' num last l :=
  ⟨ho.blk h.me hr, h.mp.onlyS ho hb, fun x hx => (h.cols x hx).only ho fun k hk => hs k (mem_feet.2 ⟨x, hx, hk⟩), h.apart, h.keys, h.nums, h.top, h.fit, h.rb, h.bb⟩
end

end Go.Proofs.Ytlnejlhdkmneeaa
