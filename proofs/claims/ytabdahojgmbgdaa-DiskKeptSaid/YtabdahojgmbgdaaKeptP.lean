/- DiskKept in plain words. -/
import Derived.Test.YtabdahojgmbgdaaKeptA
namespace Go.Proofs.Ytabdahojgmbgdaa
open Go.RowKit

/-- All writes of a cache, carried out. -/
def bsAll (bs : List (List Nat)) (cache : List WB) : List (List Nat) := cache.foldl (fun b x => b.set x.1 x.2) bs
theorem allK_bs (D : Dk) (k : Nat) (hk : k ≤ D.cache.length) : (D.allK k).bs = bsAll D.bs (D.cache.take k) := by
  induction k with
  | zero => rfl
  | succ k ih =>
    obtain ⟨x, hx⟩ : ∃ x, D.cache[k]? = some x := ⟨_, List.getElem?_eq_getElem (by omega)⟩
    have e : D.cache.getD k (0, []) = x := by rw [List.getD_eq_getElem?_getD, hx]; rfl
    show ((D.allK k).fated 1 (D.cache.getD k (0, []))).bs = _
    rw [e, List.take_add_one, hx]
    simp only [Dk.fated, bsAll, List.foldl_append, Option.toList_some, List.foldl_cons, List.foldl_nil]
    rw [ih (by omega)]
    rfl
def nowBs (now : Nat → Nat) : List (List Nat) := (List.range 16).map fun j => List.replicate 64 (now j)
theorem nowBs_set (now : Nat → Nat) {b f : Nat} (hb : b < 16) : (nowBs now).set b (List.replicate 64 f) = nowBs (fun j => if j = b then f else now j) := by
  apply List.ext_getElem?
  intro i
  by_cases hi : i < 16
  · by_cases e : i = b
    · subst e; simp [nowBs, hi]
    · rw [List.getElem?_set_ne (by omega)]
      simp [nowBs, hi, e]
  · rw [List.getElem?_eq_none (by simp [nowBs]; omega), List.getElem?_eq_none (by simp [nowBs]; omega)]
theorem nowBs_get (now : Nat → Nat) {j : Nat} (h : j < 16) : (nowBs now).getD j [] = List.replicate 64 (now j) := by simp [nowBs, h]
theorem nowBs_zero : nowBs (fun _ => 0) = (Dk.new 16).bs := by simp [nowBs, Dk.new, zb, List.map_const']

/-- While the law writes. -/
structure K1 (D : Dk) (now : Nat → Nat) (k : Nat) : Prop where
  off : D.off = false
  left : D.left = 0
  len : D.bs.length = 16
  ck : D.cache.length = k
  all : bsAll D.bs D.cache = nowBs now
  n8 : ∀ j, now j < 256
theorem K1.start : K1 (Dk.new 16) (fun _ => 0) 0 := ⟨rfl, rfl, by simp [Dk.new], rfl, nowBs_zero.symm, fun _ => by decide⟩
theorem code_in {D : Dk} (ho : D.off = false) {n b : Nat} (hl : D.bs.length = n) (hb : b < n) : D.code (b : Int) = 0 := by
  unfold Dk.code
  rw [if_neg (by rw [ho]; decide), if_neg (by omega)]
theorem write_plain {D : Dk} (ho : D.off = false) (hl : D.left = 0) {n b : Nat} (hn : D.bs.length = n) (hb : b < n) (hc : D.cache.length < 4096) (x : List Nat) : D.write (b : Int) x = (D.put b x, 0) := by
  unfold Dk.write
  rw [if_neg (by rw [code_in ho hn hb]; decide), if_neg (by omega), if_pos hl, Int.toNat_natCast]
theorem K1.step {D : Dk} {now : Nat → Nat} {k b f : Nat} (h : K1 D now k) (hb : b < 16) (hf : f < 256) : K1 (D.put b (List.replicate 64 f)) (fun j => if j = b then f else now j) (k + 1) := by
  refine ⟨h.off, h.left, h.len, by simp [Dk.put, h.ck], ?_, ?_⟩
  · show bsAll D.bs (D.cache ++ [(b, List.replicate 64 f)]) = _
    have := h.all
    unfold bsAll at *
    rw [List.foldl_append, this]
    exact nowBs_set now hb
  · intro j
    show (if j = b then f else now j) < 256
    split
    · exact hf
    · exact h.n8 j
theorem K1.flush {D : Dk} {now : Nat → Nat} {k : Nat} (h : K1 D now k) : D.flush.2 = 0 ∧ D.flush.1.off = false ∧ D.flush.1.left = 0 ∧ D.flush.1.bs = nowBs now ∧ D.flush.1.cache = [] := by
  obtain ⟨-, -, k3, k4, -, -⟩ := D.allK_keep D.cache.length
  unfold Dk.flush
  rw [if_neg (by rw [h.off]; decide)]
  refine ⟨rfl, k3.trans h.off, k4.trans h.left, ?_, rfl⟩
  show (D.allK D.cache.length).bs = _
  rw [allK_bs D _ (Nat.le_refl _), List.take_length, h.all]

/-- What a block may be: each half uniform, of bytes that are allowed. -/
def Half (may : Nat → Nat → Bool) (j : Nat) (x : List Nat) : Prop := ∃ a c, x = List.replicate 32 a ++ List.replicate 32 c ∧ may j a = true ∧ may j c = true ∧ a < 256 ∧ c < 256
theorem half_uni {may : Nat → Nat → Bool} {j f : Nat} (h : may j f = true) (hf : f < 256) : Half may j (List.replicate 64 f) := ⟨f, f, by rw [List.replicate_append_replicate], h, h, hf, hf⟩
theorem half_fate {may : Nat → Nat → Bool} {j f : Nat} {old : List Nat} (n : Nat) (ho : Half may j old) (h : may j f = true) (hf : f < 256) : Half may j (fate n old (List.replicate 64 f)) := by
  obtain ⟨a, c, rfl, ha, hc, ha8, hc8⟩ := ho
  unfold fate
  split
  · exact ⟨a, c, rfl, ha, hc, ha8, hc8⟩
  · split
    · exact half_uni h hf
    · split
      · exact ⟨f, c, by simp [List.take_replicate], h, hc, hf, hc8⟩
      · exact ⟨a, f, by simp [List.drop_replicate], ha, h, ha8, hf⟩
theorem Half.mono {may may2 : Nat → Nat → Bool} {j : Nat} {x : List Nat} (h : Half may j x) (hm : ∀ f, may j f = true → may2 j f = true) : Half may2 j x := by
  obtain ⟨a, c, e, h1, h2, h3, h4⟩ := h
  exact ⟨a, c, e, hm a h1, hm c h2, h3, h4⟩

/-- While the law writes behind the flush. -/
structure K2 (D : Dk) (may : Nat → Nat → Bool) (k : Nat) : Prop where
  off : D.off = false
  left : D.left = 0
  len : D.bs.length = 16
  ck : D.cache.length = k
  old : ∀ j, j < 16 → Half may j (D.bs.getD j [])
  new : ∀ x ∈ D.cache, ∃ f, x.2 = List.replicate 64 f ∧ may x.1 f = true ∧ f < 256
def mayF (may : Nat → Nat → Bool) (b f : Nat) : Nat → Nat → Bool := fun j g => if j = b ∧ g = f then true else may j g
theorem mayF_le {may : Nat → Nat → Bool} {b f j g : Nat} (h : may j g = true) : mayF may b f j g = true := by unfold mayF; split <;> simp [h]
theorem K2.step {D : Dk} {may : Nat → Nat → Bool} {k b f : Nat} (h : K2 D may k) (hb : b < 16) (hf : f < 256) : K2 (D.put b (List.replicate 64 f)) (mayF may b f) (k + 1) := by
  refine ⟨h.off, h.left, h.len, by simp [Dk.put, h.ck], fun j hj => (h.old j hj).mono (fun g hg => mayF_le hg), ?_⟩
  intro x hx
  rcases List.mem_append.1 hx with hx | hx
  · obtain ⟨g, h1, h2, h3⟩ := h.new x hx
    exact ⟨g, h1, mayF_le h2, h3⟩
  · simp at hx; subst hx
    exact ⟨f, rfl, by simp [mayF], hf⟩
theorem K2.cutK {D : Dk} {may : Nat → Nat → Bool} {k : Nat} (h : K2 D may k) (hc : ∀ x ∈ D.cache, x.1 < 16) (s : List Nat) (m : Nat) (hm : m ≤ k) : ∀ j, j < 16 → Half may j ((D.cutK s m).bs.getD j []) := by
  induction m with
  | zero => exact h.old
  | succ m ih =>
    have ih := ih (by omega)
    obtain ⟨-, kl, -⟩ := D.cutK_keep s m
    obtain ⟨x, hx⟩ : ∃ x, D.cache[m]? = some x := ⟨_, List.getElem?_eq_getElem (by rw [h.ck]; omega)⟩
    obtain ⟨f, hf, hmf, hf8⟩ := h.new x (List.mem_of_getElem? hx)
    have hx16 := hc x (List.mem_of_getElem? hx)
    have e : D.cache.getD m (0, []) = x := by rw [List.getD_eq_getElem?_getD, hx]; rfl
    intro j hj
    show Half may j ((((D.cutK s m).fated _ (D.cache.getD m (0, []))).bs).getD j [])
    rw [e]
    simp only [Dk.fated]
    rw [List.getD_eq_getElem?_getD]
    by_cases ej : j = x.1
    · subst ej
      rw [List.getElem?_set_self (by rw [kl, h.len]; exact hj), hf]
      exact half_fate _ (ih _ hj) hmf hf8
    · rw [List.getElem?_set_ne (by omega), ← List.getD_eq_getElem?_getD]
      exact ih j hj
/-- Behind the cut. -/
theorem K2.cut {D : Dk} {may : Nat → Nat → Bool} {k : Nat} (h : K2 D may k) (hc : ∀ x ∈ D.cache, x.1 < 16) (s : List Nat) : (D.cut s).off = true ∧ (D.cut s).cache = [] ∧ (D.cut s).bs.length = 16 ∧ ∀ j, j < 16 → Half may j ((D.cut s).bs.getD j []) := by
  obtain ⟨-, kl, -⟩ := D.cutK_keep (scr s) D.cache.length
  unfold Dk.cut
  rw [if_neg (by rw [h.off]; decide)]
  exact ⟨rfl, rfl, kl.trans h.len, h.cutK hc (scr s) _ (by rw [h.ck]; exact Nat.le_refl _)⟩
theorem half_at {may : Nat → Nat → Bool} {j : Nat} {x : List Nat} (h : Half may j x) : ∃ a c, a < 256 ∧ c < 256 ∧ may j a = true ∧ may j c = true ∧ x.length = 64 ∧ ∀ k, k < 64 → x[k]? = some (if k < 32 then a else c) := by
  obtain ⟨a, c, rfl, h1, h2, h3, h4⟩ := h
  refine ⟨a, c, h3, h4, h1, h2, by simp, fun k hk => ?_⟩
  by_cases h : k < 32
  · rw [if_pos h, List.getElem?_append_left (by simpa using h), List.getElem?_replicate, if_pos h]
  · rw [if_neg h, List.getElem?_append_right (by simp; omega), List.length_replicate, List.getElem?_replicate, if_pos (by omega)]

end Go.Proofs.Ytabdahojgmbgdaa
