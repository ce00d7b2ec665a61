/- PacketsTogether: the fragments of a packet make the packet, in plain words. -/
import Derived.Test.YtlnejlhdkmneeaaAddG3
namespace Go.Proofs.Ytlnejlhdkmneeaa
open Go.RowKit

theorem getD_set {α : Type} (l : List α) (o x : Nat) (a d : α) (ho : o < l.length) : (l.set o a).getD x d = if x = o then a else l.getD x d := by
  rw [List.getD_eq_getElem?_getD, List.getD_eq_getElem?_getD, List.getElem?_set]
  by_cases h : o = x
  · subst h; simp [ho]
  · rw [if_neg h, if_neg (fun e => h e.symm)]
/-- Which bytes are there behind the writing. -/
theorem wrB_hv : ∀ (bs : List Nat) (d : List Nat) (h : List Bool) (o : Nat), o + bs.length ≤ h.length → ∀ x, (wrB d h o bs).2.getD x false = (h.getD x false || decide (o ≤ x ∧ x < o + bs.length))
  | [], d, h, o, _, x => by
    simp only [wrB, List.length_nil, Nat.add_zero]
    rw [decide_eq_false (by omega), Bool.or_false]
  | b :: r, d, h, o, hl, x => by
    simp only [List.length_cons] at hl
    simp only [wrB, List.length_cons]
    split
    · rename_i ho
      rw [wrB_hv r d h (o + 1) (by omega)]
      by_cases hx : x = o
      · subst hx; rw [ho]; simp
      · congr 1
        exact decide_eq_decide.2 (by omega)
    · rw [wrB_hv r _ _ (o + 1) (by rw [List.length_set]; omega), getD_set _ _ _ _ _ (by omega)]
      by_cases hx : x = o
      · subst hx; simp
      · rw [if_neg hx]
        congr 1
        exact decide_eq_decide.2 (by omega)
/-- The bytes behind the writing: what came first stays. -/
theorem wrB_data : ∀ (bs : List Nat) (d : List Nat) (h : List Bool) (o : Nat), o + bs.length ≤ d.length → d.length = h.length → ∀ x, (wrB d h o bs).1[x]? = if h.getD x false = false ∧ o ≤ x ∧ x < o + bs.length then bs[x - o]? else d[x]?
  | [], d, h, o, _, _, x => by
    simp only [wrB, List.length_nil, Nat.add_zero]
    rw [if_neg (by omega)]
  | b :: r, d, h, o, hl, he, x => by
    simp only [List.length_cons] at hl
    simp only [wrB, List.length_cons]
    split
    · rename_i ho
      rw [wrB_data r d h (o + 1) (by omega) he]
      by_cases hx : x = o
      · subst hx; rw [if_neg (by omega), if_neg (by rw [ho]; rintro ⟨h1, -⟩; cases h1)]
      · by_cases hc : h.getD x false = false ∧ o ≤ x ∧ x < o + (r.length + 1)
        · rw [if_pos hc, if_pos ⟨hc.1, by omega, by omega⟩, show x - o = (x - (o + 1)) + 1 by omega, List.getElem?_cons_succ]
        · rw [if_neg hc, if_neg (fun h2 => hc ⟨h2.1, by omega, by omega⟩)]
    · rename_i ho
      rw [wrB_data r _ _ (o + 1) (by rw [List.length_set]; omega) (by simp [he]), getD_set _ _ _ _ _ (by omega), List.getElem?_set]
      by_cases hx : x = o
      · subst hx
        rw [if_neg (by omega), if_pos rfl, if_pos (by omega), if_pos ⟨by simpa using ho, by omega, by omega⟩]
        simp
      · simp only [if_neg hx, if_neg (fun e : o = x => hx e.symm)]
        by_cases hc : h.getD x false = false ∧ o ≤ x ∧ x < o + (r.length + 1)
        · rw [if_pos hc, if_pos ⟨hc.1, by omega, by omega⟩, show x - o = (x - (o + 1)) + 1 by omega, List.getElem?_cons_succ]
        · rw [if_neg hc, if_neg (fun h2 => hc ⟨h2.1, by omega, by omega⟩)]
theorem padB_getD (n : Nat) (h : List Bool) (x : Nat) : (padB n h).getD x false = h.getD x false := by
  unfold padB
  rw [List.getD_eq_getElem?_getD, List.getD_eq_getElem?_getD, List.getElem?_append]
  split
  · rfl
  · rename_i hx
    rw [List.getElem?_eq_none (show h.length ≤ x by omega), List.getElem?_replicate]
    split <;> rfl
theorem padN_get (n : Nat) (d : List Nat) (x : Nat) (hx : x < d.length) : (padN n d)[x]? = d[x]? := by
  unfold padN
  rw [List.getElem?_append_left hx]

/-- Behind the byte d of a packet of D bytes, cut at s 0 = 0 < s 1 < .. < s N = D. -/
structure Cuts (s : Nat → Nat) (N D : Nat) : Prop where
  z : s 0 = 0
  lt : ∀ i, i < N → s i < s (i + 1)
  top : s N = D
theorem Cuts.mono {s : Nat → Nat} {N D : Nat} (h : Cuts s N D) : ∀ (i j : Nat), i ≤ j → j ≤ N → s i ≤ s j := by
  intro i j
  induction j with
  | zero => intro hij _; rw [show i = 0 by omega]; exact Nat.le_refl _
  | succ m ih =>
    intro hij hN
    by_cases e : i = m + 1
    · rw [e]; exact Nat.le_refl _
    · have h1 := ih (by omega) (by omega)
      have h2 := h.lt m (by omega)
      omega
theorem Cuts.le {s : Nat → Nat} {N D : Nat} (h : Cuts s N D) {i : Nat} (hi : i ≤ N) : s i ≤ D := by rw [← h.top]; exact h.mono i N hi (Nat.le_refl _)
/-- Every byte lies in a piece. -/
theorem Cuts.at {s : Nat → Nat} {N D : Nat} (h : Cuts s N D) : ∀ (x : Nat), x < D → ∃ i, i < N ∧ s i ≤ x ∧ x < s (i + 1) := by
  intro x hx
  have key : ∀ n, n ≤ N → x < s n → ∃ i, i < n ∧ s i ≤ x ∧ x < s (i + 1) := by
    intro n
    induction n with
    | zero => intro _ h0; rw [h.z] at h0; omega
    | succ n ih =>
      intro hn h1
      rcases Nat.lt_or_ge x (s n) with h2 | h2
      · obtain ⟨i, h3, h4⟩ := ih (by omega) h2
        exact ⟨i, by omega, h4⟩
      · exact ⟨n, by omega, h2, h1⟩
  exact key N (Nat.le_refl _) (by rw [h.top]; exact hx)
/-- A byte lies in one piece alone. -/
theorem Cuts.one {s : Nat → Nat} {N D : Nat} (h : Cuts s N D) {i j x : Nat} (hi : i < N) (hj : j < N) (h1 : s i ≤ x ∧ x < s (i + 1)) (h2 : s j ≤ x ∧ x < s (j + 1)) : i = j := by
  rcases Nat.lt_trichotomy i j with h3 | h3 | h3
  · have := h.mono (i + 1) j h3 (by omega); omega
  · exact h3
  · have := h.mono (j + 1) i h3 (by omega); omega

/-- Fragment i of packet p. -/
structure FragP (p : Pkt) (s : Nat → Nat) (N i : Nat) (f : Pkt) : Prop where
  src : f.src = p.src
  dst : f.dst = p.dst
  proto : f.proto = p.proto
  ttl : f.ttl = p.ttl
  id : f.id = p.id
  off : f.off = (s i : Nat)
  more : f.more = decide (i + 1 < N)
  data : f.data = (p.data.drop (s i)).take (s (i + 1) - s i)
  ok : f.valid = 0
section
variable {p f : Pkt} {s : Nat → Nat} {N D i : Nat}
theorem FragP.len (h : FragP p s N i f) (hc : Cuts s N D) (hD : p.data.length = D) (hi : i < N) : f.data.length = s (i + 1) - s i := by
  have h1 := hc.le (i := i + 1) hi
  have h2 := hc.lt i hi
  rw [h.data, List.length_take, List.length_drop, hD]
  omega
theorem FragP.end_ (h : FragP p s N i f) (hc : Cuts s N D) (hD : p.data.length = D) (hi : i < N) : endP f = s (i + 1) := by
  have h2 := hc.lt i hi
  unfold endP
  rw [h.off, h.len hc hD hi]
  simp
  omega
theorem FragP.get (h : FragP p s N i f) (hc : Cuts s N D) (hi : i < N) (x : Nat) (hx : s i ≤ x ∧ x < s (i + 1)) : f.data[x - s i]? = p.data[x]? := by
  rw [h.data, List.getElem?_take, if_pos (by omega), List.getElem?_drop]
  congr 1
  omega
end

/-- What the reassembly holds behind the arrivals Q (not all yet). -/
structure TogC (p : Pkt) (s : Nat → Nat) (N D : Nat) (Q : List Nat) (c : Col) : Prop where
  src : c.h.src = p.src
  dst : c.h.dst = p.dst
  proto : c.h.proto = p.proto
  ttl : c.h.ttl = p.ttl
  id : c.h.id = p.id
  bg : c.bg = 0
  cnt : c.cnt = Q.length
  hl : c.hv.length = c.data.length
  dl : c.data.length ≤ D
  len : c.len = if (N - 1) ∈ Q then (D : Int) else -1
  full : (N - 1) ∈ Q → c.data.length = D
  hv : ∀ x, c.hv.getD x false = true ↔ ∃ i, i ∈ Q ∧ s i ≤ x ∧ x < s (i + 1)
  dat : ∀ x, c.hv.getD x false = true → c.data[x]? = p.data[x]?
section
variable {p f : Pkt} {s : Nat → Nat} {N D i : Nat} {Q : List Nat} {c : Col}
/-- A fragment more. -/
theorem TogC.step (h : TogC p s N D Q c) (hc : Cuts s N D) (hD : p.data.length = D) (hi : i < N) (hQ : ∀ j ∈ Q, j < N) (hf : FragP p s N i f) : TogC p s N D (i :: Q) (stepC c f) := by
  have hlen := hf.len hc hD hi
  have hend := hf.end_ hc hD hi
  have hlt := hc.lt i hi
  have hle := hc.le (i := i + 1) hi
  have ho : f.off.toNat = s i := by rw [hf.off]; simp
  have hpl : (padB (endP f) c.hv).length = max (s (i + 1)) c.data.length := by rw [padB_len, hend, h.hl]
  have hpn : (padN (endP f) c.data).length = max (s (i + 1)) c.data.length := by rw [padN_len, hend]
  have hdl2 : (stepC c f).data.length = max (s (i + 1)) c.data.length := by
    show (wrC c f f.data).1.length = _
    unfold wrC
    rw [(wrB_len _ _ _ _).1, hpn]
  have hhv : ∀ x, (stepC c f).hv.getD x false = (c.hv.getD x false || decide (s i ≤ x ∧ x < s (i + 1))) := by
    intro x
    show (wrC c f f.data).2.getD x false = _
    unfold wrC
    rw [wrB_hv _ _ _ _ (by rw [ho, hlen, hpl]; omega), padB_getD, ho, hlen]
    congr 1
    exact decide_eq_decide.2 (by omega)
  have hdl := h.dl
  refine ⟨h.src, h.dst, h.proto, h.ttl, h.id, h.bg, by rw [List.length_cons, ← h.cnt]; rfl, ?_, by rw [hdl2]; omega, ?_, ?_, ?_, ?_⟩
  · rw [hdl2]
    show (wrC c f f.data).2.length = _
    unfold wrC
    rw [(wrB_len _ _ _ _).2, hpl]
  · show (if f.more = false ∧ c.len < 0 then ((endP f : Nat) : Int) else c.len) = _
    rw [hf.more, h.len, hend]
    by_cases hN : i = N - 1
    · have h1 : s (i + 1) = D := by rw [← hc.top]; congr 1; omega
      rw [if_pos (show N - 1 ∈ i :: Q by rw [hN]; exact List.mem_cons_self ..), h1]
      by_cases hm : N - 1 ∈ Q
      · rw [if_pos hm]; split <;> rfl
      · rw [if_neg hm, if_pos ⟨decide_eq_false (by omega), by decide⟩]
    · rw [if_neg (by
        rintro ⟨h1, -⟩
        have := of_decide_eq_false h1
        omega)]
      have : (N - 1 ∈ i :: Q) ↔ N - 1 ∈ Q := by
        rw [List.mem_cons]
        exact ⟨fun h => h.resolve_left (fun e => hN e.symm), .inr⟩
      by_cases hm : N - 1 ∈ Q
      · rw [if_pos hm, if_pos (this.2 hm)]
      · rw [if_neg hm, if_neg (fun h => hm (this.1 h))]
  · intro hm
    rw [hdl2]
    rcases List.mem_cons.1 hm with h1 | h1
    · have h2 : s (i + 1) = D := by rw [← hc.top]; congr 1; omega
      rw [h2]
      omega
    · rw [h.full h1]
      omega
  · intro x
    rw [hhv, Bool.or_eq_true, h.hv, decide_eq_true_iff]
    constructor
    · rintro (⟨j, hj, h1⟩ | h1)
      · exact ⟨j, List.mem_cons_of_mem _ hj, h1⟩
      · exact ⟨i, List.mem_cons_self .., h1⟩
    · rintro ⟨j, hj, h1⟩
      rcases List.mem_cons.1 hj with rfl | h2
      · exact .inr h1
      · exact .inl ⟨j, h2, h1⟩
  · intro x hx
    rw [hhv] at hx
    show (wrC c f f.data).1[x]? = _
    unfold wrC
    rw [wrB_data _ _ _ _ (by rw [ho, hlen, hpn]; omega) (by rw [hpn, hpl]), padB_getD, ho, hlen]
    by_cases hc1 : c.hv.getD x false = true
    · rw [if_neg (by rw [hc1]; rintro ⟨h1, -⟩; cases h1)]
      rw [padN_get _ _ _ (by
        rcases Nat.lt_or_ge x c.data.length with h1 | h1
        · exact h1
        · rw [List.getD_eq_getElem?_getD, List.getElem?_eq_none (by rw [h.hl]; exact h1)] at hc1
          cases hc1)]
      exact h.dat x hc1
    · have hc2 : c.hv.getD x false = false := by simpa using hc1
      rw [hc2, Bool.false_or, decide_eq_true_iff] at hx
      rw [if_pos ⟨hc2, by omega, by omega⟩]
      exact hf.get hc hi x hx
/-- Whole exactly when all have come. -/
theorem TogC.done (h : TogC p s N D Q c) (hc : Cuts s N D) (hN : 0 < N) (hQ : ∀ j ∈ Q, j < N) : doneB c = true ↔ ∀ j, j < N → j ∈ Q := by
  unfold doneB
  rw [decide_eq_true_iff]
  constructor
  · rintro ⟨h1, h2, h3⟩
    have hm : N - 1 ∈ Q := by
      rcases Classical.em (N - 1 ∈ Q) with h4 | h4
      · exact h4
      · rw [h.len, if_neg h4] at h1; omega
    intro j hj
    have hlt := hc.lt j hj
    have hle := hc.le (i := j + 1) hj
    rw [h.len, if_pos hm] at h3
    have hx : c.hv.getD (s j) false = true := by
      have hll : s j < c.hv.length := by rw [h.hl, h.full hm]; omega
      rw [List.getD_eq_getElem?_getD, List.getElem?_eq_getElem hll]
      simp only [Option.getD_some]
      cases hb : c.hv[s j] with
      | true => rfl
      | false =>
        refine absurd ?_ h3
        exact List.mem_of_getElem? (i := s j) (by rw [List.getElem?_take, if_pos (by simp; omega), List.getElem?_eq_getElem hll, hb])
    obtain ⟨i, hi, h5⟩ := (h.hv _).1 hx
    have := hc.one (hQ i hi) hj h5 ⟨Nat.le_refl _, hlt⟩
    exact this ▸ hi
  · intro hall
    have hm := hall (N - 1) (by omega)
    rw [h.len, if_pos hm]
    refine ⟨by omega, by rw [h.full hm]; exact Int.le_refl _, fun hf => ?_⟩
    obtain ⟨x, hx, e⟩ := List.getElem_of_mem hf
    have hx2 : x < D := by rw [List.length_take] at hx; simp at hx; omega
    obtain ⟨i, hi, h1⟩ := hc.at x hx2
    have h2 := (h.hv x).2 ⟨i, hall i hi, h1⟩
    have hll : x < c.hv.length := by rw [h.hl, h.full hm]; exact hx2
    rw [List.getElem_take] at e
    rw [List.getD_eq_getElem?_getD, List.getElem?_eq_getElem hll] at h2
    simp only [Option.getD_some] at h2
    rw [h2] at e
    cases e
/-- And then it is the packet. -/
theorem TogC.whole (h : TogC p s N D Q c) (hc : Cuts s N D) (hD : p.data.length = D) (hN : 0 < N) (hQ : ∀ j ∈ Q, j < N) (hall : ∀ j, j < N → j ∈ Q) (h0 : p.off = 0) (hm0 : p.more = false) : ∀ A k, (wholeP c).at A k = p.at A k := by
  have hm := hall (N - 1) (by omega)
  have hd : c.data.take c.len.toNat = p.data := by
    rw [h.len, if_pos hm]
    apply List.ext_getElem?
    intro x
    rw [List.getElem?_take]
    split
    · rename_i hx
      have hx2 : x < D := by simpa using hx
      obtain ⟨i, hi, h1⟩ := hc.at x hx2
      exact h.dat x ((h.hv x).2 ⟨i, hall i hi, h1⟩)
    · rename_i hx
      rw [List.getElem?_eq_none]
      simp at hx
      omega
  intro A k
  unfold wholeP Pkt.at
  simp only
  rw [hd, h.src, h.dst, h.proto, h.ttl, h.id, h0, hm0]
end

end Go.Proofs.Ytlnejlhdkmneeaa
