/- The reassembly: a collection that has grown. -/
import Derived.Test.YtlnejlhdkmneeaaAddG2
namespace Go.Proofs.Ytlnejlhdkmneeaa
open Go.RowKit

def putK (l : List PC) (p : Pkt) (x' : PC) : List PC := l.map fun y => if keyB y.2.h p then x' else y
theorem putK_map (l : List PC) (p : Pkt) (x' : PC) : (putK l p x').map (·.2) = (l.map (·.2)).map (fun c => if keyB c.h p then x'.2 else c) := by
  unfold putK
  rw [List.map_map, List.map_map]
  refine List.map_congr_left fun y _ => ?_
  simp only [Function.comp]
  split <;> rfl
theorem fL_map : ∀ {l : List PC} {g : PC → PC}, (∀ y ∈ l, (g y).1.e = y.1.e ∧ (g y).2.h = y.2.h) → fL (l.map g) = fL l
  | [], _, _ => rfl
  | x :: r, g, h => by
    funext j
    rw [List.map_cons]
    simp only [fL]
    rw [(h x (by simp)).1, (h x (by simp)).2, fL_map (fun y hy => h y (by simp [hy]))]
theorem stepC_fit {c : Col} {p : Pkt} (h : ColFit c) (hv : p.valid = 0) (hn : c.cnt ≠ 64) : ColFit (stepC c p) := by
  have hbd : ¬ p.bad := fun hb => by rw [Pkt.valid_bad hb] at hv; cases hv
  unfold Pkt.bad at hbd
  have h1 := h.d
  have h2 := h.n
  refine ⟨h.h, ?_, ?_, h.b⟩
  · show (wrC c p p.data).1.length ≤ 65535
    unfold wrC
    rw [(wrB_len _ _ _ _).1, padN_len]
    unfold endP
    omega
  · show c.cnt + 1 ≤ 64
    omega
theorem AddS.rz {base r b M : Nat} {w w' : World} {num last : Int} {l : List PC} {x : PC} {p : Pkt} {e : Ending} (h : RzAt base r b M w num last l) (hf : PFit p) (hx : x ∈ l) (hk : kl x.2.h = kl p) (hv : p.valid = 0) (hn : x.2.cnt ≠ 64)
    (hs : AddS base x.1 (stepC x.2 p) w e w') : ∃ (v : Value) (z' : CPlace), e = .returned v ∧ z'.e = x.1.e ∧ (z', stepC x.2 p) ∈ putK l p (z', stepC x.2 p) ∧ RzAt base r b M w' num last (putK l p (z', stepC x.2 p)) ∧ Only (foot x.1) w w' ∧ ∀ k ∈ foot z', k ∈ foot x.1 ∨ w.heap.size ≤ k := by
  obtain ⟨v, vd, vh, rfl, hc, ho, hd, hh⟩ := hs
  have hfoot : ∀ k, k ∈ foot { x.1 with vd := vd, vh := vh } → k ∈ foot x.1 ∨ w.heap.size ≤ k := by
    intro k hk
    rcases mem_foot.1 hk with h1 | h1 | h1
    · exact .inl (mem_foot.2 (.inl h1))
    · rcases hd with h2 | h2
      · exact .inl (mem_foot.2 (.inr (.inl (h2 ▸ h1))))
      · exact .inr (h2 k h1)
    · rcases hh with h2 | h2
      · exact .inl (mem_foot.2 (.inr (.inr (h2 ▸ h1))))
      · exact .inr (h2 k h1)
  have hg : ∀ y ∈ l, keyB y.2.h p = true → y = x := fun y hy hb => keys_eq h.keys hy hx (((keyB_iff (h.fit y hy).h hf).1 hb).trans hk.symm)
  have hxb : keyB x.2.h p = true := (keyB_iff (h.fit x hx).h hf).2 hk
  have hsame : ∀ y ∈ l, (if keyB y.2.h p then (({ x.1 with vd := vd, vh := vh }, stepC x.2 p) : PC) else y).1.e = y.1.e ∧ (if keyB y.2.h p then (({ x.1 with vd := vd, vh := vh }, stepC x.2 p) : PC) else y).2.h = y.2.h ∧ (if keyB y.2.h p then (({ x.1 with vd := vd, vh := vh }, stepC x.2 p) : PC) else y).1.num = y.1.num := by
    intro y hy
    split
    · rename_i hb
      rw [hg y hy hb]
      exact ⟨rfl, rfl, rfl⟩
    · exact ⟨rfl, rfl, rfl⟩
  have hin : ∀ y ∈ l, y ≠ x → ∀ k ∈ foot y.1, k ∉ foot x.1 := by
    intro y hy hne k hk1 hk2
    have := h.apart
    rcases List.pairwise_iff_getElem.1 this, List.getElem_of_mem hy, List.getElem_of_mem hx with ⟨hp, ⟨i, hi, rfl⟩, ⟨j, hj, rfl⟩⟩
    rcases Nat.lt_trichotomy i j with h1 | h1 | h1
    · exact hp i j hi hj h1 k hk1 hk2
    · subst h1; exact hne rfl
    · exact hp j i hj hi h1 k hk2 hk1
  refine ⟨v, { x.1 with vd := vd, vh := vh }, rfl, rfl, List.mem_map.2 ⟨x, hx, by rw [if_pos hxb]⟩, ⟨?_, ?_, ?_, ?_, ?_, ?_, ?_, ?_, h.rb, h.bb⟩, ho, hfoot⟩
  · exact ho.blk h.me (fun hm => (h.far hx (show r ∈ foot x.1 from hm)).1 rfl)
  · have hm := h.mp.onlyS ho (fun hm => (h.far hx (show b ∈ foot x.1 from hm)).2 rfl)
    unfold putK
    rw [List.length_map, fL_map (fun y hy => ⟨(hsame y hy).1, (hsame y hy).2.1⟩)]
    exact hm
  · intro y hy
    obtain ⟨z, hz, rfl⟩ := List.mem_map.1 hy
    by_cases hb : keyB z.2.h p = true
    · simp only [if_pos hb]; exact hc
    · simp only [if_neg hb]
      exact (h.cols z hz).only ho (hin z hz (fun e => hb (e ▸ hxb)))
  · unfold putK
    rw [List.pairwise_map]
    refine List.Pairwise.imp_of_mem ?_ h.apart
    intro y z hy hz hr k hk hk2
    by_cases h1 : keyB y.2.h p = true
    · by_cases h2 : keyB z.2.h p = true
      · obtain rfl := hg y hy h1
        obtain rfl := hg z hz h2
        exact hr _ (mem_foot.2 (.inl rfl)) (mem_foot.2 (.inl rfl))
      · rw [if_pos h1] at hk
        rw [if_neg h2] at hk2
        rcases hfoot k hk with h3 | h3
        · exact hin z hz (fun e => h2 (e ▸ hxb)) k hk2 h3
        · have := (h.cols z hz).lt hk2; omega
    · rw [if_neg h1] at hk
      by_cases h2 : keyB z.2.h p = true
      · rw [if_pos h2] at hk2
        rcases hfoot k hk2 with h3 | h3
        · exact hin y hy (fun e => h1 (e ▸ hxb)) k hk h3
        · have := (h.cols y hy).lt hk; omega
      · rw [if_neg h2] at hk2
        exact hr k hk hk2
  · unfold putK
    rw [List.pairwise_map]
    exact List.Pairwise.imp_of_mem (fun hy hz hr => by rw [(hsame _ hy).2.1, (hsame _ hz).2.1]; exact hr) h.keys
  · unfold putK
    rw [List.pairwise_map]
    exact List.Pairwise.imp_of_mem (fun hy hz hr => by rw [(hsame _ hy).2.2, (hsame _ hz).2.2]; exact hr) h.nums
  · intro y hy
    obtain ⟨z, hz, rfl⟩ := List.mem_map.1 hy
    rw [(hsame z hz).2.2]
    exact h.top z hz
  · intro y hy
    obtain ⟨z, hz, rfl⟩ := List.mem_map.1 hy
    by_cases hb : keyB z.2.h p = true
    · simp only [if_pos hb]; exact stepC_fit (h.fit x hx) hv hn
    · simp only [if_neg hb]; exact h.fit z hz

end Go.Proofs.Ytlnejlhdkmneeaa
