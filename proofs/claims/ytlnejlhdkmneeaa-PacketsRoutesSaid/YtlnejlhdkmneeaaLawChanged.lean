/- A header in which one byte is changed is refused. -/
import Derived.Test.YtlnejlhdkmneeaaWalkK
import Derived.Laws.BitsAllLaws
namespace Go.Proofs.Ytlnejlhdkmneeaa
open Go.RowKit

/-- The words' sum, without carries brought round. -/
def wsum (h : Nat → Nat) : Nat := h 0 * 256 + h 1 + (h 2 * 256 + h 3) + (h 4 * 256 + h 5) + (h 6 * 256 + h 7) + (h 8 * 256 + h 9) + (h 12 * 256 + h 13) + (h 14 * 256 + h 15) + (h 16 * 256 + h 17) + (h 18 * 256 + h 19)

theorem addw_mod (s w : Nat) : addw s w % 65535 = (s + w) % 65535 := by unfold addw; split <;> omega
theorem sumw_mod (h : Nat → Nat) : sumw (hwords h) % 65535 = wsum h % 65535 := by
  have e : hwords h = [hword h 0, hword h 1, hword h 2, hword h 3, hword h 4, hword h 5, hword h 6, hword h 7, hword h 8, hword h 9] := rfl
  have step : ∀ s w t : Nat, s % 65535 = t % 65535 → addw s w % 65535 = (t + w) % 65535 := fun s w t ht => by rw [addw_mod]; omega
  rw [e]
  unfold sumw
  simp only [List.foldl_cons, List.foldl_nil]
  have k0 := step 0 (hword h 0) 0 rfl
  have k1 := step _ (hword h 1) _ k0
  have k2 := step _ (hword h 2) _ k1
  have k3 := step _ (hword h 3) _ k2
  have k4 := step _ (hword h 4) _ k3
  have k5 := step _ (hword h 5) _ k4
  have k6 := step _ (hword h 6) _ k5
  have k7 := step _ (hword h 7) _ k6
  have k8 := step _ (hword h 8) _ k7
  have k9 := step _ (hword h 9) _ k8
  rw [k9]
  congr 1
  simp [hword, wsum]

theorem hwords_congr {h k : Nat → Nat} (e : ∀ j, j < 20 → j ≠ 10 → j ≠ 11 → h j = k j) : hwords h = hwords k := by
  unfold hwords
  apply List.map_congr_left
  intro i hi
  have hi' : i < 10 := by simpa using hi
  unfold hword
  split
  · rfl
  · rw [e (2 * i) (by omega) (by omega) (by omega), e (2 * i + 1) (by omega) (by omega) (by omega)]

def chg (h : Nat → Nat) (j y : Nat) (k : Nat) : Nat := if k = j then y else h k

theorem changed_sum {h : Nat → Nat} (h8 : ∀ k, h k ≤ 255) {j y : Nat} (hj : j < 20) (h10 : j ≠ 10) (h11 : j ≠ 11) (hy : y ≤ 255) (hne : y ≠ h j) : sumw (hwords (chg h j y)) ≠ sumw (hwords h) := by
  intro he
  have h1 := sumw_mod (chg h j y)
  have h2 := sumw_mod h
  rw [he, h2] at h1
  have hj8 := h8 j
  have hc : j = 0 ∨ j = 1 ∨ j = 2 ∨ j = 3 ∨ j = 4 ∨ j = 5 ∨ j = 6 ∨ j = 7 ∨ j = 8 ∨ j = 9 ∨ j = 12 ∨ j = 13 ∨ j = 14 ∨ j = 15 ∨ j = 16 ∨ j = 17 ∨ j = 18 ∨ j = 19 := by omega
  clear he h2 h8
  rcases hc with rfl | rfl | rfl | rfl | rfl | rfl | rfl | rfl | rfl | rfl | rfl | rfl | rfl | rfl | rfl | rfl | rfl | rfl <;> simp [wsum, chg] at h1 <;> omega

/-- The bytes of a packet, one of the header's changed: their checksum does not fit. -/
theorem changed_refused {p : Pkt} (hf : p.Fit) (hv : ¬ p.bad) {j y : Nat} (hj : j < 20) (hy : y ≤ 255) (hne : y ≠ hd p p.sum j) {bs : List Nat} (hbs : ∀ k, k < 20 → hof bs k = chg (hd p p.sum) j y k) :
    hof bs 10 * 256 + hof bs 11 ≠ 65535 - sumw (hwords (hof bs)) := by
  have hs := p.sum_le
  have e1 : hwords (hof bs) = hwords (chg (hd p p.sum) j y) := hwords_congr fun k hk _ _ => hbs k hk
  have e2 : hwords (hd p p.sum) = hwords (hd p 0) := hwords_congr fun k hk h1 h2 => by
    unfold hd
    split <;> first | rfl | (exfalso; omega)
  have e3 : p.sum = 65535 - sumw (hwords (hd p p.sum)) := by rw [e2]; rfl
  have h8 := hd_le hf hv hs
  have l1 := sumw_le (hw16 h8)
  have h8c : ∀ k, chg (hd p p.sum) j y k ≤ 255 := fun k => by unfold chg; split; exact hy; exact h8 k
  have l2 := sumw_le (hw16 h8c)
  rw [e1, hbs 10 (by omega), hbs 11 (by omega)]
  have d10 : hd p p.sum 10 = p.sum / 256 := rfl
  have d11 : hd p p.sum 11 = p.sum % 256 := rfl
  by_cases h10 : j = 10
  · have e4 : hwords (chg (hd p p.sum) j y) = hwords (hd p p.sum) := hwords_congr fun k _ h1 h2 => by unfold chg; rw [if_neg (by omega)]
    rw [e4, ← e3]
    subst h10
    simp only [chg, if_pos, d11, if_neg (show ¬ (11 = 10) by decide)]
    rw [d10] at hne
    omega
  by_cases h11 : j = 11
  · have e4 : hwords (chg (hd p p.sum) j y) = hwords (hd p p.sum) := hwords_congr fun k _ h1 h2 => by unfold chg; rw [if_neg (by omega)]
    rw [e4, ← e3]
    subst h11
    simp only [chg, if_pos, d10, if_neg (show ¬ (10 = 11) by decide)]
    rw [d11] at hne
    omega
  · have hd' := changed_sum h8 hj h10 h11 hy hne
    have c10 : chg (hd p p.sum) j y 10 = p.sum / 256 := by unfold chg; rw [if_neg (by omega)]; exact d10
    have c11 : chg (hd p p.sum) j y 11 = p.sum % 256 := by unfold chg; rw [if_neg (by omega)]; exact d11
    rw [c10, c11]
    omega

theorem Pkt.bytes_len (p : Pkt) : p.bytes.length = 20 + p.data.length := by simp [Pkt.bytes]
theorem Pkt.bytes_at (p : Pkt) {k : Nat} (hk : k < 20) : p.bytes[k]? = some (hd p p.sum k) := by
  unfold Pkt.bytes
  rw [List.getElem?_append_left (by simp; omega), List.getElem?_map, List.getElem?_range hk]
  rfl
theorem hof_set (p : Pkt) (j y : Nat) {k : Nat} (hk : k < 20) : hof (p.bytes.set j y) k = chg (hd p p.sum) j y k := by
  unfold hof chg
  rw [List.getD_eq_getElem?_getD, List.getElem?_set]
  by_cases h : j = k
  · subst h
    rw [if_pos rfl, if_pos rfl, if_pos (by rw [p.bytes_len]; omega)]
    rfl
  · rw [if_neg h, if_neg (Ne.symm h), p.bytes_at hk]
    rfl
theorem Pkt.bytes_le {p : Pkt} (hf : p.Fit) (hv : ¬ p.bad) : ∀ x ∈ p.bytes, x ≤ 255 := by
  intro x hx
  unfold Pkt.bytes at hx
  rcases List.mem_append.1 hx with h | h
  · obtain ⟨k, _, rfl⟩ := List.mem_map.1 h
    exact hd_le hf hv p.sum_le k
  · exact hf.bytes x h

end Go.Proofs.Ytlnejlhdkmneeaa
