/- slices.Backward over the cache. -/
import Derived.Test.YtabdahojgmbgdaaWalkC
import Derived.Test.YtabdahojgmbgdaaBigIn
namespace Go.Proofs.Ytabdahojgmbgdaa
open Go.RowKit Go.Shelf

attribute [local go_sem] Oper.semAt_some

def wAt (l : List WB) (i : Fin l.length) : WB := l[i.1]'i.2
/-- The first k places, from behind. -/
def bw (l : List WB) (k : Nat) : List (Fin l.length) := (List.finRange l.length).reverse.take k
theorem bw_length (l : List WB) {k : Nat} (h : k ≤ l.length) : (bw l k).length = k := by simp [bw]; omega
theorem bw_succ (l : List WB) {k i : Nat} (h : i + k + 1 = l.length) : bw l (k + 1) = bw l k ++ [⟨i, by omega⟩] := by
  unfold bw
  rw [List.take_add_one]
  congr 1
  rw [List.getElem?_reverse (by simp; omega)]
  have e : (List.finRange l.length).length - 1 - k = i := by simp; omega
  rw [e]
  simp [List.getElem?_eq_getElem (l := List.finRange l.length) (i := i) (by simp; omega)]
theorem bw_map (l : List WB) (k : Nat) : (bw l k).map (wAt l) = l.reverse.take k := by
  unfold bw
  rw [List.map_take, List.map_reverse]
  congr 2
  apply List.ext_getElem?
  intro j
  by_cases hj : j < l.length
  · simp [hj, wAt]
  · rw [List.getElem?_eq_none (by simp; omega), List.getElem?_eq_none (by omega)]

theorem backward_ok (A : Option Addr) (n c : Nat) (w : World) : Calls Try.prog 51 #[.slice A n c] w fun e w' =>
    e = .returned (.func (.func 90) #[] #[.pointer (some ⟨w.heap.size, 0, none⟩)]) ∧ w' = w.alloc (.cells #[.slice A n c] 107) := by
  go_enter Try.func51, Try.ntmps51
  go_wp2
  go_ret
  exact ⟨rfl, rfl⟩

set_option maxRecDepth 100000 in
set_option maxHeartbeats 4000000 in
theorem back1_in (F : Fence) (n : Nat) (hF : F.fn 90) (hro : F.round = none) (hn : 1 ≤ n) (lp Bs n₀ : Nat) (l : List WB) (h64 : ∀ x ∈ l, x.2.length = 64) (hl : l.length ≤ 4096)
    (A : Option Addr) (cap g o : Nat) (hA : 0 < l.length → A = some ⟨g, o, none⟩) (hg : g < n₀) (hb : Bs < n₀)
    (J Jx : List (Fin l.length) → World → Prop) (hJ : ∀ pre w w', J pre w → w.grownBy w' none → J pre w')
    (hY : ∀ pre x W, J pre W → pre.length < l.length → YieldAt F (n - 1) Try.prog lp #[I64 (x.1 : Nat), .agg (wcell (wAt l x)).toArray] W fun e W' =>
      (e = .returned (.bool true) ∧ J (pre ++ [x]) W' ∧ Below n₀ W W') ∨ (e = .returned (.bool false) ∧ Jx (pre ++ [x]) W'))
    (W : World) (hc : W.cell? ⟨Bs, 0, none⟩ = some (.slice A l.length cap)) (hcell : ∀ k x j v, l[k]? = some x → (wcell x)[j]? = some v → W.cell? ⟨g, o + k * 65 + j, none⟩ = some v) (h0 : J [] W) :
    CallsIn F n Try.prog 90 #[.func (.yield lp) #[] #[], .pointer (some ⟨Bs, 0, none⟩)] W fun e W' => (∃ v, e = .returned v) ∧
      ((∃ ys, ys.map (wAt l) = l.reverse ∧ J ys W') ∨ (∃ pre, pre.map (wAt l) <+: l.reverse ∧ Jx pre W')) := by
  obtain ⟨N, hN⟩ : ∃ N, N = l.length := ⟨_, rfl⟩
  have HC : Hid (W.cell? ⟨Bs, 0, none⟩ = some (.slice A N cap)) := hide (by rw [hN]; exact hc)
  have c0 := HC.out
  have HN := hide hN
  have hN4 : N ≤ 4096 := by omega
  clear hN hc
  refine callsIn_of_wp Try.func90 rfl hF ?_ hro
  simp only [Try.ntmps90, List.size_toArray, List.length_cons, List.length_nil, Nat.reduceAdd, Nat.reduceSub, Array.replicate_succ, Array.replicate_zero, List.push_toArray, List.append_toArray, List.nil_append, List.cons_append]
  gi_wp2
  gi_loopw [3] (fun i wr => ∃ (k : Nat) (q : Int), k ≤ N ∧ Hid (q + k + 1 = N) ∧ -1 ≤ q ∧ q < N ∧ i = I64 q ∧ J (bw l k) wr ∧ Below n₀ W wr)
    (fun i _ => (intOf i + 1).toNat)
  case atStart => exact ⟨0, (N : Int) - 1, Nat.zero_le _, hide (by omega), by omega, by omega, by rfl, by rw [show bw l 0 = [] from rfl]; exact h0, Below.refl _ _⟩
  case round =>
    obtain ⟨k, q, hk, hq, hq1, hq2, rfl, hJs, hnx⟩ := hrel
    by_cases hq0 : 0 ≤ q
    · obtain ⟨i, rfl⟩ := Int.eq_ofNat_of_zero_le hq0
      have hiN : i < N := by omega
      have hik : i + k + 1 = l.length := by have := hq.out; have := HN.out; omega
      have c1 : wr.cell? ⟨Bs, 0, none⟩ = some (.slice A N cap) := (hnx.cell (p := ⟨Bs, 0, none⟩) hb).trans HC.out
      obtain rfl := hA (by have := HN.out; omega)
      have hil : i < l.length := by omega
      have hx : l[i]? = some (wAt l ⟨i, hil⟩) := List.getElem?_eq_getElem hil
      have hlen : (wcell (wAt l ⟨i, hil⟩)).length = 65 := wcell_len (h64 _ (List.mem_of_getElem? hx))
      have hYk := hY _ ⟨i, hil⟩ wr hJs (by rw [bw_length _ (by omega)]; omega)
      rw [← bw_succ l hik] at hYk
      dsimp only at hYk
      have HX : Hid (∀ j v, (wcell (wAt l ⟨i, hil⟩))[j]? = some v → wr.cell? ⟨g, o + i * 65 + j, none⟩ = some v) := hide (fun j v hv => (hnx.cell (p := ⟨g, o + i * 65 + j, none⟩) hg).trans (hcell i _ j v hx hv))
      obtain ⟨cx, hcx⟩ : ∃ cx, cx = wcell (wAt l ⟨i, hil⟩) := ⟨_, rfl⟩
      rw [← hcx] at hYk HX hlen
      have HL := hide hlen
      obtain ⟨fn, tmps, assign, body, hy, hR⟩ := hYk
      have HJ := hide (And.intro hJs hnx)
      have HIK := hide hik
      clear hx hlen hcx hJs hnx hik hY hA h64 c0
      gi_wp2_with (refine wpListIn_load_cells rfl wrT (.tmp 15) rfl g (o + i * 65) rfl cx (d := _) HX.out Try.underlying114 rfl (by rw [HL.out]; kernel_rfl) ?_)
      refine hR.mono ?_
      rintro e W3 (⟨rfl, hJ3, hk3⟩ | ⟨rfl, hJx3⟩)
      · have HJ3 := hide hJ3
        clear hJ3
        gi_wp2
        go_roundw
        case rel => exact ⟨k + 1, (i : Int) - 1, by have := HIK.out; have := HN.out; omega, hide (by have := HIK.out; have := HN.out; omega), by omega, by omega, by go_num, HJ3.out, HJ.out.2.trans hk3⟩
        case measure => simp [intOf]
      · gi_wp2
        refine bodyPost_ret (results_none rfl _ _ _) rfl ?_
        exact ⟨⟨_, rfl⟩, .inr ⟨_, by rw [bw_map]; exact List.take_prefix _ _, hJx3⟩⟩
    · have hq3 : q < 0 := by omega
      have hkN : k = l.length := by have := hq.out; have := HN.out; omega
      have HJ := hide hJs
      clear hJs hY hA
      gi_wp2
      go_end0
      refine ⟨⟨_, rfl⟩, .inl ⟨bw l k, ?_, HJ.out⟩⟩
      rw [bw_map, hkN, ← List.length_reverse, List.take_length]

end Go.Proofs.Ytabdahojgmbgdaa
