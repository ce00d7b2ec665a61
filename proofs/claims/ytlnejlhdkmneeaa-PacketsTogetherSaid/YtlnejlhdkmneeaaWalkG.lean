/- slices.Chunk. -/
import Derived.Test.YtlnejlhdkmneeaaWalkF
namespace Go.Proofs.Ytlnejlhdkmneeaa
open Go.RowKit Go.Shelf

attribute [local go_sem] Oper.semAt_some

/-- A piece of a slice of len elements: where it begins, how long it is. -/
abbrev Piece (len : Nat) := { q : Nat × Nat // q.1 + q.2 ≤ len }
def pieceAt (len size k : Nat) : Piece len := ⟨(min (k * size) len, min size (len - k * size)), by simp only; omega⟩
def pieces (len size k : Nat) : List (Piece len) := (List.range k).map (pieceAt len size)
theorem pieces_succ (len size k : Nat) : pieces len size (k + 1) = pieces len size k ++ [pieceAt len size k] := by simp [pieces, List.range_succ]
theorem pieces_length (len size k : Nat) : (pieces len size k).length = k := by simp [pieces]

theorem chunk_ok (A : Option Addr) (n c size : Nat) (hs : 1 ≤ size) (w : World) : Calls Try.prog 65 #[.slice A n c, I64 size] w fun e w' =>
    e = .returned (.func (.func 96) #[] #[.pointer (some ⟨w.heap.size, 0, none⟩), .pointer (some ⟨w.heap.size + 1, 0, none⟩)]) ∧ w' = (w.alloc (.cells #[.slice A n c] 28)).alloc (.cells #[I64 size] 3) := by
  have h1 : ¬ ((size : Int) < 1) := by omega
  go_enter Try.func65, Try.ntmps65
  go_wp2
  go_ret
  exact ⟨rfl, rfl⟩

set_option maxRecDepth 100000 in
set_option maxHeartbeats 4000000 in
theorem chunk1_in (F : Fence) (n : Nat) (hF : F.fn 96) (hro : F.round = none) (hn : 1 ≤ n) (l Bs Bn b o len cap size N : Nat) (Kp : World → World → Prop) (kr : ∀ W, Kp W W) (kt : ∀ {A B C}, Kp A B → Kp B C → Kp A C) (kd : ∀ W n, Kp W (W.drewN n))
    (hb1 : ∀ {W W' v}, Kp W W' → W.cell? ⟨Bs, 0, none⟩ = some v → W'.cell? ⟨Bs, 0, none⟩ = some v) (hb2 : ∀ {W W' v}, Kp W W' → W.cell? ⟨Bn, 0, none⟩ = some v → W'.cell? ⟨Bn, 0, none⟩ = some v) (hs : 1 ≤ size) (hs2 : size ≤ 10000000) (hlen : len ≤ 10000000) (hcap : len ≤ cap) (hN : N * size < len + size ∧ len ≤ N * size)
    (J Jx : List (Piece len) → World → Prop) (hJ : ∀ pre w w', J pre w → w.grownBy w' none → J pre w')
    (hY : ∀ pre x W, J pre W → pre.length < N → YieldAt F (n - 1) Try.prog l #[.slice (some ⟨b, o + x.1.1, none⟩) x.1.2 x.1.2] W fun e W' =>
      (e = .returned (.bool true) ∧ J (pre ++ [x]) W' ∧ Kp W W') ∨ (e = .returned (.bool false) ∧ Jx (pre ++ [x]) W'))
    (W : World) (hc1 : W.cell? ⟨Bs, 0, none⟩ = some (.slice (some ⟨b, o, none⟩) len cap)) (hc2 : W.cell? ⟨Bn, 0, none⟩ = some (I64 size)) (h0 : J [] W) :
    CallsIn F n Try.prog 96 #[.func (.yield l) #[] #[], .pointer (some ⟨Bs, 0, none⟩), .pointer (some ⟨Bn, 0, none⟩)] W fun e W' => (∃ v, e = .returned v) ∧
      ((∃ ys, ys = pieces len size N ∧ J ys W') ∨ (∃ pre, True ∧ Jx pre W')) := by
  refine callsIn_of_wp Try.func96 rfl hF ?_ hro
  simp only [Try.ntmps96, List.size_toArray, List.length_cons, List.length_nil, Nat.reduceAdd, Nat.reduceSub, Array.replicate_succ, Array.replicate_zero, List.push_toArray, List.append_toArray, List.nil_append, List.cons_append]
  gi_wp2
  gi_loopw [4] (fun i wr => ∃ k j : Nat, k ≤ N ∧ Hid (j = k * size) ∧ j < len + size ∧ i = .int .i64 j ∧ J (pieces len size k) wr ∧ Kp W wr)
    (fun i _ => len + size - (intOf i).toNat)
  case atStart => exact ⟨0, 0, Nat.zero_le _, hide (by simp), by omega, rfl, h0, kr _⟩
  case round =>
    obtain ⟨k, j, hk, hj, hjl, rfl, hJs, hnx⟩ := hrel
    have c1 := hb1 hnx hc1
    have c2 := hb2 hnx hc2
    by_cases hlt : j < len
    · have hji : (j : Int) < (len : Int) := by omega
      have hjle : j ≤ len := by omega
      have hjc : ¬ cap = j := by omega
      gi_wp2
      refine wpIn_region_quiet_lit hro (by kernel_rfl) (by kernel_rfl) ?_
      repeat (quiet_step_in (fail))
      refine wpQuietIn_nil ?_
      rintro _ ⟨nq, rfl⟩
      have hE : (if len - j < size then ((len - j : Nat) : Int) else (size : Int)) = ((min size (len - j) : Nat) : Int) := by split <;> omega
      rw [hE]
      obtain ⟨E, hEE⟩ : ∃ E, E = min size (len - j) := ⟨_, rfl⟩
      rw [← hEE]
      have hg : wr.grownBy (wr.drewN nq) none := ⟨rfl, rfl, rfl, Nat.le_refl _, fun _ _ _ => rfl⟩
      have hJ2 := hJ _ _ _ hJs hg
      have hn2 : Kp W (wr.drewN nq) := kt hnx (kd _ _)
      have hkN : k < N := by
        rcases Nat.lt_or_ge k N with h | h
        · exact h
        · have := Nat.mul_le_mul_right size h
          have := hj.out
          omega
      have hYk := hY _ (pieceAt len size k) (wr.drewN nq) hJ2 (by rw [pieces_length]; exact hkN)
      have p1 : (pieceAt len size k).1.1 = j := by have := hj.out; show min (k * size) len = j; omega
      have p2 : (pieceAt len size k).1.2 = E := by have := hj.out; show min size (len - k * size) = E; rw [hEE, this]
      rw [p1, p2, ← pieces_succ] at hYk
      obtain ⟨fn, tmps, assign, body, hy, hR⟩ := hYk
      have HEE := hide hEE
      have hE1 : 1 ≤ E := by omega
      have hE2 : E ≤ len - j := by omega
      have hE3 : E ≤ size := by omega
      clear hE hEE hg hJ2 hJs hnx p1 p2 hc1 hc2 hY
      have i1 : (j : Int) ≤ (j : Int) + (E : Int) := by omega
      have i2 : (j : Int) + (E : Int) ≤ (cap : Int) := by omega
      have i3 : ((j : Int) + (E : Int)).toNat = j + E := by omega
      have i4 : ¬ j + E = j := by omega
      have i5 : j + E - j = E := by omega
      gi_wp2
      refine hR.mono ?_
      rintro e W3 (⟨rfl, hJ3, hk3⟩ | ⟨rfl, hJx3⟩)
      · have c3 : W3.cell? ⟨Bn, 0, none⟩ = some (I64 size) := hb2 hk3 c2
        have HJ3 := hide hJ3
        clear hJ3
        gi_wp2
        go_roundw
        case rel => exact ⟨k + 1, j + size, by omega, hide (by rw [hj.out, Nat.add_mul, Nat.one_mul]), by omega, by go_num, HJ3.out, kt hn2 hk3⟩
        case measure => simp [intOf]; omega
      · gi_wp2
        refine bodyPost_ret (results_none rfl _ _ _) rfl ?_
        exact ⟨⟨_, rfl⟩, .inr ⟨_, trivial, hJx3⟩⟩
    · have hkN : k = N := by
        rcases Nat.lt_or_ge k N with h | h
        · exfalso
          have h1 := Nat.mul_le_mul_right size h
          have h2 := hj.out
          rw [Nat.succ_mul] at h1
          omega
        · omega
      subst hkN
      have hji : ¬ (j : Int) < (len : Int) := by omega
      gi_wp2
      go_end0
      first | exact ⟨⟨_, rfl⟩, .inl ⟨_, rfl, hJs⟩⟩ | exact ⟨⟨_, rfl⟩, .inl hJs⟩

end Go.Proofs.Ytlnejlhdkmneeaa
