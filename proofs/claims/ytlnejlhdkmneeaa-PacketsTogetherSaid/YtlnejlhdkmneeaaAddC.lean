/- A collection of fragments: whether it is whole. -/
import Derived.Test.YtlnejlhdkmneeaaAddB
import Derived.Test.YtlnejlhdkmneeaaResF2
namespace Go.Proofs.Ytlnejlhdkmneeaa
open Go.RowKit

def BoolsIn (w : World) (A : Option Addr) (l : List Bool) : Prop := ∀ (k : Nat) (b : Bool), l[k]? = some b → ∃ g o, A = some ⟨g, o, none⟩ ∧ w.cell? ⟨g, o + k, none⟩ = some (.bool b)
theorem BoolsIn.only {w w' : World} {A : Option Addr} {l : List Bool} (h : BoolsIn w A l) (ho : Only [] w w') : BoolsIn w' A l := by
  intro k b hb
  obtain ⟨g, o, e, hc⟩ := h k b hb
  exact ⟨g, o, e, by rw [← hc]; exact World.cell?_of_block (ho.block g (World.block_lt_of_cell? _ _ hc) (by simp))⟩
theorem BoolsIn.of_off {w : World} {base n c : Nat} {A : Option Addr} {l : List Bool} (h : offRow w base boolT 1 (.slice A n c) n (l.map Value.bool)) : BoolsIn w A l := by
  intro k b hb
  have hl : l.length = n := by have := h.1; simpa using this
  have hk : k < n := by
    rcases Nat.lt_or_ge k n with h1 | h1
    · exact h1
    · rw [List.getElem?_eq_none (by omega)] at hb; cases hb
  obtain ⟨g, o, c', cs, e, -, -, -⟩ := off_blk h (by omega)
  injection e with e1 e2 e3
  subst e1 e3
  exact ⟨g, o, rfl, off_cells h rfl k (.bool b) (by rw [List.getElem?_map, hb]; rfl)⟩

set_option maxRecDepth 100000 in
set_option maxHeartbeats 4000000 in
theorem bindex_ok (A : Option Addr) (l : List Bool) (n cap : Nat) (w : World) (hn : l.length = n) (hm : n ≤ 1000000) (hA : BoolsIn w A l) :
    Calls Try.prog 109 #[.slice A n cap, .bool false] w fun e w' => (∃ i : Int, e = .returned (I64 i) ∧ (0 ≤ i ↔ false ∈ l)) ∧ Only [] w w' := by
  have HN := hide hn
  have HA := hide hA
  clear hn hA
  go_enter Try.func109, Try.ntmps109
  go_wp2
  go_loopw [8] (fun i wr => ∃ k : Nat, k ≤ n ∧ i = .int .i64 k ∧ Hid (∀ j, j < k → l[j]? ≠ some false) ∧ Hid (Only [] w wr)) (fun i _ => n - (Go.RowKit.intOf i).toNat)
  case atStart => exact ⟨0, Nat.zero_le _, rfl, hide (by intro j hj; omega), hide (Only.refl _ _)⟩
  case round =>
    obtain ⟨k, hk, rfl, HJ, HW⟩ := hrel
    rcases Nat.lt_or_ge k n with hlt | hge
    · obtain ⟨y, hy⟩ : ∃ y, l[k]? = some y := ⟨_, List.getElem?_eq_getElem (by rw [HN.out]; exact hlt)⟩
      obtain ⟨b, o, rfl, hc⟩ := HA.out.only HW.out k y hy
      have HY := hide hy
      clear hy
      cases y with
      | false =>
        go_wp2
        go_ret
        refine ⟨⟨k, rfl, ?_⟩, HW.out⟩
        exact ⟨fun _ => List.mem_of_getElem? HY.out, fun _ => by omega⟩
      | true =>
        have hR : Hid (∀ j, j < k + 1 → l[j]? ≠ some false) := hide (fun j hj => by
          rcases Nat.lt_or_ge j k with h1 | h1
          · exact HJ.out j h1
          · obtain rfl : j = k := by omega
            rw [HY.out]; intro e; injection e with e; cases e)
        go_wp2
        go_roundw
        case rel => exact ⟨k + 1, by omega, by go_num, hR, HW⟩
        case measure => simp [Go.RowKit.intOf]; omega
    · obtain rfl : k = n := by omega
      go_wp2
      go_ret
      refine ⟨⟨-1, rfl, ?_⟩, HW.out⟩
      refine ⟨fun h => absurd h (by decide), fun h => ?_⟩
      obtain ⟨j, hj, e⟩ := List.getElem_of_mem h
      exact absurd (by rw [List.getElem?_eq_getElem hj, e]) (HJ.out j (by rw [← HN.out]; exact hj))

set_option maxRecDepth 100000 in
set_option maxHeartbeats 4000000 in
theorem bcontains_ok (A : Option Addr) (l : List Bool) (n cap : Nat) (w : World) (hn : l.length = n) (hm : n ≤ 1000000) (hA : BoolsIn w A l) :
    Calls Try.prog 98 #[.slice A n cap, .bool false] w fun e w' => e = .returned (.bool (decide (false ∈ l))) ∧ Only [] w w' := by
  have HC := hide (fun w' (ho : Only [] w w') => bindex_ok A l n cap w' hn hm (hA.only ho))
  clear hn hA
  go_enter Try.func98, Try.ntmps98
  go_wp2_with fail
  refine (HC.out _ (Only.refl _ _)).mono ?_
  rintro e w1 ⟨⟨i, rfl, hi⟩, ho⟩
  by_cases hx : false ∈ l
  · have h0 : 0 ≤ i := hi.2 hx
    have HR := hide (decide_eq_true hx)
    clear hx hi
    go_wp2
    go_ret
    rw [HR.out]; exact ⟨rfl, ho⟩
  · have h0 : decide (0 ≤ i) = false := decide_eq_false fun h => hx (hi.1 h)
    have HR := hide (decide_eq_false hx)
    clear hx hi
    go_wp2
    go_ret
    rw [HR.out]; exact ⟨rfl, ho⟩

def doneB (c : Col) : Bool := decide (0 ≤ c.len ∧ c.len ≤ c.data.length ∧ false ∉ c.hv.take c.len.toNat)

set_option maxRecDepth 100000 in
set_option maxHeartbeats 8000000 in
theorem complete_ok (base : Nat) (z : CPlace) (c : Col) (w : World) (h : ColAt base w z c) (hd : c.data.length ≤ 65535) :
    Calls Try.prog 78 #[.pointer (some ⟨z.e, 0, none⟩)] w fun e w' => e = .returned (.bool (doneB c)) ∧ Only [] w w' := by
  obtain ⟨e0, num, fA, fn, fc, vd, vh⟩ := z
  have hhr := h.hr
  obtain ⟨A, cap, hvh⟩ := off_shape hhr
  simp only at hvh
  subst hvh
  have heq := h.eq
  obtain ⟨n, hn⟩ : ∃ n, n = c.hv.length := ⟨_, rfl⟩
  have hme := h.me
  have hhr2 : offRow w base boolT 1 (.slice A n cap) n (c.hv.map Value.bool) := by rw [hn]; exact hhr
  have d12 : w.cell? ⟨e0, 12, none⟩ = some (I64 c.len) := hme.cell (i := 12) rfl
  have d11 : w.cell? ⟨e0, 11, none⟩ = some (.slice A n cap) := by rw [hn]; exact hme.cell (i := 11) rfl
  have lte := hme.lt
  simp only at lte
  obtain ⟨len, hl⟩ : ∃ l, l = c.len := ⟨_, rfl⟩
  rw [← hl] at d12
  have hD : doneB c = decide (0 ≤ len ∧ len ≤ (n : Int) ∧ false ∉ c.hv.take len.toNat) := by unfold doneB; rw [← hl, ← heq, ← hn]
  show Calls Try.prog 78 #[.pointer (some ⟨e0, 0, none⟩)] w _
  by_cases h0 : len < 0
  · have hR : doneB c = false := by rw [hD]; exact decide_eq_false (fun h => by omega)
    rw [hR]
    have g0 : decide (0 ≤ len) = false := decide_eq_false (by omega)
    clear hR hD hl hn heq hhr hhr2 h hme h0
    go_enter Try.func78, Try.ntmps78
    go_wp2
    refine wp_region_text 27 [] [] [] (fun _ => True) (by kernel_rfl) (by kernel_rfl) trivial ?_
    simp only [List.take_succ_cons, List.take_zero, List.drop_succ_cons, List.drop_zero]
    repeat (first | ((refine wpText_h rfl rfl ?_; apply Exists.intro; refine ⟨?_, ?_⟩; next => (go_simp; (try (go_bits; go_simp)); (first | done | with_reducible rfl | (rw [if_neg (by omega)]; (try (go_bits; go_simp)); (first | done | with_reducible rfl)) | (rw [if_pos (by omega)]; (try (go_bits; go_simp)); (first | done | with_reducible rfl))))); (try simp only [Act.put, List.setIfInBounds_toArray, List.set_cons_zero, List.set_cons_succ])) | ((refine wpText_p rfl rfl ?_; apply Exists.intro; refine ⟨?_, ?_⟩; next => (intro w'; go_simp; (try (go_bits; go_simp)); (first | done | with_reducible rfl | (rw [if_neg (by omega)]; (try (go_bits; go_simp)); (first | done | with_reducible rfl)) | (rw [if_pos (by omega)]; (try (go_bits; go_simp)); (first | done | with_reducible rfl))))); (try simp only [Act.put, List.setIfInBounds_toArray, List.set_cons_zero, List.set_cons_succ])) | ((refine wpText_y rfl rfl ?_; apply Exists.intro; refine ⟨?_, ?_⟩; next => (intro w' hS; (first | obtain ⟨_, rfl⟩ := hS | skip); go_simp; (try (go_bits; go_simp)); (first | done | with_reducible rfl | (rw [if_neg (by omega)]; (try (go_bits; go_simp)); (first | done | with_reducible rfl)) | (rw [if_pos (by omega)]; (try (go_bits; go_simp)); (first | done | with_reducible rfl))))); (try simp only [Act.put, List.setIfInBounds_toArray, List.set_cons_zero, List.set_cons_succ])) | (refine wpText_skip (by first | exact .inl rfl | exact .inr (.inl rfl) | exact .inr (.inr rfl)) rfl ?_; (try simp only [Act.put, List.setIfInBounds_toArray, List.set_cons_zero, List.set_cons_succ])))
    refine wpText_nil ?_
    go_wp2
    refine NoX.normal ?_
    go_wp2
    go_ret
    exact ⟨rfl, (Only.refl _ _).drew⟩
  · by_cases h1 : (n : Int) < len
    · have hR : doneB c = false := by rw [hD]; exact decide_eq_false (fun h => by omega)
      have g0 : decide (0 ≤ len) = true := decide_eq_true (by omega)
      have g1 : decide (len ≤ (n : Int)) = false := decide_eq_false (by omega)
      rw [hR]
      clear hR hD hl hn heq hhr hhr2 h hme h0 h1
      go_enter Try.func78, Try.ntmps78
      go_wp2
      refine wp_region_text 27 [] [] [] (fun _ => True) (by kernel_rfl) (by kernel_rfl) trivial ?_
      simp only [List.take_succ_cons, List.take_zero, List.drop_succ_cons, List.drop_zero]
      repeat (first | ((refine wpText_h rfl rfl ?_; apply Exists.intro; refine ⟨?_, ?_⟩; next => (go_simp; (try (go_bits; go_simp)); (first | done | with_reducible rfl | (rw [if_neg (by omega)]; (try (go_bits; go_simp)); (first | done | with_reducible rfl)) | (rw [if_pos (by omega)]; (try (go_bits; go_simp)); (first | done | with_reducible rfl))))); (try simp only [Act.put, List.setIfInBounds_toArray, List.set_cons_zero, List.set_cons_succ])) | ((refine wpText_p rfl rfl ?_; apply Exists.intro; refine ⟨?_, ?_⟩; next => (intro w'; go_simp; (try (go_bits; go_simp)); (first | done | with_reducible rfl | (rw [if_neg (by omega)]; (try (go_bits; go_simp)); (first | done | with_reducible rfl)) | (rw [if_pos (by omega)]; (try (go_bits; go_simp)); (first | done | with_reducible rfl))))); (try simp only [Act.put, List.setIfInBounds_toArray, List.set_cons_zero, List.set_cons_succ])) | ((refine wpText_y rfl rfl ?_; apply Exists.intro; refine ⟨?_, ?_⟩; next => (intro w' hS; (first | obtain ⟨_, rfl⟩ := hS | skip); go_simp; (try (go_bits; go_simp)); (first | done | with_reducible rfl | (rw [if_neg (by omega)]; (try (go_bits; go_simp)); (first | done | with_reducible rfl)) | (rw [if_pos (by omega)]; (try (go_bits; go_simp)); (first | done | with_reducible rfl))))); (try simp only [Act.put, List.setIfInBounds_toArray, List.set_cons_zero, List.set_cons_succ])) | (refine wpText_skip (by first | exact .inl rfl | exact .inr (.inl rfl) | exact .inr (.inr rfl)) rfl ?_; (try simp only [Act.put, List.setIfInBounds_toArray, List.set_cons_zero, List.set_cons_succ])))
      refine wpText_nil ?_
      go_wp2
      refine NoX.normal ?_
      go_wp2
      go_ret
      exact ⟨rfl, (Only.refl _ _).drew⟩
    · obtain ⟨m, rfl⟩ : ∃ m : Nat, len = (m : Int) := ⟨len.toNat, by omega⟩
      have hmn : m ≤ n := by omega
      have hcp : n ≤ cap := by
        rcases hhr2.2 with ⟨e1, e2⟩ | ⟨g, o, cap', cs, e1, -, -, hc, -⟩
        · omega
        · injection e1 with e1 e2 e3; omega
      have hcl : (c.hv.take m).length = m := by rw [List.length_take]; omega
      have HT := hide (show ∀ w', Only [] w w' → BoolsIn w' A (c.hv.take m) from fun w' ho => BoolsIn.only (BoolsIn.of_off (n := m) (c := cap) (by
        have := off_take hhr2 hmn
        rw [Nat.mul_one, ← List.map_take] at this
        exact this)) ho)
      have HCL := hide hcl
      have hR : doneB c = !(decide (false ∈ c.hv.take m)) := by
        rw [hD, ← decide_not]
        exact decide_eq_decide.2 ⟨fun h => h.2.2, fun h => ⟨by omega, by omega, h⟩⟩
      rw [hR]
      have HM := hide (show m ≤ 1000000 by omega)
      have m0 : (0 : Int) ≤ (m : Int) := by omega
      have m1 : ((m : Nat) : Int) ≤ ((n : Nat) : Int) := by omega
      have m2 : ((m : Nat) : Int) ≤ ((cap : Nat) : Int) := by omega
      have m3 : m ≤ cap := by omega
      clear hR hD hl hn heq hhr hhr2 h hme h0 h1 hcl
      go_enter Try.func78, Try.ntmps78
      go_wp2
      refine wp_region_text 27 [] [] [] (fun _ => True) (by kernel_rfl) (by kernel_rfl) trivial ?_
      simp only [List.take_succ_cons, List.take_zero, List.drop_succ_cons, List.drop_zero]
      repeat (first | ((refine wpText_h rfl rfl ?_; apply Exists.intro; refine ⟨?_, ?_⟩; next => (go_simp; (try (go_bits; go_simp)); (first | done | with_reducible rfl | (rw [if_neg (by omega)]; (try (go_bits; go_simp)); (first | done | with_reducible rfl)) | (rw [if_pos (by omega)]; (try (go_bits; go_simp)); (first | done | with_reducible rfl))))); (try simp only [Act.put, List.setIfInBounds_toArray, List.set_cons_zero, List.set_cons_succ])) | ((refine wpText_p rfl rfl ?_; apply Exists.intro; refine ⟨?_, ?_⟩; next => (intro w'; go_simp; (try (go_bits; go_simp)); (first | done | with_reducible rfl | (rw [if_neg (by omega)]; (try (go_bits; go_simp)); (first | done | with_reducible rfl)) | (rw [if_pos (by omega)]; (try (go_bits; go_simp)); (first | done | with_reducible rfl))))); (try simp only [Act.put, List.setIfInBounds_toArray, List.set_cons_zero, List.set_cons_succ])) | ((refine wpText_y rfl rfl ?_; apply Exists.intro; refine ⟨?_, ?_⟩; next => (intro w' hS; (first | obtain ⟨_, rfl⟩ := hS | skip); go_simp; (try (go_bits; go_simp)); (first | done | with_reducible rfl | (rw [if_neg (by omega)]; (try (go_bits; go_simp)); (first | done | with_reducible rfl)) | (rw [if_pos (by omega)]; (try (go_bits; go_simp)); (first | done | with_reducible rfl))))); (try simp only [Act.put, List.setIfInBounds_toArray, List.set_cons_zero, List.set_cons_succ])) | (refine wpText_skip (by first | exact .inl rfl | exact .inr (.inl rfl) | exact .inr (.inr rfl)) rfl ?_; (try simp only [Act.put, List.setIfInBounds_toArray, List.set_cons_zero, List.set_cons_succ])))
      refine wpText_nil ?_
      go_wp2_with fail
      refine (bcontains_ok A (c.hv.take m) m cap _ HCL.out HM.out (HT.out _ (Only.refl _ _).drew)).mono ?_
      rintro e w1 ⟨rfl, ho⟩
      go_wp2
      refine NoX.normal ?_
      go_wp2
      go_ret
      exact ⟨rfl, (Only.refl [] w).drew.trans ho⟩

end Go.Proofs.Ytlnejlhdkmneeaa
