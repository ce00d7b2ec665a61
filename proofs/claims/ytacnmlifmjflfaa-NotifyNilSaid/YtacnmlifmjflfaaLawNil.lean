/- NotifyNil answers true. -/
import Derived.Test.YtacnmlifmjflfaaWalkH
namespace Go.Proofs.Ytacnmlifmjflfaa
open Go.RowKit

set_option maxHeartbeats 1000000 in
theorem arm_nil (a0 a1 a2 a3 a4 a5 a6 : Int) (k : Bool) (w : World) : Calls Try.prog 11 #[.pointer none, .agg #[I64 a0, I64 a1, I64 a2, I64 a3, I64 a4, I64 a5, I64 a6, .bool k]] w fun e w' => e = .returned (.tuple #[I64 0, I64 0, I64 35]) ∧ Only [] w w' := by
  go_enter Try.func11, Try.ntmps11
  go_wp2
  go_ret3
  exact ⟨rfl, (Only.refl _ _).alloc _⟩

set_option maxHeartbeats 1000000 in
theorem upd_nil (o c : Int) (w : World) : Calls Try.prog 12 #[.pointer none, I64 o, I64 c] w fun e w' => e = .returned (.tuple #[.slice none 0 0, .slice none 0 0, I64 35]) ∧ Only [] w w' := by
  go_enter Try.func12, Try.ntmps12
  go_wp2
  go_ret3
  exact ⟨rfl, ((Only.refl _ _).alloc _).alloc _⟩

set_option maxHeartbeats 1000000 in
theorem asked_nil (A : Option Addr) (n c : Nat) (w : World) : Calls Try.prog 45 #[.pointer none, .slice A n c] w fun e w' => e = .returned (I64 35) ∧ w' = w := by
  go_enter Try.func45, Try.ntmps45
  go_wp2
  go_ret
  exact ⟨rfl, rfl⟩

set_option maxHeartbeats 1000000 in
theorem poll_nil (A : Option Addr) (n c : Nat) (w : World) : Calls Try.prog 16 #[.pointer none, .slice A n c] w fun e w' => e = .returned (.tuple #[.slice none 0 0, I64 0, I64 35]) ∧ w' = w := by
  go_enter Try.func16, Try.ntmps16
  go_wp2_with fail
  refine (asked_nil A n c w).mono ?_
  rintro e w1 ⟨rfl, rfl⟩
  go_wp2
  go_ret3
  exact ⟨rfl, rfl⟩

set_option maxHeartbeats 1000000 in
theorem select_nil (th d : Int) (A : Option Addr) (n c : Nat) (w : World) : Calls Try.prog 17 #[.pointer none, I64 th, .slice A n c, I64 d] w fun e w' => e = .returned (.tuple #[.slice none 0 0, .bool false, I64 35]) ∧ Only [] w w' := by
  go_enter Try.func17, Try.ntmps17
  go_wp2_with fail
  refine (asked_nil A n c _).mono ?_
  rintro e w1 ⟨rfl, rfl⟩
  go_wp2
  go_ret3
  exact ⟨rfl, (Only.refl _ _).alloc _⟩

set_option maxHeartbeats 1000000 in
theorem advance_nil (d : Int) (w : World) : Calls Try.prog 18 #[.pointer none, I64 d] w fun e w' => e = .returned (.tuple #[.slice none 0 0, I64 35]) ∧ Only [] w w' := by
  go_enter Try.func18, Try.ntmps18
  go_wp2
  go_ret2
  exact ⟨rfl, (Only.refl _ _).alloc _⟩

set_option maxHeartbeats 1000000 in
theorem disarm_nil (d : Int) (w : World) : Calls Try.prog 19 #[.pointer none, I64 d] w fun e w' => e = .returned (I64 35) ∧ Only [] w w' := by
  go_enter Try.func19, Try.ntmps19
  go_wp2
  go_ret
  exact ⟨rfl, (Only.refl _ _).alloc _⟩

set_option maxHeartbeats 1000000 in
theorem cancel_nil (d : Int) (w : World) : Calls Try.prog 20 #[.pointer none, I64 d] w fun e w' => e = .returned (I64 35) ∧ Only [] w w' := by
  go_enter Try.func20, Try.ntmps20
  go_wp2
  go_ret
  exact ⟨rfl, (Only.refl _ _).alloc _⟩

set_option maxHeartbeats 1000000 in
theorem conditions_nil (d : Int) (w : World) : Calls Try.prog 15 #[.pointer none, I64 d] w fun e w' => e = .returned (I64 0) ∧ w' = w := by
  go_enter Try.func15, Try.ntmps15
  go_wp2
  go_ret
  exact ⟨rfl, rfl⟩

set_option maxHeartbeats 1000000 in
theorem now_nil (w : World) : Calls Try.prog 21 #[.pointer none] w fun e w' => e = .returned (I64 0) ∧ w' = w := by
  go_enter Try.func21, Try.ntmps21
  go_wp2
  go_ret
  exact ⟨rfl, rfl⟩

set_option maxHeartbeats 1000000 in
theorem armed_nil (w : World) : Calls Try.prog 22 #[.pointer none] w fun e w' => e = .returned (.slice none 0 0) ∧ w' = w := by
  go_enter Try.func22, Try.ntmps22
  go_wp2
  go_ret
  exact ⟨rfl, rfl⟩

set_option maxHeartbeats 1000000 in
theorem waiters_nil (w : World) : Calls Try.prog 23 #[.pointer none] w fun e w' => e = .returned (.slice none 0 0) ∧ w' = w := by
  go_enter Try.func23, Try.ntmps23
  go_wp2
  go_ret
  exact ⟨rfl, rfl⟩

set_option maxHeartbeats 1000000 in
theorem nil1_ok (w : World) : Calls Try.prog 25 #[I64 35] w fun e w' => e = .returned (.bool false) ∧ w' = w := by
  go_enter Try.func25, Try.ntmps25
  go_wp2
  go_ret
  exact ⟨rfl, rfl⟩

set_option maxHeartbeats 2000000 in
theorem index35_ok (g n : Nat) (w : World) (hc : ∀ k, k < n → w.cell? ⟨g, k, none⟩ = some (I64 35)) (hn : n ≤ 100) :
    Calls Try.prog 55 #[.slice (some ⟨g, 0, none⟩) n n, .func (.func 25) #[] #[]] w fun e w' => e = .returned (I64 (-1)) ∧ w' = w := by
  have HC := hide hc
  clear hc
  go_enter Try.func55, Try.ntmps55
  go_wp2
  go_loop [8] (fun i => ∃ k : Nat, k ≤ n ∧ i = .int .i64 k) (fun i => n - (intOf i).toNat)
  case atStart => exact ⟨0, Nat.zero_le _, rfl⟩
  case round =>
    obtain ⟨k, hk, rfl⟩ := hrel
    rcases Nat.lt_or_ge k n with hlt | hge
    · have hcell := HC.out k hlt
      go_wp2_with fail
      refine (nil1_ok _).mono ?_
      rintro e w1 ⟨rfl, rfl⟩
      go_wp2
      go_roundw
      case rel => exact ⟨k + 1, by omega, by go_num⟩
      case measure => simp [intOf]; omega
    · obtain rfl : k = n := by omega
      go_wp2
      go_ret
      exact ⟨rfl, rfl⟩

set_option maxHeartbeats 1000000 in
theorem contains35_ok (g n : Nat) (w : World) (hc : ∀ k, k < n → w.cell? ⟨g, k, none⟩ = some (I64 35)) (hn : n ≤ 100) :
    Calls Try.prog 24 #[.slice (some ⟨g, 0, none⟩) n n, .func (.func 25) #[] #[]] w fun e w' => e = .returned (.bool false) ∧ w' = w := by
  go_enter Try.func24, Try.ntmps24
  go_wp2_with fail
  refine (index35_ok g n w hc hn).mono ?_
  rintro e w1 ⟨rfl, rfl⟩
  go_wp2
  go_ret
  exact ⟨rfl, rfl⟩

abbrev actV (kd n m t : Int) (e0 e1 e2 e3 e4 : Int) (kp : Bool) (A : Option Addr) (l c : Nat) : Value := .agg #[.int .u8 kd, I64 n, I64 m, I64 t, I64 e0, I64 e1, I64 e2, I64 e3, I64 e4, .bool kp, .slice A l c]

set_option maxRecDepth 100000 in
set_option maxHeartbeats 4000000 in
theorem nil_true (kd n m t : Int) (e0 e1 e2 e3 e4 : Int) (kp : Bool) (A : Option Addr) (l c : Nat) (w : World) :
    Calls Try.prog 6 #[actV kd n m t e0 e1 e2 e3 e4 kp A l c] w fun e w' => e = .returned (.bool true) ∧ Only [] w w' := by
  have ha : Only [] w (w.alloc (Obj.cells #[.int .u8 kd, I64 n, I64 m, I64 t, I64 e0, I64 e1, I64 e2, I64 e3, I64 e4, .bool kp, .slice A l c] 45)) := (Only.refl _ _).alloc _
  have hb : Blk (w.alloc (Obj.cells #[.int .u8 kd, I64 n, I64 m, I64 t, I64 e0, I64 e1, I64 e2, I64 e3, I64 e4, .bool kp, .slice A l c] 45)) w.heap.size 45 [.int .u8 kd, I64 n, I64 m, I64 t, I64 e0, I64 e1, I64 e2, I64 e3, I64 e4, .bool kp, .slice A l c] := Blk.newA rfl
  have HA := hide (And.intro ha hb)
  clear ha hb
  by_cases hl : (40 : Int) < (l : Int)
  · go_enter Try.func6, Try.ntmps6
    go_wp2_with fail
    refine (awake_ok _).mono ?_
    rintro e w1 ⟨rfl, ho⟩
    go_wp2
    go_ret
    exact ⟨rfl, Only.trans HA.out.1 ho⟩
  have hbt : ∀ W : World, (Instr.build 32 #[(0, I64 n), (1, I64 m), (2, .agg #[I64 e0, I64 e1, I64 e2, I64 e3, I64 e4])]).run Try.prog W = .ok (.agg #[I64 n, I64 m, I64 e0, I64 e1, I64 e2, I64 e3, I64 e4, .bool false]) W := fun _ => by kernel_rfl
  go_enter Try.func6, Try.ntmps6
  have c1 := HA.out.2.cell (i := 1) rfl
  have c2 := HA.out.2.cell (i := 2) rfl
  have c3 := HA.out.2.cell (i := 3) rfl
  have c4 := HA.out.2.cell (i := 4) rfl
  have c5 := HA.out.2.cell (i := 5) rfl
  have c6 := HA.out.2.cell (i := 6) rfl
  have c7 := HA.out.2.cell (i := 7) rfl
  have c8 := HA.out.2.cell (i := 8) rfl
  have c10 := HA.out.2.cell (i := 10) rfl
  have lt0 := HA.out.2.lt
  go_wp2_with fail
  refine (arm_nil n m e0 e1 e2 e3 e4 false _).mono ?_
  rintro e w1 ⟨rfl, ho⟩
  replace HA := hide (And.intro (Only.trans HA.out.1 ho) (ho.blk HA.out.2 (by simp)))
  clear c1 c2 c3 c4 c5 c6 c7 c8 c10
  replace lt0 := HA.out.2.lt
  have c1 := HA.out.2.cell (i := 1) rfl
  have c2 := HA.out.2.cell (i := 2) rfl
  have c3 := HA.out.2.cell (i := 3) rfl
  have c4 := HA.out.2.cell (i := 4) rfl
  have c5 := HA.out.2.cell (i := 5) rfl
  have c6 := HA.out.2.cell (i := 6) rfl
  have c7 := HA.out.2.cell (i := 7) rfl
  have c8 := HA.out.2.cell (i := 8) rfl
  have c10 := HA.out.2.cell (i := 10) rfl
  clear ho
  clear hbt
  go_wp2_with fail
  refine (upd_nil n m _).mono ?_
  rintro e w2 ⟨rfl, ho⟩
  replace HA := hide (And.intro (Only.trans HA.out.1 ho) (ho.blk HA.out.2 (by simp)))
  clear c1 c2 c3 c4 c5 c6 c7 c8 c10
  replace lt0 := HA.out.2.lt
  have c1 := HA.out.2.cell (i := 1) rfl
  have c2 := HA.out.2.cell (i := 2) rfl
  have c3 := HA.out.2.cell (i := 3) rfl
  have c4 := HA.out.2.cell (i := 4) rfl
  have c5 := HA.out.2.cell (i := 5) rfl
  have c6 := HA.out.2.cell (i := 6) rfl
  have c7 := HA.out.2.cell (i := 7) rfl
  have c8 := HA.out.2.cell (i := 8) rfl
  have c10 := HA.out.2.cell (i := 10) rfl
  clear ho
  go_wp2_with fail
  refine (poll_nil A l c _).mono ?_
  rintro e w9 ⟨rfl, rfl⟩
  go_wp2_with fail
  refine (select_nil n t A l c _).mono ?_
  rintro e w3 ⟨rfl, ho⟩
  replace HA := hide (And.intro (Only.trans HA.out.1 ho) (ho.blk HA.out.2 (by simp)))
  clear c1 c2 c3 c4 c5 c6 c7 c8 c10
  replace lt0 := HA.out.2.lt
  have c1 := HA.out.2.cell (i := 1) rfl
  have c2 := HA.out.2.cell (i := 2) rfl
  have c3 := HA.out.2.cell (i := 3) rfl
  have c4 := HA.out.2.cell (i := 4) rfl
  have c5 := HA.out.2.cell (i := 5) rfl
  have c6 := HA.out.2.cell (i := 6) rfl
  have c7 := HA.out.2.cell (i := 7) rfl
  have c8 := HA.out.2.cell (i := 8) rfl
  have c10 := HA.out.2.cell (i := 10) rfl
  clear ho
  go_wp2_with fail
  refine (advance_nil t _).mono ?_
  rintro e w4 ⟨rfl, ho⟩
  replace HA := hide (And.intro (Only.trans HA.out.1 ho) (ho.blk HA.out.2 (by simp)))
  clear c1 c2 c3 c4 c5 c6 c7 c8 c10
  replace lt0 := HA.out.2.lt
  have c1 := HA.out.2.cell (i := 1) rfl
  have c2 := HA.out.2.cell (i := 2) rfl
  have c3 := HA.out.2.cell (i := 3) rfl
  have c4 := HA.out.2.cell (i := 4) rfl
  have c5 := HA.out.2.cell (i := 5) rfl
  have c6 := HA.out.2.cell (i := 6) rfl
  have c7 := HA.out.2.cell (i := 7) rfl
  have c8 := HA.out.2.cell (i := 8) rfl
  have c10 := HA.out.2.cell (i := 10) rfl
  clear ho
  go_wp2
  refine wp_region_text 12 [8] [0, 1, 2, 3, 4, 9, 10] [11] (fun w' => w'.cell? ⟨w.heap.size, 1, none⟩ = some (I64 n)) (by kernel_rfl) (by kernel_rfl) c1 ?_
  simp only [List.take_succ_cons, List.take_zero, List.drop_succ_cons, List.drop_zero]
  repeat (first | ((refine wpText_h rfl rfl ?_; apply Exists.intro; refine ⟨?_, ?_⟩; next => (go_simp; (try (go_bits; go_simp)); (first | done | with_reducible rfl | (rw [if_neg (by omega)]; (try (go_bits; go_simp)); (first | done | with_reducible rfl)) | (rw [if_pos (by omega)]; (try (go_bits; go_simp)); (first | done | with_reducible rfl))))); (try simp only [Act.put, List.setIfInBounds_toArray, List.set_cons_zero, List.set_cons_succ])) | ((refine wpText_p rfl rfl ?_; apply Exists.intro; refine ⟨?_, ?_⟩; next => (intro w'; go_simp; (try (go_bits; go_simp)); (first | done | with_reducible rfl | (rw [if_neg (by omega)]; (try (go_bits; go_simp)); (first | done | with_reducible rfl)) | (rw [if_pos (by omega)]; (try (go_bits; go_simp)); (first | done | with_reducible rfl))))); (try simp only [Act.put, List.setIfInBounds_toArray, List.set_cons_zero, List.set_cons_succ])) | ((refine wpText_y rfl rfl ?_; apply Exists.intro; refine ⟨?_, ?_⟩; next => (intro w' hS; (first | obtain ⟨_, rfl⟩ := hS | skip); go_simp; (try (go_bits; go_simp)); (first | done | with_reducible rfl | (rw [if_neg (by omega)]; (try (go_bits; go_simp)); (first | done | with_reducible rfl)) | (rw [if_pos (by omega)]; (try (go_bits; go_simp)); (first | done | with_reducible rfl))))); (try simp only [Act.put, List.setIfInBounds_toArray, List.set_cons_zero, List.set_cons_succ])) | (refine wpText_skip (by first | exact .inl rfl | exact .inr (.inl rfl) | exact .inr (.inr rfl)) rfl ?_; (try simp only [Act.put, List.setIfInBounds_toArray, List.set_cons_zero, List.set_cons_succ])))
  refine wpText_e rfl rfl (fun K hK => ?_)
  go_wp2_with fail
  refine (disarm_nil n _).mono ?_
  rintro e w5 ⟨rfl, ho⟩
  replace HA := hide (And.intro (Only.trans (Only.trans HA.out.1 ((Only.refl [] _).drew)) ho) (ho.blk HA.out.2.drew (by simp)))
  clear c1 c2 c3 c4 c5 c6 c7 c8 c10 ho
  have c1 := HA.out.2.cell (i := 1) rfl
  replace lt0 := HA.out.2.lt
  refine hK _ _ c1 ?_
  clear hK K
  try simp only [Act.put, List.setIfInBounds_toArray, List.set_cons_zero, List.set_cons_succ]
  repeat (first | ((refine wpText_h rfl rfl ?_; apply Exists.intro; refine ⟨?_, ?_⟩; next => (go_simp; (try (go_bits; go_simp)); (first | done | with_reducible rfl | (rw [if_neg (by omega)]; (try (go_bits; go_simp)); (first | done | with_reducible rfl)) | (rw [if_pos (by omega)]; (try (go_bits; go_simp)); (first | done | with_reducible rfl))))); (try simp only [Act.put, List.setIfInBounds_toArray, List.set_cons_zero, List.set_cons_succ])) | ((refine wpText_p rfl rfl ?_; apply Exists.intro; refine ⟨?_, ?_⟩; next => (intro w'; go_simp; (try (go_bits; go_simp)); (first | done | with_reducible rfl | (rw [if_neg (by omega)]; (try (go_bits; go_simp)); (first | done | with_reducible rfl)) | (rw [if_pos (by omega)]; (try (go_bits; go_simp)); (first | done | with_reducible rfl))))); (try simp only [Act.put, List.setIfInBounds_toArray, List.set_cons_zero, List.set_cons_succ])) | ((refine wpText_y rfl rfl ?_; apply Exists.intro; refine ⟨?_, ?_⟩; next => (intro w' hS; (first | obtain ⟨_, rfl⟩ := hS | skip); go_simp; (try (go_bits; go_simp)); (first | done | with_reducible rfl | (rw [if_neg (by omega)]; (try (go_bits; go_simp)); (first | done | with_reducible rfl)) | (rw [if_pos (by omega)]; (try (go_bits; go_simp)); (first | done | with_reducible rfl))))); (try simp only [Act.put, List.setIfInBounds_toArray, List.set_cons_zero, List.set_cons_succ])) | (refine wpText_skip (by first | exact .inl rfl | exact .inr (.inl rfl) | exact .inr (.inr rfl)) rfl ?_; (try simp only [Act.put, List.setIfInBounds_toArray, List.set_cons_zero, List.set_cons_succ])))
  refine wpText_nil ?_
  go_wp2_with fail
  refine (cancel_nil n _).mono ?_
  rintro e w6 ⟨rfl, ho⟩
  replace HA := hide (And.intro (Only.trans HA.out.1 ho) (ho.blk HA.out.2 (by simp)))
  clear c1 ho
  have c1 := HA.out.2.cell (i := 1) rfl
  replace lt0 := HA.out.2.lt
  go_wp2
  refine NoX.normal ?_
  have hB7 : Blk (w6.alloc (Obj.cells #[I64 35, I64 35, I64 35, I64 35, I64 35, I64 35, I64 35] 26)) w6.heap.size 26 [I64 35, I64 35, I64 35, I64 35, I64 35, I64 35, I64 35] := Blk.newA rfl
  have hA7 : Only [] w6 (w6.alloc (Obj.cells #[I64 35, I64 35, I64 35, I64 35, I64 35, I64 35, I64 35] 26)) := (Only.refl [] _).alloc _
  revert hB7 hA7
  generalize w6.alloc (Obj.cells #[I64 35, I64 35, I64 35, I64 35, I64 35, I64 35, I64 35] 26) = V
  intro hB7 hA7
  replace HA := hide (And.intro (Only.trans HA.out.1 hA7) (hA7.blk HA.out.2 (by simp)))
  have HB := hide hB7
  clear c1 hB7 hA7
  go_wp2_with fail
  refine (awake_ok _).mono ?_
  rintro e w7 ⟨rfl, ho⟩
  replace HA := hide (And.intro (Only.trans HA.out.1 ho) (ho.blk HA.out.2 (by simp)))
  replace HB := hide (ho.blk HB.out (by simp))
  clear ho
  have c1 := HA.out.2.cell (i := 1) rfl
  replace lt0 := HA.out.2.lt
  go_wp2_with fail
  refine (conditions_nil n _).mono ?_
  rintro e w9 ⟨rfl, rfl⟩
  go_wp2_with fail
  refine (now_nil _).mono ?_
  rintro e w9 ⟨rfl, rfl⟩
  go_wp2_with fail
  refine (armed_nil _).mono ?_
  rintro e w9 ⟨rfl, rfl⟩
  go_wp2_with fail
  refine (waiters_nil _).mono ?_
  rintro e w9 ⟨rfl, rfl⟩
  go_wp2_with fail
  refine (contains35_ok w6.heap.size 7 _ (fun k hk => HB.out.cell (by
    have : k = 0 ∨ k = 1 ∨ k = 2 ∨ k = 3 ∨ k = 4 ∨ k = 5 ∨ k = 6 := by omega
    rcases this with rfl | rfl | rfl | rfl | rfl | rfl | rfl <;> rfl)) (by decide)).mono ?_
  rintro e w9 ⟨rfl, rfl⟩
  go_wp2
  go_ret
  exact ⟨rfl, HA.out.1⟩

end Go.Proofs.Ytacnmlifmjflfaa
