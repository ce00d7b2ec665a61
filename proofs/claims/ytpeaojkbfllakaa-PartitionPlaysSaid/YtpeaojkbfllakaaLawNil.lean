/- Nil meters; the law PartitionNil, walked. -/
import Derived.Test.YtpeaojkbfllakaaWalkK
namespace Go.Proofs.Ytpeaojkbfllakaa
open Go.RowKit

theorem rask_nil (q n c : Nat) (now : Int) (w : World) :
    Calls Try.prog 35 #[.pointer none, I64 now, .slice (some ⟨q, 0, none⟩) n c] w fun e w' => e = .returned (I64 35) ∧ w = w' := by
  go_enter Try.func35, Try.ntmps35
  go_wp2
  go_ret
  exact ⟨rfl, rfl⟩

theorem used_nil (now p : Int) ( w : World) :
    Calls Try.prog 11 #[.pointer none, I64 now, I64 p] w fun e w' => e = .returned (.tuple #[I64 0, I64 35]) ∧ Only [] w w' := by
  go_enter Try.func11, Try.ntmps11
  go_wp2_with fail
  refine (check_nil _ _ _ now _).mono ?_
  rintro e w1 ⟨rfl, rfl⟩
  go_wp2
  go_ret2
  exact ⟨rfl, (Only.refl _ _).alloc _⟩

theorem usedc_nil (now p : Int) ( w : World) :
    Calls Try.prog 12 #[.pointer none, I64 now, I64 p] w fun e w' => e = .returned (.tuple #[I64 0, I64 35]) ∧ Only [] w w' := by
  go_enter Try.func12, Try.ntmps12
  go_wp2_with fail
  refine (check_nil _ _ _ now _).mono ?_
  rintro e w1 ⟨rfl, rfl⟩
  go_wp2
  go_ret2
  exact ⟨rfl, (Only.refl _ _).alloc _⟩

theorem has_nil (now p : Int) ( w : World) :
    Calls Try.prog 13 #[.pointer none, I64 now, I64 p] w fun e w' => e = .returned (.tuple #[.bool false, I64 35]) ∧ Only [] w w' := by
  go_enter Try.func13, Try.ntmps13
  go_wp2_with fail
  refine (used_nil now p _).mono ?_
  rintro e w1 ⟨rfl, ho⟩
  go_wp2
  go_ret2
  exact ⟨rfl, ho⟩

theorem broke_nil (now p : Int) ( w : World) :
    Calls Try.prog 29 #[.pointer none, I64 now, I64 p] w fun e w' => e = .returned (.tuple #[.bool false, I64 35]) ∧ Only [] w w' := by
  go_enter Try.func29, Try.ntmps29
  go_wp2_with fail
  refine (usedc_nil now p _).mono ?_
  rintro e w1 ⟨rfl, ho⟩
  go_wp2
  go_ret2
  exact ⟨rfl, ho⟩

theorem comp_nil (now p q : Int) ( w : World) :
    Calls Try.prog 15 #[.pointer none, I64 now, I64 p, I64 q] w fun e w' => e = .returned (.tuple #[I64 0, I64 35]) ∧ Only [] w w' := by
  go_enter Try.func15, Try.ntmps15
  go_wp2_with fail
  refine (check_nil _ _ _ now _).mono ?_
  rintro e w1 ⟨rfl, rfl⟩
  go_wp2
  go_ret2
  exact ⟨rfl, (Only.refl _ _).alloc _⟩

theorem charge_nil (now p : Int) (c : Bool) ( w : World) :
    Calls Try.prog 10 #[.pointer none, I64 now, I64 p, .bool c] w fun e w' => e = .returned (I64 35) ∧ Only [] w w' := by
  go_enter Try.func10, Try.ntmps10
  go_wp2_with fail
  refine (check_nil _ _ _ now _).mono ?_
  rintro e w1 ⟨rfl, rfl⟩
  go_wp2
  go_ret
  exact ⟨rfl, (Only.refl _ _).alloc _⟩

theorem budget_nil (p : Int) ( w : World) :
    Calls Try.prog 14 #[.pointer none, I64 p] w fun e w' => e = .returned (.tuple #[I64 0, I64 0, I64 35]) ∧ Only [] w w' := by
  go_enter Try.func14, Try.ntmps14
  go_wp2
  go_ret3
  exact ⟨rfl, (Only.refl _ _)⟩

theorem rused_nil (now p : Int) ( w : World) :
    Calls Try.prog 26 #[.pointer none, I64 now, I64 p] w fun e w' => e = .returned (.tuple #[I64 0, I64 35]) ∧ Only [] w w' := by
  go_enter Try.func26, Try.ntmps26
  go_wp2_with fail
  refine (rask_nil _ _ _ now _).mono ?_
  rintro e w1 ⟨rfl, rfl⟩
  go_wp2
  go_ret2
  exact ⟨rfl, (Only.refl _ _).alloc _⟩

theorem rusedc_nil (now p : Int) ( w : World) :
    Calls Try.prog 27 #[.pointer none, I64 now, I64 p] w fun e w' => e = .returned (.tuple #[I64 0, I64 35]) ∧ Only [] w w' := by
  go_enter Try.func27, Try.ntmps27
  go_wp2_with fail
  refine (rask_nil _ _ _ now _).mono ?_
  rintro e w1 ⟨rfl, rfl⟩
  go_wp2
  go_ret2
  exact ⟨rfl, (Only.refl _ _).alloc _⟩

theorem rhas_nil (now p : Int) ( w : World) :
    Calls Try.prog 28 #[.pointer none, I64 now, I64 p] w fun e w' => e = .returned (.tuple #[.bool false, I64 35]) ∧ Only [] w w' := by
  go_enter Try.func28, Try.ntmps28
  go_wp2_with fail
  refine (rask_nil _ _ _ now _).mono ?_
  rintro e w1 ⟨rfl, rfl⟩
  go_wp2
  go_ret2
  exact ⟨rfl, (Only.refl _ _).alloc _⟩

theorem rbroke_nil (now p : Int) ( w : World) :
    Calls Try.prog 30 #[.pointer none, I64 now, I64 p] w fun e w' => e = .returned (.tuple #[.bool false, I64 35]) ∧ Only [] w w' := by
  go_enter Try.func30, Try.ntmps30
  go_wp2_with fail
  refine (rask_nil _ _ _ now _).mono ?_
  rintro e w1 ⟨rfl, rfl⟩
  go_wp2
  go_ret2
  exact ⟨rfl, (Only.refl _ _).alloc _⟩

theorem rcomp_nil (now p q : Int) ( w : World) :
    Calls Try.prog 31 #[.pointer none, I64 now, I64 p, I64 q] w fun e w' => e = .returned (.tuple #[I64 0, I64 35]) ∧ Only [] w w' := by
  go_enter Try.func31, Try.ntmps31
  go_wp2_with fail
  refine (rask_nil _ _ _ now _).mono ?_
  rintro e w1 ⟨rfl, rfl⟩
  go_wp2
  go_ret2
  exact ⟨rfl, (Only.refl _ _).alloc _⟩

theorem rcharge_nil (now p : Int) (c : Bool) ( w : World) :
    Calls Try.prog 32 #[.pointer none, I64 now, I64 p, .bool c] w fun e w' => e = .returned (I64 35) ∧ Only [] w w' := by
  go_enter Try.func32, Try.ntmps32
  go_wp2_with fail
  refine (rask_nil _ _ _ now _).mono ?_
  rintro e w1 ⟨rfl, rfl⟩
  go_wp2
  go_ret
  exact ⟨rfl, (Only.refl _ _).alloc _⟩

theorem rbudget_nil (p : Int) ( w : World) :
    Calls Try.prog 21 #[.pointer none, I64 p] w fun e w' => e = .returned (.tuple #[I64 0, I64 0, I64 35]) ∧ Only [] w w' := by
  go_enter Try.func21, Try.ntmps21
  go_wp2
  go_ret3
  exact ⟨rfl, (Only.refl _ _)⟩

abbrev ActV (d gap raw a b : Int) (c : Bool) : Value := .agg #[.int .u8 d, .int .u8 gap, I64 raw, I64 a, I64 b, .bool c]

set_option maxRecDepth 100000 in
set_option maxHeartbeats 2000000 in
theorem step_nil (d gap raw a b now : Int) (c : Bool) (w : World) (hd0 : 0 ≤ d) (hd1 : d ≤ 255) :
    Calls Try.prog 20 #[.pointer none, .pointer none, ActV d gap raw a b c, I64 now] w fun e w' => e = .returned (.bool true) ∧ Only [] w w' := by
  have h0 : 0 ≤ d % 7 := Int.emod_nonneg _ (by omega)
  have h7 : d % 7 < 7 := Int.emod_lt_of_pos _ (by omega)
  have HB := hide (Blk.new w 53 [.int .u8 d, .int .u8 gap, I64 raw, I64 a, I64 b, .bool c])
  have HO := hide ((Only.refl [] w).alloc (.cells #[.int .u8 d, .int .u8 gap, I64 raw, I64 a, I64 b, .bool c] 53))

  by_cases h2 : d % 7 = 2
  · have e2 : (d % 7 == 2) = true := by simp [h2]
    clear h2 h0 h7
    have e3a := HB.out.cell (i := 3) rfl
    have e4a := HB.out.cell (i := 4) rfl
    go_enter Try.func20, Try.ntmps20
    go_wp2_with fail
    refine (used_nil now a _).mono ?_
    rintro e w1 ⟨rfl, ho1⟩
    have HO1 := hide (HO.out.trans ho1)
    have f3a := (ho1.blk HB.out (by simp)).cell (i := 3) rfl
    have f4a := (ho1.blk HB.out (by simp)).cell (i := 4) rfl
    clear ho1
    go_wp2_with fail
    refine (rused_nil now a _).mono ?_
    rintro e w2 ⟨rfl, ho2⟩
    have HO2 := hide (HO1.out.trans ho2)
    clear ho2
    go_wp2
    go_ret
    exact ⟨rfl, HO2.out⟩

  by_cases h3 : d % 7 = 3
  · have e3 : (d % 7 == 3) = true := by simp [h3]
    have e2 : (d % 7 == 2) = false := by simp [h3]
    clear h3 h2 h0 h7
    have e3a := HB.out.cell (i := 3) rfl
    have e4a := HB.out.cell (i := 4) rfl
    go_enter Try.func20, Try.ntmps20
    go_wp2_with fail
    refine (usedc_nil now a _).mono ?_
    rintro e w1 ⟨rfl, ho1⟩
    have HO1 := hide (HO.out.trans ho1)
    have f3a := (ho1.blk HB.out (by simp)).cell (i := 3) rfl
    have f4a := (ho1.blk HB.out (by simp)).cell (i := 4) rfl
    clear ho1
    go_wp2_with fail
    refine (rusedc_nil now a _).mono ?_
    rintro e w2 ⟨rfl, ho2⟩
    have HO2 := hide (HO1.out.trans ho2)
    clear ho2
    go_wp2
    go_ret
    exact ⟨rfl, HO2.out⟩

  by_cases h4 : d % 7 = 4
  · have e4 : (d % 7 == 4) = true := by simp [h4]
    have e2 : (d % 7 == 2) = false := by simp [h4]
    have e3 : (d % 7 == 3) = false := by simp [h4]
    clear h4 h2 h3 h0 h7
    have e3a := HB.out.cell (i := 3) rfl
    have e4a := HB.out.cell (i := 4) rfl
    go_enter Try.func20, Try.ntmps20
    go_wp2_with fail
    refine (has_nil now a _).mono ?_
    rintro e w1 ⟨rfl, ho1⟩
    have HO1 := hide (HO.out.trans ho1)
    have f3a := (ho1.blk HB.out (by simp)).cell (i := 3) rfl
    have f4a := (ho1.blk HB.out (by simp)).cell (i := 4) rfl
    clear ho1
    go_wp2_with fail
    refine (rhas_nil now a _).mono ?_
    rintro e w2 ⟨rfl, ho2⟩
    have HO2 := hide (HO1.out.trans ho2)
    clear ho2
    go_wp2
    go_ret
    exact ⟨rfl, HO2.out⟩

  by_cases h5 : d % 7 = 5
  · have e5 : (d % 7 == 5) = true := by simp [h5]
    have e2 : (d % 7 == 2) = false := by simp [h5]
    have e3 : (d % 7 == 3) = false := by simp [h5]
    have e4 : (d % 7 == 4) = false := by simp [h5]
    clear h5 h2 h3 h4 h0 h7
    have e3a := HB.out.cell (i := 3) rfl
    have e4a := HB.out.cell (i := 4) rfl
    go_enter Try.func20, Try.ntmps20
    go_wp2_with fail
    refine (broke_nil now a _).mono ?_
    rintro e w1 ⟨rfl, ho1⟩
    have HO1 := hide (HO.out.trans ho1)
    have f3a := (ho1.blk HB.out (by simp)).cell (i := 3) rfl
    have f4a := (ho1.blk HB.out (by simp)).cell (i := 4) rfl
    clear ho1
    go_wp2_with fail
    refine (rbroke_nil now a _).mono ?_
    rintro e w2 ⟨rfl, ho2⟩
    have HO2 := hide (HO1.out.trans ho2)
    clear ho2
    go_wp2
    go_ret
    exact ⟨rfl, HO2.out⟩

  by_cases h6 : d % 7 = 6
  · have e6 : (d % 7 == 6) = true := by simp [h6]
    have e2 : (d % 7 == 2) = false := by simp [h6]
    have e3 : (d % 7 == 3) = false := by simp [h6]
    have e4 : (d % 7 == 4) = false := by simp [h6]
    have e5 : (d % 7 == 5) = false := by simp [h6]
    clear h6 h2 h3 h4 h5 h0 h7
    have e3a := HB.out.cell (i := 3) rfl
    have e4a := HB.out.cell (i := 4) rfl
    go_enter Try.func20, Try.ntmps20
    go_wp2_with fail
    refine (comp_nil now a b _).mono ?_
    rintro e w1 ⟨rfl, ho1⟩
    have HO1 := hide (HO.out.trans ho1)
    have f3a := (ho1.blk HB.out (by simp)).cell (i := 3) rfl
    have f4a := (ho1.blk HB.out (by simp)).cell (i := 4) rfl
    clear ho1
    go_wp2_with fail
    refine (rcomp_nil now a b _).mono ?_
    rintro e w2 ⟨rfl, ho2⟩
    have HO2 := hide (HO1.out.trans ho2)
    clear ho2
    go_wp2
    go_ret
    exact ⟨rfl, HO2.out⟩

  · skip
    have e2 : (d % 7 == 2) = false := by simp [h2]
    have e3 : (d % 7 == 3) = false := by simp [h3]
    have e4 : (d % 7 == 4) = false := by simp [h4]
    have e5 : (d % 7 == 5) = false := by simp [h5]
    have e6 : (d % 7 == 6) = false := by simp [h6]
    clear h2 h3 h4 h5 h6 h0 h7
    have e3a := HB.out.cell (i := 3) rfl
    have e5a := HB.out.cell (i := 5) rfl
    go_enter Try.func20, Try.ntmps20
    go_wp2
    refine wp_region_text 13 [6] [7, 8, 9, 11] [10, 12] (fun w' => w'.cell? ⟨w.heap.size, 3, none⟩ = some (I64 a) ∧ w'.cell? ⟨w.heap.size, 5, none⟩ = some (.bool c)) (by kernel_rfl) (by kernel_rfl) ⟨by go_simp, by go_simp⟩ ?_
    simp only [List.take_succ_cons, List.take_zero, List.drop_succ_cons, List.drop_zero]
    repeat (first | ((refine wpText_h rfl rfl ?_; apply Exists.intro; refine ⟨?_, ?_⟩; next => (go_simp; (try (go_bits; go_simp)); (first | done | with_reducible rfl | (rw [if_neg (by omega)]; (try (go_bits; go_simp)); (first | done | with_reducible rfl)) | (rw [if_pos (by omega)]; (try (go_bits; go_simp)); (first | done | with_reducible rfl))))); (try simp only [Act.put, List.setIfInBounds_toArray, List.set_cons_zero, List.set_cons_succ])) | ((refine wpText_p rfl rfl ?_; apply Exists.intro; refine ⟨?_, ?_⟩; next => (intro w'; go_simp; (try (go_bits; go_simp)); (first | done | with_reducible rfl | (rw [if_neg (by omega)]; (try (go_bits; go_simp)); (first | done | with_reducible rfl)) | (rw [if_pos (by omega)]; (try (go_bits; go_simp)); (first | done | with_reducible rfl))))); (try simp only [Act.put, List.setIfInBounds_toArray, List.set_cons_zero, List.set_cons_succ])) | ((refine wpText_y rfl rfl ?_; apply Exists.intro; refine ⟨?_, ?_⟩; next => (intro w' hS; (first | obtain ⟨_, rfl⟩ := hS | skip); go_simp; (try (go_bits; go_simp)); (first | done | with_reducible rfl | (rw [if_neg (by omega)]; (try (go_bits; go_simp)); (first | done | with_reducible rfl)) | (rw [if_pos (by omega)]; (try (go_bits; go_simp)); (first | done | with_reducible rfl))))); (try simp only [Act.put, List.setIfInBounds_toArray, List.set_cons_zero, List.set_cons_succ])) | (refine wpText_skip (by first | exact .inl rfl | exact .inr (.inl rfl) | exact .inr (.inr rfl)) rfl ?_; (try simp only [Act.put, List.setIfInBounds_toArray, List.set_cons_zero, List.set_cons_succ])))
    refine wpText_e rfl rfl (fun K hK => ?_)
    go_wp2_with fail
    refine (charge_nil now a c _).mono ?_
    rintro e w1 ⟨rfl, ho1⟩
    have HO1 := hide ((HO.out.drew).trans ho1)
    have HB1 := hide (ho1.blk HB.out.drew (by simp))
    clear ho1
    refine hK _ _ ⟨HB1.out.cell rfl, HB1.out.cell rfl⟩ ?_
    clear hK K
    repeat (first | ((refine wpText_h rfl rfl ?_; apply Exists.intro; refine ⟨?_, ?_⟩; next => (go_simp; (try (go_bits; go_simp)); (first | done | with_reducible rfl | (rw [if_neg (by omega)]; (try (go_bits; go_simp)); (first | done | with_reducible rfl)) | (rw [if_pos (by omega)]; (try (go_bits; go_simp)); (first | done | with_reducible rfl))))); (try simp only [Act.put, List.setIfInBounds_toArray, List.set_cons_zero, List.set_cons_succ])) | ((refine wpText_p rfl rfl ?_; apply Exists.intro; refine ⟨?_, ?_⟩; next => (intro w'; go_simp; (try (go_bits; go_simp)); (first | done | with_reducible rfl | (rw [if_neg (by omega)]; (try (go_bits; go_simp)); (first | done | with_reducible rfl)) | (rw [if_pos (by omega)]; (try (go_bits; go_simp)); (first | done | with_reducible rfl))))); (try simp only [Act.put, List.setIfInBounds_toArray, List.set_cons_zero, List.set_cons_succ])) | ((refine wpText_y rfl rfl ?_; apply Exists.intro; refine ⟨?_, ?_⟩; next => (intro w' hS; (first | obtain ⟨_, rfl⟩ := hS | skip); go_simp; (try (go_bits; go_simp)); (first | done | with_reducible rfl | (rw [if_neg (by omega)]; (try (go_bits; go_simp)); (first | done | with_reducible rfl)) | (rw [if_pos (by omega)]; (try (go_bits; go_simp)); (first | done | with_reducible rfl))))); (try simp only [Act.put, List.setIfInBounds_toArray, List.set_cons_zero, List.set_cons_succ])) | (refine wpText_skip (by first | exact .inl rfl | exact .inr (.inl rfl) | exact .inr (.inr rfl)) rfl ?_; (try simp only [Act.put, List.setIfInBounds_toArray, List.set_cons_zero, List.set_cons_succ])))
    refine wpText_nil ?_
    go_wp2_with fail
    refine (rcharge_nil now a c _).mono ?_
    rintro e w2 ⟨rfl, ho2⟩
    have HO2 := hide (HO1.out.trans ho2)
    clear ho2
    go_wp2
    refine NoX.normal ?_
    go_wp2
    go_ret
    exact ⟨rfl, HO2.out⟩

set_option maxRecDepth 100000 in
theorem nil_true (d gap raw a b : Int) (c : Bool) (w : World) (hd0 : 0 ≤ d) (hd1 : d ≤ 255) :
    Calls Try.prog 7 #[ActV d gap raw a b c] w fun e w' => e = .returned (.bool true) ∧ Only [] w w' := by
  have HB := hide (Blk.new w 53 [.int .u8 d, .int .u8 gap, I64 raw, I64 a, I64 b, .bool c])
  have HO := hide ((Only.refl [] w).alloc (.cells #[.int .u8 d, .int .u8 gap, I64 raw, I64 a, I64 b, .bool c] 53))
  have e3a := HB.out.cell (i := 3) rfl
  go_enter Try.func7, Try.ntmps7
  go_wp2_with fail
  refine (budget_nil a _).mono ?_
  rintro e w1 ⟨rfl, ho1⟩
  have HO1 := hide (HO.out.trans ho1)
  have HB1 := ho1.blk HB.out (by simp)
  have f0 := HB1.cell (i := 0) rfl
  have f1 := HB1.cell (i := 1) rfl
  have f2 := HB1.cell (i := 2) rfl
  have f3 := HB1.cell (i := 3) rfl
  have f4 := HB1.cell (i := 4) rfl
  have f5 := HB1.cell (i := 5) rfl
  clear ho1 HB1
  go_wp2_with fail
  refine (step_nil d gap raw a b raw c _ hd0 hd1).mono ?_
  rintro e w2 ⟨rfl, ho2⟩
  go_wp2_with fail
  refine (awake_ok _).mono ?_
  rintro e w3 ⟨rfl, ho3⟩
  go_wp2
  go_ret
  exact ⟨rfl, HO1.out.trans (ho2.trans ho3)⟩

end Go.Proofs.Ytpeaojkbfllakaa
