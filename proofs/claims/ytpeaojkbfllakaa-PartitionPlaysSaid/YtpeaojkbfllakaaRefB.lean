/- The reference's Used, UsedCritical, HasBudget, Bankrupt, Compare, Budget. -/
import Derived.Test.YtpeaojkbfllakaaRefA
namespace Go.Proofs.Ytpeaojkbfllakaa
open Go.RowKit

section
variable {base rb rp : Nat} {m : Mtr}
theorem rask' (q c : Nat) (now : Int) (ps : List Int) (w : World) (h : RIs w base rb rp m) (hq : NumsAt w q ps) (hl : ps.length ≤ 10) :
    Calls Try.prog 35 #[.pointer (some ⟨rb, 0, none⟩), I64 now, .slice (some ⟨q, 0, none⟩) ps.length c] w
      fun e w' => e = .returned (I64 (m.err now ps)) ∧ RIs w' base rb rp m ∧ Only [] w w' :=
  (rask_ok base rb rp q c m now ps w h hq hl).mono fun _ _ ⟨h1, n, h2⟩ => ⟨h1, by rw [h2]; exact h.only ((Only.refl _ _).drewN n), by rw [h2]; exact (Only.refl _ _).drewN n⟩
theorem rbud' (pc : Int) (w : World) (h : RIs w base rb rp m) (hI : m.Inv) (h0 : 0 ≤ pc) (h1 : pc ≤ 100) :
    Calls Try.prog 33 #[.pointer (some ⟨rb, 0, none⟩), I64 pc] w
      fun e w' => e = .returned (I64 (m.cfg.bud pc)) ∧ RIs w' base rb rp m ∧ Only [] w w' :=
  (rbud_ok base rb rp m pc w h hI h0 h1).mono fun _ _ ⟨h1, n, h2⟩ => ⟨h1, by rw [h2]; exact h.only ((Only.refl _ _).drewN n), by rw [h2]; exact (Only.refl _ _).drewN n⟩
theorem rcount' (now : Int) (p : Nat) (cr : Bool) (w : World) (h : RIs w base rb rp (m.at_ now)) (hI : (m.at_ now).Inv) (h0 : 0 ≤ now) (h1 : now ≤ 1099511627776) (hl : m.l.length ≤ 1000) :
    Calls Try.prog 36 #[.pointer (some ⟨rb, 0, none⟩), I64 now, I64 p, .bool cr] w
      fun e w' => e = .returned (I64 ((m.at_ now).sumv p cr)) ∧ RIs w' base rb rp (m.at_ now) ∧ Only [] w w' :=
  (rcount_ok base rb rp (m.at_ now) now p cr w h hI h0 h1 hl).mono fun _ _ ⟨h1, h2⟩ => ⟨h1, h.only h2, h2⟩
theorem setNow' {w : World} (h : RIs w base rb rp m) (now : Int) : RIs (w.setCell ⟨rb, 4, none⟩ (I64 now)) base rb rp (m.at_ now) := (h.setNow now).1
end

theorem rused_no (base rb rp : Nat) (m : Mtr) (now p : Int) (w : World) (h : RIs w base rb rp m) (he : m.err now [p] ≠ 0) :
    Calls Try.prog 26 #[.pointer (some ⟨rb, 0, none⟩), I64 now, I64 p] w
      fun e w' => e = .returned (.tuple #[I64 0, I64 (m.err now [p])]) ∧ RIs w' base rb rp m ∧ Only [] w w' := by
  have hz : (m.err now [p] == 0) = false := by simpa using he
  have hc := hide (rask' w.heap.size 1 now [p] _ (h.only ((Only.refl [] w).alloc (.cells #[I64 p] 3))) (one_num w p) (by simp))
  clear h he
  go_enter Try.func26, Try.ntmps26
  go_wp2_with fail
  refine hc.out.mono ?_
  rintro e w1 ⟨rfl, h1, ho1⟩
  go_wp2
  go_ret2
  exact ⟨rfl, h1, ((Only.refl _ _).alloc _).trans ho1⟩

theorem rusedc_no (base rb rp : Nat) (m : Mtr) (now p : Int) (w : World) (h : RIs w base rb rp m) (he : m.err now [p] ≠ 0) :
    Calls Try.prog 27 #[.pointer (some ⟨rb, 0, none⟩), I64 now, I64 p] w
      fun e w' => e = .returned (.tuple #[I64 0, I64 (m.err now [p])]) ∧ RIs w' base rb rp m ∧ Only [] w w' := by
  have hz : (m.err now [p] == 0) = false := by simpa using he
  have hc := hide (rask' w.heap.size 1 now [p] _ (h.only ((Only.refl [] w).alloc (.cells #[I64 p] 3))) (one_num w p) (by simp))
  clear h he
  go_enter Try.func27, Try.ntmps27
  go_wp2_with fail
  refine hc.out.mono ?_
  rintro e w1 ⟨rfl, h1, ho1⟩
  go_wp2
  go_ret2
  exact ⟨rfl, h1, ((Only.refl _ _).alloc _).trans ho1⟩

theorem rhas_no (base rb rp : Nat) (m : Mtr) (now p : Int) (w : World) (h : RIs w base rb rp m) (he : m.err now [p] ≠ 0) :
    Calls Try.prog 28 #[.pointer (some ⟨rb, 0, none⟩), I64 now, I64 p] w
      fun e w' => e = .returned (.tuple #[.bool false, I64 (m.err now [p])]) ∧ RIs w' base rb rp m ∧ Only [] w w' := by
  have hz : (m.err now [p] == 0) = false := by simpa using he
  have hc := hide (rask' w.heap.size 1 now [p] _ (h.only ((Only.refl [] w).alloc (.cells #[I64 p] 3))) (one_num w p) (by simp))
  clear h he
  go_enter Try.func28, Try.ntmps28
  go_wp2_with fail
  refine hc.out.mono ?_
  rintro e w1 ⟨rfl, h1, ho1⟩
  go_wp2
  go_ret2
  exact ⟨rfl, h1, ((Only.refl _ _).alloc _).trans ho1⟩

theorem rbroke_no (base rb rp : Nat) (m : Mtr) (now p : Int) (w : World) (h : RIs w base rb rp m) (he : m.err now [p] ≠ 0) :
    Calls Try.prog 30 #[.pointer (some ⟨rb, 0, none⟩), I64 now, I64 p] w
      fun e w' => e = .returned (.tuple #[.bool false, I64 (m.err now [p])]) ∧ RIs w' base rb rp m ∧ Only [] w w' := by
  have hz : (m.err now [p] == 0) = false := by simpa using he
  have hc := hide (rask' w.heap.size 1 now [p] _ (h.only ((Only.refl [] w).alloc (.cells #[I64 p] 3))) (one_num w p) (by simp))
  clear h he
  go_enter Try.func30, Try.ntmps30
  go_wp2_with fail
  refine hc.out.mono ?_
  rintro e w1 ⟨rfl, h1, ho1⟩
  go_wp2
  go_ret2
  exact ⟨rfl, h1, ((Only.refl _ _).alloc _).trans ho1⟩

theorem rcomp_no (base rb rp : Nat) (m : Mtr) (now p q : Int) (w : World) (h : RIs w base rb rp m) (he : m.err now [p, q] ≠ 0) :
    Calls Try.prog 31 #[.pointer (some ⟨rb, 0, none⟩), I64 now, I64 p, I64 q] w
      fun e w' => e = .returned (.tuple #[I64 0, I64 (m.err now [p, q])]) ∧ RIs w' base rb rp m ∧ Only [] w w' := by
  have hz : (m.err now [p, q] == 0) = false := by simpa using he
  have hc := hide (rask' w.heap.size 2 now [p, q] _ (h.only ((Only.refl [] w).alloc (.cells #[I64 p, I64 q] 3))) (two_num w p q) (by simp))
  clear h he
  go_enter Try.func31, Try.ntmps31
  go_wp2_with fail
  refine hc.out.mono ?_
  rintro e w1 ⟨rfl, h1, ho1⟩
  go_wp2
  go_ret2
  exact ⟨rfl, h1, ((Only.refl _ _).alloc _).trans ho1⟩

theorem rcharge_no (base rb rp : Nat) (m : Mtr) (now p : Int) (c : Bool) (w : World) (h : RIs w base rb rp m) (he : m.err now [p] ≠ 0) :
    Calls Try.prog 32 #[.pointer (some ⟨rb, 0, none⟩), I64 now, I64 p, .bool c] w
      fun e w' => e = .returned (I64 (m.err now [p])) ∧ RIs w' base rb rp m ∧ Only [] w w' := by
  have hz : (m.err now [p] == 0) = false := by simpa using he
  have hc := hide (rask' w.heap.size 1 now [p] _ (h.only ((Only.refl [] w).alloc (.cells #[I64 p] 3))) (one_num w p) (by simp))
  clear h he
  go_enter Try.func32, Try.ntmps32
  go_wp2_with fail
  refine hc.out.mono ?_
  rintro e w1 ⟨rfl, h1, ho1⟩
  go_wp2
  go_ret
  exact ⟨rfl, h1, ((Only.refl _ _).alloc _).trans ho1⟩

theorem rused_yes (base rb rp : Nat) (m : Mtr) (now : Int) (p : Nat) (w : World) (h : RIs w base rb rp m) (hI : m.Inv) (he : m.err now [(p : Int)] = 0) (hl : m.l.length ≤ 1000) :
    Calls Try.prog 26 #[.pointer (some ⟨rb, 0, none⟩), I64 now, I64 p] w
      fun e w' => e = .returned (.tuple #[I64 ((m.at_ now).sumv p false), I64 0]) ∧ RIs w' base rb rp (m.at_ now) ∧ OnlyT refTs base w w' := by
  obtain ⟨t0, t1, t2, t3⟩ := Mtr.err_zero he
  have hpl : p < m.cfg.parts.length := by have := t3 p (by simp); omega
  have hc := hide (rask' w.heap.size 1 now [(p : Int)] _ (h.only ((Only.refl [] w).alloc (.cells #[I64 p] 3))) (one_num w p) (by simp))
  rw [he] at hc
  have HI := hide (hI.at_ t2 t1)
  clear t3 he h hI
  go_enter Try.func26, Try.ntmps26
  go_wp2_with fail
  refine hc.out.mono ?_
  rintro e w1 ⟨rfl, h1, ho1⟩
  obtain ⟨cap1, v1, k0, k1, k2, k3, k4, k5, _⟩ := h1.facts
  have H2 := hide (setNow' h1 now)
  have O2 := hide ((OnlyT.of_nil (base := base) (Ts := refTs) (((Only.refl [] w).alloc (.cells #[I64 p] 3)).trans ho1)).trans (h1.setNow now).2)
  have hlt1 := h1.lt
  clear h1 ho1
  go_wp2_with fail
  refine (rcount' now p false _ H2.out HI.out t0 t1 hl).mono ?_
  rintro e w2 ⟨rfl, h3, ho3⟩
  go_wp2
  go_ret2
  exact ⟨rfl, h3, O2.out.trans (OnlyT.of_nil ho3)⟩

theorem rusedc_yes (base rb rp : Nat) (m : Mtr) (now : Int) (p : Nat) (w : World) (h : RIs w base rb rp m) (hI : m.Inv) (he : m.err now [(p : Int)] = 0) (hl : m.l.length ≤ 1000) :
    Calls Try.prog 27 #[.pointer (some ⟨rb, 0, none⟩), I64 now, I64 p] w
      fun e w' => e = .returned (.tuple #[I64 ((m.at_ now).sumv p true), I64 0]) ∧ RIs w' base rb rp (m.at_ now) ∧ OnlyT refTs base w w' := by
  obtain ⟨t0, t1, t2, t3⟩ := Mtr.err_zero he
  have hpl : p < m.cfg.parts.length := by have := t3 p (by simp); omega
  have hc := hide (rask' w.heap.size 1 now [(p : Int)] _ (h.only ((Only.refl [] w).alloc (.cells #[I64 p] 3))) (one_num w p) (by simp))
  rw [he] at hc
  have HI := hide (hI.at_ t2 t1)
  clear t3 he h hI
  go_enter Try.func27, Try.ntmps27
  go_wp2_with fail
  refine hc.out.mono ?_
  rintro e w1 ⟨rfl, h1, ho1⟩
  obtain ⟨cap1, v1, k0, k1, k2, k3, k4, k5, _⟩ := h1.facts
  have H2 := hide (setNow' h1 now)
  have O2 := hide ((OnlyT.of_nil (base := base) (Ts := refTs) (((Only.refl [] w).alloc (.cells #[I64 p] 3)).trans ho1)).trans (h1.setNow now).2)
  have hlt1 := h1.lt
  clear h1 ho1
  go_wp2_with fail
  refine (rcount' now p true _ H2.out HI.out t0 t1 hl).mono ?_
  rintro e w2 ⟨rfl, h3, ho3⟩
  go_wp2
  go_ret2
  exact ⟨rfl, h3, O2.out.trans (OnlyT.of_nil ho3)⟩

theorem rhas_yes (base rb rp : Nat) (m : Mtr) (now : Int) (p : Nat) (w : World) (h : RIs w base rb rp m) (hI : m.Inv) (he : m.err now [(p : Int)] = 0) (hl : m.l.length ≤ 1000) :
    Calls Try.prog 28 #[.pointer (some ⟨rb, 0, none⟩), I64 now, I64 p] w
      fun e w' => e = .returned (.tuple #[.bool (decide ((m.at_ now).sumv p false < m.cfg.bud (m.cfg.share p).1)), I64 0]) ∧ RIs w' base rb rp (m.at_ now) ∧ OnlyT refTs base w w' := by
  obtain ⟨t0, t1, t2, t3⟩ := Mtr.err_zero he
  have hpl : p < m.cfg.parts.length := by have := t3 p (by simp); omega
  have hc := hide (rask' w.heap.size 1 now [(p : Int)] _ (h.only ((Only.refl [] w).alloc (.cells #[I64 p] 3))) (one_num w p) (by simp))
  rw [he] at hc
  have HI := hide (hI.at_ t2 t1)
  have hsh := hI.cfg.share p
  clear t3 he h hI
  go_enter Try.func28, Try.ntmps28
  go_wp2_with fail
  refine hc.out.mono ?_
  rintro e w1 ⟨rfl, h1, ho1⟩
  obtain ⟨cap1, v1, k0, k1, k2, k3, k4, k5, _⟩ := h1.facts
  have H2 := hide (setNow' h1 now)
  have O2 := hide ((OnlyT.of_nil (base := base) (Ts := refTs) (((Only.refl [] w).alloc (.cells #[I64 p] 3)).trans ho1)).trans (h1.setNow now).2)
  have hlt1 := h1.lt
  clear h1 ho1
  go_wp2
  generalize hW : w1.setCell { block := rb, off := 4 } (Value.int IntKind.i64 now) = W at *
  obtain ⟨s0, s1⟩ := H2.out.share (p := p) hpl
  obtain ⟨cap2, v2, _, _, c2, _⟩ := H2.out.facts
  have c2 : W.cell? ⟨rb, 2, none⟩ = some (.slice (some ⟨rp, 0, none⟩) m.cfg.parts.length cap2) := c2
  have s0' : W.cell? ⟨rp, p * 2, none⟩ = some (I64 (m.cfg.share p).1) := s0
  clear k0 k1 k2 k3 k4 k5 hW s0 s1
  have sx := s0'
  clear s0'
  refine wp_region_text 14 [3] [4, 5, 6, 7, 8, 10, 11, 12] [9, 13] (fun w' => w'.cell? ⟨rb, 2, none⟩ = some (.slice (some ⟨rp, 0, none⟩) m.cfg.parts.length cap2) ∧ w'.cell? ⟨rp, p * 2, none⟩ = some (I64 (m.cfg.share p).1)) (by kernel_rfl) (by kernel_rfl) ⟨c2, sx⟩ ?_
  simp only [List.take_succ_cons, List.take_zero, List.drop_succ_cons, List.drop_zero]
  repeat (first | ((refine wpText_h rfl rfl ?_; apply Exists.intro; refine ⟨?_, ?_⟩; next => (go_simp; (try (go_bits; go_simp)); (first | done | with_reducible rfl | (rw [if_neg (by omega)]; (try (go_bits; go_simp)); (first | done | with_reducible rfl)) | (rw [if_pos (by omega)]; (try (go_bits; go_simp)); (first | done | with_reducible rfl))))); (try simp only [Act.put, List.setIfInBounds_toArray, List.set_cons_zero, List.set_cons_succ])) | ((refine wpText_p rfl rfl ?_; apply Exists.intro; refine ⟨?_, ?_⟩; next => (intro w'; go_simp; (try (go_bits; go_simp)); (first | done | with_reducible rfl | (rw [if_neg (by omega)]; (try (go_bits; go_simp)); (first | done | with_reducible rfl)) | (rw [if_pos (by omega)]; (try (go_bits; go_simp)); (first | done | with_reducible rfl))))); (try simp only [Act.put, List.setIfInBounds_toArray, List.set_cons_zero, List.set_cons_succ])) | ((refine wpText_y rfl rfl ?_; apply Exists.intro; refine ⟨?_, ?_⟩; next => (intro w' hS; (first | obtain ⟨_, rfl⟩ := hS | skip); go_simp; (try (go_bits; go_simp)); (first | done | with_reducible rfl | (rw [if_neg (by omega)]; (try (go_bits; go_simp)); (first | done | with_reducible rfl)) | (rw [if_pos (by omega)]; (try (go_bits; go_simp)); (first | done | with_reducible rfl))))); (try simp only [Act.put, List.setIfInBounds_toArray, List.set_cons_zero, List.set_cons_succ])) | (refine wpText_skip (by first | exact .inl rfl | exact .inr (.inl rfl) | exact .inr (.inr rfl)) rfl ?_; (try simp only [Act.put, List.setIfInBounds_toArray, List.set_cons_zero, List.set_cons_succ])))
  refine wpText_e rfl rfl (fun K hK => ?_)
  go_wp2_with fail
  refine (rcount' now p false _ (H2.out.only ((Only.refl _ _).drew)) HI.out t0 t1 hl).mono ?_
  rintro e w2 ⟨rfl, h3, ho3⟩
  have d2 := ho3.cellA (w := W.drew) (v := .slice (some ⟨rp, 0, none⟩) m.cfg.parts.length cap2) c2 (by simp)
  have dx := ho3.cellA (w := W.drew) (v := I64 (m.cfg.share p).1) sx (by simp)
  refine hK _ _ ⟨d2, dx⟩ ?_
  clear hK K
  have H3 := hide h3
  have O3 := hide ((O2.out.trans (OnlyT.of_nil ((Only.refl [] W).drew))).trans (OnlyT.of_nil ho3))
  clear h3 ho3 c2 sx
  repeat (first | ((refine wpText_h rfl rfl ?_; apply Exists.intro; refine ⟨?_, ?_⟩; next => (go_simp; (try (go_bits; go_simp)); (first | done | with_reducible rfl | (rw [if_neg (by omega)]; (try (go_bits; go_simp)); (first | done | with_reducible rfl)) | (rw [if_pos (by omega)]; (try (go_bits; go_simp)); (first | done | with_reducible rfl))))); (try simp only [Act.put, List.setIfInBounds_toArray, List.set_cons_zero, List.set_cons_succ])) | ((refine wpText_p rfl rfl ?_; apply Exists.intro; refine ⟨?_, ?_⟩; next => (intro w'; go_simp; (try (go_bits; go_simp)); (first | done | with_reducible rfl | (rw [if_neg (by omega)]; (try (go_bits; go_simp)); (first | done | with_reducible rfl)) | (rw [if_pos (by omega)]; (try (go_bits; go_simp)); (first | done | with_reducible rfl))))); (try simp only [Act.put, List.setIfInBounds_toArray, List.set_cons_zero, List.set_cons_succ])) | ((refine wpText_y rfl rfl ?_; apply Exists.intro; refine ⟨?_, ?_⟩; next => (intro w' hS; (first | obtain ⟨_, rfl⟩ := hS | skip); go_simp; (try (go_bits; go_simp)); (first | done | with_reducible rfl | (rw [if_neg (by omega)]; (try (go_bits; go_simp)); (first | done | with_reducible rfl)) | (rw [if_pos (by omega)]; (try (go_bits; go_simp)); (first | done | with_reducible rfl))))); (try simp only [Act.put, List.setIfInBounds_toArray, List.set_cons_zero, List.set_cons_succ])) | (refine wpText_skip (by first | exact .inl rfl | exact .inr (.inl rfl) | exact .inr (.inr rfl)) rfl ?_; (try simp only [Act.put, List.setIfInBounds_toArray, List.set_cons_zero, List.set_cons_succ])))
  refine wpText_nil ?_
  go_wp2_with fail
  refine (rbud' _ _ H3.out HI.out hsh.1.1 hsh.1.2).mono ?_
  rintro e w4 ⟨rfl, h4, ho4⟩
  go_wp2
  refine NoX.normal ?_
  go_wp2
  go_ret2
  exact ⟨rfl, h4, O3.out.trans (OnlyT.of_nil ho4)⟩

theorem rbroke_yes (base rb rp : Nat) (m : Mtr) (now : Int) (p : Nat) (w : World) (h : RIs w base rb rp m) (hI : m.Inv) (he : m.err now [(p : Int)] = 0) (hl : m.l.length ≤ 1000) :
    Calls Try.prog 30 #[.pointer (some ⟨rb, 0, none⟩), I64 now, I64 p] w
      fun e w' => e = .returned (.tuple #[.bool (decide (m.cfg.bud (m.cfg.share p).2 ≤ (m.at_ now).sumv p true)), I64 0]) ∧ RIs w' base rb rp (m.at_ now) ∧ OnlyT refTs base w w' := by
  obtain ⟨t0, t1, t2, t3⟩ := Mtr.err_zero he
  have hpl : p < m.cfg.parts.length := by have := t3 p (by simp); omega
  have hc := hide (rask' w.heap.size 1 now [(p : Int)] _ (h.only ((Only.refl [] w).alloc (.cells #[I64 p] 3))) (one_num w p) (by simp))
  rw [he] at hc
  have HI := hide (hI.at_ t2 t1)
  have hsh := hI.cfg.share p
  clear t3 he h hI
  go_enter Try.func30, Try.ntmps30
  go_wp2_with fail
  refine hc.out.mono ?_
  rintro e w1 ⟨rfl, h1, ho1⟩
  obtain ⟨cap1, v1, k0, k1, k2, k3, k4, k5, _⟩ := h1.facts
  have H2 := hide (setNow' h1 now)
  have O2 := hide ((OnlyT.of_nil (base := base) (Ts := refTs) (((Only.refl [] w).alloc (.cells #[I64 p] 3)).trans ho1)).trans (h1.setNow now).2)
  have hlt1 := h1.lt
  clear h1 ho1
  go_wp2
  generalize hW : w1.setCell { block := rb, off := 4 } (Value.int IntKind.i64 now) = W at *
  obtain ⟨s0, s1⟩ := H2.out.share (p := p) hpl
  obtain ⟨cap2, v2, _, _, c2, _⟩ := H2.out.facts
  have c2 : W.cell? ⟨rb, 2, none⟩ = some (.slice (some ⟨rp, 0, none⟩) m.cfg.parts.length cap2) := c2
  have s1' : W.cell? ⟨rp, p * 2 + 1, none⟩ = some (I64 (m.cfg.share p).2) := s1
  clear k0 k1 k2 k3 k4 k5 hW s0 s1
  have sx := s1'
  clear s1'
  refine wp_region_text 14 [3] [4, 5, 6, 7, 8, 10, 11, 12] [9, 13] (fun w' => w'.cell? ⟨rb, 2, none⟩ = some (.slice (some ⟨rp, 0, none⟩) m.cfg.parts.length cap2) ∧ w'.cell? ⟨rp, p * 2 + 1, none⟩ = some (I64 (m.cfg.share p).2)) (by kernel_rfl) (by kernel_rfl) ⟨c2, sx⟩ ?_
  simp only [List.take_succ_cons, List.take_zero, List.drop_succ_cons, List.drop_zero]
  repeat (first | ((refine wpText_h rfl rfl ?_; apply Exists.intro; refine ⟨?_, ?_⟩; next => (go_simp; (try (go_bits; go_simp)); (first | done | with_reducible rfl | (rw [if_neg (by omega)]; (try (go_bits; go_simp)); (first | done | with_reducible rfl)) | (rw [if_pos (by omega)]; (try (go_bits; go_simp)); (first | done | with_reducible rfl))))); (try simp only [Act.put, List.setIfInBounds_toArray, List.set_cons_zero, List.set_cons_succ])) | ((refine wpText_p rfl rfl ?_; apply Exists.intro; refine ⟨?_, ?_⟩; next => (intro w'; go_simp; (try (go_bits; go_simp)); (first | done | with_reducible rfl | (rw [if_neg (by omega)]; (try (go_bits; go_simp)); (first | done | with_reducible rfl)) | (rw [if_pos (by omega)]; (try (go_bits; go_simp)); (first | done | with_reducible rfl))))); (try simp only [Act.put, List.setIfInBounds_toArray, List.set_cons_zero, List.set_cons_succ])) | ((refine wpText_y rfl rfl ?_; apply Exists.intro; refine ⟨?_, ?_⟩; next => (intro w' hS; (first | obtain ⟨_, rfl⟩ := hS | skip); go_simp; (try (go_bits; go_simp)); (first | done | with_reducible rfl | (rw [if_neg (by omega)]; (try (go_bits; go_simp)); (first | done | with_reducible rfl)) | (rw [if_pos (by omega)]; (try (go_bits; go_simp)); (first | done | with_reducible rfl))))); (try simp only [Act.put, List.setIfInBounds_toArray, List.set_cons_zero, List.set_cons_succ])) | (refine wpText_skip (by first | exact .inl rfl | exact .inr (.inl rfl) | exact .inr (.inr rfl)) rfl ?_; (try simp only [Act.put, List.setIfInBounds_toArray, List.set_cons_zero, List.set_cons_succ])))
  refine wpText_e rfl rfl (fun K hK => ?_)
  go_wp2_with fail
  refine (rcount' now p true _ (H2.out.only ((Only.refl _ _).drew)) HI.out t0 t1 hl).mono ?_
  rintro e w2 ⟨rfl, h3, ho3⟩
  have d2 := ho3.cellA (w := W.drew) (v := .slice (some ⟨rp, 0, none⟩) m.cfg.parts.length cap2) c2 (by simp)
  have dx := ho3.cellA (w := W.drew) (v := I64 (m.cfg.share p).2) sx (by simp)
  refine hK _ _ ⟨d2, dx⟩ ?_
  clear hK K
  have H3 := hide h3
  have O3 := hide ((O2.out.trans (OnlyT.of_nil ((Only.refl [] W).drew))).trans (OnlyT.of_nil ho3))
  clear h3 ho3 c2 sx
  repeat (first | ((refine wpText_h rfl rfl ?_; apply Exists.intro; refine ⟨?_, ?_⟩; next => (go_simp; (try (go_bits; go_simp)); (first | done | with_reducible rfl | (rw [if_neg (by omega)]; (try (go_bits; go_simp)); (first | done | with_reducible rfl)) | (rw [if_pos (by omega)]; (try (go_bits; go_simp)); (first | done | with_reducible rfl))))); (try simp only [Act.put, List.setIfInBounds_toArray, List.set_cons_zero, List.set_cons_succ])) | ((refine wpText_p rfl rfl ?_; apply Exists.intro; refine ⟨?_, ?_⟩; next => (intro w'; go_simp; (try (go_bits; go_simp)); (first | done | with_reducible rfl | (rw [if_neg (by omega)]; (try (go_bits; go_simp)); (first | done | with_reducible rfl)) | (rw [if_pos (by omega)]; (try (go_bits; go_simp)); (first | done | with_reducible rfl))))); (try simp only [Act.put, List.setIfInBounds_toArray, List.set_cons_zero, List.set_cons_succ])) | ((refine wpText_y rfl rfl ?_; apply Exists.intro; refine ⟨?_, ?_⟩; next => (intro w' hS; (first | obtain ⟨_, rfl⟩ := hS | skip); go_simp; (try (go_bits; go_simp)); (first | done | with_reducible rfl | (rw [if_neg (by omega)]; (try (go_bits; go_simp)); (first | done | with_reducible rfl)) | (rw [if_pos (by omega)]; (try (go_bits; go_simp)); (first | done | with_reducible rfl))))); (try simp only [Act.put, List.setIfInBounds_toArray, List.set_cons_zero, List.set_cons_succ])) | (refine wpText_skip (by first | exact .inl rfl | exact .inr (.inl rfl) | exact .inr (.inr rfl)) rfl ?_; (try simp only [Act.put, List.setIfInBounds_toArray, List.set_cons_zero, List.set_cons_succ])))
  refine wpText_nil ?_
  go_wp2_with fail
  refine (rbud' _ _ H3.out HI.out hsh.2.1 hsh.2.2).mono ?_
  rintro e w4 ⟨rfl, h4, ho4⟩
  go_wp2
  refine NoX.normal ?_
  go_wp2
  go_ret2
  exact ⟨rfl, h4, O3.out.trans (OnlyT.of_nil ho4)⟩

end Go.Proofs.Ytpeaojkbfllakaa
