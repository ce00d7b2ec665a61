/- HasBudget, Bankrupt, Compare, Budget. -/
import Derived.Test.YtpeaojkbfllakaaWalkE
namespace Go.Proofs.Ytpeaojkbfllakaa
open Go.RowKit

theorem used_ok (b pb : Nat) (m : Mtr) (now part : Int) (w : World) (h : MtrIs w b pb m) (hI : m.Inv) :
    Calls Try.prog 11 #[.pointer (some ⟨b, 0, none⟩), I64 now, I64 part] w
      fun e w' => e = .returned (.tuple #[I64 (m.used now part false).2.1, I64 (m.used now part false).2.2]) ∧ MtrIs w' b pb (m.used now part false).1 ∧ Only [b] w w' := by
  unfold Mtr.used
  by_cases he : m.err now [part] = 0
  · rw [if_neg (by simpa using he)]
    obtain ⟨p, rfl⟩ := Int.eq_ofNat_of_zero_le ((Mtr.err_zero he).2.2.2 part (by simp)).1
    exact used_yes b pb m now p w h hI he
  · rw [if_pos he]
    exact (used_no b pb m now part w h he).mono fun e w' ⟨h1, h2⟩ => ⟨h1, h.only h2 (by simp) (by simp), h2.mono (by simp)⟩
theorem usedc_ok (b pb : Nat) (m : Mtr) (now part : Int) (w : World) (h : MtrIs w b pb m) (hI : m.Inv) :
    Calls Try.prog 12 #[.pointer (some ⟨b, 0, none⟩), I64 now, I64 part] w
      fun e w' => e = .returned (.tuple #[I64 (m.used now part true).2.1, I64 (m.used now part true).2.2]) ∧ MtrIs w' b pb (m.used now part true).1 ∧ Only [b] w w' := by
  unfold Mtr.used
  by_cases he : m.err now [part] = 0
  · rw [if_neg (by simpa using he)]
    obtain ⟨p, rfl⟩ := Int.eq_ofNat_of_zero_le ((Mtr.err_zero he).2.2.2 part (by simp)).1
    exact usedc_yes b pb m now p w h hI he
  · rw [if_pos he]
    exact (usedc_no b pb m now part w h he).mono fun e w' ⟨h1, h2⟩ => ⟨h1, h.only h2 (by simp) (by simp), h2.mono (by simp)⟩

theorem has_ok (b pb : Nat) (m : Mtr) (now part : Int) (w : World) (h : MtrIs w b pb m) (hI : m.Inv) :
    Calls Try.prog 13 #[.pointer (some ⟨b, 0, none⟩), I64 now, I64 part] w
      fun e w' => e = .returned (.tuple #[.bool (m.has now part).2.1, I64 (m.has now part).2.2]) ∧ MtrIs w' b pb (m.has now part).1 ∧ Only [b] w w' := by
  by_cases he : m.err now [part] = 0
  · have hR := hide (show m.has now part = (m.at_ now, decide ((m.at_ now).sumv part.toNat false < m.cfg.bud (m.cfg.share part.toNat).1), 0) by unfold Mtr.has; rw [if_neg (by simpa using he)])
    obtain ⟨t0, t1, t2, t3⟩ := Mtr.err_zero he
    obtain ⟨p, rfl⟩ := Int.eq_ofNat_of_zero_le (t3 part (by simp)).1
    have hpl : p < m.cfg.parts.length := by have := t3 p (by simp); omega
    have hc := hide (used_yes b pb m now p w h hI he)
    have HI := hide (hI.at_ t2 t1)
    have hsh := hI.cfg.share p
    rw [Int.toNat_natCast] at hR
    clear t3 he h hI
    go_enter Try.func13, Try.ntmps13
    go_wp2_with fail
    refine hc.out.mono ?_
    rintro e w1 ⟨rfl, hm1, ho1⟩
    have HM1 := hide hm1
    obtain ⟨s0, s1⟩ := hm1.share hpl
    obtain ⟨cap, c2, _⟩ := hm1.facts
    have c2' : w1.cell? ⟨b, 2, none⟩ = some (.slice (some ⟨pb, 0, none⟩) m.cfg.parts.length cap) := c2
    have s0' : w1.cell? ⟨pb, p * 2, none⟩ = some (I64 (m.cfg.share p).1) := s0
    clear c2 s0 s1 hm1
    go_wp2_with fail
    refine (bud_ok b pb (m.at_ now) _ _ HM1.out HI.out hsh.1.1 hsh.1.2).mono ?_
    rintro e w2 ⟨rfl, n2, rfl⟩
    go_wp2
    go_ret2
    rw [hR.out]
    exact ⟨rfl, HM1.out.only ((Only.refl [] _).drewN n2) (by simp) (by simp), ho1.drewN n2⟩
  · have hR := hide (show m.has now part = (m, false, m.err now [part]) by unfold Mtr.has; rw [if_pos he])
    have hz : (m.err now [part] == 0) = false := by simpa using he
    have hc := hide (used_no b pb m now part w h he)
    have HM := hide h
    clear he h
    go_enter Try.func13, Try.ntmps13
    go_wp2_with fail
    refine hc.out.mono ?_
    rintro e w1 ⟨rfl, ho1⟩
    go_wp2
    go_ret2
    rw [hR.out]
    exact ⟨rfl, HM.out.only ho1 (by simp) (by simp), ho1.mono (by simp)⟩
theorem broke_ok (b pb : Nat) (m : Mtr) (now part : Int) (w : World) (h : MtrIs w b pb m) (hI : m.Inv) :
    Calls Try.prog 29 #[.pointer (some ⟨b, 0, none⟩), I64 now, I64 part] w
      fun e w' => e = .returned (.tuple #[.bool (m.broke now part).2.1, I64 (m.broke now part).2.2]) ∧ MtrIs w' b pb (m.broke now part).1 ∧ Only [b] w w' := by
  by_cases he : m.err now [part] = 0
  · have hR := hide (show m.broke now part = (m.at_ now, decide (m.cfg.bud (m.cfg.share part.toNat).2 ≤ (m.at_ now).sumv part.toNat true), 0) by unfold Mtr.broke; rw [if_neg (by simpa using he)])
    obtain ⟨t0, t1, t2, t3⟩ := Mtr.err_zero he
    obtain ⟨p, rfl⟩ := Int.eq_ofNat_of_zero_le (t3 part (by simp)).1
    have hpl : p < m.cfg.parts.length := by have := t3 p (by simp); omega
    have hc := hide (usedc_yes b pb m now p w h hI he)
    have HI := hide (hI.at_ t2 t1)
    have hsh := hI.cfg.share p
    rw [Int.toNat_natCast] at hR
    clear t3 he h hI
    go_enter Try.func29, Try.ntmps29
    go_wp2_with fail
    refine hc.out.mono ?_
    rintro e w1 ⟨rfl, hm1, ho1⟩
    have HM1 := hide hm1
    obtain ⟨s0, s1⟩ := hm1.share hpl
    obtain ⟨cap, c2, _⟩ := hm1.facts
    have c2' : w1.cell? ⟨b, 2, none⟩ = some (.slice (some ⟨pb, 0, none⟩) m.cfg.parts.length cap) := c2
    have s1' : w1.cell? ⟨pb, p * 2 + 1, none⟩ = some (I64 (m.cfg.share p).2) := s1
    clear c2 s0 s1 hm1
    go_wp2_with fail
    refine (bud_ok b pb (m.at_ now) _ _ HM1.out HI.out hsh.2.1 hsh.2.2).mono ?_
    rintro e w2 ⟨rfl, n2, rfl⟩
    go_wp2
    go_ret2
    rw [hR.out]
    exact ⟨rfl, HM1.out.only ((Only.refl [] _).drewN n2) (by simp) (by simp), ho1.drewN n2⟩
  · have hR := hide (show m.broke now part = (m, false, m.err now [part]) by unfold Mtr.broke; rw [if_pos he])
    have hz : (m.err now [part] == 0) = false := by simpa using he
    have hc := hide (usedc_no b pb m now part w h he)
    have HM := hide h
    clear he h
    go_enter Try.func29, Try.ntmps29
    go_wp2_with fail
    refine hc.out.mono ?_
    rintro e w1 ⟨rfl, ho1⟩
    go_wp2
    go_ret2
    rw [hR.out]
    exact ⟨rfl, HM.out.only ho1 (by simp) (by simp), ho1.mono (by simp)⟩

theorem budget_ok (b pb : Nat) (m : Mtr) (part : Int) (w : World) (h : MtrIs w b pb m) (hI : m.Inv) :
    Calls Try.prog 14 #[.pointer (some ⟨b, 0, none⟩), I64 part] w
      fun e w' => e = .returned (.tuple #[I64 (m.budget part).1, I64 (m.budget part).2.1, I64 (m.budget part).2.2]) ∧ ∃ n, w' = w.drewN n := by
  have HM := hide h
  obtain ⟨cap, c2, _⟩ := h.facts
  by_cases p0 : part < 0
  · have hR := hide (show m.budget part = (0, 0, 34) by unfold Mtr.budget; rw [if_pos (.inl p0)])
    clear h
    go_enter Try.func14, Try.ntmps14
    go_wp2
    go_ret3
    rw [hR.out]
    exact ⟨rfl, 0, rfl⟩
  by_cases p1 : (m.cfg.parts.length : Int) ≤ part
  · have hR := hide (show m.budget part = (0, 0, 34) by unfold Mtr.budget; rw [if_pos (.inr p1)])
    have hd : decide ((m.cfg.parts.length : Int) ≤ part) = true := by simp [p1]
    clear h
    go_enter Try.func14, Try.ntmps14
    go_wp2
    go_ret3
    rw [hR.out]
    exact ⟨rfl, 0, rfl⟩
  · have hR := hide (show m.budget part = (m.cfg.bud (m.cfg.share part.toNat).1, m.cfg.bud (m.cfg.share part.toNat).2, 0) by unfold Mtr.budget; rw [if_neg (by omega)])
    obtain ⟨p, rfl⟩ := Int.eq_ofNat_of_zero_le (show 0 ≤ part by omega)
    have hpl : p < m.cfg.parts.length := by omega
    have hd : decide ((m.cfg.parts.length : Int) ≤ p) = false := by simp; omega
    have hd' : decide (m.cfg.parts.length ≤ p) = false := by simp; omega
    obtain ⟨s0, s1⟩ := h.share hpl
    have hsh := hI.cfg.share p
    have HI := hide hI
    rw [Int.toNat_natCast] at hR
    clear h hI p0 p1
    go_enter Try.func14, Try.ntmps14
    go_wp2
    refine wp_region_text 19 [9] [10, 11, 12, 13, 15, 16, 17] [14, 18] (fun w' => ∃ n, w' = w.drewN n) (by kernel_rfl) (by kernel_rfl) ⟨1, rfl⟩ ?_
    simp only [List.take_succ_cons, List.take_zero, List.drop_succ_cons, List.drop_zero]
    repeat (first | ((refine wpText_h rfl rfl ?_; apply Exists.intro; refine ⟨?_, ?_⟩; next => (go_simp; (try (go_bits; go_simp)); (first | done | with_reducible rfl | (rw [if_neg (by omega)]; (try (go_bits; go_simp)); (first | done | with_reducible rfl)) | (rw [if_pos (by omega)]; (try (go_bits; go_simp)); (first | done | with_reducible rfl))))); (try simp only [Act.put, List.setIfInBounds_toArray, List.set_cons_zero, List.set_cons_succ])) | ((refine wpText_p rfl rfl ?_; apply Exists.intro; refine ⟨?_, ?_⟩; next => (intro w'; go_simp; (try (go_bits; go_simp)); (first | done | with_reducible rfl | (rw [if_neg (by omega)]; (try (go_bits; go_simp)); (first | done | with_reducible rfl)) | (rw [if_pos (by omega)]; (try (go_bits; go_simp)); (first | done | with_reducible rfl))))); (try simp only [Act.put, List.setIfInBounds_toArray, List.set_cons_zero, List.set_cons_succ])) | ((refine wpText_y rfl rfl ?_; apply Exists.intro; refine ⟨?_, ?_⟩; next => (intro w' hS; (first | obtain ⟨_, rfl⟩ := hS | skip); go_simp; (try (go_bits; go_simp)); (first | done | with_reducible rfl | (rw [if_neg (by omega)]; (try (go_bits; go_simp)); (first | done | with_reducible rfl)) | (rw [if_pos (by omega)]; (try (go_bits; go_simp)); (first | done | with_reducible rfl))))); (try simp only [Act.put, List.setIfInBounds_toArray, List.set_cons_zero, List.set_cons_succ])) | (refine wpText_skip (by first | exact .inl rfl | exact .inr (.inl rfl) | exact .inr (.inr rfl)) rfl ?_; (try simp only [Act.put, List.setIfInBounds_toArray, List.set_cons_zero, List.set_cons_succ])))
    refine wpText_e rfl rfl (fun K hK => ?_)
    go_wp2_with fail
    refine (bud_ok b pb m _ _ (HM.out.only ((Only.refl [] w).drew) (by simp) (by simp)) HI.out hsh.1.1 hsh.1.2).mono ?_
    rintro e w1 ⟨rfl, n1, rfl⟩
    refine hK _ _ ⟨1 + n1, by simp⟩ ?_
    clear hK K
    repeat (first | ((refine wpText_h rfl rfl ?_; apply Exists.intro; refine ⟨?_, ?_⟩; next => (go_simp; (try (go_bits; go_simp)); (first | done | with_reducible rfl | (rw [if_neg (by omega)]; (try (go_bits; go_simp)); (first | done | with_reducible rfl)) | (rw [if_pos (by omega)]; (try (go_bits; go_simp)); (first | done | with_reducible rfl))))); (try simp only [Act.put, List.setIfInBounds_toArray, List.set_cons_zero, List.set_cons_succ])) | ((refine wpText_p rfl rfl ?_; apply Exists.intro; refine ⟨?_, ?_⟩; next => (intro w'; go_simp; (try (go_bits; go_simp)); (first | done | with_reducible rfl | (rw [if_neg (by omega)]; (try (go_bits; go_simp)); (first | done | with_reducible rfl)) | (rw [if_pos (by omega)]; (try (go_bits; go_simp)); (first | done | with_reducible rfl))))); (try simp only [Act.put, List.setIfInBounds_toArray, List.set_cons_zero, List.set_cons_succ])) | ((refine wpText_y rfl rfl ?_; apply Exists.intro; refine ⟨?_, ?_⟩; next => (intro w' hS; (first | obtain ⟨_, rfl⟩ := hS | skip); go_simp; (try (go_bits; go_simp)); (first | done | with_reducible rfl | (rw [if_neg (by omega)]; (try (go_bits; go_simp)); (first | done | with_reducible rfl)) | (rw [if_pos (by omega)]; (try (go_bits; go_simp)); (first | done | with_reducible rfl))))); (try simp only [Act.put, List.setIfInBounds_toArray, List.set_cons_zero, List.set_cons_succ])) | (refine wpText_skip (by first | exact .inl rfl | exact .inr (.inl rfl) | exact .inr (.inr rfl)) rfl ?_; (try simp only [Act.put, List.setIfInBounds_toArray, List.set_cons_zero, List.set_cons_succ])))
    refine wpText_nil ?_
    go_wp2_with fail
    refine (bud_ok b pb m _ _ (HM.out.only ((Only.refl [] w).drewN (1 + n1)) (by simp) (by simp)) HI.out hsh.2.1 hsh.2.2).mono ?_
    rintro e w2 ⟨rfl, n2, rfl⟩
    go_wp2
    refine NoX.normal ?_
    go_wp2
    go_ret3
    rw [hR.out]
    exact ⟨rfl, _, rfl⟩

end Go.Proofs.Ytpeaojkbfllakaa
