/- The reference's Compare, Budget, Charge. -/
import Derived.Test.YtpeaojkbfllakaaRefB
namespace Go.Proofs.Ytpeaojkbfllakaa
open Go.RowKit

theorem OnlyT.grown {Ts : List TypeId} {base b0 : Nat} {w w' : World} {e : TypeId} {size n : Nat} {v : Value} {xs : List Value} (own : w.ownsRow b0 e size v n xs) (he : e ∈ Ts) (hb : base ≤ b0) (hg : w.grownBy w' v.ownBlock) : OnlyT Ts base w w' :=
  ⟨hg.os, hg.tape, hg.output, hg.size, fun k hk hE => hg.block k hk fun e => by
    obtain ⟨h1, h2⟩ := own_hasT own he hb k e.symm
    rcases hE with hE | hE
    · omega
    · exact hE h2⟩

set_option maxHeartbeats 4000000 in
theorem rcomp_yes (base rb rp : Nat) (m : Mtr) (now : Int) (p q : Nat) (w : World) (h : RIs w base rb rp m) (hI : m.Inv) (he : m.err now [(p : Int), (q : Int)] = 0) (hl : m.l.length ≤ 1000) :
    Calls Try.prog 31 #[.pointer (some ⟨rb, 0, none⟩), I64 now, I64 p, I64 q] w
      fun e w' => e = .returned (.tuple #[I64 (cmpv (m.cfg.bud (m.cfg.share p).1) (m.cfg.bud (m.cfg.share q).1) ((m.at_ now).sumv p false) ((m.at_ now).sumv q false)), I64 0]) ∧ RIs w' base rb rp (m.at_ now) ∧ OnlyT refTs base w w' := by
  obtain ⟨t0, t1, t2, t3⟩ := Mtr.err_zero he
  have hpl : p < m.cfg.parts.length := by have := t3 p (by simp); omega
  have hql : q < m.cfg.parts.length := by have := t3 q (by simp); omega
  have hc := hide (rask' w.heap.size 2 now [(p : Int), (q : Int)] _ (h.only ((Only.refl [] w).alloc (.cells #[I64 p, I64 q] 3))) (two_num w p q) (by simp))
  rw [he] at hc
  have HI := hide (hI.at_ t2 t1)
  have hsp := hI.cfg.share p
  have hsq := hI.cfg.share q
  obtain ⟨_, _, _, _, x0, x1⟩ := bud_bd hI.cfg hsp.1.1 hsp.1.2
  obtain ⟨_, _, _, _, y0, y1⟩ := bud_bd hI.cfg hsq.1.1 hsq.1.2
  obtain ⟨u0, u1⟩ := HI.out.sum_bd p false
  obtain ⟨v0, v1⟩ := HI.out.sum_bd q false
  have hbx := fun w' (hm : RIs w' base rb rp (m.at_ now)) => rbud' (m.cfg.share p).1 w' hm HI.out hsp.1.1 hsp.1.2
  have hby := fun w' (hm : RIs w' base rb rp (m.at_ now)) => rbud' (m.cfg.share q).1 w' hm HI.out hsq.1.1 hsq.1.2
  have hcu := fun w' (hm : RIs w' base rb rp (m.at_ now)) => rcount' now p false w' hm HI.out t0 t1 hl
  have hcv := fun w' (hm : RIs w' base rb rp (m.at_ now)) => rcount' now q false w' hm HI.out t0 t1 hl
  rw [show (m.at_ now).cfg = m.cfg from rfl] at hbx hby
  generalize hX : m.cfg.bud (m.cfg.share p).1 = X at *
  generalize hY : m.cfg.bud (m.cfg.share q).1 = Y at *
  generalize hU : (m.at_ now).sumv p false = U at *
  generalize hV : (m.at_ now).sumv q false = V at *
  have HBX := hide hbx
  have HBY := hide hby
  have HCU := hide hcu
  have HCV := hide hcv
  obtain ⟨uy0, uy1⟩ := mul_bd u0 u1 y0 y1
  obtain ⟨vx0, vx1⟩ := mul_bd v0 v1 x0 x1
  clear t3 he h hI hbx hby hcu hcv hX hY hU hV hsp hsq
  go_enter Try.func31, Try.ntmps31
  go_wp2_with fail
  refine hc.out.mono ?_
  rintro e w1 ⟨rfl, h1, ho1⟩
  obtain ⟨cap1, vv1, k0, k1, k2, k3, k4, k5, _⟩ := h1.facts
  have H2 := hide (setNow' h1 now)
  have O2 := hide ((OnlyT.of_nil (base := base) (Ts := refTs) (((Only.refl [] w).alloc (.cells #[I64 p, I64 q] 3)).trans ho1)).trans (h1.setNow now).2)
  have hlt1 := h1.lt
  clear h1 ho1
  go_wp2
  generalize hW : w1.setCell { block := rb, off := 4 } (Value.int IntKind.i64 now) = W at *
  obtain ⟨s0, _⟩ := H2.out.share (p := p) hpl
  obtain ⟨s1, _⟩ := H2.out.share (p := q) hql
  obtain ⟨cap2, v2, _, _, c2', _⟩ := H2.out.facts
  have c2 : W.cell? ⟨rb, 2, none⟩ = some (.slice (some ⟨rp, 0, none⟩) m.cfg.parts.length cap2) := c2'
  have sp : W.cell? ⟨rp, p * 2, none⟩ = some (I64 (m.cfg.share p).1) := s0
  have sq : W.cell? ⟨rp, q * 2, none⟩ = some (I64 (m.cfg.share q).1) := s1
  clear k0 k1 k2 k3 k4 k5 hW s0 s1 c2'
  refine wp_region_text 21 [10] [0, 1, 2, 3, 4, 6, 7, 8, 11, 12, 13, 14, 15, 17, 18, 19] [5, 9, 16, 20] (fun w' => w'.cell? ⟨rb, 2, none⟩ = some (.slice (some ⟨rp, 0, none⟩) m.cfg.parts.length cap2) ∧ w'.cell? ⟨rp, p * 2, none⟩ = some (I64 (m.cfg.share p).1) ∧ w'.cell? ⟨rp, q * 2, none⟩ = some (I64 (m.cfg.share q).1)) (by kernel_rfl) (by kernel_rfl) ⟨c2, sp, sq⟩ ?_
  simp only [List.take_succ_cons, List.take_zero, List.drop_succ_cons, List.drop_zero]
  repeat (first | ((refine wpText_h rfl rfl ?_; apply Exists.intro; refine ⟨?_, ?_⟩; next => (go_simp; (try (go_bits; go_simp)); (first | done | with_reducible rfl | (rw [if_neg (by omega)]; (try (go_bits; go_simp)); (first | done | with_reducible rfl)) | (rw [if_pos (by omega)]; (try (go_bits; go_simp)); (first | done | with_reducible rfl))))); (try simp only [Act.put, List.setIfInBounds_toArray, List.set_cons_zero, List.set_cons_succ])) | ((refine wpText_p rfl rfl ?_; apply Exists.intro; refine ⟨?_, ?_⟩; next => (intro w'; go_simp; (try (go_bits; go_simp)); (first | done | with_reducible rfl | (rw [if_neg (by omega)]; (try (go_bits; go_simp)); (first | done | with_reducible rfl)) | (rw [if_pos (by omega)]; (try (go_bits; go_simp)); (first | done | with_reducible rfl))))); (try simp only [Act.put, List.setIfInBounds_toArray, List.set_cons_zero, List.set_cons_succ])) | ((refine wpText_y rfl rfl ?_; apply Exists.intro; refine ⟨?_, ?_⟩; next => (intro w' hS; (first | obtain ⟨_, rfl⟩ := hS | skip); go_simp; (try (go_bits; go_simp)); (first | done | with_reducible rfl | (rw [if_neg (by omega)]; (try (go_bits; go_simp)); (first | done | with_reducible rfl)) | (rw [if_pos (by omega)]; (try (go_bits; go_simp)); (first | done | with_reducible rfl))))); (try simp only [Act.put, List.setIfInBounds_toArray, List.set_cons_zero, List.set_cons_succ])) | (refine wpText_skip (by first | exact .inl rfl | exact .inr (.inl rfl) | exact .inr (.inr rfl)) rfl ?_; (try simp only [Act.put, List.setIfInBounds_toArray, List.set_cons_zero, List.set_cons_succ])))
  refine wpText_e rfl rfl (fun K hK => ?_)
  go_wp2_with fail
  refine (HBX.out _ (H2.out.only ((Only.refl _ _).drew))).mono ?_
  rintro e w2 ⟨rfl, h3, ho3⟩
  have d2 := ho3.cellA (w := W.drew) (v := .slice (some ⟨rp, 0, none⟩) m.cfg.parts.length cap2) c2 (by simp)
  have dx := ho3.cellA (w := W.drew) (v := I64 (m.cfg.share q).1) sq (by simp)
  have dp := ho3.cellA (w := W.drew) (v := I64 (m.cfg.share p).1) sp (by simp)
  refine hK _ _ ⟨d2, dp, dx⟩ ?_
  clear hK K
  have H3 := hide h3
  have O3 := hide ((O2.out.trans (OnlyT.of_nil ((Only.refl [] W).drew))).trans (OnlyT.of_nil ho3))
  clear h3 ho3 c2 sp sq
  repeat (first | ((refine wpText_h rfl rfl ?_; apply Exists.intro; refine ⟨?_, ?_⟩; next => (go_simp; (try (go_bits; go_simp)); (first | done | with_reducible rfl | (rw [if_neg (by omega)]; (try (go_bits; go_simp)); (first | done | with_reducible rfl)) | (rw [if_pos (by omega)]; (try (go_bits; go_simp)); (first | done | with_reducible rfl))))); (try simp only [Act.put, List.setIfInBounds_toArray, List.set_cons_zero, List.set_cons_succ])) | ((refine wpText_p rfl rfl ?_; apply Exists.intro; refine ⟨?_, ?_⟩; next => (intro w'; go_simp; (try (go_bits; go_simp)); (first | done | with_reducible rfl | (rw [if_neg (by omega)]; (try (go_bits; go_simp)); (first | done | with_reducible rfl)) | (rw [if_pos (by omega)]; (try (go_bits; go_simp)); (first | done | with_reducible rfl))))); (try simp only [Act.put, List.setIfInBounds_toArray, List.set_cons_zero, List.set_cons_succ])) | ((refine wpText_y rfl rfl ?_; apply Exists.intro; refine ⟨?_, ?_⟩; next => (intro w' hS; (first | obtain ⟨_, rfl⟩ := hS | skip); go_simp; (try (go_bits; go_simp)); (first | done | with_reducible rfl | (rw [if_neg (by omega)]; (try (go_bits; go_simp)); (first | done | with_reducible rfl)) | (rw [if_pos (by omega)]; (try (go_bits; go_simp)); (first | done | with_reducible rfl))))); (try simp only [Act.put, List.setIfInBounds_toArray, List.set_cons_zero, List.set_cons_succ])) | (refine wpText_skip (by first | exact .inl rfl | exact .inr (.inl rfl) | exact .inr (.inr rfl)) rfl ?_; (try simp only [Act.put, List.setIfInBounds_toArray, List.set_cons_zero, List.set_cons_succ])))
  refine wpText_nil ?_
  go_wp2_with fail
  refine (HBY.out _ H3.out).mono ?_
  rintro e w4 ⟨rfl, h4, ho4⟩
  have H4 := hide h4
  have O4 := hide (O3.out.trans (OnlyT.of_nil ho4))
  clear h4 ho4 d2 dx dp
  go_wp2
  refine NoX.normal ?_
  by_cases hX0 : X = 0
  · subst hX0
    by_cases hY0 : Y = 0
    · subst hY0
      go_wp2
      go_ret2
      exact ⟨rfl, H4.out, O4.out⟩
    · have e1 : (Y == 0) = false := by simpa using hY0
      have hR : Hid (cmpv 0 Y U V = 1) := hide (by unfold cmpv; rw [if_pos (.inl rfl), if_neg (by omega), if_pos (by omega)])
      go_wp2
      go_ret2
      rw [hR.out]
      exact ⟨rfl, H4.out, O4.out⟩
  · have e0 : (X == 0) = false := by simpa using hX0
    by_cases hY0 : Y = 0
    · subst hY0
      have hR : Hid (cmpv X 0 U V = -1) := hide (by unfold cmpv; rw [if_pos (.inr rfl), if_pos (by omega)])
      go_wp2
      go_ret2
      rw [hR.out]
      exact ⟨rfl, H4.out, O4.out⟩
    · have e1 : (Y == 0) = false := by simpa using hY0
      have hno : Hid (¬ (X = 0 ∨ Y = 0)) := hide (by omega)
      go_wp2_with fail
      refine (HCU.out _ H4.out).mono ?_
      rintro e w5 ⟨rfl, h5, ho5⟩
      have H5 := hide h5
      have O5 := hide (O4.out.trans (OnlyT.of_nil ho5))
      clear h5 ho5
      go_wp2_with fail
      refine (HCV.out _ H5.out).mono ?_
      rintro e w6 ⟨rfl, h6, ho6⟩
      have H6 := hide h6
      have O6 := hide (O5.out.trans (OnlyT.of_nil ho6))
      clear h6 ho6
      by_cases l1 : U * Y < V * X
      · have hR : Hid (cmpv X Y U V = -1) := hide (by unfold cmpv; rw [if_neg hno.out, if_pos l1])
        have d1 : decide (U * Y < V * X) = true := by simp [l1]
        go_wp2
        go_ret2
        rw [hR.out]
        exact ⟨rfl, H6.out, O6.out⟩
      · have d1 : decide (U * Y < V * X) = false := by simp; omega
        by_cases l2 : V * X < U * Y
        · have hR : Hid (cmpv X Y U V = 1) := hide (by unfold cmpv; rw [if_neg hno.out, if_neg l1, if_pos l2])
          have d2 : decide (V * X < U * Y) = true := by simp [l2]
          go_wp2
          go_ret2
          rw [hR.out]
          exact ⟨rfl, H6.out, O6.out⟩
        · have hR : Hid (cmpv X Y U V = 0) := hide (by unfold cmpv; rw [if_neg hno.out, if_neg l1, if_neg l2])
          have d2 : decide (V * X < U * Y) = false := by simp; omega
          go_wp2
          go_ret2
          rw [hR.out]
          exact ⟨rfl, H6.out, O6.out⟩

theorem rbudget_ok (base rb rp : Nat) (m : Mtr) (part : Int) (w : World) (h : RIs w base rb rp m) (hI : m.Inv) :
    Calls Try.prog 21 #[.pointer (some ⟨rb, 0, none⟩), I64 part] w
      fun e w' => e = .returned (.tuple #[I64 (m.budget part).1, I64 (m.budget part).2.1, I64 (m.budget part).2.2]) ∧ RIs w' base rb rp m ∧ Only [] w w' := by
  have HM := hide h
  obtain ⟨cap, vv, _, _, c2, _⟩ := h.facts
  by_cases p0 : part < 0
  · have hR := hide (show m.budget part = (0, 0, 34) by unfold Mtr.budget; rw [if_pos (.inl p0)])
    clear h
    go_enter Try.func21, Try.ntmps21
    go_wp2
    go_ret3
    rw [hR.out]
    exact ⟨rfl, HM.out, Only.refl _ _⟩
  by_cases p1 : (m.cfg.parts.length : Int) ≤ part
  · have hR := hide (show m.budget part = (0, 0, 34) by unfold Mtr.budget; rw [if_pos (.inr p1)])
    have hd : decide ((m.cfg.parts.length : Int) ≤ part) = true := by simp [p1]
    clear h
    go_enter Try.func21, Try.ntmps21
    go_wp2
    go_ret3
    rw [hR.out]
    exact ⟨rfl, HM.out, Only.refl _ _⟩
  · have hR := hide (show m.budget part = (m.cfg.bud (m.cfg.share part.toNat).1, m.cfg.bud (m.cfg.share part.toNat).2, 0) by unfold Mtr.budget; rw [if_neg (by omega)])
    obtain ⟨p, rfl⟩ := Int.eq_ofNat_of_zero_le (show 0 ≤ part by omega)
    have hpl : p < m.cfg.parts.length := by omega
    have hd : decide ((m.cfg.parts.length : Int) ≤ p) = false := by simp; omega
    have hd' : decide (m.cfg.parts.length ≤ p) = false := by simp; omega
    obtain ⟨s0, s1⟩ := h.share hpl
    have hsh := hI.cfg.share p
    have HI := hide hI
    rw [Int.toNat_natCast] at hR
    clear h hI p0 p1
    go_enter Try.func21, Try.ntmps21
    go_wp2
    refine wp_region_text 21 [10] [0, 1, 2, 3, 4, 6, 7, 8, 11, 12, 13, 14, 15, 17, 18, 19] [5, 9, 16, 20] (fun w' => w'.cell? ⟨rb, 2, none⟩ = some (.slice (some ⟨rp, 0, none⟩) m.cfg.parts.length cap) ∧ w'.cell? ⟨rp, p * 2, none⟩ = some (I64 (m.cfg.share p).1) ∧ w'.cell? ⟨rp, p * 2 + 1, none⟩ = some (I64 (m.cfg.share p).2)) (by kernel_rfl) (by kernel_rfl) ⟨c2, s0, s1⟩ ?_
    simp only [List.take_succ_cons, List.take_zero, List.drop_succ_cons, List.drop_zero]
    repeat (first | ((refine wpText_h rfl rfl ?_; apply Exists.intro; refine ⟨?_, ?_⟩; next => (go_simp; (try (go_bits; go_simp)); (first | done | with_reducible rfl | (rw [if_neg (by omega)]; (try (go_bits; go_simp)); (first | done | with_reducible rfl)) | (rw [if_pos (by omega)]; (try (go_bits; go_simp)); (first | done | with_reducible rfl))))); (try simp only [Act.put, List.setIfInBounds_toArray, List.set_cons_zero, List.set_cons_succ])) | ((refine wpText_p rfl rfl ?_; apply Exists.intro; refine ⟨?_, ?_⟩; next => (intro w'; go_simp; (try (go_bits; go_simp)); (first | done | with_reducible rfl | (rw [if_neg (by omega)]; (try (go_bits; go_simp)); (first | done | with_reducible rfl)) | (rw [if_pos (by omega)]; (try (go_bits; go_simp)); (first | done | with_reducible rfl))))); (try simp only [Act.put, List.setIfInBounds_toArray, List.set_cons_zero, List.set_cons_succ])) | ((refine wpText_y rfl rfl ?_; apply Exists.intro; refine ⟨?_, ?_⟩; next => (intro w' hS; (first | obtain ⟨_, rfl⟩ := hS | skip); go_simp; (try (go_bits; go_simp)); (first | done | with_reducible rfl | (rw [if_neg (by omega)]; (try (go_bits; go_simp)); (first | done | with_reducible rfl)) | (rw [if_pos (by omega)]; (try (go_bits; go_simp)); (first | done | with_reducible rfl))))); (try simp only [Act.put, List.setIfInBounds_toArray, List.set_cons_zero, List.set_cons_succ])) | (refine wpText_skip (by first | exact .inl rfl | exact .inr (.inl rfl) | exact .inr (.inr rfl)) rfl ?_; (try simp only [Act.put, List.setIfInBounds_toArray, List.set_cons_zero, List.set_cons_succ])))
    refine wpText_e rfl rfl (fun K hK => ?_)
    go_wp2_with fail
    refine (rbud' _ _ (HM.out.only ((Only.refl [] w).drew)) HI.out hsh.1.1 hsh.1.2).mono ?_
    rintro e w1 ⟨rfl, h1, ho1⟩
    have d2 := ho1.cellA (w := w.drew) (v := .slice (some ⟨rp, 0, none⟩) m.cfg.parts.length cap) c2 (by simp)
    have dx := ho1.cellA (w := w.drew) (v := I64 (m.cfg.share p).2) s1 (by simp)
    have dp := ho1.cellA (w := w.drew) (v := I64 (m.cfg.share p).1) s0 (by simp)
    refine hK _ _ ⟨d2, dp, dx⟩ ?_
    clear hK K
    have H1 := hide h1
    have O1 := hide (((Only.refl [] w).drew).trans ho1)
    clear h1 ho1 c2 s0 s1
    repeat (first | ((refine wpText_h rfl rfl ?_; apply Exists.intro; refine ⟨?_, ?_⟩; next => (go_simp; (try (go_bits; go_simp)); (first | done | with_reducible rfl | (rw [if_neg (by omega)]; (try (go_bits; go_simp)); (first | done | with_reducible rfl)) | (rw [if_pos (by omega)]; (try (go_bits; go_simp)); (first | done | with_reducible rfl))))); (try simp only [Act.put, List.setIfInBounds_toArray, List.set_cons_zero, List.set_cons_succ])) | ((refine wpText_p rfl rfl ?_; apply Exists.intro; refine ⟨?_, ?_⟩; next => (intro w'; go_simp; (try (go_bits; go_simp)); (first | done | with_reducible rfl | (rw [if_neg (by omega)]; (try (go_bits; go_simp)); (first | done | with_reducible rfl)) | (rw [if_pos (by omega)]; (try (go_bits; go_simp)); (first | done | with_reducible rfl))))); (try simp only [Act.put, List.setIfInBounds_toArray, List.set_cons_zero, List.set_cons_succ])) | ((refine wpText_y rfl rfl ?_; apply Exists.intro; refine ⟨?_, ?_⟩; next => (intro w' hS; (first | obtain ⟨_, rfl⟩ := hS | skip); go_simp; (try (go_bits; go_simp)); (first | done | with_reducible rfl | (rw [if_neg (by omega)]; (try (go_bits; go_simp)); (first | done | with_reducible rfl)) | (rw [if_pos (by omega)]; (try (go_bits; go_simp)); (first | done | with_reducible rfl))))); (try simp only [Act.put, List.setIfInBounds_toArray, List.set_cons_zero, List.set_cons_succ])) | (refine wpText_skip (by first | exact .inl rfl | exact .inr (.inl rfl) | exact .inr (.inr rfl)) rfl ?_; (try simp only [Act.put, List.setIfInBounds_toArray, List.set_cons_zero, List.set_cons_succ])))
    refine wpText_nil ?_
    go_wp2_with fail
    refine (rbud' _ _ H1.out HI.out hsh.2.1 hsh.2.2).mono ?_
    rintro e w2 ⟨rfl, h2, ho2⟩
    go_wp2
    refine NoX.normal ?_
    go_wp2
    go_ret3
    rw [hR.out]
    exact ⟨rfl, h2, O1.out.trans ho2⟩

end Go.Proofs.Ytpeaojkbfllakaa
