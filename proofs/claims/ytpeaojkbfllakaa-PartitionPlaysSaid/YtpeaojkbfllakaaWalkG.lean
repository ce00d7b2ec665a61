/- Compare. -/
import Derived.Test.YtpeaojkbfllakaaWalkF
namespace Go.Proofs.Ytpeaojkbfllakaa
open Go.RowKit

theorem two_num (w : World) (a b : Int) : NumsAt (w.alloc (.cells #[I64 a, I64 b] 3)) w.heap.size [a, b] := fun k p hp => by
  have hb := Blk.new w 3 [I64 a, I64 b]
  match k, hp with
  | 0, hp => simp at hp; subst hp; exact hb.cell rfl
  | 1, hp => simp at hp; subst hp; exact hb.cell rfl

theorem mul_bd {u y : Int} (h0 : 0 ≤ u) (h1 : u ≤ 7992) (h2 : 0 ≤ y) (h3 : y ≤ 8000) : 0 ≤ u * y ∧ u * y ≤ 63936000 := by
  have a := Int.mul_nonneg h0 h2
  have b : u * y ≤ 7992 * 8000 := Int.mul_le_mul h1 h3 h2 (by omega)
  exact ⟨a, by omega⟩

set_option maxHeartbeats 4000000 in
theorem comp_yes (b pb : Nat) (m : Mtr) (now : Int) (p q : Nat) (w : World) (h : MtrIs w b pb m) (hI : m.Inv) (he : m.err now [(p : Int), (q : Int)] = 0) :
    Calls Try.prog 15 #[.pointer (some ⟨b, 0, none⟩), I64 now, I64 p, I64 q] w
      fun e w' => e = .returned (.tuple #[I64 (cmpv (m.cfg.bud (m.cfg.share p).1) (m.cfg.bud (m.cfg.share q).1) ((m.at_ now).sumv p false) ((m.at_ now).sumv q false)), I64 0]) ∧ MtrIs w' b pb (m.at_ now) ∧ Only [b] w w' := by
  obtain ⟨t0, t1, t2, t3⟩ := Mtr.err_zero he
  have hpl : p < m.cfg.parts.length := by have := t3 p (by simp); omega
  have hql : q < m.cfg.parts.length := by have := t3 q (by simp); omega
  have hp8 := hI.cfg.2.2.2.2.2.1
  have hlt := h.lt
  have HA := hide (h.only ((Only.refl [] w).alloc (.cells #[I64 p, I64 q] 3)) (by simp) (by simp))
  have hc := hide (check_ok b pb w.heap.size 2 m now [(p : Int), (q : Int)] _ HA.out (two_num w p q) (by simp))
  rw [he] at hc
  have ha := hide (advance_ok b pb m now _ hI HA.out t2 t1)
  have HI := hide (hI.at_ t2 t1)
  have hsp := hI.cfg.share p
  have hsq := hI.cfg.share q
  obtain ⟨_, _, _, _, x0, x1⟩ := bud_bd hI.cfg hsp.1.1 hsp.1.2
  obtain ⟨_, _, _, _, y0, y1⟩ := bud_bd hI.cfg hsq.1.1 hsq.1.2
  obtain ⟨u0, u1⟩ := HI.out.sum_bd p false
  obtain ⟨v0, v1⟩ := HI.out.sum_bd q false
  have hbx := fun w' (hm : MtrIs w' b pb (m.at_ now)) => bud_ok b pb (m.at_ now) (m.cfg.share p).1 w' hm HI.out hsp.1.1 hsp.1.2
  have hby := fun w' (hm : MtrIs w' b pb (m.at_ now)) => bud_ok b pb (m.at_ now) (m.cfg.share q).1 w' hm HI.out hsq.1.1 hsq.1.2
  rw [show (m.at_ now).cfg = m.cfg from rfl] at hbx hby
  generalize hX : m.cfg.bud (m.cfg.share p).1 = X at *
  generalize hY : m.cfg.bud (m.cfg.share q).1 = Y at *
  generalize hU : (m.at_ now).sumv p false = U at *
  generalize hV : (m.at_ now).sumv q false = V at *
  have HBX := hide hbx
  have HBY := hide hby
  have HU := hide hU
  have HV := hide hV
  obtain ⟨uy0, uy1⟩ := mul_bd u0 u1 y0 y1
  obtain ⟨vx0, vx1⟩ := mul_bd v0 v1 x0 x1
  clear t3 he h hI hbx hby hX hY hU hV hsp hsq
  go_enter Try.func15, Try.ntmps15
  go_wp2_with fail
  refine hc.out.mono ?_
  rintro e w1 ⟨rfl, rfl⟩
  go_wp2_with fail
  refine ha.out.mono ?_
  rintro e w2 ⟨rfl, hm2, ho2⟩
  have HM2 := hide hm2
  obtain ⟨s0, _⟩ := hm2.share (p := p) hpl
  obtain ⟨s1, _⟩ := hm2.share (p := q) hql
  obtain ⟨cap, c2', _, _, c20, _, cs⟩ := hm2.facts
  have c2 : w2.cell? ⟨b, 2, none⟩ = some (.slice (some ⟨pb, 0, none⟩) m.cfg.parts.length cap) := c2'
  have d0 : w2.cell? ⟨pb, p * 2, none⟩ = some (I64 (m.cfg.share p).1) := s0
  have d1 : w2.cell? ⟨pb, q * 2, none⟩ = some (I64 (m.cfg.share q).1) := s1
  have cu := cs p (by omega)
  have cv := cs q (by omega)
  rw [show suf (m.at_ now) p = U by rw [← HU.out]; unfold suf; rw [Nat.mod_eq_of_lt (by omega), decide_eq_false (by omega)]] at cu
  rw [show suf (m.at_ now) q = V by rw [← HV.out]; unfold suf; rw [Nat.mod_eq_of_lt (by omega), decide_eq_false (by omega)]] at cv
  have HO := hide (((Only.refl [b] w).alloc (.cells #[I64 p, I64 q] 3)).trans ho2)
  clear cs hm2 ho2 s0 s1 c2'
  go_wp2
  refine wp_region_text 19 [9] [10, 11, 12, 13, 15, 16, 17] [14, 18] (fun w' => ∃ n, w' = w2.drewN n) (by kernel_rfl) (by kernel_rfl) ⟨1, rfl⟩ ?_
  simp only [List.take_succ_cons, List.take_zero, List.drop_succ_cons, List.drop_zero]
  repeat (first | ((refine wpText_h rfl rfl ?_; apply Exists.intro; refine ⟨?_, ?_⟩; next => (go_simp; (try (go_bits; go_simp)); (first | done | with_reducible rfl | (rw [if_neg (by omega)]; (try (go_bits; go_simp)); (first | done | with_reducible rfl)) | (rw [if_pos (by omega)]; (try (go_bits; go_simp)); (first | done | with_reducible rfl))))); (try simp only [Act.put, List.setIfInBounds_toArray, List.set_cons_zero, List.set_cons_succ])) | ((refine wpText_p rfl rfl ?_; apply Exists.intro; refine ⟨?_, ?_⟩; next => (intro w'; go_simp; (try (go_bits; go_simp)); (first | done | with_reducible rfl | (rw [if_neg (by omega)]; (try (go_bits; go_simp)); (first | done | with_reducible rfl)) | (rw [if_pos (by omega)]; (try (go_bits; go_simp)); (first | done | with_reducible rfl))))); (try simp only [Act.put, List.setIfInBounds_toArray, List.set_cons_zero, List.set_cons_succ])) | ((refine wpText_y rfl rfl ?_; apply Exists.intro; refine ⟨?_, ?_⟩; next => (intro w' hS; (first | obtain ⟨_, rfl⟩ := hS | skip); go_simp; (try (go_bits; go_simp)); (first | done | with_reducible rfl | (rw [if_neg (by omega)]; (try (go_bits; go_simp)); (first | done | with_reducible rfl)) | (rw [if_pos (by omega)]; (try (go_bits; go_simp)); (first | done | with_reducible rfl))))); (try simp only [Act.put, List.setIfInBounds_toArray, List.set_cons_zero, List.set_cons_succ])) | (refine wpText_skip (by first | exact .inl rfl | exact .inr (.inl rfl) | exact .inr (.inr rfl)) rfl ?_; (try simp only [Act.put, List.setIfInBounds_toArray, List.set_cons_zero, List.set_cons_succ])))
  refine wpText_e rfl rfl (fun K hK => ?_)
  go_wp2_with fail
  refine (HBX.out _ (HM2.out.only ((Only.refl [] w2).drew) (by simp) (by simp))).mono ?_
  rintro e w3 ⟨rfl, n1, rfl⟩
  refine hK _ _ ⟨1 + n1, by simp⟩ ?_
  clear hK K
  repeat (first | ((refine wpText_h rfl rfl ?_; apply Exists.intro; refine ⟨?_, ?_⟩; next => (go_simp; (try (go_bits; go_simp)); (first | done | with_reducible rfl | (rw [if_neg (by omega)]; (try (go_bits; go_simp)); (first | done | with_reducible rfl)) | (rw [if_pos (by omega)]; (try (go_bits; go_simp)); (first | done | with_reducible rfl))))); (try simp only [Act.put, List.setIfInBounds_toArray, List.set_cons_zero, List.set_cons_succ])) | ((refine wpText_p rfl rfl ?_; apply Exists.intro; refine ⟨?_, ?_⟩; next => (intro w'; go_simp; (try (go_bits; go_simp)); (first | done | with_reducible rfl | (rw [if_neg (by omega)]; (try (go_bits; go_simp)); (first | done | with_reducible rfl)) | (rw [if_pos (by omega)]; (try (go_bits; go_simp)); (first | done | with_reducible rfl))))); (try simp only [Act.put, List.setIfInBounds_toArray, List.set_cons_zero, List.set_cons_succ])) | ((refine wpText_y rfl rfl ?_; apply Exists.intro; refine ⟨?_, ?_⟩; next => (intro w' hS; (first | obtain ⟨_, rfl⟩ := hS | skip); go_simp; (try (go_bits; go_simp)); (first | done | with_reducible rfl | (rw [if_neg (by omega)]; (try (go_bits; go_simp)); (first | done | with_reducible rfl)) | (rw [if_pos (by omega)]; (try (go_bits; go_simp)); (first | done | with_reducible rfl))))); (try simp only [Act.put, List.setIfInBounds_toArray, List.set_cons_zero, List.set_cons_succ])) | (refine wpText_skip (by first | exact .inl rfl | exact .inr (.inl rfl) | exact .inr (.inr rfl)) rfl ?_; (try simp only [Act.put, List.setIfInBounds_toArray, List.set_cons_zero, List.set_cons_succ])))
  refine wpText_nil ?_
  go_wp2_with fail
  refine (HBY.out _ (HM2.out.only ((Only.refl [] w2).drewN (1 + n1)) (by simp) (by simp))).mono ?_
  rintro e w4 ⟨rfl, n2, rfl⟩
  have fin : ∀ k, MtrIs (w2.drewN k) b pb (m.at_ now) ∧ Only [b] w (w2.drewN k) := fun k => ⟨HM2.out.only ((Only.refl [] w2).drewN k) (by simp) (by simp), HO.out.drewN k⟩
  have FIN := hide fin
  clear fin
  go_wp2
  refine NoX.normal ?_
  by_cases hX0 : X = 0
  · subst hX0
    by_cases hY0 : Y = 0
    · subst hY0
      go_wp2
      go_ret2
      exact ⟨rfl, FIN.out _⟩
    · have e1 : (Y == 0) = false := by simpa using hY0
      have e2 : decide (0 < Y) = true := by simp; omega
      have hR : Hid (cmpv 0 Y U V = 1) := hide (by unfold cmpv; rw [if_pos (.inl rfl), if_neg (by omega), if_pos (by omega)])
      clear hY0
      go_wp2
      go_ret2
      rw [hR.out]
      exact ⟨rfl, FIN.out _⟩
  · have e0 : (X == 0) = false := by simpa using hX0
    have e2 : decide (0 < X) = true := by simp; omega
    by_cases hY0 : Y = 0
    · subst hY0
      have hR : Hid (cmpv X 0 U V = -1) := hide (by unfold cmpv; rw [if_pos (.inr rfl), if_pos (by omega)])
      clear hX0
      go_wp2
      go_ret2
      rw [hR.out]
      exact ⟨rfl, FIN.out _⟩
    · have e1 : (Y == 0) = false := by simpa using hY0
      have hno : ¬ (X = 0 ∨ Y = 0) := by omega
      by_cases l1 : U * Y < V * X
      · have hR : Hid (cmpv X Y U V = -1) := hide (by unfold cmpv; rw [if_neg hno, if_pos l1])
        have d1 : decide (U * Y < V * X) = true := by simp [l1]
        clear hX0 hY0 hno
        go_wp2
        refine wp_region_text0 20 [] [] [] (fun _ => True) (by kernel_rfl) (by kernel_rfl) trivial ?_
        repeat (first | ((refine wpText_h rfl rfl ?_; apply Exists.intro; refine ⟨?_, ?_⟩; next => (go_simp; (try (go_bits; go_simp)); (first | done | with_reducible rfl | (rw [if_neg (by omega)]; (try (go_bits; go_simp)); (first | done | with_reducible rfl)) | (rw [if_pos (by omega)]; (try (go_bits; go_simp)); (first | done | with_reducible rfl))))); (try simp only [Act.put, List.setIfInBounds_toArray, List.set_cons_zero, List.set_cons_succ])) | ((refine wpText_p rfl rfl ?_; apply Exists.intro; refine ⟨?_, ?_⟩; next => (intro w'; go_simp; (try (go_bits; go_simp)); (first | done | with_reducible rfl | (rw [if_neg (by omega)]; (try (go_bits; go_simp)); (first | done | with_reducible rfl)) | (rw [if_pos (by omega)]; (try (go_bits; go_simp)); (first | done | with_reducible rfl))))); (try simp only [Act.put, List.setIfInBounds_toArray, List.set_cons_zero, List.set_cons_succ])) | ((refine wpText_y rfl rfl ?_; apply Exists.intro; refine ⟨?_, ?_⟩; next => (intro w' hS; (first | obtain ⟨_, rfl⟩ := hS | skip); go_simp; (try (go_bits; go_simp)); (first | done | with_reducible rfl | (rw [if_neg (by omega)]; (try (go_bits; go_simp)); (first | done | with_reducible rfl)) | (rw [if_pos (by omega)]; (try (go_bits; go_simp)); (first | done | with_reducible rfl))))); (try simp only [Act.put, List.setIfInBounds_toArray, List.set_cons_zero, List.set_cons_succ])) | (refine wpText_skip (by first | exact .inl rfl | exact .inr (.inl rfl) | exact .inr (.inr rfl)) rfl ?_; (try simp only [Act.put, List.setIfInBounds_toArray, List.set_cons_zero, List.set_cons_succ])))
        refine wpText_nil ?_
        go_wp2
        go_ret2
        rw [hR.out]
        exact ⟨rfl, FIN.out _⟩
      · have d1 : decide (U * Y < V * X) = false := by simp; omega
        by_cases l2 : V * X < U * Y
        · have hR : Hid (cmpv X Y U V = 1) := hide (by unfold cmpv; rw [if_neg hno, if_neg l1, if_pos l2])
          have d2 : decide (V * X < U * Y) = true := by simp [l2]
          clear hX0 hY0 hno
          go_wp2
          refine wp_region_text0 20 [] [] [] (fun _ => True) (by kernel_rfl) (by kernel_rfl) trivial ?_
          repeat (first | ((refine wpText_h rfl rfl ?_; apply Exists.intro; refine ⟨?_, ?_⟩; next => (go_simp; (try (go_bits; go_simp)); (first | done | with_reducible rfl | (rw [if_neg (by omega)]; (try (go_bits; go_simp)); (first | done | with_reducible rfl)) | (rw [if_pos (by omega)]; (try (go_bits; go_simp)); (first | done | with_reducible rfl))))); (try simp only [Act.put, List.setIfInBounds_toArray, List.set_cons_zero, List.set_cons_succ])) | ((refine wpText_p rfl rfl ?_; apply Exists.intro; refine ⟨?_, ?_⟩; next => (intro w'; go_simp; (try (go_bits; go_simp)); (first | done | with_reducible rfl | (rw [if_neg (by omega)]; (try (go_bits; go_simp)); (first | done | with_reducible rfl)) | (rw [if_pos (by omega)]; (try (go_bits; go_simp)); (first | done | with_reducible rfl))))); (try simp only [Act.put, List.setIfInBounds_toArray, List.set_cons_zero, List.set_cons_succ])) | ((refine wpText_y rfl rfl ?_; apply Exists.intro; refine ⟨?_, ?_⟩; next => (intro w' hS; (first | obtain ⟨_, rfl⟩ := hS | skip); go_simp; (try (go_bits; go_simp)); (first | done | with_reducible rfl | (rw [if_neg (by omega)]; (try (go_bits; go_simp)); (first | done | with_reducible rfl)) | (rw [if_pos (by omega)]; (try (go_bits; go_simp)); (first | done | with_reducible rfl))))); (try simp only [Act.put, List.setIfInBounds_toArray, List.set_cons_zero, List.set_cons_succ])) | (refine wpText_skip (by first | exact .inl rfl | exact .inr (.inl rfl) | exact .inr (.inr rfl)) rfl ?_; (try simp only [Act.put, List.setIfInBounds_toArray, List.set_cons_zero, List.set_cons_succ])))
          refine wpText_nil ?_
          go_wp2
          go_ret2
          rw [hR.out]
          exact ⟨rfl, FIN.out _⟩
        · have hR : Hid (cmpv X Y U V = 0) := hide (by unfold cmpv; rw [if_neg hno, if_neg l1, if_neg l2])
          have d2 : decide (V * X < U * Y) = false := by simp; omega
          clear hX0 hY0 hno
          go_wp2
          refine wp_region_text0 20 [] [] [] (fun _ => True) (by kernel_rfl) (by kernel_rfl) trivial ?_
          repeat (first | ((refine wpText_h rfl rfl ?_; apply Exists.intro; refine ⟨?_, ?_⟩; next => (go_simp; (try (go_bits; go_simp)); (first | done | with_reducible rfl | (rw [if_neg (by omega)]; (try (go_bits; go_simp)); (first | done | with_reducible rfl)) | (rw [if_pos (by omega)]; (try (go_bits; go_simp)); (first | done | with_reducible rfl))))); (try simp only [Act.put, List.setIfInBounds_toArray, List.set_cons_zero, List.set_cons_succ])) | ((refine wpText_p rfl rfl ?_; apply Exists.intro; refine ⟨?_, ?_⟩; next => (intro w'; go_simp; (try (go_bits; go_simp)); (first | done | with_reducible rfl | (rw [if_neg (by omega)]; (try (go_bits; go_simp)); (first | done | with_reducible rfl)) | (rw [if_pos (by omega)]; (try (go_bits; go_simp)); (first | done | with_reducible rfl))))); (try simp only [Act.put, List.setIfInBounds_toArray, List.set_cons_zero, List.set_cons_succ])) | ((refine wpText_y rfl rfl ?_; apply Exists.intro; refine ⟨?_, ?_⟩; next => (intro w' hS; (first | obtain ⟨_, rfl⟩ := hS | skip); go_simp; (try (go_bits; go_simp)); (first | done | with_reducible rfl | (rw [if_neg (by omega)]; (try (go_bits; go_simp)); (first | done | with_reducible rfl)) | (rw [if_pos (by omega)]; (try (go_bits; go_simp)); (first | done | with_reducible rfl))))); (try simp only [Act.put, List.setIfInBounds_toArray, List.set_cons_zero, List.set_cons_succ])) | (refine wpText_skip (by first | exact .inl rfl | exact .inr (.inl rfl) | exact .inr (.inr rfl)) rfl ?_; (try simp only [Act.put, List.setIfInBounds_toArray, List.set_cons_zero, List.set_cons_succ])))
          refine wpText_nil ?_
          go_wp2
          go_ret2
          rw [hR.out]
          exact ⟨rfl, FIN.out _⟩

theorem comp_no (b pb : Nat) (m : Mtr) (now p q : Int) (w : World) (h : MtrIs w b pb m) (he : m.err now [p, q] ≠ 0) :
    Calls Try.prog 15 #[.pointer (some ⟨b, 0, none⟩), I64 now, I64 p, I64 q] w
      fun e w' => e = .returned (.tuple #[I64 0, I64 (m.err now [p, q])]) ∧ Only [] w w' := by
  have hz : (m.err now [p, q] == 0) = false := by simpa using he
  have HA := hide (h.only ((Only.refl [] w).alloc (.cells #[I64 p, I64 q] 3)) (by simp) (by simp))
  have hc := hide (check_ok b pb w.heap.size 2 m now [p, q] _ HA.out (two_num w p q) (by simp))
  clear h he
  go_enter Try.func15, Try.ntmps15
  go_wp2_with fail
  refine hc.out.mono ?_
  rintro e w1 ⟨rfl, rfl⟩
  go_wp2
  go_ret2
  exact ⟨rfl, (Only.refl _ _).alloc _⟩

theorem comp_ok (b pb : Nat) (m : Mtr) (now p q : Int) (w : World) (h : MtrIs w b pb m) (hI : m.Inv) :
    Calls Try.prog 15 #[.pointer (some ⟨b, 0, none⟩), I64 now, I64 p, I64 q] w
      fun e w' => e = .returned (.tuple #[I64 (m.comp now p q).2.1, I64 (m.comp now p q).2.2]) ∧ MtrIs w' b pb (m.comp now p q).1 ∧ Only [b] w w' := by
  unfold Mtr.comp
  by_cases he : m.err now [p, q] = 0
  · rw [if_neg (by simpa using he)]
    obtain ⟨p, rfl⟩ := Int.eq_ofNat_of_zero_le ((Mtr.err_zero he).2.2.2 p (by simp)).1
    obtain ⟨q, rfl⟩ := Int.eq_ofNat_of_zero_le ((Mtr.err_zero he).2.2.2 q (by simp)).1
    exact comp_yes b pb m now p q w h hI he
  · rw [if_pos he]
    exact (comp_no b pb m now p q w h he).mono fun e w' ⟨h1, h2⟩ => ⟨h1, h.only h2 (by simp) (by simp), h2.mono (by simp)⟩

end Go.Proofs.Ytpeaojkbfllakaa
