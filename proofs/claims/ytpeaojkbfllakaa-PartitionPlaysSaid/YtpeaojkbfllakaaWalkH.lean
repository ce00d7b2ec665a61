/- Charge. -/
import Derived.Test.YtpeaojkbfllakaaWalkG
namespace Go.Proofs.Ytpeaojkbfllakaa
open Go.RowKit

theorem charged_slot {m : Mtr} (h : m.Inv) {now : Int} (h0 : m.now ≤ now) (p : Nat) (c : Bool) (S : Nat) (hS : now % (m.cfg.W : Int) = S) (s q : Nat) (cr : Bool) :
    (m.charged now p c).slotv s q cr = (m.at_ now).slotv s q cr + (if s = S ∧ q = p ∧ (cr = true → c = true) then 1 else 0) := by
  have hW := h.W0
  unfold Mtr.slotv
  show cnt (m.l ++ [⟨now, p, c⟩]) (ins m.cfg.W q cr s (now - m.cfg.W)) = _
  rw [cnt_append, cnt_cons, cnt_nil]
  show cnt m.l _ + _ = cnt m.l _ + _
  congr 1
  rw [Int.add_zero]
  have : ins m.cfg.W q cr s (now - m.cfg.W) ⟨now, p, c⟩ = true ↔ (s = S ∧ q = p ∧ (cr = true → c = true)) := by
    simp only [ins, Bool.and_eq_true, decide_eq_true_eq, Bool.or_eq_true, Bool.not_eq_true', hS]
    cases cr <;> cases c <;> simp <;> omega
  by_cases e : s = S ∧ q = p ∧ (cr = true → c = true)
  · rw [if_pos (this.2 e), if_pos e]
  · rw [if_neg (fun a => e (this.1 a)), if_neg e]
theorem charged_sum (m : Mtr) (now : Int) (p : Nat) (c : Bool) (q : Nat) (cr : Bool) : (m.charged now p c).sumv q cr = (m.at_ now).sumv q cr := by
  unfold Mtr.sumv
  show cnt (m.l ++ [⟨now, p, c⟩]) (inw q cr (now - m.cfg.W) now) = _
  rw [cnt_append, cnt_cons, cnt_nil]
  have : inw q cr (now - m.cfg.W) now ⟨now, p, c⟩ = false := by simp [inw]
  rw [this]
  show cnt m.l _ + (0 + 0) = cnt m.l _
  rw [Int.add_zero, Int.add_zero]
  rfl
theorem charged_tick (m : Mtr) (now : Int) (p : Nat) (c : Bool) : (m.charged now p c).tickv now = m.tickv now + 1 := by
  unfold Mtr.tickv
  show cnt (m.l ++ [⟨now, p, c⟩]) (att now) = _
  rw [cnt_append, cnt_cons, cnt_nil]
  simp [att]

theorem charge_end {m : Mtr} (h : m.Inv) (pv : Value) {now : Int} (h0 : m.now ≤ now) (p : Nat) (hp : p < 8) (c : Bool) (S : Nat) (hS : now % (m.cfg.W : Int) = S) : ∀ j, j < 16022 →
    (if c = true ∧ j = 4 + S * 16 + 8 + p then I64 ((m.at_ now).slotv S p true + 1) else if j = 4 + S * 16 + p then I64 ((m.at_ now).slotv S p false + 1) else if j = 16021 then I64 (m.tickv now + 1)
      else mcell (m.at_ now) pv (m.tickv now) j) = mcell (m.charged now p c) pv ((m.charged now p c).tickv now) j := by
  have hSW : S < m.cfg.W := by have := Int.emod_lt_of_pos now h.W0; omega
  have hW := h.cfg.2.1
  refine mcell_ext (m := m.at_ now) (ch := m.tickv now) rfl (fun j hj => ?_) (fun s r hs hr => ?_) (fun r hr => ?_) ?_ ?_
  · rw [if_neg (by omega), if_neg (by omega), if_neg (by omega)]
  · rw [charged_slot h h0 p c S hS]
    by_cases a : s = S
    · subst a
      by_cases b : r = 8 + p
      · subst b
        rw [show (8 + p) % 8 = p by omega, decide_eq_true (show 8 ≤ 8 + p by omega)]
        cases c
        · rw [if_neg (by simp), if_neg (by omega), if_neg (by omega), mcell_slot _ _ _ hs hr, show (8 + p) % 8 = p by omega, decide_eq_true (show 8 ≤ 8 + p by omega)]
          simp
        · rw [if_pos ⟨rfl, by omega⟩]; simp
      · rw [if_neg (by omega)]
        by_cases d : r = p
        · subst d
          rw [if_pos (by omega), Nat.mod_eq_of_lt hp, decide_eq_false (by omega)]; simp
        · rw [if_neg (by omega), if_neg (by omega), mcell_slot _ _ _ hs hr, if_neg (show ¬ (s = s ∧ r % 8 = p ∧ (decide (8 ≤ r) = true → c = true)) by omega)]; simp
    · rw [if_neg (by omega), if_neg (by omega), if_neg (by omega), mcell_slot _ _ _ hs hr, if_neg (by omega)]; simp
  · rw [if_neg (by omega), if_neg (by omega), if_neg (by omega), mcell_sum _ _ _ hr, charged_sum]
  · rw [if_neg (by omega), if_neg (by omega), if_neg (by omega)]; rfl
  · rw [if_neg (by omega), if_neg (by omega), if_pos rfl, charged_tick]

set_option maxHeartbeats 4000000 in
theorem charge_yes (b pb : Nat) (m : Mtr) (now : Int) (p : Nat) (c : Bool) (w : World) (h : MtrIs w b pb m) (hI : m.Inv) (he : m.err now [(p : Int)] = 0) (ht : m.tickv now < m.cfg.P) :
    Calls Try.prog 10 #[.pointer (some ⟨b, 0, none⟩), I64 now, I64 p, .bool c] w
      fun e w' => e = .returned (I64 0) ∧ MtrIs w' b pb (m.charged now p c) ∧ Only [b] w w' := by
  obtain ⟨t0, t1, t2, t3⟩ := Mtr.err_zero he
  have hpl : p < m.cfg.parts.length := by have := t3 p (by simp); omega
  have hp8 := hI.cfg.2.2.2.2.2.1
  have hp8' : p < 8 := by omega
  have hp8'' : (p : Int) < 8 := by omega
  have hlt := h.lt
  have hne := h.ne
  have HA := hide (h.only ((Only.refl [] w).alloc (.cells #[I64 p] 3)) (by simp) (by simp))
  have hc := hide (check_ok b pb w.heap.size 1 m now [(p : Int)] _ HA.out (one_num w p) (by simp))
  rw [he] at hc
  have ha := hide (fun k => advance_ok b pb m now _ hI (HA.out.only ((Only.refl [] _).drewN k) (by simp) (by simp)) t2 t1)
  have HI := hide hI
  obtain ⟨sp, hsp⟩ : ∃ sp : Nat, m.cfg.W = sp + 1 := ⟨m.cfg.W - 1, by have := hI.cfg.1; omega⟩
  have hspl : sp < 1000 := by have := hI.cfg.2.1; omega
  have hS : t0 = t0 := rfl
  have hmod := mod_lift (t := now) (W := m.cfg.W) t0 (by omega)
  rw [show m.cfg.W - 1 + 1 = sp + 1 by omega] at hmod
  have hmo := Nat.mod_lt now.toNat (show 0 < sp + 1 by omega)
  have HEnd0 := hide (charge_end hI (c := false) (now := now) (S := now.toNat % (sp + 1)) (p := p) · t2 (by omega) hmod)
  have HEnd1 := hide (charge_end hI (c := true) (now := now) (S := now.toNat % (sp + 1)) (p := p) · t2 (by omega) hmod)
  obtain ⟨cap, k2, k0, k1, k20, k21, _⟩ := HA.out.facts
  have HSP := hide hsp
  have bd := fun s cr => (hI.at_ t2 t1).slot_bd p cr s
  have HBD := hide bd
  have tb := hI.tick_bd now
  have eqs : (m.now = now ∧ (m.tickv now == (m.cfg.P : Int)) = false) ∨ (now == m.now) = false := by
    by_cases e : now = m.now
    · exact .inl ⟨e.symm, by simp; omega⟩
    · exact .inr (by simpa using e)
  have HT := hide ht
  clear t3 he h hI hsp hS hmod bd ht
  have slotc : ∀ (cap : Nat) (t : Int) (S r : Nat), S < 1000 → r < 16 → (if 4 + S * 16 + r = 16021 then I64 (m.tickv t + 1) else mcell (m.at_ t) (.slice (some ⟨pb, 0, none⟩) m.cfg.parts.length cap) (m.tickv t) (4 + S * 16 + r)) = I64 ((m.at_ t).slotv S (r % 8) (decide (8 ≤ r))) :=
    fun cap t S r hS hr => by rw [if_neg (by omega)]; exact mcell_slot _ _ _ hS hr
  have SC := hide slotc
  clear slotc
  have facts : ∃ nw tv : Int, (w.alloc (Obj.cells #[I64 p] 3)).cell? ⟨b, 16020, none⟩ = some (I64 nw) ∧ (w.alloc (Obj.cells #[I64 p] 3)).cell? ⟨b, 16021, none⟩ = some (I64 tv) ∧
      ((now == nw) = false ∨ ((now == nw) = true ∧ (tv == (m.cfg.P : Int)) = false)) := by
    refine ⟨_, _, k20, k21, ?_⟩
    rcases eqs with ⟨e, E⟩ | E
    · right; rw [e]; exact ⟨by simp, E⟩
    · exact .inl E
  clear k20 k21 eqs
  obtain ⟨nw, tv, k20, k21, E | ⟨E, E'⟩⟩ := facts <;> cases c
  all_goals
    go_enter Try.func10, Try.ntmps10
    go_wp2_with fail
    refine hc.out.mono ?_
    rintro e w1 ⟨rfl, rfl⟩
    go_wp2
    refine wp_region_text0 17 [] [] [] (fun _ => True) (by kernel_rfl) (by kernel_rfl) trivial ?_
    repeat (first | ((refine wpText_h rfl rfl ?_; apply Exists.intro; refine ⟨?_, ?_⟩; next => (go_simp; (try (go_bits; go_simp)); (first | done | with_reducible rfl | (rw [if_neg (by omega)]; (try (go_bits; go_simp)); (first | done | with_reducible rfl)) | (rw [if_pos (by omega)]; (try (go_bits; go_simp)); (first | done | with_reducible rfl))))); (try simp only [Act.put, List.setIfInBounds_toArray, List.set_cons_zero, List.set_cons_succ])) | ((refine wpText_p rfl rfl ?_; apply Exists.intro; refine ⟨?_, ?_⟩; next => (intro w'; go_simp; (try (go_bits; go_simp)); (first | done | with_reducible rfl | (rw [if_neg (by omega)]; (try (go_bits; go_simp)); (first | done | with_reducible rfl)) | (rw [if_pos (by omega)]; (try (go_bits; go_simp)); (first | done | with_reducible rfl))))); (try simp only [Act.put, List.setIfInBounds_toArray, List.set_cons_zero, List.set_cons_succ])) | ((refine wpText_y rfl rfl ?_; apply Exists.intro; refine ⟨?_, ?_⟩; next => (intro w' hS; (first | obtain ⟨_, rfl⟩ := hS | skip); go_simp; (try (go_bits; go_simp)); (first | done | with_reducible rfl | (rw [if_neg (by omega)]; (try (go_bits; go_simp)); (first | done | with_reducible rfl)) | (rw [if_pos (by omega)]; (try (go_bits; go_simp)); (first | done | with_reducible rfl))))); (try simp only [Act.put, List.setIfInBounds_toArray, List.set_cons_zero, List.set_cons_succ])) | (refine wpText_skip (by first | exact .inl rfl | exact .inr (.inl rfl) | exact .inr (.inr rfl)) rfl ?_; (try simp only [Act.put, List.setIfInBounds_toArray, List.set_cons_zero, List.set_cons_succ])))
    refine wpText_nil ?_
    go_wp2_with fail
    refine (ha.out 1).mono ?_
    rintro e w2 ⟨rfl, hm2, ho2⟩
    have HO2 := hide ((((Only.refl [b] w).alloc (.cells #[I64 p] 3)).drewN 1).trans ho2)
    have hbl2 := hm2.lt
    obtain ⟨cap2, hm2⟩ := hm2
    have c21 := hm2.me.cell' (i := 16021) (v := I64 (m.tickv now)) (by omega) rfl
    have g21 := hm2.me.frozen 16021
    have HM2 := hide hm2
    clear hm2 ho2 k2 k0 k1 k20 k21
    go_wp2_with fail
    generalize hW : w2.setCell { block := b, off := 16021 } (Value.int IntKind.i64 (m.tickv now + 1)) = W3
    have HF := HM2.out.me.set 16021 (I64 (m.tickv now + 1))
    have HO3 := HO2.out.set (p := ⟨b, 16021, none⟩) (.inl (by simp)) (I64 (m.tickv now + 1))
    have HP3 := HM2.out.parts.only ((Only.refl [b] w2).set (p := ⟨b, 16021, none⟩) (.inl (by simp)) (I64 (m.tickv now + 1))) (by simp; omega)
    have hz3 : w2.heap.size ≤ (w2.setCell ⟨b, 16021, none⟩ (I64 (m.tickv now + 1))).heap.size := by simp [World.setCell]
    rw [hW] at HF HO3 HP3 hz3
    have HF := hide HF
    have HO3 := hide HO3
    have HP3 := hide HP3
    clear hW c21 g21
    refine (at_ok b sp _ now _ HF.out (by show I64 ((m.cfg.W - 1 : Nat) : Int) = _; rw [HSP.out]; rfl) hspl t0 (by omega)).mono ?_
    rintro e w3 ⟨rfl, n3, rfl⟩
    have hS : Int.toNat now % (sp + 1) < 1000 := Nat.lt_of_lt_of_le hmo (by omega)
    generalize hG : Int.toNat now % (sp + 1) = S at *
    have HG := hide hG
    clear hG
    have e1 := HF.out.cell' (i := 4 + S * 16 + p) (v := I64 ((m.at_ now).slotv S p false)) (by omega) (by
      refine (SC.out _ _ S p hS (by omega)).trans ?_
      rw [Nat.mod_eq_of_lt (by omega), decide_eq_false (by omega)])
    have e2 := HF.out.cell' (i := 4 + S * 16 + 8 + p) (v := I64 ((m.at_ now).slotv S p true)) (by omega) (by
      rw [show 4 + S * 16 + 8 + p = 4 + S * 16 + (8 + p) by omega]
      refine (SC.out _ _ S (8 + p) hS (by omega)).trans ?_
      rw [show (8 + p) % 8 = p by omega, decide_eq_true (by omega)])
    have g1 := HF.out.frozen
    have b1 := HBD.out S false
    have b2 := HBD.out S true
    go_wp2
    refine wp_region_text 10 [] [] [] (fun _ => True) (by kernel_rfl) (by kernel_rfl) trivial ?_
    simp only [List.take_succ_cons, List.take_zero, List.drop_succ_cons, List.drop_zero]
    repeat (first | ((refine wpText_h rfl rfl ?_; apply Exists.intro; refine ⟨?_, ?_⟩; next => (go_simp; (try (go_bits; go_simp)); (first | done | with_reducible rfl | (rw [if_neg (by omega)]; (try (go_bits; go_simp)); (first | done | with_reducible rfl)) | (rw [if_pos (by omega)]; (try (go_bits; go_simp)); (first | done | with_reducible rfl))))); (try simp only [Act.put, List.setIfInBounds_toArray, List.set_cons_zero, List.set_cons_succ])) | ((refine wpText_p rfl rfl ?_; apply Exists.intro; refine ⟨?_, ?_⟩; next => (intro w'; go_simp; (try (go_bits; go_simp)); (first | done | with_reducible rfl | (rw [if_neg (by omega)]; (try (go_bits; go_simp)); (first | done | with_reducible rfl)) | (rw [if_pos (by omega)]; (try (go_bits; go_simp)); (first | done | with_reducible rfl))))); (try simp only [Act.put, List.setIfInBounds_toArray, List.set_cons_zero, List.set_cons_succ])) | ((refine wpText_y rfl rfl ?_; apply Exists.intro; refine ⟨?_, ?_⟩; next => (intro w' hS; (first | obtain ⟨_, rfl⟩ := hS | skip); go_simp; (try (go_bits; go_simp)); (first | done | with_reducible rfl | (rw [if_neg (by omega)]; (try (go_bits; go_simp)); (first | done | with_reducible rfl)) | (rw [if_pos (by omega)]; (try (go_bits; go_simp)); (first | done | with_reducible rfl))))); (try simp only [Act.put, List.setIfInBounds_toArray, List.set_cons_zero, List.set_cons_succ])) | (refine wpText_skip (by first | exact .inl rfl | exact .inr (.inl rfl) | exact .inr (.inr rfl)) rfl ?_; (try simp only [Act.put, List.setIfInBounds_toArray, List.set_cons_zero, List.set_cons_succ])))
    refine wpText_nil ?_
    go_wp2
    refine NoX.normal ?_
    have fin0 : ∀ wF, wF = ((W3.drewN (n3 + 1)).setCell ⟨b, 4 + S * 16 + p, none⟩ (I64 ((m.at_ now).slotv S p false + 1))) →
        MtrIs wF b pb (m.charged now p false) ∧ Only [b] w wF := by
      rintro wF rfl
      have hor := (HO3.out.drewN (n3 + 1)).set (p := ⟨b, 4 + S * 16 + p, none⟩) (.inl (by simp)) (I64 ((m.at_ now).slotv S p false + 1))
      refine ⟨⟨cap2, ?_, HP3.out.only (((Only.refl [b] W3).drewN (n3 + 1)).set (p := ⟨b, 4 + S * 16 + p, none⟩) (.inl (by simp)) (I64 ((m.at_ now).slotv S p false + 1))) (by simp; omega)⟩, hor⟩
      refine ((HF.out.drewN (n3 + 1)).set (4 + S * 16 + p) (I64 ((m.at_ now).slotv S p false + 1))).congr fun j hj => ?_
      have := HEnd0.out (.slice (some ⟨pb, 0, none⟩) m.cfg.parts.length cap2) j hj
      rw [if_neg (by simp)] at this
      exact this
    have fin1 : ∀ wF, wF = (((W3.drewN (n3 + 2)).setCell ⟨b, 4 + S * 16 + p, none⟩ (I64 ((m.at_ now).slotv S p false + 1))).setCell ⟨b, 4 + S * 16 + 8 + p, none⟩ (I64 ((m.at_ now).slotv S p true + 1))) →
        MtrIs wF b pb (m.charged now p true) ∧ Only [b] w wF := by
      rintro wF rfl
      have hor := ((HO3.out.drewN (n3 + 2)).set (p := ⟨b, 4 + S * 16 + p, none⟩) (.inl (by simp)) (I64 ((m.at_ now).slotv S p false + 1))).set (p := ⟨b, 4 + S * 16 + 8 + p, none⟩) (.inl (by simp)) (I64 ((m.at_ now).slotv S p true + 1))
      refine ⟨⟨cap2, ?_, HP3.out.only ((((Only.refl [b] W3).drewN (n3 + 2)).set (p := ⟨b, 4 + S * 16 + p, none⟩) (.inl (by simp)) (I64 ((m.at_ now).slotv S p false + 1))).set (p := ⟨b, 4 + S * 16 + 8 + p, none⟩) (.inl (by simp)) (I64 ((m.at_ now).slotv S p true + 1))) (by simp; omega)⟩, hor⟩
      refine (((HF.out.drewN (n3 + 2)).set (4 + S * 16 + p) (I64 ((m.at_ now).slotv S p false + 1))).set (4 + S * 16 + 8 + p) (I64 ((m.at_ now).slotv S p true + 1))).congr fun j hj => ?_
      have := HEnd1.out (.slice (some ⟨pb, 0, none⟩) m.cfg.parts.length cap2) j hj
      simp only [true_and] at this
      exact this
    have F0 := hide fin0
    have F1 := hide fin1
    clear fin0 fin1
    go_wp2
    first
    | (go_ret; exact ⟨rfl, F0.out _ (by first | rfl | simp)⟩)
    | skip
  all_goals
    refine wp_region_text 10 [] [] [] (fun _ => True) (by kernel_rfl) (by kernel_rfl) trivial ?_
    simp only [List.take_succ_cons, List.take_zero, List.drop_succ_cons, List.drop_zero]
    repeat (first | ((refine wpText_h rfl rfl ?_; apply Exists.intro; refine ⟨?_, ?_⟩; next => (go_simp; (try (go_bits; go_simp)); (first | done | with_reducible rfl | (rw [if_neg (by omega)]; (try (go_bits; go_simp)); (first | done | with_reducible rfl)) | (rw [if_pos (by omega)]; (try (go_bits; go_simp)); (first | done | with_reducible rfl))))); (try simp only [Act.put, List.setIfInBounds_toArray, List.set_cons_zero, List.set_cons_succ])) | ((refine wpText_p rfl rfl ?_; apply Exists.intro; refine ⟨?_, ?_⟩; next => (intro w'; go_simp; (try (go_bits; go_simp)); (first | done | with_reducible rfl | (rw [if_neg (by omega)]; (try (go_bits; go_simp)); (first | done | with_reducible rfl)) | (rw [if_pos (by omega)]; (try (go_bits; go_simp)); (first | done | with_reducible rfl))))); (try simp only [Act.put, List.setIfInBounds_toArray, List.set_cons_zero, List.set_cons_succ])) | ((refine wpText_y rfl rfl ?_; apply Exists.intro; refine ⟨?_, ?_⟩; next => (intro w' hS; (first | obtain ⟨_, rfl⟩ := hS | skip); go_simp; (try (go_bits; go_simp)); (first | done | with_reducible rfl | (rw [if_neg (by omega)]; (try (go_bits; go_simp)); (first | done | with_reducible rfl)) | (rw [if_pos (by omega)]; (try (go_bits; go_simp)); (first | done | with_reducible rfl))))); (try simp only [Act.put, List.setIfInBounds_toArray, List.set_cons_zero, List.set_cons_succ])) | (refine wpText_skip (by first | exact .inl rfl | exact .inr (.inl rfl) | exact .inr (.inr rfl)) rfl ?_; (try simp only [Act.put, List.setIfInBounds_toArray, List.set_cons_zero, List.set_cons_succ])))
    refine wpText_nil ?_
    go_wp2
    refine NoX.normal ?_
    go_wp2
    go_ret
    exact ⟨rfl, F1.out _ (by first | rfl | simp)⟩

theorem charge_limit (b pb : Nat) (m : Mtr) (now : Int) (p : Nat) (c : Bool) (w : World) (h : MtrIs w b pb m) (hI : m.Inv) (he : m.err now [(p : Int)] = 0) (ht : (m.cfg.P : Int) ≤ m.tickv now) :
    Calls Try.prog 10 #[.pointer (some ⟨b, 0, none⟩), I64 now, I64 p, .bool c] w
      fun e w' => e = .returned (I64 18) ∧ Only [] w w' := by
  have e : now = m.now := by
    rcases Int.lt_or_eq_of_le (Mtr.err_zero he).2.2.1 with hlt | e
    · have := hI.tick_later hlt; have := hI.cfg.2.2.1; omega
    · exact e.symm
  subst e
  have ht' : m.tickv m.now = m.cfg.P := by have := hI.most m.now; omega
  have HA := hide (h.only ((Only.refl [] w).alloc (.cells #[I64 p] 3)) (by simp) (by simp))
  have hc := hide (check_ok b pb w.heap.size 1 m m.now [(p : Int)] _ HA.out (one_num w p) (by simp))
  rw [he] at hc
  obtain ⟨cap, k2, k0, k1, k20, k21, _⟩ := HA.out.facts
  rw [ht'] at k21
  clear he h hI ht ht'
  go_enter Try.func10, Try.ntmps10
  go_wp2_with fail
  refine hc.out.mono ?_
  rintro e w1 ⟨rfl, rfl⟩
  go_wp2
  refine wp_region_text0 17 [] [] [] (fun _ => True) (by kernel_rfl) (by kernel_rfl) trivial ?_
  repeat (first | ((refine wpText_h rfl rfl ?_; apply Exists.intro; refine ⟨?_, ?_⟩; next => (go_simp; (try (go_bits; go_simp)); (first | done | with_reducible rfl | (rw [if_neg (by omega)]; (try (go_bits; go_simp)); (first | done | with_reducible rfl)) | (rw [if_pos (by omega)]; (try (go_bits; go_simp)); (first | done | with_reducible rfl))))); (try simp only [Act.put, List.setIfInBounds_toArray, List.set_cons_zero, List.set_cons_succ])) | ((refine wpText_p rfl rfl ?_; apply Exists.intro; refine ⟨?_, ?_⟩; next => (intro w'; go_simp; (try (go_bits; go_simp)); (first | done | with_reducible rfl | (rw [if_neg (by omega)]; (try (go_bits; go_simp)); (first | done | with_reducible rfl)) | (rw [if_pos (by omega)]; (try (go_bits; go_simp)); (first | done | with_reducible rfl))))); (try simp only [Act.put, List.setIfInBounds_toArray, List.set_cons_zero, List.set_cons_succ])) | ((refine wpText_y rfl rfl ?_; apply Exists.intro; refine ⟨?_, ?_⟩; next => (intro w' hS; (first | obtain ⟨_, rfl⟩ := hS | skip); go_simp; (try (go_bits; go_simp)); (first | done | with_reducible rfl | (rw [if_neg (by omega)]; (try (go_bits; go_simp)); (first | done | with_reducible rfl)) | (rw [if_pos (by omega)]; (try (go_bits; go_simp)); (first | done | with_reducible rfl))))); (try simp only [Act.put, List.setIfInBounds_toArray, List.set_cons_zero, List.set_cons_succ])) | (refine wpText_skip (by first | exact .inl rfl | exact .inr (.inl rfl) | exact .inr (.inr rfl)) rfl ?_; (try simp only [Act.put, List.setIfInBounds_toArray, List.set_cons_zero, List.set_cons_succ])))
  refine wpText_nil ?_
  go_wp2
  go_ret
  exact ⟨rfl, ((Only.refl _ _).alloc _).drewN _⟩
theorem charge_no (b pb : Nat) (m : Mtr) (now p : Int) (c : Bool) (w : World) (h : MtrIs w b pb m) (he : m.err now [p] ≠ 0) :
    Calls Try.prog 10 #[.pointer (some ⟨b, 0, none⟩), I64 now, I64 p, .bool c] w
      fun e w' => e = .returned (I64 (m.err now [p])) ∧ Only [] w w' := by
  have hz : (m.err now [p] == 0) = false := by simpa using he
  have HA := hide (h.only ((Only.refl [] w).alloc (.cells #[I64 p] 3)) (by simp) (by simp))
  have hc := hide (check_ok b pb w.heap.size 1 m now [p] _ HA.out (one_num w p) (by simp))
  clear h he
  go_enter Try.func10, Try.ntmps10
  go_wp2_with fail
  refine hc.out.mono ?_
  rintro e w1 ⟨rfl, rfl⟩
  go_wp2
  go_ret
  exact ⟨rfl, (Only.refl _ _).alloc _⟩

theorem charge_ok (b pb : Nat) (m : Mtr) (now p : Int) (c : Bool) (w : World) (h : MtrIs w b pb m) (hI : m.Inv) :
    Calls Try.prog 10 #[.pointer (some ⟨b, 0, none⟩), I64 now, I64 p, .bool c] w
      fun e w' => e = .returned (I64 (m.charge now p c).2) ∧ MtrIs w' b pb (m.charge now p c).1 ∧ Only [b] w w' := by
  unfold Mtr.charge
  by_cases he : m.err now [p] = 0
  · rw [if_neg (by simpa using he)]
    obtain ⟨p, rfl⟩ := Int.eq_ofNat_of_zero_le ((Mtr.err_zero he).2.2.2 p (by simp)).1
    by_cases ht : (m.cfg.P : Int) ≤ m.tickv now
    · rw [if_pos ht]
      exact (charge_limit b pb m now p c w h hI he ht).mono fun e w' ⟨h1, h2⟩ => ⟨h1, h.only h2 (by simp) (by simp), h2.mono (by simp)⟩
    · rw [if_neg ht]
      exact charge_yes b pb m now p c w h hI he (by omega)
  · rw [if_pos he]
    exact (charge_no b pb m now p c w h he).mono fun e w' ⟨h1, h2⟩ => ⟨h1, h.only h2 (by simp) (by simp), h2.mono (by simp)⟩

end Go.Proofs.Ytpeaojkbfllakaa
