/- advance tick by tick; advance as a whole. -/
import Derived.Test.YtpeaojkbfllakaaWalkC
import Derived.Deep.LoopGhost
namespace Go.Proofs.Ytpeaojkbfllakaa
open Go.RowKit

def StepRel (b pb cap : Nat) (m : Mtr) (now : Int) (w : World) (k : Nat) (wr : World) : Prop :=
  ∃ t, m.now ≤ t ∧ t ≤ now ∧ (now - t).toNat = k ∧ Only [b] w wr ∧ MtrAt wr b pb cap (m.at_ t) 0

theorem slot_cells {w : World} {b s : Nat} {m : Mtr} {pv : Value} {ch : Int} {f : Nat → Value} (h : FBlk w b 62 16022 f) (hf : ∀ r, r < 16 → f (4 + s * 16 + r) = mcell m pv ch (4 + s * 16 + r)) (hs : s < 1000) :
    ∀ j v, (slotVals (svf m s))[j]? = some v → w.cell? ⟨b, 4 + s * 16 + j, none⟩ = some v := by
  intro j v hv
  have hj : j < 16 := by have := (List.getElem?_eq_some_iff.1 hv).1; simpa [slotVals] using this
  rw [slotVals_at _ hj] at hv
  rw [h.cell (by omega), hf j hj, mcell_slot m pv ch hs hj]
  exact hv

theorem addf_low (f : Nat → Value) (su sv : Nat → Int) (by_ : Int) (n : Nat) {j : Nat} (h : j < 16004 ∨ 16020 ≤ j) : addf f su sv by_ n j = f j := by
  unfold addf; rw [if_neg (by omega)]

set_option maxHeartbeats 4000000 in
theorem steps_ok (b pb cap : Nat) (m : Mtr) (now : Int) (w : World) (hI : m.Inv) (h : MtrAt w b pb cap m (m.tickv m.now)) (h0 : m.now < now) (h1 : now ≤ 1099511627776) (hn : now - m.now < m.cfg.W) :
    Calls Try.prog 23 #[.pointer (some ⟨b, 0, none⟩), I64 now] w
      fun e w' => e = .returned (.tuple #[]) ∧ MtrAt w' b pb cap (m.at_ now) ((m.at_ now).tickv now) ∧ Only [b] w w' := by
  have hW1 := hI.cfg.2.1
  have hnow := hI.now0
  have hpl := hI.cfg.2.2.2.2.2.1
  have hbl := h.me.lt
  have hne := h.ne
  have f21 := h.me.frozen 16021
  have c20 := h.me.cell' (i := 16020) (v := I64 m.now) (by omega) rfl
  have c3 := h.me.cell' (i := 3) (v := I64 ((m.cfg.W - 1 : Nat) : Int)) (by omega) rfl
  have c21 := h.me.cell' (i := 16021) (v := I64 (m.tickv m.now)) (by omega) rfl
  obtain ⟨sp, hsp⟩ : ∃ sp : Nat, m.cfg.W = sp + 1 := ⟨m.cfg.W - 1, by omega⟩
  have hW2 : 2 ≤ m.cfg.W := by omega
  rw [show m.cfg.W - 1 = sp from by omega] at c3
  have hspl : sp < 1000 := by omega
  have hgt : decide ((sp : Int) < now - m.now) = false := by simp; omega
  have hne2 : (now == m.now) = false := by simp; omega
  have hst : StepRel b pb cap m now w (now - m.now).toNat (w.setCell ⟨b, 16021, none⟩ (I64 0)).drew := by
    refine ⟨m.now, Int.le_refl _, Int.le_of_lt h0, rfl, ((Only.refl _ _).set (.inl (by simp)) _).drew, ⟨?_, h.parts.only ((Only.refl [b] _).set (.inl (by simp)) _).drew (by simp; omega)⟩⟩
    refine (h.me.set 16021 (I64 0)).drew.congr fun j hj => ?_
    exact mcell_ext (m := m) (ch := m.tickv m.now) (ch' := 0) (g := fun j => if j = 16021 then I64 0 else mcell m (.slice (some ⟨pb, 0, none⟩) m.cfg.parts.length cap) (m.tickv m.now) j) rfl (fun j hj => by rw [if_neg (by omega)]; rfl) (fun s r hs hr => by rw [if_neg (by omega)]; exact mcell_slot _ _ _ hs hr) (fun r hr => by rw [if_neg (by omega)]; exact mcell_sum _ _ _ hr) rfl rfl j hj
  have HST := hide hst
  have HP := hide h.parts
  have HI := hide hI
  have HSP := hide hsp
  clear hst h hI hsp hW1
  go_enter Try.func23, Try.ntmps23
  go_wp2
  refine wp_region_text0 11 [] [] [] (fun _ => True) (by kernel_rfl) (by kernel_rfl) trivial ?_
  repeat (first | ((refine wpText_h rfl rfl ?_; apply Exists.intro; refine ⟨?_, ?_⟩; next => (go_simp; (try (go_bits; go_simp)); (first | done | with_reducible rfl | (rw [if_neg (by omega)]; (try (go_bits; go_simp)); (first | done | with_reducible rfl)) | (rw [if_pos (by omega)]; (try (go_bits; go_simp)); (first | done | with_reducible rfl))))); (try simp only [Act.put, List.setIfInBounds_toArray, List.set_cons_zero, List.set_cons_succ])) | ((refine wpText_p rfl rfl ?_; apply Exists.intro; refine ⟨?_, ?_⟩; next => (intro w'; go_simp; (try (go_bits; go_simp)); (first | done | with_reducible rfl | (rw [if_neg (by omega)]; (try (go_bits; go_simp)); (first | done | with_reducible rfl)) | (rw [if_pos (by omega)]; (try (go_bits; go_simp)); (first | done | with_reducible rfl))))); (try simp only [Act.put, List.setIfInBounds_toArray, List.set_cons_zero, List.set_cons_succ])) | ((refine wpText_y rfl rfl ?_; apply Exists.intro; refine ⟨?_, ?_⟩; next => (intro w' hS; (first | obtain ⟨_, rfl⟩ := hS | skip); go_simp; (try (go_bits; go_simp)); (first | done | with_reducible rfl | (rw [if_neg (by omega)]; (try (go_bits; go_simp)); (first | done | with_reducible rfl)) | (rw [if_pos (by omega)]; (try (go_bits; go_simp)); (first | done | with_reducible rfl))))); (try simp only [Act.put, List.setIfInBounds_toArray, List.set_cons_zero, List.set_cons_succ])) | (refine wpText_skip (by first | exact .inl rfl | exact .inr (.inl rfl) | exact .inr (.inr rfl)) rfl ?_; (try simp only [Act.put, List.setIfInBounds_toArray, List.set_cons_zero, List.set_cons_succ])))
  refine wpText_nil ?_
  go_wp2
  clear c20 c3 c21 f21 hgt hne2
  go_loopg [] (now - m.now).toNat (fun k wr => StepRel b pb cap m now w k wr)
  case atStart => exact HST.out
  case round =>
    obtain ⟨t, ht0, ht1, hk, ho, hm⟩ := hrel
    clear HST
    have HK := hide hk
    clear hk
    have HM := hide hm
    have HIt := hide (HI.out.at_ (now := t) ht0 (by omega))
    have c20 := hm.me.cell' (i := 16020) (v := I64 t) (by omega) rfl
    have HO := hide ho
    have hbl2 := hm.me.lt
    clear hm ho
    by_cases hlt : t < now
    · have hmod := hide (mod_lift (t := t) (W := m.cfg.W) (by omega) (by omega))
      have hmod' := hide (mod_lift (t := t + 1) (W := m.cfg.W) (by omega) (by omega))
      have hs : t.toNat % (sp + 1) < 1000 := by have := Nat.mod_lt t.toNat (show 0 < sp + 1 by omega); omega
      have hs' : (t + 1).toNat % (sp + 1) < 1000 := by have := Nat.mod_lt (t + 1).toNat (show 0 < sp + 1 by omega); omega
      have e3 : ∀ ch, mcell (m.at_ t) (.slice (some ⟨pb, 0, none⟩) m.cfg.parts.length cap) ch 3 = I64 (sp : Int) := fun ch => by
        show I64 ((m.cfg.W - 1 : Nat) : Int) = _
        rw [HSP.out]; rfl
      have E3 := hide e3
      clear e3
      go_wp2_with fail
      refine (at_ok b sp _ t wr HM.out.me (E3.out 0) hspl (by omega) (by omega)).mono ?_
      rintro e w1 ⟨rfl, n1, rfl⟩
      generalize hS : t.toNat % (sp + 1) = S at hs ⊢
      have HS := hide hS
      clear hS
      have HM1 := hide (HM.out.me.drewN n1)
      go_wp2_with (refine wpList_load_cells rfl 59 (.tmp 69) rfl b (4 + S * 16) rfl (slotVals (svf (m.at_ t) S)) (d := _) (slot_cells HM1.out (fun r _ => rfl) hs) Try.underlying59 rfl (by kernel_rfl) ?_)
      refine (add_ok b pb m.cfg.parts.length cap _ (suf (m.at_ t)) (svf (m.at_ t) S) 1 _ HM1.out rfl (fun j hj => mcell_sum _ _ _ hj) (.inl rfl) hpl (fun j => ?_) (fun j => ?_)).mono ?_
      · have := HIt.out.sum_bd (j % 8) (decide (8 ≤ j)); unfold suf; omega
      · have := HIt.out.slot_bd (j % 8) (decide (8 ≤ j)) S; unfold svf; omega
      rintro e w2 ⟨rfl, ho2, hf2⟩
      have HF2 := hide hf2
      have HO2 := hide ho2
      have d20 := hf2.cell' (i := 16020) (v := I64 t) (by omega) (by rw [addf_low _ _ _ _ _ (by omega)]; rfl)
      clear ho2 hf2 c20
      go_wp2_with fail
      refine (at_ok b sp _ (t + 1) w2 HF2.out (by rw [addf_low _ _ _ _ _ (by omega)]; exact E3.out 0) hspl (by omega) (by omega)).mono ?_
      rintro e w3 ⟨rfl, n3, rfl⟩
      generalize hS' : (t + 1).toNat % (sp + 1) = S' at hs' ⊢
      have HS' := hide hS'
      clear hS'
      have HF3 := hide (HF2.out.drewN n3)
      go_wp2_with (refine wpList_load_cells rfl 59 (.tmp 81) rfl b (4 + S' * 16) rfl (slotVals (svf (m.at_ t) S')) (d := _) (slot_cells HF3.out (fun r _ => addf_low _ _ _ _ _ (by omega)) hs') Try.underlying59 rfl (by kernel_rfl) ?_)
      refine (add_ok b pb m.cfg.parts.length cap _ (su1f (m.at_ t) S m.cfg.parts.length) (svf (m.at_ t) S') (-1) _ HF3.out (by rw [addf_low _ _ _ _ _ (by omega)]; rfl) (fun j hj => tick_mid _ _ _ _ _ hj) (.inr rfl) hpl (fun j => ?_) (fun j => ?_)).mono ?_
      · have := HIt.out.sum_bd (j % 8) (decide (8 ≤ j)); have := HIt.out.slot_bd (j % 8) (decide (8 ≤ j)) S; unfold su1f suf svf; split <;> omega
      · have := HIt.out.slot_bd (j % 8) (decide (8 ≤ j)) S'; unfold svf; omega
      rintro e w4 ⟨rfl, ho4, hf4⟩
      have HF4 := hide hf4
      have HO4 := hide ((HO.out.drewN n1).trans ((HO2.out.drewN n3).trans ho4))
      clear ho4 hf4 d20
      go_wp2_with (refine wpList_store_cells rfl 59 (.tmp 86) (.tmp 85) rfl b (4 + S' * 16) rfl zs16 rfl 62 _ HF4.out (by simp; omega) (by kernel_rfl) (by simp [Value.oneCell']) ?_; intro w5 hw5; have HF5 := hide (FBlk.stored hw5 (by simp; omega)); have HO5 := hide (HO4.out.trans hw5.2.1); clear hw5; have d20 := HF5.out.cell' (i := 16020) (v := I64 t) (by omega) (by rw [if_neg (by simp; omega), addf_low _ _ _ _ _ (by omega), addf_low _ _ _ _ _ (by omega)]; rfl); have g20 := HF5.out.frozen 16020)
      go_roundg (now - (t + 1)).toNat
      case measure => rw [← HK.out]; omega
      case rel =>
        have hor := HO5.out.set (p := ⟨b, 16020, none⟩) (.inl (by simp)) (I64 (t + 1))
        refine ⟨t + 1, by omega, by omega, rfl, hor, ⟨?_, ?_⟩⟩
        · refine (HF5.out.set 16020 (I64 (t + 1))).congr fun j hj => ?_
          have e1 : (m.at_ t).now % ((m.at_ t).cfg.W : Int) = (S : Int) := by
            show t % (m.cfg.W : Int) = S
            rw [hmod.out, HSP.out, show sp + 1 - 1 + 1 = sp + 1 from rfl, HS.out]
          have e2 : ((m.at_ t).now + 1) % ((m.at_ t).cfg.W : Int) = (S' : Int) := by
            show (t + 1) % (m.cfg.W : Int) = S'
            rw [hmod'.out, HSP.out, show sp + 1 - 1 + 1 = sp + 1 from rfl, HS'.out]
          exact tick_end HIt.out _ hW2 S S' e1 e2 j hj
        · exact HP.out.only hor (by simp; omega)
    · obtain rfl : t = now := by omega
      go_wp2
      go_end0
      refine ⟨rfl, ?_, HO.out⟩
      rw [show (m.at_ t).tickv t = 0 from HI.out.tick_later h0]
      exact HM.out

theorem same_ok (b pb cap : Nat) (m : Mtr) (w : World) (hI : m.Inv) (h : MtrAt w b pb cap m (m.tickv m.now)) :
    Calls Try.prog 23 #[.pointer (some ⟨b, 0, none⟩), I64 m.now] w
      fun e w' => e = .returned (.tuple #[]) ∧ w = w' := by
  have c20 := h.me.cell' (i := 16020) (v := I64 m.now) (by omega) rfl
  clear h
  go_enter Try.func23, Try.ntmps23
  go_wp2
  refine bodyPost_ret (results_none rfl _ _ _) rfl ?_
  exact ⟨rfl, rfl⟩

theorem advance_ok (b pb : Nat) (m : Mtr) (now : Int) (w : World) (hI : m.Inv) (h : MtrIs w b pb m) (h0 : m.now ≤ now) (h1 : now ≤ 1099511627776) :
    Calls Try.prog 23 #[.pointer (some ⟨b, 0, none⟩), I64 now] w
      fun e w' => e = .returned (.tuple #[]) ∧ MtrIs w' b pb (m.at_ now) ∧ Only [b] w w' := by
  obtain ⟨cap, h⟩ := h
  rcases Int.lt_or_eq_of_le h0 with hlt | rfl
  · rcases Int.lt_or_le (now - m.now) m.cfg.W with hn | hn
    · exact (steps_ok b pb cap m now w hI h hlt h1 hn).mono fun e w' ⟨he, hm, ho⟩ => ⟨he, ⟨cap, hm⟩, ho⟩
    · exact (jump_ok b pb cap m now w hI h h1 hn).mono fun e w' ⟨he, hm, ho⟩ => ⟨he, ⟨cap, hm⟩, ho⟩
  · exact (same_ok b pb cap m w hI h).mono fun e w' ⟨he, hw⟩ => ⟨he, by subst hw; exact ⟨cap, h⟩, by subst hw; exact Only.refl _ _⟩

end Go.Proofs.Ytpeaojkbfllakaa
