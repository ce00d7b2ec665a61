/- advance, walked. -/
import Derived.Test.YtpeaojkbfllakaaWalkB
namespace Go.Proofs.Ytpeaojkbfllakaa
open Go.RowKit

theorem mod_lift {t : Int} {W : Nat} (h0 : 0 ≤ t) (h : 1 ≤ W) : t % (W : Int) = ((t.toNat % (W - 1 + 1) : Nat) : Int) := by
  obtain ⟨t, rfl⟩ := Int.eq_ofNat_of_zero_le h0
  rw [show W - 1 + 1 = W from by omega]
  simp

theorem jumpf_now (m : Mtr) (pv : Value) (k : Nat) (hk : k ≤ 1000) : (if 16004 ≤ 16020 ∧ 16020 < 16004 + zs16.length then zs16.getD (16020 - 16004) undef else jumpf m pv k 16020) = I64 m.now := by
  have hl : zs16.length = 16 := rfl
  rw [hl, if_neg (by omega)]
  unfold jumpf
  rw [if_neg (by omega), if_neg (by omega)]
  rfl

def JumpRel (b : Nat) (m : Mtr) (pv : Value) (w : World) (k : Nat) (wr : World) : Prop := Only [b] w wr ∧ FBlk wr b 62 16022 (jumpf m pv k)

set_option maxHeartbeats 2000000 in
theorem jump_ok (b pb cap : Nat) (m : Mtr) (now : Int) (w : World) (hI : m.Inv) (h : MtrAt w b pb cap m (m.tickv m.now)) (h1 : now ≤ 1099511627776) (hn : m.cfg.W ≤ now - m.now) :
    Calls Try.prog 23 #[.pointer (some ⟨b, 0, none⟩), I64 now] w
      fun e w' => e = .returned (.tuple #[]) ∧ MtrAt w' b pb cap (m.at_ now) ((m.at_ now).tickv now) ∧ Only [b] w w' := by
  have hW0 := hI.cfg.1
  have hW1 := hI.cfg.2.1
  have hnow := hI.now0
  have hend := hide (jump_end hI (.slice (some ⟨pb, 0, none⟩) m.cfg.parts.length cap) hn)
  have hst : JumpRel b m (.slice (some ⟨pb, 0, none⟩) m.cfg.parts.length cap) w 0 (w.setCell ⟨b, 16021, none⟩ (I64 0)) :=
    ⟨(Only.refl _ _).set (.inl (by simp)) _, (h.me.set 16021 (I64 0)).congr fun j hj => by
      unfold jumpf
      rw [if_neg (show ¬ (4 ≤ j ∧ j < 4 + 0 * 16) by omega)]
      by_cases e : j = 16021
      · rw [if_pos e, if_pos e]
      · rw [if_neg e, if_neg e]
        exact mcell_ext (m := m) (ch := m.tickv m.now) (ch' := 0) (g := fun j => if j = 16021 then I64 0 else mcell m (.slice (some ⟨pb, 0, none⟩) m.cfg.parts.length cap) (m.tickv m.now) j) rfl (fun j hj => by rw [if_neg (by omega)]) (fun s r hs hr => by rw [if_neg (by omega)]; exact mcell_slot _ _ _ hs hr) (fun r hr => by rw [if_neg (by omega)]; exact mcell_sum _ _ _ hr) rfl rfl j hj |> (fun q => by rw [if_neg e] at q; exact q)⟩
  have HST := hide hst
  have HP := hide h.parts
  have hne := h.ne
  have c20 := h.me.cell' (i := 16020) (v := I64 m.now) (by omega) rfl
  have c3 := h.me.cell' (i := 3) (v := I64 ((m.cfg.W - 1 : Nat) : Int)) (by omega) rfl
  have c21 := h.me.cell' (i := 16021) (v := I64 (m.tickv m.now)) (by omega) rfl
  have f21 := h.me.frozen 16021
  have hbl := h.me.lt
  obtain ⟨sp, hsp⟩ : ∃ sp : Nat, m.cfg.W = sp + 1 := ⟨m.cfg.W - 1, by omega⟩
  rw [show m.cfg.W - 1 = sp from by omega] at c3
  have hspl : sp < 1000 := by omega
  have hgt : decide ((sp : Int) < now - m.now) = true := by simp; omega
  have hne2 : (now == m.now) = false := by simp; omega
  have HSP := hide hsp
  have hn' : (sp : Int) < now - m.now := by omega
  clear hst h hn hI hsp hW0 hW1
  go_enter Try.func23, Try.ntmps23
  go_wp2
  refine wp_region_text0 11 [] [] [] (fun _ => True) (by kernel_rfl) (by kernel_rfl) trivial ?_
  repeat (first | ((refine wpText_h rfl rfl ?_; apply Exists.intro; refine ⟨?_, ?_⟩; next => (go_simp; (try (go_bits; go_simp)); (first | done | with_reducible rfl | (rw [if_neg (by omega)]; (try (go_bits; go_simp)); (first | done | with_reducible rfl)) | (rw [if_pos (by omega)]; (try (go_bits; go_simp)); (first | done | with_reducible rfl))))); (try simp only [Act.put, List.setIfInBounds_toArray, List.set_cons_zero, List.set_cons_succ])) | ((refine wpText_p rfl rfl ?_; apply Exists.intro; refine ⟨?_, ?_⟩; next => (intro w'; go_simp; (try (go_bits; go_simp)); (first | done | with_reducible rfl | (rw [if_neg (by omega)]; (try (go_bits; go_simp)); (first | done | with_reducible rfl)) | (rw [if_pos (by omega)]; (try (go_bits; go_simp)); (first | done | with_reducible rfl))))); (try simp only [Act.put, List.setIfInBounds_toArray, List.set_cons_zero, List.set_cons_succ])) | ((refine wpText_y rfl rfl ?_; apply Exists.intro; refine ⟨?_, ?_⟩; next => (intro w' hS; (first | obtain ⟨_, rfl⟩ := hS | skip); go_simp; (try (go_bits; go_simp)); (first | done | with_reducible rfl | (rw [if_neg (by omega)]; (try (go_bits; go_simp)); (first | done | with_reducible rfl)) | (rw [if_pos (by omega)]; (try (go_bits; go_simp)); (first | done | with_reducible rfl))))); (try simp only [Act.put, List.setIfInBounds_toArray, List.set_cons_zero, List.set_cons_succ])) | (refine wpText_skip (by first | exact .inl rfl | exact .inr (.inl rfl) | exact .inr (.inr rfl)) rfl ?_; (try simp only [Act.put, List.setIfInBounds_toArray, List.set_cons_zero, List.set_cons_succ])))
  refine wpText_nil ?_
  go_wp2
  clear c20 c3 c21 f21 hgt hne2
  go_loopw [31] (fun i wr => ∃ k : Nat, k ≤ sp + 1 ∧ i = .int .i64 k ∧ JumpRel b m (.slice (some ⟨pb, 0, none⟩) m.cfg.parts.length cap) w k wr) (fun i _ => sp + 1 - (intOf i).toNat)
  case atStart => exact ⟨0, Nat.zero_le _, rfl, HST.out.1.drew, HST.out.2.drew⟩
  case round =>
    obtain ⟨k, hk, rfl, ho, hf⟩ := hrel
    clear HST
    rcases Nat.lt_or_ge k (sp + 1) with hlt | hge
    · have HF := hide hf
      have HO := hide ho
      clear hf ho
      go_wp2_with (refine wpList_store_cells rfl 59 (.tmp 39) (.tmp 36) rfl b (4 + k * 16) rfl zs16 rfl 62 _ HF.out (by simp; omega) (by kernel_rfl) (by simp [Value.oneCell']) ?_; intro w2 hw2)
      go_roundw
      case rel => exact ⟨k + 1, by omega, by go_num, HO.out.trans hw2.2.1, (FBlk.stored hw2 (by simp; omega)).congr fun j _ => jumpf_step _ _ _ _⟩
      case measure => simp [intOf]; omega
    · obtain rfl : k = sp + 1 := by omega
      have HF := hide hf
      have HO := hide ho
      clear hf ho
      go_wp2_with (refine wpList_store_cells rfl 59 (.tmp 46) (.tmp 43) rfl b 16004 rfl zs16 rfl 62 _ HF.out (by simp) (by kernel_rfl) (by simp [Value.oneCell']) ?_; intro w2 hw2; have HF2 := FBlk.stored hw2 (by simp); have d20 := HF2.cell' (i := 16020) (v := I64 m.now) (by omega) (jumpf_now _ _ _ (by omega)); have e20 := HF2.frozen 16020; have HF2' := hide HF2; have hw2' := hide hw2; clear hw2 HF2)
      refine bodyPost_ret (results_none rfl _ _ _) rfl ?_
      have hor := (HO.out.trans hw2'.out.2.1).set (p := ⟨b, 16020, none⟩) (.inl (by simp)) (I64 now)
      refine ⟨rfl, ⟨?_, HP.out.only hor (by simp; omega)⟩, hor⟩
      refine (HF2'.out.set 16020 (I64 now)).congr fun j hj => ?_
      rw [← HSP.out]
      exact hend.out j hj

end Go.Proofs.Ytpeaojkbfllakaa
