/- check, budget, Used, UsedCritical. -/
import Derived.Test.YtpeaojkbfllakaaWalkD
namespace Go.Proofs.Ytpeaojkbfllakaa
open Go.RowKit

theorem Mtr.err_time {m : Mtr} {now : Int} {ps : List Int} (h : now < 0 ∨ 1099511627776 < now) : m.err now ps = 34 := by unfold Mtr.err; rw [if_pos h]
theorem Mtr.err_part {m : Mtr} {now : Int} {ps : List Int} {p : Int} (hp : p ∈ ps) (h : p < 0 ∨ (m.cfg.parts.length : Int) ≤ p) : m.err now ps = 34 := by
  unfold Mtr.err; split
  · rfl
  · rw [if_pos ⟨p, hp, h⟩]
theorem Mtr.err_rest {m : Mtr} {now : Int} {ps : List Int} (h0 : 0 ≤ now) (h1 : now ≤ 1099511627776) (h : ∀ p ∈ ps, 0 ≤ p ∧ p < m.cfg.parts.length) : m.err now ps = if now < m.now then 30 else 0 := by
  unfold Mtr.err
  rw [if_neg (by omega), if_neg]
  rintro ⟨p, hp, hb⟩
  have := h p hp
  omega
theorem Mtr.err_zero {m : Mtr} {now : Int} {ps : List Int} (h : m.err now ps = 0) : 0 ≤ now ∧ now ≤ 1099511627776 ∧ m.now ≤ now ∧ ∀ p ∈ ps, 0 ≤ p ∧ p < m.cfg.parts.length := by
  unfold Mtr.err at h
  split at h
  · omega
  split at h
  · omega
  split at h
  · omega
  rename_i a b c
  refine ⟨by omega, by omega, by omega, fun p hp => ?_⟩
  have : ¬ (p < 0 ∨ (m.cfg.parts.length : Int) ≤ p) := fun hb => b ⟨p, hp, hb⟩
  omega

theorem MtrIs.facts {w : World} {b pb : Nat} {m : Mtr} (h : MtrIs w b pb m) : ∃ cap, w.cell? ⟨b, 2, none⟩ = some (.slice (some ⟨pb, 0, none⟩) m.cfg.parts.length cap) ∧ w.cell? ⟨b, 0, none⟩ = some (I64 m.cfg.W) ∧ w.cell? ⟨b, 1, none⟩ = some (I64 m.cfg.P) ∧
    w.cell? ⟨b, 16020, none⟩ = some (I64 m.now) ∧ w.cell? ⟨b, 16021, none⟩ = some (I64 (m.tickv m.now)) ∧ (∀ r, r < 16 → w.cell? ⟨b, 16004 + r, none⟩ = some (I64 (suf m r))) := by
  obtain ⟨cap, h⟩ := h
  exact ⟨cap, h.me.cell' (by omega) rfl, h.me.cell' (by omega) rfl, h.me.cell' (by omega) rfl, h.me.cell' (by omega) rfl, h.me.cell' (by omega) rfl, fun r hr => h.me.cell' (by omega) (mcell_sum _ _ _ hr)⟩
theorem MtrIs.share {w : World} {b pb : Nat} {m : Mtr} (h : MtrIs w b pb m) {p : Nat} (hp : p < m.cfg.parts.length) : w.cell? ⟨pb, p * 2, none⟩ = some (I64 (m.cfg.share p).1) ∧ w.cell? ⟨pb, p * 2 + 1, none⟩ = some (I64 (m.cfg.share p).2) := by
  obtain ⟨cap, _, cs, hb, hc⟩ := h
  have hx : m.cfg.parts[p]? = some (m.cfg.share p) := by unfold Cfg.share; rw [List.getD_eq_getElem?_getD, List.getElem?_eq_getElem hp]; rfl
  exact ⟨hb.cell (hc p _ hx).1, hb.cell (hc p _ hx).2⟩
theorem MtrIs.lt {w : World} {b pb : Nat} {m : Mtr} (h : MtrIs w b pb m) : b < w.heap.size ∧ pb < w.heap.size := by
  obtain ⟨cap, h, cs, hb, hc⟩ := h
  exact ⟨h.lt, hb.lt⟩
theorem MtrIs.ne {w : World} {b pb : Nat} {m : Mtr} (h : MtrIs w b pb m) : b ≠ pb := by
  obtain ⟨cap, h⟩ := h
  exact h.ne

/-- A slice whose cells are these numbers. -/
def NumsAt (w : World) (q : Nat) (ps : List Int) : Prop := ∀ k p, ps[k]? = some p → w.cell? ⟨q, k, none⟩ = some (I64 p)

set_option maxHeartbeats 1000000 in
theorem check_ok (b pb q c : Nat) (m : Mtr) (now : Int) (ps : List Int) (w : World) (h : MtrIs w b pb m) (hq : NumsAt w q ps) (hl : ps.length ≤ 10) :
    Calls Try.prog 22 #[.pointer (some ⟨b, 0, none⟩), I64 now, .slice (some ⟨q, 0, none⟩) ps.length c] w
      fun e w' => e = .returned (I64 (m.err now ps)) ∧ w = w' := by
  obtain ⟨cap, c2, _, _, c20, _⟩ := h.facts
  have HQ := hide hq
  clear h hq
  by_cases t0 : now < 0
  · have hR := hide (Mtr.err_time (m := m) (ps := ps) (.inl t0))
    go_enter Try.func22, Try.ntmps22
    go_wp2
    go_ret
    rw [hR.out]; exact ⟨rfl, rfl⟩
  by_cases t1 : 1099511627776 < now
  · have hR := hide (Mtr.err_time (m := m) (ps := ps) (.inr t1))
    go_enter Try.func22, Try.ntmps22
    go_wp2
    go_ret
    rw [hR.out]; exact ⟨rfl, rfl⟩
  go_enter Try.func22, Try.ntmps22
  go_wp2
  go_loop [19] (fun i => ∃ k : Nat, k ≤ ps.length ∧ i = .int .i64 k ∧ Hid (∀ p ∈ ps.take k, 0 ≤ p ∧ p < m.cfg.parts.length)) (fun i => ps.length - (intOf i).toNat)
  case atStart => exact ⟨0, Nat.zero_le _, rfl, hide (by simp)⟩
  case round =>
    obtain ⟨k, hk, rfl, hall⟩ := hrel
    rcases Nat.lt_or_ge k ps.length with hlt | hge
    · obtain ⟨p, hp⟩ : ∃ p, ps[k]? = some p := ⟨_, List.getElem?_eq_getElem hlt⟩
      have hcell := HQ.out k p hp
      have HPk := hide hp
      clear hp
      by_cases p0 : p < 0
      · have hR := hide (Mtr.err_part (m := m) (now := now) (List.mem_of_getElem? HPk.out) (.inl p0))
        go_wp2
        go_ret
        rw [hR.out]; exact ⟨rfl, rfl⟩
      by_cases p1 : (m.cfg.parts.length : Int) ≤ p
      · have hR := hide (Mtr.err_part (m := m) (now := now) (List.mem_of_getElem? HPk.out) (.inr p1))
        have hd : decide ((m.cfg.parts.length : Int) ≤ p) = true := by simp [p1]
        go_wp2
        go_ret
        rw [hR.out]; exact ⟨rfl, rfl⟩
      · have hd : decide ((m.cfg.parts.length : Int) ≤ p) = false := by simp; omega
        have hnext : Hid (∀ x ∈ ps.take (k + 1), 0 ≤ x ∧ x < m.cfg.parts.length) := hide fun x hx => by
          rw [List.take_add_one] at hx
          rcases List.mem_append.1 hx with hx | hx
          · exact hall.out x hx
          · rw [HPk.out] at hx; simp at hx; omega
        go_wp2
        go_round
        case rel => exact ⟨k + 1, by omega, by go_num, hnext⟩
        case measure => simp [intOf]; omega
    · obtain rfl : k = ps.length := by omega
      have hR := hide (Mtr.err_rest (m := m) (now := now) (ps := ps) (by omega) (by omega) (by have := hall.out; rwa [List.take_length] at this))
      by_cases t2 : now < m.now
      · have hd : decide (now < m.now) = true := by simp [t2]
        have hV := hide (if_pos t2 : (if now < m.now then (30 : Int) else 0) = 30)
        go_wp2
        go_ret
        rw [hR.out, hV.out]; exact ⟨rfl, rfl⟩
      · have hd : decide (now < m.now) = false := by simp; omega
        have hV := hide (if_neg t2 : (if now < m.now then (30 : Int) else 0) = 0)
        go_wp2
        go_ret
        rw [hR.out, hV.out]; exact ⟨rfl, rfl⟩

theorem check_nil (q n c : Nat) (now : Int) (w : World) :
    Calls Try.prog 22 #[.pointer none, I64 now, .slice (some ⟨q, 0, none⟩) n c] w fun e w' => e = .returned (I64 35) ∧ w = w' := by
  go_enter Try.func22, Try.ntmps22
  go_wp2
  go_ret
  exact ⟨rfl, rfl⟩

theorem bud_ok (b pb : Nat) (m : Mtr) (pc : Int) (w : World) (h : MtrIs w b pb m) (hI : m.Inv) (h0 : 0 ≤ pc) (h1 : pc ≤ 100) :
    Calls Try.prog 25 #[.pointer (some ⟨b, 0, none⟩), I64 pc] w
      fun e w' => e = .returned (I64 (m.cfg.bud pc)) ∧ ∃ n, w' = w.drewN n := by
  obtain ⟨cap, c2, k0, k1, c20, _⟩ := h.facts
  obtain ⟨a1, a2, a3, a4, a5, a6⟩ := bud_bd hI.cfg h0 h1
  have hR := hide (show m.cfg.bud pc = pc * m.cfg.W * m.cfg.P / 100 from rfl)
  clear h a5 a6
  go_enter Try.func25, Try.ntmps25
  go_wp2
  refine wp_region_text0 13 [] [] [] (fun _ => True) (by kernel_rfl) (by kernel_rfl) trivial ?_
  repeat (first | ((refine wpText_h rfl rfl ?_; apply Exists.intro; refine ⟨?_, ?_⟩; next => (go_simp; (try (go_bits; go_simp)); (first | done | with_reducible rfl | (rw [if_neg (by omega)]; (try (go_bits; go_simp)); (first | done | with_reducible rfl)) | (rw [if_pos (by omega)]; (try (go_bits; go_simp)); (first | done | with_reducible rfl))))); (try simp only [Act.put, List.setIfInBounds_toArray, List.set_cons_zero, List.set_cons_succ])) | ((refine wpText_p rfl rfl ?_; apply Exists.intro; refine ⟨?_, ?_⟩; next => (intro w'; go_simp; (try (go_bits; go_simp)); (first | done | with_reducible rfl | (rw [if_neg (by omega)]; (try (go_bits; go_simp)); (first | done | with_reducible rfl)) | (rw [if_pos (by omega)]; (try (go_bits; go_simp)); (first | done | with_reducible rfl))))); (try simp only [Act.put, List.setIfInBounds_toArray, List.set_cons_zero, List.set_cons_succ])) | ((refine wpText_y rfl rfl ?_; apply Exists.intro; refine ⟨?_, ?_⟩; next => (intro w' hS; (first | obtain ⟨_, rfl⟩ := hS | skip); go_simp; (try (go_bits; go_simp)); (first | done | with_reducible rfl | (rw [if_neg (by omega)]; (try (go_bits; go_simp)); (first | done | with_reducible rfl)) | (rw [if_pos (by omega)]; (try (go_bits; go_simp)); (first | done | with_reducible rfl))))); (try simp only [Act.put, List.setIfInBounds_toArray, List.set_cons_zero, List.set_cons_succ])) | (refine wpText_skip (by first | exact .inl rfl | exact .inr (.inl rfl) | exact .inr (.inr rfl)) rfl ?_; (try simp only [Act.put, List.setIfInBounds_toArray, List.set_cons_zero, List.set_cons_succ])))
  refine wpText_nil ?_
  go_wp2
  go_ret
  rw [hR.out]
  exact ⟨by first | rfl | simp, _, rfl⟩

theorem used_no (b pb : Nat) (m : Mtr) (now part : Int) (w : World) (h : MtrIs w b pb m) (he : m.err now [part] ≠ 0) :
    Calls Try.prog 11 #[.pointer (some ⟨b, 0, none⟩), I64 now, I64 part] w
      fun e w' => e = .returned (.tuple #[I64 0, I64 (m.err now [part])]) ∧ Only [] w w' := by
  have hz : (m.err now [part] == 0) = false := by simpa using he
  have HA := hide (h.only ((Only.refl [] w).alloc (.cells #[I64 part] 3)) (by simp) (by simp))
  have HN : Hid (NumsAt (w.alloc (.cells #[I64 part] 3)) w.heap.size [part]) := hide fun k p hp => by
    obtain ⟨rfl, rfl⟩ : k = 0 ∧ p = part := by
      cases k with
      | zero => simp at hp; exact ⟨rfl, hp.symm⟩
      | succ k => simp at hp
    exact (Blk.new w 3 [I64 p]).cell rfl
  clear h he
  go_enter Try.func11, Try.ntmps11
  go_wp2_with fail
  refine (check_ok b pb w.heap.size 1 m now [part] _ HA.out HN.out (by simp)).mono ?_
  rintro e w1 ⟨rfl, rfl⟩
  go_wp2
  go_ret2
  exact ⟨rfl, (Only.refl _ _).alloc _⟩
theorem usedc_no (b pb : Nat) (m : Mtr) (now part : Int) (w : World) (h : MtrIs w b pb m) (he : m.err now [part] ≠ 0) :
    Calls Try.prog 12 #[.pointer (some ⟨b, 0, none⟩), I64 now, I64 part] w
      fun e w' => e = .returned (.tuple #[I64 0, I64 (m.err now [part])]) ∧ Only [] w w' := by
  have hz : (m.err now [part] == 0) = false := by simpa using he
  have HA := hide (h.only ((Only.refl [] w).alloc (.cells #[I64 part] 3)) (by simp) (by simp))
  have HN : Hid (NumsAt (w.alloc (.cells #[I64 part] 3)) w.heap.size [part]) := hide fun k p hp => by
    obtain ⟨rfl, rfl⟩ : k = 0 ∧ p = part := by
      cases k with
      | zero => simp at hp; exact ⟨rfl, hp.symm⟩
      | succ k => simp at hp
    exact (Blk.new w 3 [I64 p]).cell rfl
  clear h he
  go_enter Try.func12, Try.ntmps12
  go_wp2_with fail
  refine (check_ok b pb w.heap.size 1 m now [part] _ HA.out HN.out (by simp)).mono ?_
  rintro e w1 ⟨rfl, rfl⟩
  go_wp2
  go_ret2
  exact ⟨rfl, (Only.refl _ _).alloc _⟩

theorem one_num (w : World) (part : Int) : NumsAt (w.alloc (.cells #[I64 part] 3)) w.heap.size [part] := fun k p hp => by
  obtain ⟨rfl, rfl⟩ : k = 0 ∧ p = part := by
    cases k with
    | zero => simp at hp; exact ⟨rfl, hp.symm⟩
    | succ k => simp at hp
  exact (Blk.new w 3 [I64 p]).cell rfl

theorem used_yes (b pb : Nat) (m : Mtr) (now : Int) (part : Nat) (w : World) (h : MtrIs w b pb m) (hI : m.Inv) (he : m.err now [(part : Int)] = 0) :
    Calls Try.prog 11 #[.pointer (some ⟨b, 0, none⟩), I64 now, I64 part] w
      fun e w' => e = .returned (.tuple #[I64 ((m.at_ now).sumv part false), I64 0]) ∧ MtrIs w' b pb (m.at_ now) ∧ Only [b] w w' := by
  obtain ⟨t0, t1, t2, t3⟩ := Mtr.err_zero he
  have hpl : part < m.cfg.parts.length := by have := t3 part (by simp); omega
  have hp8 := hI.cfg.2.2.2.2.2.1
  have hlt := h.lt
  have HA := hide (h.only ((Only.refl [] w).alloc (.cells #[I64 part] 3)) (by simp) (by simp))
  have hc := hide (check_ok b pb w.heap.size 1 m now [(part : Int)] _ HA.out (one_num w part) (by simp))
  rw [he] at hc
  have ha := hide (advance_ok b pb m now _ hI HA.out t2 t1)
  have HI := hide hI
  clear t3 he h hI
  go_enter Try.func11, Try.ntmps11
  go_wp2_with fail
  refine hc.out.mono ?_
  rintro e w1 ⟨rfl, rfl⟩
  go_wp2_with fail
  refine ha.out.mono ?_
  rintro e w2 ⟨rfl, hm2, ho2⟩
  have HM2 := hide hm2
  obtain ⟨cap, c2, _, _, c20, _, cs⟩ := hm2.facts
  have c := cs part (by omega)
  rw [show suf (m.at_ now) part = (m.at_ now).sumv part false by unfold suf; rw [Nat.mod_eq_of_lt (by omega), decide_eq_false (by omega)]] at c
  have HO := hide (((Only.refl [b] w).alloc (.cells #[I64 part] 3)).trans ho2)
  clear cs hm2 ho2
  go_wp2
  go_ret2
  exact ⟨rfl, HM2.out, HO.out⟩
theorem usedc_yes (b pb : Nat) (m : Mtr) (now : Int) (part : Nat) (w : World) (h : MtrIs w b pb m) (hI : m.Inv) (he : m.err now [(part : Int)] = 0) :
    Calls Try.prog 12 #[.pointer (some ⟨b, 0, none⟩), I64 now, I64 part] w
      fun e w' => e = .returned (.tuple #[I64 ((m.at_ now).sumv part true), I64 0]) ∧ MtrIs w' b pb (m.at_ now) ∧ Only [b] w w' := by
  obtain ⟨t0, t1, t2, t3⟩ := Mtr.err_zero he
  have hpl : part < m.cfg.parts.length := by have := t3 part (by simp); omega
  have hp8 := hI.cfg.2.2.2.2.2.1
  have hlt := h.lt
  have HA := hide (h.only ((Only.refl [] w).alloc (.cells #[I64 part] 3)) (by simp) (by simp))
  have hc := hide (check_ok b pb w.heap.size 1 m now [(part : Int)] _ HA.out (one_num w part) (by simp))
  rw [he] at hc
  have ha := hide (advance_ok b pb m now _ hI HA.out t2 t1)
  have HI := hide hI
  clear t3 he h hI
  go_enter Try.func12, Try.ntmps12
  go_wp2_with fail
  refine hc.out.mono ?_
  rintro e w1 ⟨rfl, rfl⟩
  go_wp2_with fail
  refine ha.out.mono ?_
  rintro e w2 ⟨rfl, hm2, ho2⟩
  have HM2 := hide hm2
  obtain ⟨cap, c2, _, _, c20, _, cs⟩ := hm2.facts
  have c := cs (8 + part) (by omega)
  rw [show suf (m.at_ now) (8 + part) = (m.at_ now).sumv part true by unfold suf; rw [show (8 + part) % 8 = part by omega, decide_eq_true (by omega)], show 16004 + (8 + part) = 16012 + part by omega] at c
  have HO := hide (((Only.refl [b] w).alloc (.cells #[I64 part] 3)).trans ho2)
  clear cs hm2 ho2
  go_wp2
  go_ret2
  exact ⟨rfl, HM2.out, HO.out⟩

end Go.Proofs.Ytpeaojkbfllakaa
