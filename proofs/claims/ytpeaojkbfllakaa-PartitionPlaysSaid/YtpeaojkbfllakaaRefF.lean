/- step: both meters do the same. -/
import Derived.Test.YtpeaojkbfllakaaRefE
import Derived.Test.YtpeaojkbfllakaaLawNil
import Derived.Test.YtpeaojkbfllakaaLawA
namespace Go.Proofs.Ytpeaojkbfllakaa
open Go.RowKit

/-- Both meters are there, in one state; all that they turn lies behind 'base'. -/
structure Both (w : World) (base b pb rb rp : Nat) (m : Mtr) : Prop where
  mtr : MtrIs w b pb m
  ref : RIs w base rb rp m
  inv : m.Inv
  le : base ≤ b ∧ base ≤ w.heap.size

section
variable {base b pb rb rp : Nat} {m m' : Mtr} {w w' : World}
theorem MtrIs.onlyT (h : MtrIs w b pb m) (ho : OnlyT refTs base w w') : MtrIs w' b pb m := by
  obtain ⟨cap, me, cs, hb, hc⟩ := h
  exact ⟨cap, ho.blk me (by decide), cs, ho.blk hb (by decide), hc⟩
theorem MtrIs.turn (h : MtrIs w b pb m) (hb : base ≤ b) (ho : Only [b] w w') : OnlyT [62] base w w' := by
  obtain ⟨cap, me, _⟩ := h
  exact .of_only ho fun k hk _ => by
    obtain rfl : k = b := by simpa using hk
    exact ⟨hb, Blk.hasT (me : Blk _ _ _ _) (by simp)⟩
theorem RIs.onlyT (h : RIs w base rb rp m) {b0 : Nat} (ho : OnlyT [62] b0 w w') : RIs w' base rb rp m := by
  obtain ⟨cap, v, me, ⟨cs, hb, hc⟩, own, ge⟩ := h
  exact ⟨cap, v, ho.blk me (by decide), ⟨cs, ho.blk hb (by decide), hc⟩, ho.own own (by decide), ge⟩
theorem Both.only (h : Both w base b pb rb rp m) (ho : Only [] w w') : Both w' base b pb rb rp m :=
  ⟨h.mtr.only ho (by simp) (by simp), h.ref.only ho, h.inv, by have := ho.size; have := h.le; omega⟩
theorem Both.mk2 (h : Both w base b pb rb rp m) {w1 : World} (h1 : MtrIs w1 b pb m') (o1 : Only [b] w w1) (h2 : RIs w' base rb rp m') (o2 : OnlyT refTs base w1 w') (hI : m'.Inv) :
    Both w' base b pb rb rp m' ∧ Below base w w' := by
  have s1 := o1.size
  have s2 := o2.size
  obtain ⟨l1, l2⟩ := h.le
  exact ⟨⟨h1.onlyT o2, h2, hI, l1, by omega⟩, ((h.mtr.turn l1 o1).below l2).trans (o2.below (by omega))⟩
theorem Both.ref1 (h : Both w base b pb rb rp m) (o1 : Only [b] w w') : RIs w' base rb rp m := h.ref.onlyT (h.mtr.turn h.le.1 o1)
end

theorem charge_len (m : Mtr) (now p : Int) (c : Bool) : (m.charge now p c).1.l.length ≤ m.l.length + 1 := by
  unfold Mtr.charge
  split
  · show m.l.length ≤ _; omega
  · split
    · show m.l.length ≤ _; omega
    · show (m.l ++ [_]).length ≤ _; simp
theorem used_len (m : Mtr) (now p : Int) (cr : Bool) : (m.used now p cr).1.l = m.l := by unfold Mtr.used; split <;> rfl
theorem has_len (m : Mtr) (now p : Int) : (m.has now p).1.l = m.l := by unfold Mtr.has; split <;> rfl
theorem broke_len (m : Mtr) (now p : Int) : (m.broke now p).1.l = m.l := by unfold Mtr.broke; split <;> rfl
theorem comp_len (m : Mtr) (now p q : Int) : (m.comp now p q).1.l = m.l := by unfold Mtr.comp; split <;> rfl

def StepPost (w : World) (base b pb rb rp : Nat) (k : Nat) (e : Ending) (w' : World) : Prop :=
  e = .returned (.bool true) ∧ (∃ m', Both w' base b pb rb rp m' ∧ m'.l.length ≤ k + 1) ∧ Below base w w'

set_option maxRecDepth 100000 in
set_option maxHeartbeats 4000000 in
theorem step_ok (base b pb rb rp : Nat) (m : Mtr) (d gap raw a q now : Int) (c : Bool) (w : World) (h : Both w base b pb rb rp m) (hl : m.l.length ≤ 1000) (hd0 : 0 ≤ d) (hd1 : d ≤ 255) :
    Calls Try.prog 20 #[.pointer (some ⟨b, 0, none⟩), .pointer (some ⟨rb, 0, none⟩), ActV d gap raw a q c, I64 now] w (StepPost w base b pb rb rp m.l.length) := by
  have h0 : 0 ≤ d % 7 := Int.emod_nonneg _ (by omega)
  have h7 : d % 7 < 7 := Int.emod_lt_of_pos _ (by omega)
  have HB := hide (Blk.new w 53 [.int .u8 d, .int .u8 gap, I64 raw, I64 a, I64 q, .bool c])
  have HA := hide (h.only ((Only.refl [] w).alloc (.cells #[.int .u8 d, .int .u8 gap, I64 raw, I64 a, I64 q, .bool c] 53)))
  have FIN : Hid (∀ w', Below base (w.alloc (.cells #[.int .u8 d, .int .u8 gap, I64 raw, I64 a, I64 q, .bool c] 53)) w' → Below base w w') := hide fun w' k => ((Below.refl _ _).alloc h.le.2 _).trans k
  have hne : w.heap.size ∉ [b] := by have := h.mtr.lt; simp; omega
  have HNE := hide hne
  clear h hne

  by_cases h2 : d % 7 = 2
  · have e2 : (d % 7 == 2) = true := by simp [h2]
    clear h2 h0 h7
    have e3a := HB.out.cell (i := 3) rfl
    have e4a := HB.out.cell (i := 4) rfl
    have k1 := hide (used_ok b pb m now a _ HA.out.mtr HA.out.inv)
    have i1 := hide (used_inv HA.out.inv now a false)
    go_enter Try.func20, Try.ntmps20
    go_wp2_with fail
    refine k1.out.mono ?_
    rintro e w1 ⟨rfl, h1, ho1⟩
    have HM1 := hide h1
    have HO1 := hide ho1
    have hb1 := ho1.blk HB.out HNE.out
    have f3a := hb1.cell (i := 3) rfl
    have f4a := hb1.cell (i := 4) rfl
    have k2 := hide (rused_ok base rb rp m now a _ (HA.out.ref1 ho1) HA.out.inv hl)
    clear h1 ho1 hb1
    go_wp2_with fail
    refine k2.out.mono ?_
    rintro e w2 ⟨rfl, h2, ho2⟩
    have HF := hide (HA.out.mk2 HM1.out HO1.out h2 ho2 i1.out)
    clear h2 ho2
    go_wp2
    go_ret
    exact ⟨rfl, ⟨_, HF.out.1, by rw [used_len]; omega⟩, FIN.out _ HF.out.2⟩

  by_cases h3 : d % 7 = 3
  · have e3 : (d % 7 == 3) = true := by simp [h3]
    have e2 : (d % 7 == 2) = false := by simp [h3]
    clear h3 h2 h0 h7
    have e3a := HB.out.cell (i := 3) rfl
    have e4a := HB.out.cell (i := 4) rfl
    have k1 := hide (usedc_ok b pb m now a _ HA.out.mtr HA.out.inv)
    have i1 := hide (used_inv HA.out.inv now a true)
    go_enter Try.func20, Try.ntmps20
    go_wp2_with fail
    refine k1.out.mono ?_
    rintro e w1 ⟨rfl, h1, ho1⟩
    have HM1 := hide h1
    have HO1 := hide ho1
    have hb1 := ho1.blk HB.out HNE.out
    have f3a := hb1.cell (i := 3) rfl
    have f4a := hb1.cell (i := 4) rfl
    have k2 := hide (rusedc_ok base rb rp m now a _ (HA.out.ref1 ho1) HA.out.inv hl)
    clear h1 ho1 hb1
    go_wp2_with fail
    refine k2.out.mono ?_
    rintro e w2 ⟨rfl, h2, ho2⟩
    have HF := hide (HA.out.mk2 HM1.out HO1.out h2 ho2 i1.out)
    clear h2 ho2
    go_wp2
    go_ret
    exact ⟨rfl, ⟨_, HF.out.1, by rw [used_len]; omega⟩, FIN.out _ HF.out.2⟩

  by_cases h4 : d % 7 = 4
  · have e4 : (d % 7 == 4) = true := by simp [h4]
    have e2 : (d % 7 == 2) = false := by simp [h4]
    have e3 : (d % 7 == 3) = false := by simp [h4]
    clear h4 h2 h3 h0 h7
    have e3a := HB.out.cell (i := 3) rfl
    have e4a := HB.out.cell (i := 4) rfl
    have k1 := hide (has_ok b pb m now a _ HA.out.mtr HA.out.inv)
    have i1 := hide (has_inv HA.out.inv now a)
    go_enter Try.func20, Try.ntmps20
    go_wp2_with fail
    refine k1.out.mono ?_
    rintro e w1 ⟨rfl, h1, ho1⟩
    have HM1 := hide h1
    have HO1 := hide ho1
    have hb1 := ho1.blk HB.out HNE.out
    have f3a := hb1.cell (i := 3) rfl
    have f4a := hb1.cell (i := 4) rfl
    have k2 := hide (rhas_ok base rb rp m now a _ (HA.out.ref1 ho1) HA.out.inv hl)
    clear h1 ho1 hb1
    go_wp2_with fail
    refine k2.out.mono ?_
    rintro e w2 ⟨rfl, h2, ho2⟩
    have HF := hide (HA.out.mk2 HM1.out HO1.out h2 ho2 i1.out)
    clear h2 ho2
    go_wp2
    go_ret
    exact ⟨rfl, ⟨_, HF.out.1, by rw [has_len]; omega⟩, FIN.out _ HF.out.2⟩

  by_cases h5 : d % 7 = 5
  · have e5 : (d % 7 == 5) = true := by simp [h5]
    have e2 : (d % 7 == 2) = false := by simp [h5]
    have e3 : (d % 7 == 3) = false := by simp [h5]
    have e4 : (d % 7 == 4) = false := by simp [h5]
    clear h5 h2 h3 h4 h0 h7
    have e3a := HB.out.cell (i := 3) rfl
    have e4a := HB.out.cell (i := 4) rfl
    have k1 := hide (broke_ok b pb m now a _ HA.out.mtr HA.out.inv)
    have i1 := hide (broke_inv HA.out.inv now a)
    go_enter Try.func20, Try.ntmps20
    go_wp2_with fail
    refine k1.out.mono ?_
    rintro e w1 ⟨rfl, h1, ho1⟩
    have HM1 := hide h1
    have HO1 := hide ho1
    have hb1 := ho1.blk HB.out HNE.out
    have f3a := hb1.cell (i := 3) rfl
    have f4a := hb1.cell (i := 4) rfl
    have k2 := hide (rbroke_ok base rb rp m now a _ (HA.out.ref1 ho1) HA.out.inv hl)
    clear h1 ho1 hb1
    go_wp2_with fail
    refine k2.out.mono ?_
    rintro e w2 ⟨rfl, h2, ho2⟩
    have HF := hide (HA.out.mk2 HM1.out HO1.out h2 ho2 i1.out)
    clear h2 ho2
    go_wp2
    go_ret
    exact ⟨rfl, ⟨_, HF.out.1, by rw [broke_len]; omega⟩, FIN.out _ HF.out.2⟩

  by_cases h6 : d % 7 = 6
  · have e6 : (d % 7 == 6) = true := by simp [h6]
    have e2 : (d % 7 == 2) = false := by simp [h6]
    have e3 : (d % 7 == 3) = false := by simp [h6]
    have e4 : (d % 7 == 4) = false := by simp [h6]
    have e5 : (d % 7 == 5) = false := by simp [h6]
    clear h6 h2 h3 h4 h5 h0 h7
    have e3a := HB.out.cell (i := 3) rfl
    have e4a := HB.out.cell (i := 4) rfl
    have k1 := hide (comp_ok b pb m now a q _ HA.out.mtr HA.out.inv)
    have i1 := hide (comp_inv HA.out.inv now a q)
    go_enter Try.func20, Try.ntmps20
    go_wp2_with fail
    refine k1.out.mono ?_
    rintro e w1 ⟨rfl, h1, ho1⟩
    have HM1 := hide h1
    have HO1 := hide ho1
    have hb1 := ho1.blk HB.out HNE.out
    have f3a := hb1.cell (i := 3) rfl
    have f4a := hb1.cell (i := 4) rfl
    have k2 := hide (rcomp_ok base rb rp m now a q _ (HA.out.ref1 ho1) HA.out.inv hl)
    clear h1 ho1 hb1
    go_wp2_with fail
    refine k2.out.mono ?_
    rintro e w2 ⟨rfl, h2, ho2⟩
    have HF := hide (HA.out.mk2 HM1.out HO1.out h2 ho2 i1.out)
    clear h2 ho2
    go_wp2
    go_ret
    exact ⟨rfl, ⟨_, HF.out.1, by rw [comp_len]; omega⟩, FIN.out _ HF.out.2⟩

  · skip
    have e2 : (d % 7 == 2) = false := by simp [h2]
    have e3 : (d % 7 == 3) = false := by simp [h3]
    have e4 : (d % 7 == 4) = false := by simp [h4]
    have e5 : (d % 7 == 5) = false := by simp [h5]
    have e6 : (d % 7 == 6) = false := by simp [h6]
    clear h2 h3 h4 h5 h6 h0 h7
    have e3a := HB.out.cell (i := 3) rfl
    have e5a := HB.out.cell (i := 5) rfl
    have k1 := hide (charge_ok b pb m now a c _ (HA.out.only ((Only.refl [] _).drew)).mtr HA.out.inv)
    have i1 := hide (charge_inv HA.out.inv now a c)
    go_enter Try.func20, Try.ntmps20
    go_wp2
    refine wp_region_text 13 [6] [7, 8, 9, 11] [10, 12] (fun w' => w'.cell? ⟨w.heap.size, 3, none⟩ = some (I64 a) ∧ w'.cell? ⟨w.heap.size, 5, none⟩ = some (.bool c)) (by kernel_rfl) (by kernel_rfl) ⟨by go_simp, by go_simp⟩ ?_
    simp only [List.take_succ_cons, List.take_zero, List.drop_succ_cons, List.drop_zero]
    repeat (first | ((refine wpText_h rfl rfl ?_; apply Exists.intro; refine ⟨?_, ?_⟩; next => (go_simp; (try (go_bits; go_simp)); (first | done | with_reducible rfl | (rw [if_neg (by omega)]; (try (go_bits; go_simp)); (first | done | with_reducible rfl)) | (rw [if_pos (by omega)]; (try (go_bits; go_simp)); (first | done | with_reducible rfl))))); (try simp only [Act.put, List.setIfInBounds_toArray, List.set_cons_zero, List.set_cons_succ])) | ((refine wpText_p rfl rfl ?_; apply Exists.intro; refine ⟨?_, ?_⟩; next => (intro w'; go_simp; (try (go_bits; go_simp)); (first | done | with_reducible rfl | (rw [if_neg (by omega)]; (try (go_bits; go_simp)); (first | done | with_reducible rfl)) | (rw [if_pos (by omega)]; (try (go_bits; go_simp)); (first | done | with_reducible rfl))))); (try simp only [Act.put, List.setIfInBounds_toArray, List.set_cons_zero, List.set_cons_succ])) | ((refine wpText_y rfl rfl ?_; apply Exists.intro; refine ⟨?_, ?_⟩; next => (intro w' hS; (first | obtain ⟨_, rfl⟩ := hS | skip); go_simp; (try (go_bits; go_simp)); (first | done | with_reducible rfl | (rw [if_neg (by omega)]; (try (go_bits; go_simp)); (first | done | with_reducible rfl)) | (rw [if_pos (by omega)]; (try (go_bits; go_simp)); (first | done | with_reducible rfl))))); (try simp only [Act.put, List.setIfInBounds_toArray, List.set_cons_zero, List.set_cons_succ])) | (refine wpText_skip (by first | exact .inl rfl | exact .inr (.inl rfl) | exact .inr (.inr rfl)) rfl ?_; (try simp only [Act.put, List.setIfInBounds_toArray, List.set_cons_zero, List.set_cons_succ])))
    refine wpText_e rfl rfl (fun K hK => ?_)
    go_wp2_with fail
    refine k1.out.mono ?_
    rintro e w1 ⟨rfl, h1, ho1⟩
    have HM1 := hide h1
    have HO1 := hide ((((Only.refl [b] _).drew).trans ho1))
    have hb1 := ho1.blk HB.out.drew HNE.out
    refine hK _ _ ⟨hb1.cell rfl, hb1.cell rfl⟩ ?_
    clear hK K
    have k2 := hide (rcharge_ok base rb rp m now a c _ (HA.out.ref1 HO1.out) HA.out.inv hl (by have := HA.out.le.2; have := HO1.out.size; omega))
    clear h1 ho1 hb1
    repeat (first | ((refine wpText_h rfl rfl ?_; apply Exists.intro; refine ⟨?_, ?_⟩; next => (go_simp; (try (go_bits; go_simp)); (first | done | with_reducible rfl | (rw [if_neg (by omega)]; (try (go_bits; go_simp)); (first | done | with_reducible rfl)) | (rw [if_pos (by omega)]; (try (go_bits; go_simp)); (first | done | with_reducible rfl))))); (try simp only [Act.put, List.setIfInBounds_toArray, List.set_cons_zero, List.set_cons_succ])) | ((refine wpText_p rfl rfl ?_; apply Exists.intro; refine ⟨?_, ?_⟩; next => (intro w'; go_simp; (try (go_bits; go_simp)); (first | done | with_reducible rfl | (rw [if_neg (by omega)]; (try (go_bits; go_simp)); (first | done | with_reducible rfl)) | (rw [if_pos (by omega)]; (try (go_bits; go_simp)); (first | done | with_reducible rfl))))); (try simp only [Act.put, List.setIfInBounds_toArray, List.set_cons_zero, List.set_cons_succ])) | ((refine wpText_y rfl rfl ?_; apply Exists.intro; refine ⟨?_, ?_⟩; next => (intro w' hS; (first | obtain ⟨_, rfl⟩ := hS | skip); go_simp; (try (go_bits; go_simp)); (first | done | with_reducible rfl | (rw [if_neg (by omega)]; (try (go_bits; go_simp)); (first | done | with_reducible rfl)) | (rw [if_pos (by omega)]; (try (go_bits; go_simp)); (first | done | with_reducible rfl))))); (try simp only [Act.put, List.setIfInBounds_toArray, List.set_cons_zero, List.set_cons_succ])) | (refine wpText_skip (by first | exact .inl rfl | exact .inr (.inl rfl) | exact .inr (.inr rfl)) rfl ?_; (try simp only [Act.put, List.setIfInBounds_toArray, List.set_cons_zero, List.set_cons_succ])))
    refine wpText_nil ?_
    go_wp2_with fail
    refine k2.out.mono ?_
    rintro e w2 ⟨rfl, h2, ho2⟩
    have HF := hide (HA.out.mk2 HM1.out HO1.out h2 ho2 i1.out)
    clear h2 ho2
    go_wp2
    refine NoX.normal ?_
    go_wp2
    go_ret
    exact ⟨rfl, ⟨_, HF.out.1, charge_len _ _ _ _⟩, FIN.out _ HF.out.2⟩

end Go.Proofs.Ytpeaojkbfllakaa
