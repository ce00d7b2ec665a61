/- Which entry is dropped: the least; age, the comparison, MinFunc. -/
import Derived.Test.YtlnejlhdkmneeaaResB
import Derived.Test.YtlnejlhdkmneeaaRouA
namespace Go.Proofs.Ytlnejlhdkmneeaa
open Go.RowKit

theorem ltE_false {x y : Ent} : ltE x y = false ↔ age y < age x ∨ (age x = age y ∧ y.a ≤ x.a) := by
  unfold ltE
  rw [Bool.or_eq_false_iff, Bool.and_eq_false_iff]
  simp only [decide_eq_false_iff_not]
  omega
theorem ltE_true {x y : Ent} : ltE x y = true ↔ age x < age y ∨ (age x = age y ∧ x.a < y.a) := by
  unfold ltE
  simp
theorem oldTo_spec (l : List Ent) (hl : l ≠ []) : ∀ k, k < l.length → ∃ y, oldTo l k ≤ k ∧ l[oldTo l k]? = some y ∧ ∀ j x, j ≤ k → l[j]? = some x → ltE x y = false
  | 0, h => ⟨l[0], Nat.le_refl _, List.getElem?_eq_getElem h, fun j x hj hx => by
      obtain rfl : j = 0 := by omega
      rw [List.getElem?_eq_getElem h] at hx; injection hx with hx; subst hx
      rw [ltE_false]; omega⟩
  | k + 1, h => by
    obtain ⟨y, h1, h2, h3⟩ := oldTo_spec l hl k (by omega)
    obtain ⟨x, hx⟩ : ∃ x, l[k + 1]? = some x := ⟨_, List.getElem?_eq_getElem h⟩
    unfold oldTo
    rw [hx, h2]
    simp only
    by_cases hlt : ltE x y = true
    · rw [if_pos hlt]
      refine ⟨x, Nat.le_refl _, hx, fun j z hj hz => ?_⟩
      rcases Nat.lt_or_ge j (k + 1) with hj' | hj'
      · have := h3 j z (by omega) hz
        rw [ltE_false] at this ⊢
        rw [ltE_true] at hlt
        omega
      · obtain rfl : j = k + 1 := by omega
        rw [hx] at hz; injection hz with hz; subst hz
        rw [ltE_false]; omega
    · rw [if_neg hlt]
      refine ⟨y, by omega, h2, fun j z hj hz => ?_⟩
      rcases Nat.lt_or_ge j (k + 1) with hj' | hj'
      · exact h3 j z (by omega) hz
      · obtain rfl : j = k + 1 := by omega
        rw [hx] at hz; injection hz with hz; subst hz
        simpa using hlt
theorem oldI_spec {l : List Ent} (hl : l ≠ []) : ∃ y, l[oldI l]? = some y ∧ ∀ x ∈ l, ltE x y = false := by
  have h0 := List.length_pos_iff.2 hl
  obtain ⟨y, h1, h2, h3⟩ := oldTo_spec l hl (l.length - 1) (by omega)
  refine ⟨y, h2, fun x hx => ?_⟩
  obtain ⟨j, hj⟩ := List.getElem?_of_mem hx
  have := (List.getElem?_eq_some_iff.1 hj).1
  exact h3 j x (by omega) hj
/-- The least is one. -/
theorem least_one {l : List Ent} (hn : (addrs l).Nodup) {x y : Ent} (hx : x ∈ l) (hy : y ∈ l) (h1 : ltE x y = false) (h2 : ltE y x = false) : x = y := by
  rw [ltE_false] at h1 h2
  have ha : x.a = y.a := by omega
  have e1 := getE_of_mem hn hx
  have e2 := getE_of_mem hn hy
  rw [ha, e2] at e1
  injection e1 with e1
  exact e1.symm

theorem getE_erase {l : List Ent} (hn : (addrs l).Nodup) {i : Nat} {x : Ent} (hi : l[i]? = some x) (c : Int) : getE (l.eraseIdx i) c = if c = x.a then none else getE l c := by
  induction l generalizing i with
  | nil => simp at hi
  | cons y r ih =>
    have hn' : y.a ∉ addrs r ∧ (addrs r).Nodup := by simpa [addrs] using hn
    cases i with
    | zero =>
      obtain rfl : y = x := by simpa using hi
      rw [List.eraseIdx_cons_zero]
      split
      · rename_i h; subst h
        cases hg : getE r y.a with
        | none => rfl
        | some z => exact absurd (getE_isSome.1 (by rw [hg]; rfl)) hn'.1
      · rename_i h
        unfold getE
        rw [List.find?_cons]
        simp [Ne.symm h]
    | succ i =>
      have hi' : r[i]? = some x := by simpa using hi
      rw [List.eraseIdx_cons_succ]
      have hne : y.a ≠ x.a := fun e => hn'.1 (e ▸ List.mem_map_of_mem (List.mem_of_getElem? hi'))
      have := ih hn'.2 hi'
      unfold getE at this ⊢
      rw [List.find?_cons, List.find?_cons, this]
      by_cases hc : y.a = c
      · subst hc; simp [hne]
      · simp [hc]
theorem ResAt.drop {base q b m m' s' : Nat} {life clock : Int} {l : List Ent} {eb : Int → Nat} {vb : Int → Value} {w w' : World} (h : ResAt base q b m life clock l eb vb w) {i : Nat} {x : Ent} (hi : l[i]? = some x) (ho : Only [b] w w') {f' : Lit → Option Nat}
    (hM : PtrMap w' u32T b m' s' f') (hf : f' = updF (lookF l eb) (.int .u32 x.a) none) (hs : s' + 1 = l.length) : ResAt base q b m' life clock (l.eraseIdx i) eb vb w' := by
  subst hf
  have hsub : ∀ z ∈ l.eraseIdx i, z ∈ l := fun z hz => (List.eraseIdx_sublist l i).subset hz
  have hlen : (l.eraseIdx i).length = s' := by
    rw [List.length_eraseIdx, if_pos (List.getElem?_eq_some_iff.1 hi).1]; omega
  refine ⟨ho.blk h.me (by simpa using Ne.symm (h.map.ne h.me)), ?_, fun z hz => ?_, fun z hz y hy => h.inj z (hsub z hz) y (hsub y hy), ((List.eraseIdx_sublist l i).map Ent.a).nodup h.nodup, h.bq, h.bb, fun z hz => h.be z (hsub z hz)⟩
  · rw [hlen]
    refine hM.ext fun kl hkl => ?_
    clear hkl
    by_cases hk : kl = .int .u32 x.a
    · subst hk
      rw [updF_same]
      simp [lookF, getE_erase h.nodup hi]
    · rw [updF_other _ _ hk]
      unfold lookF
      split
      · rename_i c
        have hc : c ≠ x.a := fun e => hk (by rw [e])
        rw [getE_erase h.nodup hi, if_neg hc]
      · rfl
  · have hz' := hsub z hz
    refine (h.ents z hz').sameOn (ho.block _ (h.ents z hz').me.lt (by simpa using Ne.symm (h.map.ne (h.ents z hz').me))) (fun k hk => ?_) (fun k cs hk => ho.block k hk.lt (by simpa using Ne.symm (h.map.ne hk)))
    obtain ⟨qs, h3, -⟩ := (h.ents z hz').row
    exact ho.block k (off_ge h3 k hk).2 (by simp; rintro rfl; exact (h.ne_q hz').2.2.2.2 hk)

/-! The comparison. -/
set_option maxHeartbeats 1000000 in
theorem cmp64_ok (x y : Int) (w : World) : Calls Try.prog 103 #[I64 x, I64 y] w fun e w' => e = .returned (I64 (cmpI x y)) ∧ w' = w := by
  by_cases h1 : x < y
  · have hR : Hid (cmpI x y = -1) := hide (by unfold cmpI; rw [if_pos h1])
    go_enter Try.func103, Try.ntmps103
    go_wp2
    go_ret
    rw [hR.out]; exact ⟨rfl, rfl⟩
  · by_cases h2 : y < x
    · have hR : Hid (cmpI x y = 1) := hide (by unfold cmpI; rw [if_neg h1, if_pos h2])
      go_enter Try.func103, Try.ntmps103
      go_wp2
      go_ret
      rw [hR.out]; exact ⟨rfl, rfl⟩
    · have hR : Hid (cmpI x y = 0) := hide (by unfold cmpI; rw [if_neg h1, if_neg h2])
      go_enter Try.func103, Try.ntmps103
      go_wp2
      go_ret
      rw [hR.out]; exact ⟨rfl, rfl⟩
set_option maxHeartbeats 1000000 in
theorem cmp32_ok (x y : Int) (w : World) : Calls Try.prog 105 #[.int .u32 x, .int .u32 y] w fun e w' => e = .returned (I64 (cmpI x y)) ∧ w' = w := by
  by_cases h1 : x < y
  · have hR : Hid (cmpI x y = -1) := hide (by unfold cmpI; rw [if_pos h1])
    go_enter Try.func105, Try.ntmps105
    go_wp2
    go_ret
    rw [hR.out]; exact ⟨rfl, rfl⟩
  · by_cases h2 : y < x
    · have hR : Hid (cmpI x y = 1) := hide (by unfold cmpI; rw [if_neg h1, if_pos h2])
      go_enter Try.func105, Try.ntmps105
      go_wp2
      go_ret
      rw [hR.out]; exact ⟨rfl, rfl⟩
    · have hR : Hid (cmpI x y = 0) := hide (by unfold cmpI; rw [if_neg h1, if_neg h2])
      go_enter Try.func105, Try.ntmps105
      go_wp2
      go_ret
      rw [hR.out]; exact ⟨rfl, rfl⟩
set_option maxHeartbeats 1000000 in
theorem age_ok (base e : Nat) (v : Value) (x : Ent) (w : World) (h : EntAt base w e v x) : Calls Try.prog 104 #[.pointer (some ⟨e, 0, none⟩)] w fun e w' => e = .returned (I64 (age x)) ∧ w' = w := by
  obtain ⟨qs, hr, -⟩ := h.row
  obtain ⟨n, hn⟩ : ∃ n, n = x.wt.length := ⟨_, rfl⟩
  rw [← hn] at hr
  obtain ⟨A, c, rfl⟩ := off_shape hr
  have c1 := h.me.cell (i := 1) rfl
  have c2 := h.me.cell (i := 2) rfl
  have c3 := h.me.cell (i := 3) rfl
  have lt := h.me.lt
  by_cases h0 : 0 < n
  · have hR : Hid (age x = x.si) := hide (by unfold age; rw [if_neg]; rw [List.isEmpty_iff]; rintro h1; rw [h1] at hn; simp at hn; omega)
    clear hr h hn
    go_enter Try.func104, Try.ntmps104
    go_wp2
    go_ret
    rw [hR.out]; exact ⟨rfl, rfl⟩
  · have hR : Hid (age x = x.ex) := hide (by unfold age; rw [if_pos]; rw [List.isEmpty_iff]; exact List.eq_nil_of_length_eq_zero (by omega))
    clear hr h hn
    go_enter Try.func104, Try.ntmps104
    go_wp2
    go_ret
    rw [hR.out]; exact ⟨rfl, rfl⟩

def cmpE (x y : Ent) : Int := orI (cmpI (age x) (age y)) (cmpI x.a y.a)
theorem cmpE_lt {x y : Ent} : cmpE x y < 0 ↔ ltE x y = true := by
  rw [ltE_true]
  unfold cmpE orI cmpI
  repeat' split
  all_goals omega

/-- The map of the resolver and its box, as the closure finds them. -/
structure ResBox (base q b m R : Nat) (life clock : Int) (l : List Ent) (eb : Int → Nat) (vb : Int → Value) (w : World) : Prop where
  res : ResAt base q b m life clock l eb vb w
  box : Blk w R 84 [.pointer (some ⟨q, 0, none⟩)]
theorem EntAt.only {base e : Nat} {v : Value} {x : Ent} {w w' : World} (h : EntAt base w e v x) (ho : Only [] w w') : EntAt base w' e v x :=
  h.sameOn (ho.block _ h.me.lt (by simp)) (fun k hk => by obtain ⟨qs, h1, -⟩ := h.row; exact ho.block k (off_ge h1 k hk).2 (by simp)) fun k cs hk => ho.block k hk.lt (by simp)
theorem ResBox.only {base q b m R : Nat} {life clock : Int} {l : List Ent} {eb : Int → Nat} {vb : Int → Value} {w w' : World} (h : ResBox base q b m R life clock l eb vb w) (ho : Only [] w w') : ResBox base q b m R life clock l eb vb w' :=
  ⟨h.res.only ho, ho.blk h.box (by simp)⟩

set_option maxRecDepth 100000 in
set_option maxHeartbeats 4000000 in
theorem less_ok (base q b m R : Nat) (life clock : Int) (l : List Ent) (eb : Int → Nat) (vb : Int → Value) (w : World) (h : ResBox base q b m R life clock l eb vb w) (x y : Ent) (hx : x ∈ l) (hy : y ∈ l) (hxa : 0 ≤ x.a ∧ x.a < 4294967296) (hya : 0 ≤ y.a ∧ y.a < 4294967296) :
    Calls Try.prog 102 #[.int .u32 x.a, .int .u32 y.a, .pointer (some ⟨R, 0, none⟩)] w fun e w' => e = .returned (I64 (cmpE x y)) ∧ Only [] w w' := by
  have H := hide h
  have hkx := hide (key32 hxa)
  have hky := hide (key32 hya)
  have HX := hide (h.res.ents x hx)
  have HY := hide (h.res.ents y hy)
  have hLx := hide (lookF_some (eb := eb) (getE_of_mem h.res.nodup hx))
  have hLy := hide (lookF_some (eb := eb) (getE_of_mem h.res.nodup hy))
  have lk : Hid (∀ w', Only [] w w' → w'.cell? ⟨R, 0, none⟩ = some (.pointer (some ⟨q, 0, none⟩)) ∧ w'.cell? ⟨q, 2, none⟩ = some (.map (some b)) ∧
      (Instr.lookup mapT (.map (some b)) (.int .u32 x.a) false).run Try.prog w' = .ok (.pointer (some ⟨eb x.a, 0, none⟩)) w' ∧
      (Instr.lookup mapT (.map (some b)) (.int .u32 y.a) false).run Try.prog w' = .ok (.pointer (some ⟨eb y.a, 0, none⟩)) w') := hide fun w' ho => by
    have h1 := H.out.only ho
    refine ⟨h1.box.cell (i := 0) rfl, h1.res.me.cell (i := 2) rfl, ?_, ?_⟩
    · have := h1.res.map.look k32 Try.underlying162 (t := 162) (zpent _) hkx.out
      rw [hLx.out] at this; exact this
    · have := h1.res.map.look k32 Try.underlying162 (t := 162) (zpent _) hky.out
      rw [hLy.out] at this; exact this
  have ltq := h.res.me.lt
  have ltr := h.box.lt
  have b1 := h.box.cell (i := 0) rfl
  have b2 := h.res.me.cell (i := 2) rfl
  have b3 := (lk.out _ (Only.refl [] w).drew).2.2.1
  have b4 := (lk.out _ (Only.refl [] w).drew).2.2.2
  clear h hx hy
  go_enter Try.func102, Try.ntmps102
  go_wp2
  refine wp_region_text 17 [6, 13, 14] [8, 9, 11, 15, 16] [7, 10, 12] (fun w' => w'.cell? ⟨R, 0, none⟩ = some (.pointer (some ⟨q, 0, none⟩)) ∧ w'.cell? ⟨q, 2, none⟩ = some (.map (some b)) ∧ (Instr.lookup mapT (.map (some b)) (.int .u32 x.a) false).run Try.prog w' = .ok (.pointer (some ⟨eb x.a, 0, none⟩)) w' ∧ (Instr.lookup mapT (.map (some b)) (.int .u32 y.a) false).run Try.prog w' = .ok (.pointer (some ⟨eb y.a, 0, none⟩)) w') (by kernel_rfl) (by kernel_rfl) (lk.out _ (Only.refl [] w).drew) ?_
  simp only [List.take_succ_cons, List.take_zero, List.drop_succ_cons, List.drop_zero]
  repeat (first | ((refine wpText_h rfl rfl ?_; apply Exists.intro; refine ⟨?_, ?_⟩; next => (go_simp; (try (go_bits; go_simp)); (first | done | with_reducible rfl | (rw [if_neg (by omega)]; (try (go_bits; go_simp)); (first | done | with_reducible rfl)) | (rw [if_pos (by omega)]; (try (go_bits; go_simp)); (first | done | with_reducible rfl))))); (try simp only [Act.put, List.setIfInBounds_toArray, List.set_cons_zero, List.set_cons_succ])) | ((refine wpText_p rfl rfl ?_; apply Exists.intro; refine ⟨?_, ?_⟩; next => (intro w'; go_simp; (try (go_bits; go_simp)); (first | done | with_reducible rfl | (rw [if_neg (by omega)]; (try (go_bits; go_simp)); (first | done | with_reducible rfl)) | (rw [if_pos (by omega)]; (try (go_bits; go_simp)); (first | done | with_reducible rfl))))); (try simp only [Act.put, List.setIfInBounds_toArray, List.set_cons_zero, List.set_cons_succ])) | ((refine wpText_y rfl rfl ?_; apply Exists.intro; refine ⟨?_, ?_⟩; next => (intro w' hS; (first | obtain ⟨_, rfl⟩ := hS | skip); go_simp; (try (go_bits; go_simp)); (first | done | with_reducible rfl | (rw [if_neg (by omega)]; (try (go_bits; go_simp)); (first | done | with_reducible rfl)) | (rw [if_pos (by omega)]; (try (go_bits; go_simp)); (first | done | with_reducible rfl))))); (try simp only [Act.put, List.setIfInBounds_toArray, List.set_cons_zero, List.set_cons_succ])) | (refine wpText_skip (by first | exact .inl rfl | exact .inr (.inl rfl) | exact .inr (.inr rfl)) rfl ?_; (try simp only [Act.put, List.setIfInBounds_toArray, List.set_cons_zero, List.set_cons_succ])))
  refine wpText_e rfl rfl (fun K hK => ?_)
  go_wp2_with fail
  refine (age_ok base (eb x.a) (vb x.a) x _ (HX.out.only (Only.refl [] w).drew)).mono ?_
  rintro e w1 ⟨rfl, rfl⟩
  refine hK _ _ (lk.out _ (Only.refl [] w).drew) ?_
  clear hK K
  repeat (first | ((refine wpText_h rfl rfl ?_; apply Exists.intro; refine ⟨?_, ?_⟩; next => (go_simp; (try (go_bits; go_simp)); (first | done | with_reducible rfl | (rw [if_neg (by omega)]; (try (go_bits; go_simp)); (first | done | with_reducible rfl)) | (rw [if_pos (by omega)]; (try (go_bits; go_simp)); (first | done | with_reducible rfl))))); (try simp only [Act.put, List.setIfInBounds_toArray, List.set_cons_zero, List.set_cons_succ])) | ((refine wpText_p rfl rfl ?_; apply Exists.intro; refine ⟨?_, ?_⟩; next => (intro w'; go_simp; (try (go_bits; go_simp)); (first | done | with_reducible rfl | (rw [if_neg (by omega)]; (try (go_bits; go_simp)); (first | done | with_reducible rfl)) | (rw [if_pos (by omega)]; (try (go_bits; go_simp)); (first | done | with_reducible rfl))))); (try simp only [Act.put, List.setIfInBounds_toArray, List.set_cons_zero, List.set_cons_succ])) | ((refine wpText_y rfl rfl ?_; apply Exists.intro; refine ⟨?_, ?_⟩; next => (intro w' hS; (first | obtain ⟨_, rfl⟩ := hS | skip); go_simp; (try (go_bits; go_simp)); (first | done | with_reducible rfl | (rw [if_neg (by omega)]; (try (go_bits; go_simp)); (first | done | with_reducible rfl)) | (rw [if_pos (by omega)]; (try (go_bits; go_simp)); (first | done | with_reducible rfl))))); (try simp only [Act.put, List.setIfInBounds_toArray, List.set_cons_zero, List.set_cons_succ])) | (refine wpText_skip (by first | exact .inl rfl | exact .inr (.inl rfl) | exact .inr (.inr rfl)) rfl ?_; (try simp only [Act.put, List.setIfInBounds_toArray, List.set_cons_zero, List.set_cons_succ])))
  refine wpText_e rfl rfl (fun K hK => ?_)
  go_wp2_with fail
  refine (age_ok base (eb y.a) (vb y.a) y _ (HY.out.only (Only.refl [] w).drew)).mono ?_
  rintro e w1 ⟨rfl, rfl⟩
  refine hK _ _ (lk.out _ (Only.refl [] w).drew) ?_
  clear hK K
  repeat (first | ((refine wpText_h rfl rfl ?_; apply Exists.intro; refine ⟨?_, ?_⟩; next => (go_simp; (try (go_bits; go_simp)); (first | done | with_reducible rfl | (rw [if_neg (by omega)]; (try (go_bits; go_simp)); (first | done | with_reducible rfl)) | (rw [if_pos (by omega)]; (try (go_bits; go_simp)); (first | done | with_reducible rfl))))); (try simp only [Act.put, List.setIfInBounds_toArray, List.set_cons_zero, List.set_cons_succ])) | ((refine wpText_p rfl rfl ?_; apply Exists.intro; refine ⟨?_, ?_⟩; next => (intro w'; go_simp; (try (go_bits; go_simp)); (first | done | with_reducible rfl | (rw [if_neg (by omega)]; (try (go_bits; go_simp)); (first | done | with_reducible rfl)) | (rw [if_pos (by omega)]; (try (go_bits; go_simp)); (first | done | with_reducible rfl))))); (try simp only [Act.put, List.setIfInBounds_toArray, List.set_cons_zero, List.set_cons_succ])) | ((refine wpText_y rfl rfl ?_; apply Exists.intro; refine ⟨?_, ?_⟩; next => (intro w' hS; (first | obtain ⟨_, rfl⟩ := hS | skip); go_simp; (try (go_bits; go_simp)); (first | done | with_reducible rfl | (rw [if_neg (by omega)]; (try (go_bits; go_simp)); (first | done | with_reducible rfl)) | (rw [if_pos (by omega)]; (try (go_bits; go_simp)); (first | done | with_reducible rfl))))); (try simp only [Act.put, List.setIfInBounds_toArray, List.set_cons_zero, List.set_cons_succ])) | (refine wpText_skip (by first | exact .inl rfl | exact .inr (.inl rfl) | exact .inr (.inr rfl)) rfl ?_; (try simp only [Act.put, List.setIfInBounds_toArray, List.set_cons_zero, List.set_cons_succ])))
  refine wpText_e rfl rfl (fun K hK => ?_)
  go_wp2_with fail
  refine (cmp64_ok _ _ _).mono ?_
  rintro e w1 ⟨rfl, rfl⟩
  refine hK _ _ (lk.out _ (Only.refl [] w).drew) ?_
  clear hK K
  repeat (first | ((refine wpText_h rfl rfl ?_; apply Exists.intro; refine ⟨?_, ?_⟩; next => (go_simp; (try (go_bits; go_simp)); (first | done | with_reducible rfl | (rw [if_neg (by omega)]; (try (go_bits; go_simp)); (first | done | with_reducible rfl)) | (rw [if_pos (by omega)]; (try (go_bits; go_simp)); (first | done | with_reducible rfl))))); (try simp only [Act.put, List.setIfInBounds_toArray, List.set_cons_zero, List.set_cons_succ])) | ((refine wpText_p rfl rfl ?_; apply Exists.intro; refine ⟨?_, ?_⟩; next => (intro w'; go_simp; (try (go_bits; go_simp)); (first | done | with_reducible rfl | (rw [if_neg (by omega)]; (try (go_bits; go_simp)); (first | done | with_reducible rfl)) | (rw [if_pos (by omega)]; (try (go_bits; go_simp)); (first | done | with_reducible rfl))))); (try simp only [Act.put, List.setIfInBounds_toArray, List.set_cons_zero, List.set_cons_succ])) | ((refine wpText_y rfl rfl ?_; apply Exists.intro; refine ⟨?_, ?_⟩; next => (intro w' hS; (first | obtain ⟨_, rfl⟩ := hS | skip); go_simp; (try (go_bits; go_simp)); (first | done | with_reducible rfl | (rw [if_neg (by omega)]; (try (go_bits; go_simp)); (first | done | with_reducible rfl)) | (rw [if_pos (by omega)]; (try (go_bits; go_simp)); (first | done | with_reducible rfl))))); (try simp only [Act.put, List.setIfInBounds_toArray, List.set_cons_zero, List.set_cons_succ])) | (refine wpText_skip (by first | exact .inl rfl | exact .inr (.inl rfl) | exact .inr (.inr rfl)) rfl ?_; (try simp only [Act.put, List.setIfInBounds_toArray, List.set_cons_zero, List.set_cons_succ])))
  refine wpText_nil ?_
  go_wp2_with fail
  refine (cmp32_ok _ _ _).mono ?_
  rintro e w1 ⟨rfl, rfl⟩
  go_wp2_with fail
  have hn : Blk ((w.alloc (.cells #[I64 (cmpI (age x) (age y)), I64 (cmpI x.a y.a)] 3)).drew) w.heap.size 3 [I64 (cmpI (age x) (age y)), I64 (cmpI x.a y.a)] := (Blk.newA rfl).drew
  refine (or_ok w.heap.size 0 2 _ _ _ (hn.cell (i := 0) rfl) (hn.cell (i := 1) rfl)).mono ?_
  rintro e w1 ⟨rfl, rfl⟩
  clear hn
  go_wp2
  refine NoX.normal ?_
  go_wp2
  go_ret
  exact ⟨rfl, ((Only.refl [] w).alloc _).drew⟩

end Go.Proofs.Ytlnejlhdkmneeaa
