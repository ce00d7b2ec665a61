/- The queue: next. -/
import Derived.Test.YtabdahojgmbgdaaQueF
namespace Go.Proofs.Ytabdahojgmbgdaa
open Go.RowKit

theorem leastK_none {p : Rq → Bool} {c : Rq → Rq → Int} {l : List Rq} (k : Nat) (h : leastK p c l k = none) : ∀ j r, j < k → l[j]? = some r → p r = false := by
  induction k with
  | zero => intro j r hj; omega
  | succ k ih =>
    intro j r hj hr
    unfold leastK at h
    cases hl : l[k]? with
    | none =>
      rw [hl] at h
      have : j ≠ k := by rintro rfl; rw [hl] at hr; cases hr
      exact ih h j r (by omega) hr
    | some x =>
      rw [hl] at h
      simp only at h
      by_cases hp : p x = true
      · rw [if_pos hp] at h
        cases hm : leastK p c l k with
        | none => rw [hm] at h; simp at h
        | some b =>
          rw [hm] at h
          simp only at h
          cases hx : l[b]? with
          | none => rw [hx] at h; simp at h
          | some y => rw [hx] at h; simp only at h; split at h <;> cases h
      · rw [if_neg hp] at h
        by_cases hjk : j = k
        · subst hjk
          rw [hl] at hr
          injection hr with hr
          subst hr
          simpa using hp
        · exact ih h j r (by omega) hr
theorem leastK_some {p : Rq → Bool} {c : Rq → Rq → Int} {l : List Rq} (k : Nat) : ∀ a, leastK p c l k = some a → ∃ r, l[a]? = some r ∧ p r = true := by
  induction k with
  | zero => intro a h; simp [leastK] at h
  | succ k ih =>
    intro a h
    unfold leastK at h
    cases hl : l[k]? with
    | none => rw [hl] at h; exact ih a h
    | some x =>
      rw [hl] at h
      simp only at h
      by_cases hp : p x = true
      · rw [if_pos hp] at h
        cases hm : leastK p c l k with
        | none => rw [hm] at h; simp at h; subst h; exact ⟨x, hl, hp⟩
        | some b =>
          rw [hm] at h
          simp only at h
          cases hx : l[b]? with
          | none => rw [hx] at h; simp at h; subst h; exact ⟨x, hl, hp⟩
          | some y =>
            rw [hx] at h
            simp only at h
            split at h <;> simp at h <;> subst h
            · exact ⟨x, hl, hp⟩
            · exact ih _ hm
      · rw [if_neg hp] at h
        exact ih a h

def Qu.due (Q : Qu) (now : Int) : Option Nat := leastK (fun r => decide (r.dl ≤ now)) cmpDue Q.l Q.l.length
def Qu.near (Q : Qu) (down : Bool) : Option Nat := leastK (fun r => decide (0 ≤ dist Q.head down r)) (cmpNear Q.head down) Q.l Q.l.length
/-- Which request is next, and the direction behind it. -/
def Qu.pick (Q : Qu) (now : Int) : Option Nat × Bool := match Q.due now with
  | some i => (some i, Q.down)
  | none => match Q.near Q.down with
    | some i => (some i, Q.down)
    | none => (Q.near (!Q.down), !Q.down)
theorem near_other {Q : Qu} (hne : Q.l ≠ []) (d : Bool) (h : Q.near d = none) : ∃ i, Q.near (!d) = some i := by
  cases h2 : Q.near (!d) with
  | some i => exact ⟨i, rfl⟩
  | none =>
    exfalso
    have h0 : 0 < Q.l.length := List.length_pos_iff.2 hne
    have a := leastK_none _ h 0 _ h0 (List.getElem?_eq_getElem h0)
    have b := leastK_none _ h2 0 _ h0 (List.getElem?_eq_getElem h0)
    simp only [decide_eq_false_iff_not] at a b
    cases d <;> simp only [dist, Bool.not_true, Bool.not_false] at a b <;> simp at a b <;> omega
theorem pick_lt {Q : Qu} {now : Int} {i : Nat} (h : (Q.pick now).1 = some i) : i < Q.l.length := by
  unfold Qu.pick at h
  split at h
  · rename_i j hj
    injection h with h; subst h
    exact leastK_lt _ _ (Nat.le_refl _) hj
  · split at h
    · rename_i j hj
      injection h with h; subst h
      exact leastK_lt _ _ (Nat.le_refl _) hj
    · exact leastK_lt _ _ (Nat.le_refl _) h

/-- What next answers. -/
def NextI (base q : Nat) (v : Value) (Q : Qu) (now : Int) (w : World) (e : Ending) (w' : World) : Prop :=
  ∃ i : Nat, (Q.pick now).1 = some i ∧ e = .returned (I64 i) ∧ QuAt base w' q v { Q with down := (Q.pick now).2 } ∧ Only [q] w w'

theorem due_least (base q : Nat) (v : Value) (Q : Qu) (w : World) (h : QuAt base w q v Q) (now : Int) (bn : Nat) (hn : w.cell? ⟨bn, 0, none⟩ = some (I64 now)) :
    Calls Try.prog 81 #[.pointer (some ⟨q, 0, none⟩), .func (.func 82) #[] #[.pointer (some ⟨bn, 0, none⟩)], .func (.func 83) #[] #[]] w fun e w' => e = .returned (I64 (ixI (Q.due now))) ∧ Only [] w w' :=
  least_ok base q v Q w h _ _ _ _ (fun r => decide (r.dl ≤ now)) cmpDue (fun args w => by kernel_rfl) (fun args w => by kernel_rfl)
    (fun r W _ hW => by simpa using due_ok r now bn W (cell_only hn hW)) (fun a b W _ _ _ => by simpa using cmpDue_ok a b W)
theorem near_least (base q : Nat) (v : Value) (Q : Qu) (w : World) (h : QuAt base w q v Q) (bq : Nat) (hb : w.cell? ⟨bq, 0, none⟩ = some (.pointer (some ⟨q, 0, none⟩))) :
    Calls Try.prog 81 #[.pointer (some ⟨q, 0, none⟩), .func (.func 87) #[] #[.pointer (some ⟨bq, 0, none⟩)], .func (.func 89) #[] #[.pointer (some ⟨bq, 0, none⟩)]] w fun e w' => e = .returned (I64 (ixI (Q.near Q.down))) ∧ Only [] w w' :=
  least_ok base q v Q w h _ _ _ _ (fun r => decide (0 ≤ dist Q.head Q.down r)) (cmpNear Q.head Q.down) (fun args w => by kernel_rfl) (fun args w => by kernel_rfl)
    (fun r W hr hW => by simpa using ahead_ok q bq Q.head Q.down v r W (hW.blk h.me (by simp)) (cell_only hb hW) h.ok.h0 h.ok.h1 (h.ok.ok r hr))
    (fun a b W ha hb2 hW => by simpa using cmpNear_ok q bq Q.head Q.down v a b W (hW.blk h.me (by simp)) (cell_only hb hW) h.ok.h0 h.ok.h1 (h.ok.ok a ha) (h.ok.ok b hb2))

set_option maxRecDepth 20000 in
set_option maxHeartbeats 2000000 in
theorem next_ok (base q : Nat) (v : Value) (Q : Qu) (w : World) (now : Int) (h : QuAt base w q v Q) (hne : Q.l ≠ []) : Calls Try.prog 44 #[.pointer (some ⟨q, 0, none⟩), I64 now] w (NextI base q v Q now w) := by
  obtain ⟨W1, hW1⟩ : ∃ W1, W1 = (w.alloc (.cells #[.pointer (some ⟨q, 0, none⟩)] 25)).alloc (.cells #[I64 now] 2) := ⟨_, rfl⟩
  have ho : Only [] w W1 := by rw [hW1]; exact ((Only.refl _ _).alloc _).alloc _
  have hbq : Blk W1 w.heap.size 25 [.pointer (some ⟨q, 0, none⟩)] := by rw [hW1]; exact (Blk.newA (c := #[.pointer (some ⟨q, 0, none⟩)]) rfl).alloc _
  have hbn : Blk W1 (w.heap.size + 1) 2 [I64 now] := by rw [hW1]; exact Blk.newA (c := #[I64 now]) (by simp)
  have hq := h.keep ho
  have hdl := hide (due_least base q v Q W1 hq now (w.heap.size + 1) (hbn.cell (i := 0) rfl))
  obtain ⟨du, hdu⟩ : ∃ du, du = Q.due now := ⟨_, rfl⟩
  rw [← hdu] at hdl
  have HS : Hid (∀ W, Only [] W1 W → QuAt base W q v Q ∧ Blk W w.heap.size 25 [.pointer (some ⟨q, 0, none⟩)] ∧ Only [] w W) := hide (fun W hW => ⟨hq.keep hW, hW.blk hbq (by simp), ho.trans hW⟩)
  have HDU := hide hdu
  have HW1 := hide hW1
  have HNE := hide hne
  clear h ho hbq hbn hq hdu hW1 hne
  cases du with
  | some i =>
    have hP : Hid (Q.pick now = (some i, Q.down)) := hide (by unfold Qu.pick; rw [← HDU.out])
    go_enter Try.func44, Try.ntmps44
    go_wp2_with (go_at_call 81; rw [show (w.alloc (.cells #[.pointer (some ⟨q, 0, none⟩)] 25)).alloc (.cells #[I64 now] 2) = W1 from HW1.out.symm]; refine hdl.out.mono ?_; rw [show ixI (some i) = (i : Int) from rfl]; rintro e w1 ⟨rfl, ho1⟩; have HO := hide (HS.out _ ho1); clear ho1)
    go_ret
    exact ⟨i, by rw [hP.out], rfl, by rw [hP.out]; exact HO.out.1, HO.out.2.2.mono (by simp)⟩
  | none =>
    obtain ⟨nr, hnr⟩ : ∃ nr, nr = Q.near Q.down := ⟨_, rfl⟩
    have HNR := hide hnr
    clear hnr
    cases nr with
    | some i =>
      have hP : Hid (Q.pick now = (some i, Q.down)) := hide (by unfold Qu.pick; rw [← HDU.out]; simp only; rw [← HNR.out])
      go_enter Try.func44, Try.ntmps44
      go_wp2_with (go_at_call 81; rw [show (w.alloc (.cells #[.pointer (some ⟨q, 0, none⟩)] 25)).alloc (.cells #[I64 now] 2) = W1 from HW1.out.symm]; refine hdl.out.mono ?_; clear hdl; rw [show ixI none = -1 from rfl]; rintro e w1 ⟨rfl, ho1⟩; have HO := hide (HS.out _ ho1); have HO1 := hide ho1; clear ho1; have b1 := HO.out.2.1.cell (i := 0) rfl; have lb1 := HO.out.2.1.lt; have hnl := hide (near_least base q v Q w1 HO.out.1 w.heap.size b1); rw [← HNR.out] at hnl)
      refine wp_loop_rounds 2 ?_
      rw [rounds_succ]
      go_wp2_with (go_at_call 81; refine hnl.out.mono ?_; clear hnl; rw [show ixI (some i) = (i : Int) from rfl]; rintro e w2 ⟨rfl, ho2⟩; have HO2 := hide ho2; clear ho2)
      go_ret
      exact ⟨i, by rw [hP.out], rfl, by rw [hP.out]; exact HO.out.1.keep HO2.out, (HO.out.2.2.trans HO2.out).mono (by simp)⟩
    | none =>
      obtain ⟨i, hi⟩ := near_other HNE.out Q.down HNR.out.symm
      have hP : Hid (Q.pick now = (some i, !Q.down)) := hide (by unfold Qu.pick; rw [← HDU.out]; simp only; rw [← HNR.out]; simp only; rw [hi])
      have HI := hide hi
      clear hi
      go_enter Try.func44, Try.ntmps44
      go_wp2_with (go_at_call 81; rw [show (w.alloc (.cells #[.pointer (some ⟨q, 0, none⟩)] 25)).alloc (.cells #[I64 now] 2) = W1 from HW1.out.symm]; refine hdl.out.mono ?_; clear hdl; rw [show ixI none = -1 from rfl]; rintro e w1 ⟨rfl, ho1⟩; have HO := hide (HS.out _ ho1); have HO1 := hide ho1; clear ho1; have b1 := HO.out.2.1.cell (i := 0) rfl; have lb1 := HO.out.2.1.lt; have hnl := hide (near_least base q v Q w1 HO.out.1 w.heap.size b1); rw [← HNR.out] at hnl)
      refine wp_loop_rounds 3 ?_
      rw [rounds_succ]
      go_wp2_with (go_at_call 81; refine hnl.out.mono ?_; clear hnl; rw [show ixI none = -1 from rfl]; rintro e w2 ⟨rfl, ho2⟩; have HO2 := hide (HO1.out.trans ho2); clear ho2; have H2 := hide (HS.out _ HO2.out); have c1 := H2.out.1.me.cell (i := 1) rfl; have f1 := H2.out.1.me.frozen 1; have lq2 := H2.out.1.me.lt; have b2 := H2.out.2.1.cell (i := 0) rfl)
      refine wp_region_text 8 [] [] [] (fun _ => True) (by kernel_rfl) (by kernel_rfl) trivial ?_
      simp only [List.take_succ_cons, List.take_zero, List.drop_succ_cons, List.drop_zero]
      repeat (first | ((refine wpText_h rfl rfl ?_; apply Exists.intro; refine ⟨?_, ?_⟩; next => (go_simp; (try (go_bits; go_simp)); (first | done | with_reducible rfl | (rw [if_neg (by omega)]; (try (go_bits; go_simp)); (first | done | with_reducible rfl)) | (rw [if_pos (by omega)]; (try (go_bits; go_simp)); (first | done | with_reducible rfl))))); (try simp only [Act.put, List.setIfInBounds_toArray, List.set_cons_zero, List.set_cons_succ])) | ((refine wpText_p rfl rfl ?_; apply Exists.intro; refine ⟨?_, ?_⟩; next => (intro w'; go_simp; (try (go_bits; go_simp)); (first | done | with_reducible rfl | (rw [if_neg (by omega)]; (try (go_bits; go_simp)); (first | done | with_reducible rfl)) | (rw [if_pos (by omega)]; (try (go_bits; go_simp)); (first | done | with_reducible rfl))))); (try simp only [Act.put, List.setIfInBounds_toArray, List.set_cons_zero, List.set_cons_succ])) | ((refine wpText_y rfl rfl ?_; apply Exists.intro; refine ⟨?_, ?_⟩; next => (intro w' hS; (first | obtain ⟨_, rfl⟩ := hS | skip); go_simp; (try (go_bits; go_simp)); (first | done | with_reducible rfl | (rw [if_neg (by omega)]; (try (go_bits; go_simp)); (first | done | with_reducible rfl)) | (rw [if_pos (by omega)]; (try (go_bits; go_simp)); (first | done | with_reducible rfl))))); (try simp only [Act.put, List.setIfInBounds_toArray, List.set_cons_zero, List.set_cons_succ])) | (refine wpText_skip (by first | exact .inl rfl | exact .inr (.inl rfl) | exact .inr (.inr rfl)) rfl ?_; (try simp only [Act.put, List.setIfInBounds_toArray, List.set_cons_zero, List.set_cons_succ])))
      refine wpText_nil ?_
      go_wp2
      refine NoX.normal ?_
      obtain ⟨W3, hW3⟩ : ∃ W3, W3 = w2.drew.setCell ⟨q, 1, none⟩ (.bool (!Q.down)) := ⟨_, rfl⟩
      have hQ3 : QuAt base W3 q v { Q with down := !Q.down } := by
        rw [hW3]
        have h := H2.out.1
        exact ⟨h.me.drew.set 1 _, own_setCell (own_nil h.row (Only.refl [] w2).drew) (own_ne_blk (own_nil h.row (Only.refl [] w2).drew) h.me.drew (by decide)) _, ⟨h.ok.h0, h.ok.h1, h.ok.ok, h.ok.nd, h.ok.len⟩⟩
      have hb3 : Blk W3 w.heap.size 25 [.pointer (some ⟨q, 0, none⟩)] := by
        rw [hW3]
        exact H2.out.2.1.drew.far (H2.out.2.1.ne H2.out.1.me (by decide)) _
      have ho3 : Only [q] w W3 := by
        rw [hW3]
        exact (H2.out.2.2.drew.mono (by simp)).set (.inl (by simp)) _
      have b3 := hb3.cell (i := 0) rfl
      have lb3 := hb3.lt
      have hnl := hide (near_least base q v _ W3 hQ3 w.heap.size b3)
      rw [show Qu.near { Q with down := !Q.down } (Qu.down { Q with down := !Q.down }) = Q.near (!Q.down) from rfl, HI.out] at hnl
      have HQ3 := hide hQ3
      have HO3 := hide ho3
      rw [show (w2.setCell ⟨q, 1, none⟩ (.bool (!Q.down))).drew = W3 from hW3.symm ▸ rfl]
      clear hW3 hQ3 ho3 hb3 c1 f1 lq2 b2 lb1 b1
      go_wp2
      rw [rounds_succ]
      go_wp2_with (go_at_call 81; refine hnl.out.mono ?_; clear hnl; rw [show ixI (some i) = (i : Int) from rfl]; rintro e w4 ⟨rfl, ho4⟩; have HO4 := hide ho4; clear ho4)
      go_ret
      exact ⟨i, by rw [hP.out], rfl, by rw [hP.out]; exact HQ3.out.keep HO4.out, HO3.out.trans (HO4.out.mono (by simp))⟩

end Go.Proofs.Ytabdahojgmbgdaa
