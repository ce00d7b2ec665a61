/- The queue: Add. -/
import Derived.Test.YtabdahojgmbgdaaQueD
namespace Go.Proofs.Ytabdahojgmbgdaa
open Go.RowKit

def Rq.bad (r : Rq) : Prop := r.blk < 0 ∨ 4096 ≤ r.blk ∨ r.dl < 0 ∨ 1099511627776 < r.dl
instance (r : Rq) : Decidable r.bad := by unfold Rq.bad; infer_instance
theorem Rq.ok_of {r : Rq} (h : ¬ r.bad) : r.Ok := by unfold Rq.bad at h; exact ⟨by omega, by omega, by omega, by omega⟩
def Qu.add (Q : Qu) (r : Rq) : Qu × Int :=
  if r.bad then (Q, 34) else if Q.l.any (fun x => x.id == r.id) then (Q, 38) else if 1000 ≤ Q.l.length then (Q, 18) else ({ Q with l := Q.l ++ [r] }, 0)
theorem rq_info : (Try.prog.info? rqT).map (fun i => (i.zero, i.size, i.bytes)) = some (some (.agg #[I64 0, I64 0, I64 0]), 3, 24) := by kernel_rfl

theorem QuOk.add {Q : Qu} {r : Rq} (h : QuOk Q) (hb : ¬ r.bad) (hn : Q.l.any (fun x => x.id == r.id) = false) (hl : Q.l.length < 1000) : QuOk { Q with l := Q.l ++ [r] } := by
  refine ⟨h.h0, h.h1, ?_, ?_, by simp; omega⟩
  · intro x hx
    rcases List.mem_append.1 hx with hx | hx
    · exact h.ok x hx
    · simp at hx; subst hx; exact Rq.ok_of hb
  · simp only [List.map_append, List.map_cons, List.map_nil]
    refine List.nodup_append.2 ⟨h.nd, by simp, ?_⟩
    intro a ha b hb2
    obtain ⟨x, hx, rfl⟩ := List.mem_map.1 ha
    simp at hb2
    subst hb2
    intro e
    have := List.any_eq_false.1 hn x hx
    simp [e] at this

/-- What Add answers. -/
def AddQ (base q : Nat) (v : Value) (Q : Qu) (r : Rq) (w : World) (e : Ending) (w' : World) : Prop :=
  ∃ v', e = .returned (I64 (Q.add r).2) ∧ QuAt base w' q v' (Q.add r).1 ∧ Only (q :: v.ownBlock.toList) w w'

set_option maxRecDepth 20000 in
set_option maxHeartbeats 2000000 in
theorem qadd_ok (base q : Nat) (v : Value) (Q : Qu) (r : Rq) (w : World) (h : QuAt base w q v Q) (hbase : base ≤ w.heap.size) :
    Calls Try.prog 11 #[.pointer (some ⟨q, 0, none⟩), r.V] w (AddQ base q v Q r w) := by
  show Calls Try.prog 11 #[.pointer (some ⟨q, 0, none⟩), .agg #[I64 r.id, I64 r.blk, I64 r.dl]] w _
  have ho : Only [] w (w.alloc (.cells #[I64 r.id, I64 r.blk, I64 r.dl] rqT)) := (Only.refl _ _).alloc _
  have hq := h.keep ho
  have hbx : Blk (w.alloc (.cells #[I64 r.id, I64 r.blk, I64 r.dl] rqT)) w.heap.size rqT r.cells := Blk.newA (c := #[I64 r.id, I64 r.blk, I64 r.dl]) rfl
  obtain ⟨A, cap, hv⟩ := own_shape h.row
  subst hv
  obtain ⟨n, hn⟩ : ∃ n, n = Q.l.length := ⟨_, rfl⟩
  have hm : n ≤ 1000 := by rw [hn]; exact h.ok.len
  have hrow := hq.row
  have hmeq := hq.me
  rw [← hn] at hrow hmeq
  have c2 := hmeq.cell (i := 2) rfl
  have lq := hmeq.lt
  by_cases hb : r.bad
  · have hA : Hid (Q.add r = (Q, 34)) := hide (by unfold Qu.add; rw [if_pos hb])
    have HQ := hide (And.intro hq ho)
    unfold Rq.bad at hb
    clear h ho hq hbx hrow hmeq hn
    by_cases b1 : r.blk < 0
    · go_enter Try.func11, Try.ntmps11
      go_wp2
      go_ret
      exact ⟨_, by rw [hA.out]; rfl, by rw [hA.out]; exact HQ.out.1, HQ.out.2.mono (by simp)⟩
    · by_cases b2 : 4096 ≤ r.blk
      · go_enter Try.func11, Try.ntmps11
        go_wp2
        go_ret
        exact ⟨_, by rw [hA.out]; rfl, by rw [hA.out]; exact HQ.out.1, HQ.out.2.mono (by simp)⟩
      · by_cases b3 : r.dl < 0
        · go_enter Try.func11, Try.ntmps11
          go_wp2
          go_ret
          exact ⟨_, by rw [hA.out]; rfl, by rw [hA.out]; exact HQ.out.1, HQ.out.2.mono (by simp)⟩
        · have b4 : 1099511627776 < r.dl := by omega
          go_enter Try.func11, Try.ntmps11
          go_wp2
          go_ret
          exact ⟨_, by rw [hA.out]; rfl, by rw [hA.out]; exact HQ.out.1, HQ.out.2.mono (by simp)⟩
  · have HNB := hide hb
    unfold Rq.bad at hb
    have b1 : ¬ r.blk < 0 := by omega
    have b2 : ¬ 4096 ≤ r.blk := by omega
    have b3 : ¬ r.dl < 0 := by omega
    have b4 : ¬ 1099511627776 < r.dl := by omega
    have hco := hide (contains_ok base Q.l n cap w.heap.size A r _ hrow hn hm hbx)
    obtain ⟨t, ht⟩ : ∃ t, t = Q.l.any (fun x => x.id == r.id) := ⟨_, rfl⟩
    rw [← ht] at hco
    obtain ⟨W1, hW1⟩ : ∃ W1, W1 = w.alloc (.cells #[I64 r.id, I64 r.blk, I64 r.dl] rqT) := ⟨_, rfl⟩
    rw [← hW1] at hco
    have HS : Hid (∀ W, Only [] W1 W → QuAt base W q (.slice A Q.l.length cap) Q ∧ Blk W w.heap.size rqT r.cells ∧ Only [] w W) := hide (fun W hW => by
      rw [hW1] at hW; exact ⟨hq.keep hW, hW.blk hbx (by simp), ho.trans hW⟩)
    have HT := hide ht
    have HN := hide hn
    have HW1 := hide hW1
    clear h ho hq hbx hrow hmeq hn hb ht hW1
    cases t with
    | true =>
      have hA : Hid (Q.add r = (Q, 38)) := hide (by unfold Qu.add; rw [if_neg HNB.out, if_pos HT.out.symm])
      go_enter Try.func11, Try.ntmps11
      go_wp2_with (go_at_call 42; rw [show w.alloc (.cells #[I64 r.id, I64 r.blk, I64 r.dl] rqT) = W1 from HW1.out.symm]; refine hco.out.mono ?_; rintro e w1 ⟨rfl, ho⟩; have HO := hide (HS.out _ ho); clear ho; have q2 := HO.out.1.me.cell (i := 2) rfl; rw [← HN.out] at q2; have lq1 := HO.out.1.me.lt; clear c2)
      go_ret
      exact ⟨_, by rw [hA.out]; rfl, by rw [hA.out]; exact HO.out.1, HO.out.2.2.mono (by simp)⟩
    | false =>
      by_cases hfull : n = 1000
      · have hA : Hid (Q.add r = (Q, 18)) := hide (by unfold Qu.add; rw [if_neg HNB.out, if_neg (by rw [← HT.out]; decide), if_pos (by rw [← HN.out]; omega)])
        subst hfull
        go_enter Try.func11, Try.ntmps11
        go_wp2_with (go_at_call 42; rw [show w.alloc (.cells #[I64 r.id, I64 r.blk, I64 r.dl] rqT) = W1 from HW1.out.symm]; refine hco.out.mono ?_; rintro e w1 ⟨rfl, ho⟩; have HO := hide (HS.out _ ho); clear ho; have q2 := HO.out.1.me.cell (i := 2) rfl; rw [← HN.out] at q2; have lq1 := HO.out.1.me.lt; clear c2)
        go_ret
        exact ⟨_, by rw [hA.out]; rfl, by rw [hA.out]; exact HO.out.1, HO.out.2.2.mono (by simp)⟩
      · have hA : Hid (Q.add r = ({ Q with l := Q.l ++ [r] }, 0)) := hide (by unfold Qu.add; rw [if_neg HNB.out, if_neg (by rw [← HT.out]; decide), if_neg (by rw [← HN.out]; omega)])
        have hn9 : n < 1000 := by omega
        have hn8 : ¬ (1000 : Int) ≤ (n : Int) := by omega
        obtain ⟨i0, hi0, hz0, hs0, hb0⟩ := info_parts rq_info
        go_enter Try.func11, Try.ntmps11
        go_wp2_with (go_at_call 42; rw [show w.alloc (.cells #[I64 r.id, I64 r.blk, I64 r.dl] rqT) = W1 from HW1.out.symm]; refine hco.out.mono ?_; rintro e w1 ⟨rfl, ho⟩; have HO := hide (HS.out _ ho); clear ho; have q2 := HO.out.1.me.cell (i := 2) rfl; rw [← HN.out] at q2; have lq1 := HO.out.1.me.lt; clear c2)
        have y0 := HO.out.2.1.cell (i := 0) rfl
        have y1 := HO.out.2.1.cell (i := 1) rfl
        have y2 := HO.out.2.1.cell (i := 2) rfl
        have ly := HO.out.2.1.lt
        refine wp_region_text 7 [6] [0, 1, 2, 3] [4] (fun W => W.cell? ⟨q, 2, none⟩ = some (.slice A n cap)) (by kernel_rfl) (by kernel_rfl) q2 ?_
        simp only [List.take_succ_cons, List.take_zero, List.drop_succ_cons, List.drop_zero]
        repeat (first | ((refine wpText_h rfl rfl ?_; apply Exists.intro; refine ⟨?_, ?_⟩; next => (go_simp; (try (go_bits; go_simp)); (first | done | with_reducible rfl | (rw [if_neg (by omega)]; (try (go_bits; go_simp)); (first | done | with_reducible rfl)) | (rw [if_pos (by omega)]; (try (go_bits; go_simp)); (first | done | with_reducible rfl))))); (try simp only [Act.put, List.setIfInBounds_toArray, List.set_cons_zero, List.set_cons_succ])) | ((refine wpText_p rfl rfl ?_; apply Exists.intro; refine ⟨?_, ?_⟩; next => (intro w'; go_simp; (try (go_bits; go_simp)); (first | done | with_reducible rfl | (rw [if_neg (by omega)]; (try (go_bits; go_simp)); (first | done | with_reducible rfl)) | (rw [if_pos (by omega)]; (try (go_bits; go_simp)); (first | done | with_reducible rfl))))); (try simp only [Act.put, List.setIfInBounds_toArray, List.set_cons_zero, List.set_cons_succ])) | ((refine wpText_y rfl rfl ?_; apply Exists.intro; refine ⟨?_, ?_⟩; next => (intro w' hS; (first | obtain ⟨_, rfl⟩ := hS | skip); go_simp; (try (go_bits; go_simp)); (first | done | with_reducible rfl | (rw [if_neg (by omega)]; (try (go_bits; go_simp)); (first | done | with_reducible rfl)) | (rw [if_pos (by omega)]; (try (go_bits; go_simp)); (first | done | with_reducible rfl))))); (try simp only [Act.put, List.setIfInBounds_toArray, List.set_cons_zero, List.set_cons_succ])) | (refine wpText_skip (by first | exact .inl rfl | exact .inr (.inl rfl) | exact .inr (.inr rfl)) rfl ?_; (try simp only [Act.put, List.setIfInBounds_toArray, List.set_cons_zero, List.set_cons_succ])))
        refine wpText_e rfl rfl (fun K hK => ?_)
        go_wp2
        refine hK _ _ (cell_only q2 ((Only.refl [] w1).drew.alloc _)) ?_
        clear hK K
        (try simp only [Act.put, List.setIfInBounds_toArray, List.set_cons_zero, List.set_cons_succ])
        repeat (first | ((refine wpText_h rfl rfl ?_; apply Exists.intro; refine ⟨?_, ?_⟩; next => (go_simp; (try (go_bits; go_simp)); (first | done | with_reducible rfl | (rw [if_neg (by omega)]; (try (go_bits; go_simp)); (first | done | with_reducible rfl)) | (rw [if_pos (by omega)]; (try (go_bits; go_simp)); (first | done | with_reducible rfl))))); (try simp only [Act.put, List.setIfInBounds_toArray, List.set_cons_zero, List.set_cons_succ])) | ((refine wpText_p rfl rfl ?_; apply Exists.intro; refine ⟨?_, ?_⟩; next => (intro w'; go_simp; (try (go_bits; go_simp)); (first | done | with_reducible rfl | (rw [if_neg (by omega)]; (try (go_bits; go_simp)); (first | done | with_reducible rfl)) | (rw [if_pos (by omega)]; (try (go_bits; go_simp)); (first | done | with_reducible rfl))))); (try simp only [Act.put, List.setIfInBounds_toArray, List.set_cons_zero, List.set_cons_succ])) | ((refine wpText_y rfl rfl ?_; apply Exists.intro; refine ⟨?_, ?_⟩; next => (intro w' hS; (first | obtain ⟨_, rfl⟩ := hS | skip); go_simp; (try (go_bits; go_simp)); (first | done | with_reducible rfl | (rw [if_neg (by omega)]; (try (go_bits; go_simp)); (first | done | with_reducible rfl)) | (rw [if_pos (by omega)]; (try (go_bits; go_simp)); (first | done | with_reducible rfl))))); (try simp only [Act.put, List.setIfInBounds_toArray, List.set_cons_zero, List.set_cons_succ])) | (refine wpText_skip (by first | exact .inl rfl | exact .inr (.inl rfl) | exact .inr (.inr rfl)) rfl ?_; (try simp only [Act.put, List.setIfInBounds_toArray, List.set_cons_zero, List.set_cons_succ])))
        have hrow : (w1.drew.alloc (.cells #[I64 r.id, I64 r.blk, I64 r.dl] rqT)).ownsRow base rqT 3 (.slice A n cap) n (Q.l.flatMap Rq.cells) := by
          have := own_nil HO.out.1.row ((Only.refl [] w1).drew.alloc (.cells #[I64 r.id, I64 r.blk, I64 r.dl] rqT))
          rwa [← HN.out] at this
        have HROW := hide hrow
        have HB := hide (show base ≤ (w1.drew.alloc (.cells #[I64 r.id, I64 r.blk, I64 r.dl] rqT)).heap.size from Nat.le_trans hbase (Nat.le_trans HO.out.2.2.size ((Only.refl [] w1).drew.alloc _).size))
        have HNW := hide (show ∀ j u, ([I64 r.id, I64 r.blk, I64 r.dl] : List Value)[j]? = some u → (w1.drew.alloc (.cells #[I64 r.id, I64 r.blk, I64 r.dl] rqT)).cell? ((⟨w1.heap.size, 0, none⟩ : Addr).add j) = some u from fun j u hu => by
          rw [addr_add, Nat.zero_add]
          exact (Blk.newA (c := #[I64 r.id, I64 r.blk, I64 r.dl]) (by simp) : Blk _ _ _ _).cell hu)
        clear hrow
        refine wpText_nil ?_
        have HQA := hide (HO.out.1.keep ((Only.refl [] w1).drew.alloc (.cells #[I64 r.id, I64 r.blk, I64 r.dl] rqT)))
        go_wp2_with (
          at_builtin
          refine wpList_append_own _ rfl (.tmp 45) (.tmp 47) 68 rfl base rqT i0 (.agg #[I64 0, I64 0, I64 0]) 3 24 Try.underlying68 hi0 hz0 hs0 hb0 rfl (by decide) (.slice A n cap) n (Q.l.flatMap Rq.cells) rfl HROW.out ⟨w1.heap.size, 0, none⟩ 1 1 [I64 r.id, I64 r.blk, I64 r.dl] rfl rfl HNW.out (by simp [Value.oneCell']) (by simp only [maxLen]; omega) (by omega) HB.out ?_
          intro v2 w2 hr2 hg2 hnil
          obtain ⟨A2, cp2, rfl⟩ := own_shape hr2
          have hne := own_ne_blk HROW.out HQA.out.me (by decide)
          have me2 := HQA.out.me.grown hg2 hne
          have d2 := me2.cell (i := 2) rfl
          rw [← HN.out] at d2
          have f2 := me2.frozen 2
          have lt2 := me2.lt
          have H2 := hide (And.intro hr2 (And.intro hg2 me2))
          clear hr2 hg2 hnil hne me2)
        refine NoX.normal ?_
        go_wp2
        go_ret
        obtain ⟨hr2, hg2, me2⟩ := H2.out
        have ho2 : Only (Value.slice A n cap).ownBlock.toList (w1.drew.alloc (.cells #[I64 r.id, I64 r.blk, I64 r.dl] rqT)) w2 := Only.of_grown hg2 (fun g hg => mem_own.2 hg)
        refine ⟨.slice A2 (n + 1) cp2, by rw [hA.out]; rfl, ?_, ?_⟩
        · rw [hA.out]
          refine ⟨me2.set 2 _, ?_, HO.out.1.ok.add HNB.out HT.out.symm (by rw [← HN.out]; omega)⟩
          have h3 := own_setCell hr2 (p := ⟨q, 2, none⟩) (own_ne_blk hr2 me2 (by decide)) (.slice A2 (n + 1) cp2)
          rw [List.flatMap_append, List.length_append, ← HN.out]
          simpa [Rq.cells] using h3
        · refine Only.set ?_ (p := ⟨q, 2, none⟩) (.inl (by simp)) _
          refine ((HO.out.2.2.trans ((Only.refl [] w1).drew.alloc _)).mono (by simp)).trans (ho2.mono ?_)
          intro j hj _
          rw [HN.out] at hj
          exact List.mem_cons_of_mem _ hj

end Go.Proofs.Ytabdahojgmbgdaa
