/- The reference's queue: Add. -/
import Derived.Test.YtabdahojgmbgdaaRquC
namespace Go.Proofs.Ytabdahojgmbgdaa
open Go.RowKit

/-- What the reference's Add answers. -/
def RAddQ (base q : Nat) (v : Value) (Q : Qu) (r : Rq) (w : World) (e : Ending) (w' : World) : Prop :=
  ∃ v', e = .returned (I64 (Q.add r).2) ∧ RuAt base w' q v' (Q.add r).1 ∧ Only (q :: v.ownBlock.toList) w w'
def NoneI (l : List Rq) (r : Rq) (w : World) (k : Nat) (wr : World) : Prop := (∀ j x, j < k → l[j]? = some x → x.id ≠ r.id) ∧ Only [] w wr

set_option maxRecDepth 20000 in
set_option maxHeartbeats 2000000 in
theorem radd_ok (base q : Nat) (v : Value) (Q : Qu) (r : Rq) (w : World) (h : RuAt base w q v Q) (hbase : base ≤ w.heap.size) :
    Calls Try.prog 24 #[.pointer (some ⟨q, 0, none⟩), r.V] w (RAddQ base q v Q r w) := by
  show Calls Try.prog 24 #[.pointer (some ⟨q, 0, none⟩), .agg #[I64 r.id, I64 r.blk, I64 r.dl]] w _
  obtain ⟨W1, hW1⟩ : ∃ W1, W1 = w.alloc (.cells #[I64 r.id, I64 r.blk, I64 r.dl] rrT) := ⟨_, rfl⟩
  have ho : Only [] w W1 := by rw [hW1]; exact (Only.refl _ _).alloc _
  have hq := h.keep ho
  have hbx : Blk W1 w.heap.size rrT r.cells := by rw [hW1]; exact Blk.newA (c := #[I64 r.id, I64 r.blk, I64 r.dl]) rfl
  obtain ⟨A, cap, hv⟩ := own_shape h.row
  subst hv
  obtain ⟨n, hn⟩ : ∃ n, n = Q.l.length := ⟨_, rfl⟩
  have hm : n ≤ 1000 := by rw [hn]; exact h.ok.len
  by_cases hb : r.bad
  · have hA : Hid (Q.add r = (Q, 34)) := hide (by unfold Qu.add; rw [if_pos hb])
    rw [hW1] at hq ho
    have HQ := hide (And.intro hq ho)
    unfold Rq.bad at hb
    clear h ho hq hbx hn hW1
    by_cases b1 : r.blk < 0
    · go_enter Try.func24, Try.ntmps24
      go_wp2
      go_ret
      exact ⟨_, by rw [hA.out]; rfl, by rw [hA.out]; exact HQ.out.1, HQ.out.2.mono (by simp)⟩
    · by_cases b2 : 4096 ≤ r.blk
      · go_enter Try.func24, Try.ntmps24
        go_wp2
        go_ret
        exact ⟨_, by rw [hA.out]; rfl, by rw [hA.out]; exact HQ.out.1, HQ.out.2.mono (by simp)⟩
      · by_cases b3 : r.dl < 0
        · go_enter Try.func24, Try.ntmps24
          go_wp2
          go_ret
          exact ⟨_, by rw [hA.out]; rfl, by rw [hA.out]; exact HQ.out.1, HQ.out.2.mono (by simp)⟩
        · have b4 : 1099511627776 < r.dl := by omega
          go_enter Try.func24, Try.ntmps24
          go_wp2
          go_ret
          exact ⟨_, by rw [hA.out]; rfl, by rw [hA.out]; exact HQ.out.1, HQ.out.2.mono (by simp)⟩
  · have HNB := hide hb
    unfold Rq.bad at hb
    have b1 : ¬ r.blk < 0 := by omega
    have b2 : ¬ 4096 ≤ r.blk := by omega
    have b3 : ¬ r.dl < 0 := by omega
    have b4 : ¬ 1099511627776 < r.dl := by omega
    have hmeq := hq.me
    rw [← hn] at hmeq
    have c2 := hmeq.cell (i := 2) rfl
    have lq := hmeq.lt
    have HQ := hide hq
    have HBX := hide hbx
    have HO0 := hide ho
    have HN := hide hn
    have HW1 := hide hW1
    have HBS := hide (Nat.le_trans hbase ho.size)
    rw [hW1] at c2 lq
    clear h ho hq hbx hmeq hn hb hW1 hbase
    go_enter Try.func24, Try.ntmps24
    go_wp2
    rw [← HW1.out]
    go_loopw [30] (fun i wr => ∃ k : Nat, k ≤ n ∧ i = I64 (k : Nat) ∧ Hid (NoneI Q.l r W1 k wr)) (fun i _ => n - (intOf i).toNat)
    case atStart => exact ⟨0, Nat.zero_le _, rfl, hide ⟨fun j x hj => absurd hj (by omega), Only.refl _ _⟩⟩
    case round =>
      obtain ⟨k, hk, rfl, HI⟩ := hrel
      rcases Nat.lt_or_ge k n with hlt | hge
      · obtain ⟨x, hx⟩ : ∃ x, Q.l[k]? = some x := ⟨_, List.getElem?_eq_getElem (by rw [← HN.out]; exact hlt)⟩
        obtain ⟨g, cp, hsl⟩ := own_slice HQ.out.row (by rw [← HN.out]; omega)
        obtain rfl : A = some ⟨g, 0, none⟩ := by injection hsl
        have hrow : wr.ownsRow base rrT 3 (.slice (some ⟨g, 0, none⟩) n cap) n (Q.l.flatMap Rq.cells) := by
          have := own_nil HQ.out.row HI.out.2
          rwa [← HN.out] at this
        obtain ⟨x0, x1, x2⟩ := rrow_cells hrow rfl hx
        have HX := hide hx
        have hk0 : ((k : Nat) : Int) < (n : Int) := by omega
        clear hx hsl hrow c2
        go_upto_region 6 with (refine wpList_store_cells rfl rrT (.tmp 6) (.tmp 33) rfl wr.heap.size 0 rfl x.cells rfl rrT [I64 0, I64 0, I64 0] (Blk.newA rfl) (by exact Nat.le_refl _) (by kernel_rfl) (by simp [Rq.cells, Value.oneCell']) ?_; intro w2 hw2)
        simp only [Act.put]
        have hox : Only [] wr w2 := ((Only.refl [] wr).alloc _).trans' hw2.2.1 (by intro i hi hlt; simp at hi; omega)
        have hbx : Blk w2 wr.heap.size rrT x.cells := hw2.1.to (by simp [Rq.cells])
        have y0 := hbx.cell (i := 0) rfl
        have ly := hbx.lt
        have hr2 := (HI.out.2.trans hox).blk HBX.out (by simp)
        have z0 := hr2.cell (i := 0) rfl
        have lz := hr2.lt
        have HO2 := hide (HI.out.2.trans hox)
        clear hw2 hox hbx x0 x1 x2 hr2
        by_cases he : x.id = r.id
        · have hA : Hid (Q.add r = (Q, 38)) := hide (by
            unfold Qu.add
            rw [if_neg HNB.out, if_pos (List.any_eq_true.2 ⟨x, List.mem_of_getElem? HX.out, by simp [he]⟩)])
          have hH := hide he
          rw [he] at y0
          clear he
          go_wp2
          go_ret
          exact ⟨_, by rw [hA.out]; rfl, by rw [hA.out]; exact HQ.out.keep HO2.out, (HO0.out.trans HO2.out).mono (by simp)⟩
        · have hR : Hid (NoneI Q.l r W1 (k + 1) w2) := hide ⟨fun j y hj hy => by
              by_cases hjk : j = k
              · subst hjk; rw [HX.out] at hy; injection hy with hy; rw [← hy]; exact he
              · exact HI.out.1 j y (by omega) hy, HO2.out⟩
          go_wp2
          go_roundw
          case rel => exact ⟨k + 1, by omega, by go_num, hR⟩
          case measure => simp [intOf]; omega
      · obtain rfl : n = k := by omega
        have hT : Q.l.any (fun x => x.id == r.id) = false := by
          rw [List.any_eq_false]
          intro x hx
          obtain ⟨j, hj, hjx⟩ := List.mem_iff_getElem.1 hx
          have := HI.out.1 j x (by rw [HN.out]; exact hj) (by rw [List.getElem?_eq_getElem hj, hjx])
          simpa using this
        have HT := hide hT
        have HQ2 := hide (HQ.out.keep HI.out.2)
        have hme := HI.out.2.blk HQ.out.me (by simp)
        rw [← HN.out] at hme
        have q2 := hme.cell (i := 2) rfl
        have lq1 := hme.lt
        have hr2 := HI.out.2.blk HBX.out (by simp)
        have HBX2 := hide hr2
        have y0 := hr2.cell (i := 0) rfl
        have y1 := hr2.cell (i := 1) rfl
        have y2 := hr2.cell (i := 2) rfl
        have ly := hr2.lt
        have HOW := hide (HO0.out.trans HI.out.2)
        clear hT hme hr2 c2
        by_cases hfull : n = 1000
        · have hA : Hid (Q.add r = (Q, 18)) := hide (by unfold Qu.add; rw [if_neg HNB.out, if_neg (by rw [HT.out]; decide), if_pos (by rw [← HN.out]; omega)])
          subst hfull
          go_wp2
          go_ret
          exact ⟨_, by rw [hA.out]; rfl, by rw [hA.out]; exact HQ2.out, HOW.out.mono (by simp)⟩
        · have hA : Hid (Q.add r = ({ Q with l := Q.l ++ [r] }, 0)) := hide (by unfold Qu.add; rw [if_neg HNB.out, if_neg (by rw [HT.out]; decide), if_neg (by rw [← HN.out]; omega)])
          have hn9 : n < 1000 := by omega
          have hn8 : ¬ (1000 : Int) ≤ (n : Int) := by omega
          obtain ⟨i0, hi0, hz0, hs0, hb0⟩ := info_parts rr_info
          go_upto_region 11 with fail
          refine wp_region_text 7 [6] [0, 1, 2, 3] [4] (fun W => W.cell? ⟨q, 2, none⟩ = some (.slice A n cap)) (by kernel_rfl) (by kernel_rfl) q2 ?_
          simp only [List.take_succ_cons, List.take_zero, List.drop_succ_cons, List.drop_zero]
          repeat (first | ((refine wpText_h rfl rfl ?_; apply Exists.intro; refine ⟨?_, ?_⟩; next => (go_simp; (try (go_bits; go_simp)); (first | done | with_reducible rfl | (rw [if_neg (by omega)]; (try (go_bits; go_simp)); (first | done | with_reducible rfl)) | (rw [if_pos (by omega)]; (try (go_bits; go_simp)); (first | done | with_reducible rfl))))); (try simp only [Act.put, List.setIfInBounds_toArray, List.set_cons_zero, List.set_cons_succ])) | ((refine wpText_p rfl rfl ?_; apply Exists.intro; refine ⟨?_, ?_⟩; next => (intro w'; go_simp; (try (go_bits; go_simp)); (first | done | with_reducible rfl | (rw [if_neg (by omega)]; (try (go_bits; go_simp)); (first | done | with_reducible rfl)) | (rw [if_pos (by omega)]; (try (go_bits; go_simp)); (first | done | with_reducible rfl))))); (try simp only [Act.put, List.setIfInBounds_toArray, List.set_cons_zero, List.set_cons_succ])) | ((refine wpText_y rfl rfl ?_; apply Exists.intro; refine ⟨?_, ?_⟩; next => (intro w' hS; (first | obtain ⟨_, rfl⟩ := hS | skip); go_simp; (try (go_bits; go_simp)); (first | done | with_reducible rfl | (rw [if_neg (by omega)]; (try (go_bits; go_simp)); (first | done | with_reducible rfl)) | (rw [if_pos (by omega)]; (try (go_bits; go_simp)); (first | done | with_reducible rfl))))); (try simp only [Act.put, List.setIfInBounds_toArray, List.set_cons_zero, List.set_cons_succ])) | (refine wpText_skip (by first | exact .inl rfl | exact .inr (.inl rfl) | exact .inr (.inr rfl)) rfl ?_; (try simp only [Act.put, List.setIfInBounds_toArray, List.set_cons_zero, List.set_cons_succ])))
          refine wpText_e rfl rfl (fun K hK => ?_)
          go_wp2
          refine hK _ _ (cell_only q2 ((Only.refl [] wr).drew.alloc _)) ?_
          clear hK K
          (try simp only [Act.put, List.setIfInBounds_toArray, List.set_cons_zero, List.set_cons_succ])
          repeat (first | ((refine wpText_h rfl rfl ?_; apply Exists.intro; refine ⟨?_, ?_⟩; next => (go_simp; (try (go_bits; go_simp)); (first | done | with_reducible rfl | (rw [if_neg (by omega)]; (try (go_bits; go_simp)); (first | done | with_reducible rfl)) | (rw [if_pos (by omega)]; (try (go_bits; go_simp)); (first | done | with_reducible rfl))))); (try simp only [Act.put, List.setIfInBounds_toArray, List.set_cons_zero, List.set_cons_succ])) | ((refine wpText_p rfl rfl ?_; apply Exists.intro; refine ⟨?_, ?_⟩; next => (intro w'; go_simp; (try (go_bits; go_simp)); (first | done | with_reducible rfl | (rw [if_neg (by omega)]; (try (go_bits; go_simp)); (first | done | with_reducible rfl)) | (rw [if_pos (by omega)]; (try (go_bits; go_simp)); (first | done | with_reducible rfl))))); (try simp only [Act.put, List.setIfInBounds_toArray, List.set_cons_zero, List.set_cons_succ])) | ((refine wpText_y rfl rfl ?_; apply Exists.intro; refine ⟨?_, ?_⟩; next => (intro w' hS; (first | obtain ⟨_, rfl⟩ := hS | skip); go_simp; (try (go_bits; go_simp)); (first | done | with_reducible rfl | (rw [if_neg (by omega)]; (try (go_bits; go_simp)); (first | done | with_reducible rfl)) | (rw [if_pos (by omega)]; (try (go_bits; go_simp)); (first | done | with_reducible rfl))))); (try simp only [Act.put, List.setIfInBounds_toArray, List.set_cons_zero, List.set_cons_succ])) | (refine wpText_skip (by first | exact .inl rfl | exact .inr (.inl rfl) | exact .inr (.inr rfl)) rfl ?_; (try simp only [Act.put, List.setIfInBounds_toArray, List.set_cons_zero, List.set_cons_succ])))
          have hrow : (wr.drew.alloc (.cells #[I64 r.id, I64 r.blk, I64 r.dl] rrT)).ownsRow base rrT 3 (.slice A n cap) n (Q.l.flatMap Rq.cells) := by
            have := own_nil HQ2.out.row ((Only.refl [] wr).drew.alloc (.cells #[I64 r.id, I64 r.blk, I64 r.dl] rrT))
            rwa [← HN.out] at this
          have HROW := hide hrow
          have HB := hide (show base ≤ (wr.drew.alloc (.cells #[I64 r.id, I64 r.blk, I64 r.dl] rrT)).heap.size from Nat.le_trans HBS.out (Nat.le_trans HI.out.2.size ((Only.refl [] wr).drew.alloc _).size))
          have HNW := hide (show ∀ j u, ([I64 r.id, I64 r.blk, I64 r.dl] : List Value)[j]? = some u → (wr.drew.alloc (.cells #[I64 r.id, I64 r.blk, I64 r.dl] rrT)).cell? ((⟨wr.heap.size, 0, none⟩ : Addr).add j) = some u from fun j u hu => by
            rw [addr_add, Nat.zero_add]
            exact (Blk.newA (c := #[I64 r.id, I64 r.blk, I64 r.dl]) (by simp) : Blk _ _ _ _).cell hu)
          clear hrow
          refine wpText_nil ?_
          have HQA := hide (HQ2.out.keep ((Only.refl [] wr).drew.alloc (.cells #[I64 r.id, I64 r.blk, I64 r.dl] rrT)))
          go_wp2_with (
            at_builtin
            refine wpList_append_own _ rfl (.tmp 50) (.tmp 52) 70 rfl base rrT i0 (.agg #[I64 0, I64 0, I64 0]) 3 24 Try.underlying70 hi0 hz0 hs0 hb0 rfl (by decide) (.slice A n cap) n (Q.l.flatMap Rq.cells) rfl HROW.out ⟨wr.heap.size, 0, none⟩ 1 1 [I64 r.id, I64 r.blk, I64 r.dl] rfl rfl HNW.out (by simp [Value.oneCell']) (by simp only [maxLen]; omega) (by omega) HB.out ?_
            intro v2 w2 hr2 hg2 hnil
            obtain ⟨A2, cp2, rfl⟩ := own_shape hr2
            have hne := own_ne_blk HROW.out HQA.out.me (by decide)
            have me2 := HQA.out.me.grown hg2 hne
            have d2 := me2.cell (i := 2) rfl
            rw [← HN.out] at d2
            have f2 := me2.frozen 2
            have lt2 := me2.lt
            have H2 := hide (And.intro hr2 (And.intro hg2 me2))
            clear hr2 hg2 hnil hne me2)
          refine NoX.normal ?_
          go_wp2
          go_ret
          obtain ⟨hr2, hg2, me2⟩ := H2.out
          have ho2 : Only (Value.slice A n cap).ownBlock.toList (wr.drew.alloc (.cells #[I64 r.id, I64 r.blk, I64 r.dl] rrT)) w2 := Only.of_grown hg2 (fun g hg => mem_own.2 hg)
          refine ⟨.slice A2 (n + 1) cp2, by rw [hA.out]; rfl, ?_, ?_⟩
          · rw [hA.out]
            refine ⟨me2.set 2 _, ?_, HQ2.out.ok.add HNB.out HT.out (by rw [← HN.out]; omega)⟩
            have h3 := own_setCell hr2 (p := ⟨q, 2, none⟩) (own_ne_blk hr2 me2 (by decide)) (.slice A2 (n + 1) cp2)
            rw [List.flatMap_append, List.length_append, ← HN.out]
            simpa [Rq.cells] using h3
          · refine Only.set ?_ (p := ⟨q, 2, none⟩) (.inl (by simp)) _
            refine ((HOW.out.trans ((Only.refl [] wr).drew.alloc _)).mono (by simp)).trans (ho2.mono ?_)
            intro j hj _
            rw [HN.out] at hj
            exact List.mem_cons_of_mem _ hj

end Go.Proofs.Ytabdahojgmbgdaa
