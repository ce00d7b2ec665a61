/- The reference's server: Run. -/
import Derived.Test.YtdjkgbkckmjfiaaRefC
namespace Go.Proofs.Ytdjkgbkckmjfiaa
open Go.RowKit

theorem inTime_no {now : Int} (h : inTime now = false) : now < 0 ∨ 1099511627776 < now := by
  simp only [inTime, Bool.and_eq_false_iff, decide_eq_false_iff_not] at h
  omega
theorem inTime_yes {now : Int} (h : inTime now = true) : 0 ≤ now ∧ now ≤ 1099511627776 := by
  simpa only [inTime, Bool.and_eq_true, decide_eq_true_eq] using h

set_option maxHeartbeats 4000000 in
theorem rrun_ok (base rb : Nat) (s : Srv) (now : Int) (w : World) (hs : RefIs w base rb s) (hI : s.Inv) (hbase : base ≤ w.heap.size) :
    Calls Try.prog 31 #[.pointer (some ⟨rb, 0, none⟩), I64 now] w
      fun e w' => e = .returned (I64 (s.runs now).2) ∧ RefIs w' base rb (s.runs now).1 ∧ RefStep base rb w w' := by
  have HS := hide hs
  have HI := hide hI
  obtain ⟨v, me, own, ge⟩ := hs
  have c9 := me.cell (i := 9) rfl
  have c10 := me.cell (i := 10) rfl
  cases ht : inTime now
  · have hR := hide (show s.runs now = (s, 34) by unfold Srv.runs; rw [if_pos ht])
    rcases inTime_no ht with h0 | h0
    all_goals
      clear ht
      go_enter Try.func31, Try.ntmps31
      go_wp2
      go_ret
      rw [hR.out]
      exact ⟨rfl, HS.out, RefStep.refl _⟩
  · obtain ⟨hlo0, hhi⟩ := inTime_yes ht
    by_cases ho : now < s.now ∨ now = s.ran
    · have hR := hide (show s.runs now = (s, 30) by unfold Srv.runs; rw [if_neg (by rw [ht]; simp), if_pos ho])
      clear ht
      by_cases h1 : s.now ≤ now
      · have h2 : now = s.ran := by omega
        have hb : (now == s.ran) = true := by simp [h2]
        have hd : decide (now < s.now) = false := by simp [h1]
        clear h2 ho
        go_enter Try.func31, Try.ntmps31
        go_wp2
        go_ret
        rw [hR.out]
        exact ⟨rfl, HS.out, RefStep.refl _⟩
      · have hd : decide (now < s.now) = true := by simp; omega
        clear ho
        go_enter Try.func31, Try.ntmps31
        go_wp2
        go_ret
        rw [hR.out]
        exact ⟨rfl, HS.out, RefStep.refl _⟩
    · have hR := hide (show s.runs now = (s.tell now).tick now by unfold Srv.runs; rw [if_neg (by rw [ht]; simp), if_neg ho])
      have hd : decide (now < s.now) = false := by simp; omega
      have hb : (now == s.ran) = false := by simp; omega
      have hlo : s.now ≤ now := by omega
      have hne : now ≠ s.ran := by omega
      have h0 : 0 ≤ s.now := hI.now0
      have HIT := hide (hI.tells hlo hhi)
      clear ht ho
      go_enter Try.func31, Try.ntmps31
      go_wp2_with fail
      refine (rtell_ok base rb s now _ HS.out HI.out hlo hhi hbase).mono ?_
      rintro e w1 ⟨rfl, hs1, ho1⟩
      have hch := hide (tell_chunk HI.out hlo hne)
      have hI1 := HIT.out
      have ht2 := hide (tell_rest s now).2.1
      generalize s.tell now = t at *
      have HS1 := hide hs1
      have hsz := ho1.size
      obtain ⟨v1, me1, own1, ge1⟩ := hs1
      have hon1 := own_ne_blk own1 me1 (by decide)
      have OWN := hide own1
      have d4 := me1.cell (i := 4) rfl
      have d6 := me1.cell (i := 6) rfl
      have d7 := me1.cell (i := 7) rfl
      have d8 := me1.cell (i := 8) rfl
      have d10 := me1.cell (i := 10) rfl
      have e4 := me1.frozen 4
      have e6 := me1.frozen 6
      have e7 := me1.frozen 7
      have e8 := me1.frozen 8
      have e10 := me1.frozen 10
      have hl0 := hI1.left
      have hl1 := hI1.fit.sum
      have hl2 := sumA_nonneg _ hI1.amt
      have hl3 : t.left ≤ 1000000 := by omega
      have HI1 := hide hI1
      clear hI1 hl1 hl2 me own own1 c9 c10
      by_cases hz : t.left = 0
      · have hz' : (t.left == 0) = true := by simp [hz]
        have hK := hide (show t.tick now = (t, 18) by unfold Srv.tick; rw [if_pos hz])
        clear hz
        go_wp2
        go_ret
        rw [hR.out, hK.out]
        exact ⟨rfl, HS1.out, ho1⟩
      · have hz' : (t.left == 0) = false := by simp [hz]
        have HZ := hide hz
        have hK := hide (tick_eq t now hz)
        have hSp := hide (HI1.out.spends ht2.out hch.out hz)
        have hpos : 1 ≤ t.left := by omega
        clear hz
        cases hrun : t.run
        all_goals
          rw [hrun] at d6
          have Hrun := hide hrun
          clear hrun
          by_cases h1 : t.left ≤ 1
          · go_wp2_with fail
            refine (rend_ok base rb (t.spend now) _ ?_ hSp.out.fit (by simp [World.setCell]; omega)).mono ?_
            · refine ⟨v1, ?_, ?_, ge1⟩
              · apply Blk.to
                next => repeat (first | with_reducible exact me1 | (with_reducible refine Blk.newA ?_; simp; done) | with_reducible apply Blk.drew | with_reducible apply Blk.drewN | with_reducible apply Blk.alloc | with_reducible apply Blk.set | (with_reducible apply Blk.far'; next => (first | assumption | exact Ne.symm ‹_› | (dsimp only; omega))))
                simp [refCells, Srv.spend, Hrun.out]
              · (repeat (with_reducible apply own_setCell'; · exact hon1)); exact OWN.out
            rintro e w2 ⟨rfl, hs2, ho2⟩
            go_wp2
            go_ret
            rw [hR.out, hK.out, if_pos (by omega)]
            refine ⟨rfl, hs2, ho1.trans (RefStep.trans (RefStep.of_only ?_) ho2)⟩
            repeat (first | with_reducible exact Only.refl _ _ | with_reducible apply Only.drew | with_reducible apply Only.drewN | with_reducible apply Only.alloc | (with_reducible apply Only.set'; next => (first | (left; simp; done) | (right; dsimp only; omega) | (right; simp; omega))))
          · go_wp2
            go_ret
            rw [hR.out, hK.out, if_neg (by omega)]
            refine ⟨rfl, ⟨v1, ?_, ?_, ge1⟩, ho1.trans (RefStep.of_only ?_)⟩
            · apply Blk.to
              next => repeat (first | with_reducible exact me1 | (with_reducible refine Blk.newA ?_; simp; done) | with_reducible apply Blk.drew | with_reducible apply Blk.drewN | with_reducible apply Blk.alloc | with_reducible apply Blk.set | (with_reducible apply Blk.far'; next => (first | assumption | exact Ne.symm ‹_› | (dsimp only; omega))))
              simp [refCells, Srv.spend, Hrun.out]
            · (repeat (with_reducible apply own_setCell'; · exact hon1)); exact OWN.out
            · repeat (first | with_reducible exact Only.refl _ _ | with_reducible apply Only.drew | with_reducible apply Only.drewN | with_reducible apply Only.alloc | (with_reducible apply Only.set'; next => (first | (left; simp; done) | (right; dsimp only; omega) | (right; simp; omega))))

end Go.Proofs.Ytdjkgbkckmjfiaa
