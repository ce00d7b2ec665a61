/- The program's sporadic server: tell, Run, Budget, Priority, Next. -/
import Derived.Test.YtdjkgbkckmjfiaaWalkC
import Derived.Test.YtdjkgbkckmjfiaaKeep
namespace Go.Proofs.Ytdjkgbkckmjfiaa
open Go.RowKit

theorem SrvIs.setNow {w : World} {b g bs : Nat} {s : Srv} (h : SrvIs w b g bs s) (v : Int) : SrvIs (w.setCell ⟨b, 11, none⟩ (I64 v)) b g bs { s with now := v } := by
  obtain ⟨fr, buf, me, bufb, box, ring⟩ := h
  exact ⟨fr, buf, me.set 11 _, bufb.far (bufb.ne me (by decide)) _, box.far (box.ne me (by decide)) _, ring⟩

theorem endc_fit {s : Srv} (hI : s.Inv) (hr : s.run = true) : s.endc.Fit := (hI.ends hr).fit

set_option maxHeartbeats 400000 in
theorem tell_ok (b g bs : Nat) (s : Srv) (now : Int) (w : World) (hs : SrvIs w b g bs s) (hI : s.Inv) (h0 : s.now ≤ now) (h1 : now ≤ 1099511627776) :
    Calls Try.prog 25 #[.pointer (some ⟨b, 0, none⟩), I64 now] w
      fun e w' => e = .returned (.tuple #[]) ∧ SrvIs w' b g bs (s.tell now) ∧ Only [b, g] w w' := by
  have HS := hide hs
  have HI := hide (hI.at h0 h1)
  have hlb := hI.lastb
  obtain ⟨fr, buf, me, bufb, box, ring⟩ := hs
  have c9 := me.cell (i := 9) rfl
  have c10 := me.cell (i := 10) rfl
  have c11 := me.cell (i := 11) rfl
  have f11 := me.frozen 11
  have htell : ∀ P : Prop, P → P := fun _ h => h
  by_cases hc : s.run = true ∧ s.last + 1 < now
  · have hT := hide (show s.tell now = ((({ s with now := now } : Srv).take (s.last + 1)).endc).take now by unfold Srv.tell; rw [if_pos hc])
    obtain ⟨hr, hl⟩ := hc
    have HR := hide hr
    rw [hr] at c10
    clear hr htell
    go_enter Try.func25, Try.ntmps25
    go_wp2_with fail
    refine (take_ok b g bs { s with now := now } (s.last + 1) _ (HS.out.setNow now) HI.out.fit).mono ?_
    rintro e w1 ⟨rfl, hs1, ho1⟩
    go_wp2_with fail
    refine (end_ok b g bs _ _ hs1 (HI.out.takes _).fit).mono ?_
    rintro e w2 ⟨rfl, hs2, ho2⟩
    go_wp2_with fail
    refine (take_ok b g bs _ now _ hs2 ((HI.out.takes _).ends HR.out).fit).mono ?_
    rintro e w3 ⟨rfl, hs3, ho3⟩
    go_wp2
    go_end0
    rw [hT.out]
    exact ⟨rfl, hs3, (((Only.refl _ _).set (.inl (by simp)) _).trans ho1).trans (ho2.trans ho3)⟩
  · have hT := hide (show s.tell now = ({ s with now := now } : Srv).take now by unfold Srv.tell; rw [if_neg hc])
    clear htell
    cases hr : s.run
    · rw [hr] at c10
      clear hr hc
      go_enter Try.func25, Try.ntmps25
      go_wp2_with fail
      refine (take_ok b g bs { s with now := now } now _ (HS.out.setNow now) HI.out.fit).mono ?_
      rintro e w1 ⟨rfl, hs1, ho1⟩
      go_wp2
      go_end0
      rw [hT.out]
      exact ⟨rfl, hs1, ((Only.refl _ _).set (.inl (by simp)) _).trans ho1⟩
    · have hl : now ≤ s.last + 1 := by
        rcases Int.lt_or_le (s.last + 1) now with hl | hl
        · exact absurd ⟨hr, hl⟩ hc
        · exact hl
      rw [hr] at c10
      clear hr hc
      go_enter Try.func25, Try.ntmps25
      go_wp2_with fail
      refine (take_ok b g bs { s with now := now } now _ (HS.out.setNow now) HI.out.fit).mono ?_
      rintro e w1 ⟨rfl, hs1, ho1⟩
      go_wp2
      go_end0
      rw [hT.out]
      exact ⟨rfl, hs1, ((Only.refl _ _).set (.inl (by simp)) _).trans ho1⟩

theorem inRange_yes (n : Int) (w : World) (h : inTime n = true) : Calls Try.prog 23 #[I64 n] w fun e w' => e = .returned (.bool true) ∧ w = w' := by
  simp only [inTime, Bool.and_eq_true, decide_eq_true_eq] at h
  obtain ⟨h0, h1⟩ := h
  go_enter Try.func23, Try.ntmps23
  go_wp2
  go_ret
  exact ⟨rfl, rfl⟩
theorem inRange_no (n : Int) (w : World) (h : inTime n = false) : Calls Try.prog 23 #[I64 n] w fun e w' => e = .returned (.bool false) ∧ w = w' := by
  simp only [inTime, Bool.and_eq_false_iff, decide_eq_false_iff_not] at h
  by_cases h0 : 0 ≤ n
  · have h1 : decide (n ≤ 1099511627776) = false := by simp; omega
    clear h
    go_enter Try.func23, Try.ntmps23
    go_wp2
    go_ret
    exact ⟨rfl, rfl⟩
  · have h1 : n < 0 := by omega
    clear h
    go_enter Try.func23, Try.ntmps23
    go_wp2
    go_ret
    exact ⟨rfl, rfl⟩
theorem inOrder_ok (n : Int) (w : World) (b g bs : Nat) (s : Srv) (hs : SrvIs w b g bs s) :
    Calls Try.prog 24 #[I64 n, .pointer (some ⟨bs, 0, none⟩)] w fun e w' => e = .returned (.bool (decide (s.now ≤ n))) ∧ w = w' := by
  obtain ⟨fr, buf, me, bufb, box, ring⟩ := hs
  have c0 := box.cell (i := 0) rfl
  have c11 := me.cell (i := 11) rfl
  go_enter Try.func24, Try.ntmps24
  go_wp2
  go_ret
  exact ⟨rfl, rfl⟩

set_option maxHeartbeats 1000000 in
theorem run_ok (b g bs : Nat) (s : Srv) (now : Int) (w : World) (hs : SrvIs w b g bs s) (hI : s.Inv) :
    Calls Try.prog 10 #[.pointer (some ⟨b, 0, none⟩), I64 now] w
      fun e w' => e = .returned (I64 (s.runs now).2) ∧ SrvIs w' b g bs (s.runs now).1 ∧ Only [b, g] w w' := by
  have HS := hide hs
  have HI := hide hI
  obtain ⟨fr, buf, me, bufb, box, ring⟩ := hs
  have c12 := me.cell (i := 12) rfl
  have c13 := me.cell (i := 13) rfl
  have c14 := me.cell (i := 14) rfl
  cases ht : inTime now
  · have hR := hide (show s.runs now = (s, 34) by unfold Srv.runs; rw [if_pos ht])
    go_enter Try.func10, Try.ntmps10
    go_wp2_with fail
    refine (inRange_no now _ ht).mono ?_
    rintro e w1 ⟨rfl, rfl⟩
    go_wp2
    go_ret
    rw [hR.out]
    exact ⟨rfl, HS.out, Only.refl _ _⟩
  · have HT := hide ht
    by_cases ho : now < s.now ∨ now = s.ran
    · have hR := hide (show s.runs now = (s, 30) by unfold Srv.runs; rw [if_neg (by rw [ht]; simp), if_pos ho])
      clear ht
      by_cases h1 : s.now ≤ now
      · have h2 : now = s.ran := by omega
        have hb : (now == s.ran) = true := by simp [h2]
        have hd : decide (s.now ≤ now) = true := by simp [h1]
        clear h2 ho
        go_enter Try.func10, Try.ntmps10
        go_wp2_with fail
        refine (inRange_yes now _ HT.out).mono ?_
        rintro e w1 ⟨rfl, rfl⟩
        go_wp2_with fail
        refine (inOrder_ok now _ b g bs s HS.out).mono ?_
        rintro e w1 ⟨rfl, rfl⟩
        go_wp2
        go_ret
        rw [hR.out]
        exact ⟨rfl, HS.out, Only.refl _ _⟩
      · have hd : decide (s.now ≤ now) = false := by simp; omega
        clear ho
        go_enter Try.func10, Try.ntmps10
        go_wp2_with fail
        refine (inRange_yes now _ HT.out).mono ?_
        rintro e w1 ⟨rfl, rfl⟩
        go_wp2_with fail
        refine (inOrder_ok now _ b g bs s HS.out).mono ?_
        rintro e w1 ⟨rfl, rfl⟩
        go_wp2
        go_ret
        rw [hR.out]
        exact ⟨rfl, HS.out, Only.refl _ _⟩
    · have hR := hide (show s.runs now = (s.tell now).tick now by unfold Srv.runs; rw [if_neg (by rw [ht]; simp), if_neg ho])
      have hd : decide (s.now ≤ now) = true := by simp; omega
      have hb : (now == s.ran) = false := by simp; omega
      have hlo : s.now ≤ now := by omega
      have hne : now ≠ s.ran := by omega
      have hhi : now ≤ 1099511627776 := by simp only [inTime, Bool.and_eq_true, decide_eq_true_eq] at ht; omega
      have h0 : 0 ≤ s.now := hI.now0
      have HIT := hide (hI.tells hlo hhi)
      clear ht ho
      go_enter Try.func10, Try.ntmps10
      go_wp2_with fail
      refine (inRange_yes now _ HT.out).mono ?_
      rintro e w1 ⟨rfl, rfl⟩
      go_wp2_with fail
      refine (inOrder_ok now _ b g bs s HS.out).mono ?_
      rintro e w1 ⟨rfl, rfl⟩
      go_wp2_with fail
      refine (tell_ok b g bs s now _ HS.out HI.out hlo hhi).mono ?_
      rintro e w1 ⟨rfl, hs1, ho1⟩
      have hch := hide (tell_chunk HI.out hlo hne)
      have hI1 := HIT.out
      have ht2 := hide (tell_rest s now).2.1
      generalize s.tell now = t at *
      have HS1 := hide hs1
      obtain ⟨fr1, buf1, me1, bufb1, box1, ring1⟩ := hs1
      have d4 := me1.cell (i := 4) rfl
      have d8 := me1.cell (i := 8) rfl
      have d9 := me1.cell (i := 9) rfl
      have d10 := me1.cell (i := 10) rfl
      have d12 := me1.cell (i := 12) rfl
      have e4 := me1.frozen 4
      have e8 := me1.frozen 8
      have e9 := me1.frozen 9
      have e10 := me1.frozen 10
      have e12 := me1.frozen 12
      have hl0 := hI1.left
      have hl1 := hI1.fit.sum
      have hl2 := sumA_nonneg _ hI1.amt
      have hl3 : t.left ≤ 1000000 := by omega
      have HI1 := hide hI1
      have hb1 := box1.ne me1 (by decide)
      have hb2 := bufb1.ne me1 (by decide)
      clear hI1 hl1 hl2 me bufb box ring c12 c13 c14
      by_cases hz : t.left = 0
      · have hz' : (t.left == 0) = true := by simp [hz]
        have hK := hide (show t.tick now = (t, 18) by unfold Srv.tick; rw [if_pos hz])
        clear hz
        go_wp2
        go_ret
        rw [hR.out, hK.out]
        exact ⟨rfl, HS1.out, ho1⟩
      · have hz' : (t.left == 0) = false := by simp [hz]
        have HZ := hide hz
        have hK := hide (tick_eq t now hz)
        have hSp := hide (HI1.out.spends ht2.out hch.out hz)
        have hpos : 1 ≤ t.left := by omega
        clear hz
        cases hrun : t.run
        all_goals
          rw [hrun] at d10
          have Hrun := hide hrun
          clear hrun
          by_cases h1 : t.left ≤ 1
        · go_wp2_with fail
          refine (end_ok b g bs (t.spend now) _ ?_ hSp.out.fit).mono ?_
          · refine ⟨fr1, buf1, ?_, ?_, ?_, ring1⟩
            · apply Blk.to
              next => repeat (first | with_reducible exact me1 | (with_reducible refine Blk.newA ?_; simp; done) | with_reducible apply Blk.drew | with_reducible apply Blk.drewN | with_reducible apply Blk.alloc | with_reducible apply Blk.set | (with_reducible apply Blk.far'; next => (first | assumption | exact Ne.symm ‹_› | (dsimp only; omega))))
              simp [srvCells, Srv.spend, Hrun.out]
            · repeat (first | with_reducible exact bufb1 | (with_reducible refine Blk.newA ?_; simp; done) | with_reducible apply Blk.drew | with_reducible apply Blk.drewN | with_reducible apply Blk.alloc | with_reducible apply Blk.set | (with_reducible apply Blk.far'; next => (first | assumption | exact Ne.symm ‹_› | (dsimp only; omega))))
            · repeat (first | with_reducible exact box1 | (with_reducible refine Blk.newA ?_; simp; done) | with_reducible apply Blk.drew | with_reducible apply Blk.drewN | with_reducible apply Blk.alloc | with_reducible apply Blk.set | (with_reducible apply Blk.far'; next => (first | assumption | exact Ne.symm ‹_› | (dsimp only; omega))))
          rintro e w2 ⟨rfl, hs2, ho2⟩
          go_wp2
          go_ret
          rw [hR.out, hK.out, if_pos (by omega)]
          refine ⟨rfl, hs2, ho1.trans (Only.trans ?_ ho2)⟩
          repeat (first | with_reducible exact Only.refl _ _ | with_reducible apply Only.drew | with_reducible apply Only.drewN | with_reducible apply Only.alloc | (with_reducible apply Only.set'; next => (first | (left; simp; done) | (right; dsimp only; omega) | (right; simp; omega))))
        · go_wp2
          go_ret
          rw [hR.out, hK.out, if_neg (by omega)]
          refine ⟨rfl, ⟨fr1, buf1, ?_, ?_, ?_, ring1⟩, ho1.trans ?_⟩
          · apply Blk.to
            next => repeat (first | with_reducible exact me1 | (with_reducible refine Blk.newA ?_; simp; done) | with_reducible apply Blk.drew | with_reducible apply Blk.drewN | with_reducible apply Blk.alloc | with_reducible apply Blk.set | (with_reducible apply Blk.far'; next => (first | assumption | exact Ne.symm ‹_› | (dsimp only; omega))))
            simp [srvCells, Srv.spend, Hrun.out]
          · repeat (first | with_reducible exact bufb1 | (with_reducible refine Blk.newA ?_; simp; done) | with_reducible apply Blk.drew | with_reducible apply Blk.drewN | with_reducible apply Blk.alloc | with_reducible apply Blk.set | (with_reducible apply Blk.far'; next => (first | assumption | exact Ne.symm ‹_› | (dsimp only; omega))))
          · repeat (first | with_reducible exact box1 | (with_reducible refine Blk.newA ?_; simp; done) | with_reducible apply Blk.drew | with_reducible apply Blk.drewN | with_reducible apply Blk.alloc | with_reducible apply Blk.set | (with_reducible apply Blk.far'; next => (first | assumption | exact Ne.symm ‹_› | (dsimp only; omega))))
          · repeat (first | with_reducible exact Only.refl _ _ | with_reducible apply Only.drew | with_reducible apply Only.drewN | with_reducible apply Only.alloc | (with_reducible apply Only.set'; next => (first | (left; simp; done) | (right; dsimp only; omega) | (right; simp; omega))))
        · go_wp2_with fail
          refine (end_ok b g bs (t.spend now) _ ?_ hSp.out.fit).mono ?_
          · refine ⟨fr1, buf1, ?_, ?_, ?_, ring1⟩
            · apply Blk.to
              next => repeat (first | with_reducible exact me1 | (with_reducible refine Blk.newA ?_; simp; done) | with_reducible apply Blk.drew | with_reducible apply Blk.drewN | with_reducible apply Blk.alloc | with_reducible apply Blk.set | (with_reducible apply Blk.far'; next => (first | assumption | exact Ne.symm ‹_› | (dsimp only; omega))))
              simp [srvCells, Srv.spend, Hrun.out]
            · repeat (first | with_reducible exact bufb1 | (with_reducible refine Blk.newA ?_; simp; done) | with_reducible apply Blk.drew | with_reducible apply Blk.drewN | with_reducible apply Blk.alloc | with_reducible apply Blk.set | (with_reducible apply Blk.far'; next => (first | assumption | exact Ne.symm ‹_› | (dsimp only; omega))))
            · repeat (first | with_reducible exact box1 | (with_reducible refine Blk.newA ?_; simp; done) | with_reducible apply Blk.drew | with_reducible apply Blk.drewN | with_reducible apply Blk.alloc | with_reducible apply Blk.set | (with_reducible apply Blk.far'; next => (first | assumption | exact Ne.symm ‹_› | (dsimp only; omega))))
          rintro e w2 ⟨rfl, hs2, ho2⟩
          go_wp2
          go_ret
          rw [hR.out, hK.out, if_pos (by omega)]
          refine ⟨rfl, hs2, ho1.trans (Only.trans ?_ ho2)⟩
          repeat (first | with_reducible exact Only.refl _ _ | with_reducible apply Only.drew | with_reducible apply Only.drewN | with_reducible apply Only.alloc | (with_reducible apply Only.set'; next => (first | (left; simp; done) | (right; dsimp only; omega) | (right; simp; omega))))
        · go_wp2
          go_ret
          rw [hR.out, hK.out, if_neg (by omega)]
          refine ⟨rfl, ⟨fr1, buf1, ?_, ?_, ?_, ring1⟩, ho1.trans ?_⟩
          · apply Blk.to
            next => repeat (first | with_reducible exact me1 | (with_reducible refine Blk.newA ?_; simp; done) | with_reducible apply Blk.drew | with_reducible apply Blk.drewN | with_reducible apply Blk.alloc | with_reducible apply Blk.set | (with_reducible apply Blk.far'; next => (first | assumption | exact Ne.symm ‹_› | (dsimp only; omega))))
            simp [srvCells, Srv.spend, Hrun.out]
          · repeat (first | with_reducible exact bufb1 | (with_reducible refine Blk.newA ?_; simp; done) | with_reducible apply Blk.drew | with_reducible apply Blk.drewN | with_reducible apply Blk.alloc | with_reducible apply Blk.set | (with_reducible apply Blk.far'; next => (first | assumption | exact Ne.symm ‹_› | (dsimp only; omega))))
          · repeat (first | with_reducible exact box1 | (with_reducible refine Blk.newA ?_; simp; done) | with_reducible apply Blk.drew | with_reducible apply Blk.drewN | with_reducible apply Blk.alloc | with_reducible apply Blk.set | (with_reducible apply Blk.far'; next => (first | assumption | exact Ne.symm ‹_› | (dsimp only; omega))))
          · repeat (first | with_reducible exact Only.refl _ _ | with_reducible apply Only.drew | with_reducible apply Only.drewN | with_reducible apply Only.alloc | (with_reducible apply Only.set'; next => (first | (left; simp; done) | (right; dsimp only; omega) | (right; simp; omega))))

end Go.Proofs.Ytdjkgbkckmjfiaa
