/- The program's sporadic server: Priority; what a nil server answers. -/
import Derived.Test.YtdjkgbkckmjfiaaWalkF
namespace Go.Proofs.Ytdjkgbkckmjfiaa
open Go.RowKit

set_option maxHeartbeats 1000000 in
theorem prio_ok (b g bs : Nat) (s : Srv) (now normal : Int) (w : World) (hs : SrvIs w b g bs s) (hI : s.Inv) :
    Calls Try.prog 13 #[.pointer (some ⟨b, 0, none⟩), I64 now, I64 normal] w
      fun e w' => e = .returned (.tuple #[I64 (s.prio now normal).2.1, I64 (s.prio now normal).2.2]) ∧ SrvIs w' b g bs (s.prio now normal).1 ∧ Only [b, g] w w' := by
  have HS := hide hs
  have HI := hide hI
  obtain ⟨fr, buf, me, bufb, box, ring⟩ := hs
  have c13 := me.cell (i := 13) rfl
  have c14 := me.cell (i := 14) rfl
  cases ht : inTime now
  · have hR := hide (show s.prio now normal = (s, 0, 34) by unfold Srv.prio; rw [if_pos (.inl ht)])
    go_enter Try.func13, Try.ntmps13
    go_wp2_with fail
    refine (inRange_no now _ ht).mono ?_
    rintro e w1 ⟨rfl, rfl⟩
    go_wp2
    go_ret2
    rw [hR.out]
    exact ⟨rfl, HS.out, Only.refl _ _⟩
  · have HT := hide ht
    by_cases hn0 : normal < 0
    · have hR := hide (show s.prio now normal = (s, 0, 34) by unfold Srv.prio; rw [if_pos (.inr (.inl hn0))])
      go_enter Try.func13, Try.ntmps13
      clear ht
      go_wp2_with fail
      refine (inRange_yes now _ HT.out).mono ?_
      rintro e w1 ⟨rfl, rfl⟩
      go_wp2
      go_ret2
      rw [hR.out]
      exact ⟨rfl, HS.out, Only.refl _ _⟩
    by_cases hn1 : 255 < normal
    · have hR := hide (show s.prio now normal = (s, 0, 34) by unfold Srv.prio; rw [if_pos (.inr (.inr hn1))])
      go_enter Try.func13, Try.ntmps13
      clear ht
      go_wp2_with fail
      refine (inRange_yes now _ HT.out).mono ?_
      rintro e w1 ⟨rfl, rfl⟩
      go_wp2
      go_ret2
      rw [hR.out]
      exact ⟨rfl, HS.out, Only.refl _ _⟩
    have hno : ¬ (inTime now = false ∨ normal < 0 ∨ 255 < normal) := by rw [ht]; simp; omega
    by_cases ho : now < s.now
    · have hR := hide (show s.prio now normal = (s, 0, 30) by unfold Srv.prio; rw [if_neg hno, if_pos ho])
      have hd : decide (s.now ≤ now) = false := by simp; omega
      clear ho ht hno
      go_enter Try.func13, Try.ntmps13
      go_wp2_with fail
      refine (inRange_yes now _ HT.out).mono ?_
      rintro e w1 ⟨rfl, rfl⟩
      go_wp2_with fail
      refine (inOrder_ok now _ b g bs s HS.out).mono ?_
      rintro e w1 ⟨rfl, rfl⟩
      go_wp2
      go_ret2
      rw [hR.out]
      exact ⟨rfl, HS.out, Only.refl _ _⟩
    · have hR := hide (show s.prio now normal = (s.tell now, (if 0 < (s.tell now).left then normal else if s.p.L < normal then s.p.L else normal), 0) by unfold Srv.prio; rw [if_neg hno, if_neg ho])
      have hd : decide (s.now ≤ now) = true := by simp; omega
      have hlo : s.now ≤ now := by omega
      have hhi : now ≤ 1099511627776 := by simp only [inTime, Bool.and_eq_true, decide_eq_true_eq] at ht; omega
      have HP := hide (tell_rest s now).1
      clear ht ho hno
      go_enter Try.func13, Try.ntmps13
      go_wp2_with fail
      refine (inRange_yes now _ HT.out).mono ?_
      rintro e w1 ⟨rfl, rfl⟩
      go_wp2_with fail
      refine (inOrder_ok now _ b g bs s HS.out).mono ?_
      rintro e w1 ⟨rfl, rfl⟩
      go_wp2_with fail
      refine (tell_ok b g bs s now _ HS.out HI.out hlo hhi).mono ?_
      rintro e w1 ⟨rfl, hs1, ho1⟩
      have d4 := hs1.left.1
      have HS1 := hide hs1
      obtain ⟨fr1, buf1, me1, bufb1, box1, ring1⟩ := hs1
      have d3 := me1.cell (i := 3) rfl
      rw [HP.out] at d3
      have hp : 0 ≤ s.p.L ∧ s.p.L ≤ 255 := HI.out.prm.2.2.2.2.2.2
      have hl0 := (HI.out.tells hlo hhi).left
      clear me1 bufb1 box1 ring1 me bufb box ring
      by_cases hl : 0 < (s.tell now).left
      · have hE := hide (show (if 0 < (s.tell now).left then normal else if s.p.L < normal then s.p.L else normal) = normal from if_pos hl)
        go_wp2
        go_ret2
        rw [hR.out, hE.out]
        exact ⟨rfl, HS1.out, ho1⟩
      · by_cases hm : s.p.L < normal
        · have hE := hide (show (if 0 < (s.tell now).left then normal else if s.p.L < normal then s.p.L else normal) = s.p.L by rw [if_neg hl, if_pos hm])
          go_wp2
          go_ret2
          rw [hR.out, hE.out]
          exact ⟨rfl, HS1.out, ho1⟩
        · have hE := hide (show (if 0 < (s.tell now).left then normal else if s.p.L < normal then s.p.L else normal) = normal by rw [if_neg hl, if_neg hm])
          go_wp2
          · go_ret2
            rw [hR.out, hE.out]
            exact ⟨rfl, HS1.out, ho1⟩
          · have he : s.p.L = normal := by omega
            rw [he]
            go_ret2
            rw [hR.out, hE.out]
            exact ⟨rfl, HS1.out, ho1⟩

theorem run_nil (now : Int) (w : World) : Calls Try.prog 10 #[.pointer none, I64 now] w fun e w' => e = .returned (I64 35) ∧ w = w' := by
  go_enter Try.func10, Try.ntmps10
  go_wp2
  go_ret
  exact ⟨rfl, rfl⟩
theorem budget_nil (now : Int) (w : World) : Calls Try.prog 11 #[.pointer none, I64 now] w fun e w' => e = .returned (.tuple #[I64 0, I64 35]) ∧ w = w' := by
  go_enter Try.func11, Try.ntmps11
  go_wp2
  go_ret2
  exact ⟨rfl, rfl⟩
theorem prio_nil (now normal : Int) (w : World) : Calls Try.prog 13 #[.pointer none, I64 now, I64 normal] w fun e w' => e = .returned (.tuple #[I64 0, I64 35]) ∧ w = w' := by
  go_enter Try.func13, Try.ntmps13
  go_wp2
  go_ret2
  exact ⟨rfl, rfl⟩
theorem next_nil (w : World) : Calls Try.prog 21 #[.pointer none] w fun e w' => e = .returned (.tuple #[I64 0, .bool false]) ∧ w = w' := by
  go_enter Try.func21, Try.ntmps21
  go_wp2
  go_ret2
  exact ⟨rfl, rfl⟩
theorem reps_nil (w : World) : Calls Try.prog 12 #[.pointer none] w fun e w' => e = .returned (.slice none 0 0) ∧ w = w' := by
  go_enter Try.func12, Try.ntmps12
  go_wp2
  go_ret
  exact ⟨rfl, rfl⟩

end Go.Proofs.Ytdjkgbkckmjfiaa
