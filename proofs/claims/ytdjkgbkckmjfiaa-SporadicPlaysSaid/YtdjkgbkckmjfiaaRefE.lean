/- The reference's server: Budget, Priority, Next. -/
import Derived.Test.YtdjkgbkckmjfiaaRefD
import Derived.Test.YtdjkgbkckmjfiaaWalkG
namespace Go.Proofs.Ytdjkgbkckmjfiaa
open Go.RowKit

set_option maxHeartbeats 1000000 in
theorem rbudget_ok (base rb : Nat) (s : Srv) (now : Int) (w : World) (hs : RefIs w base rb s) (hI : s.Inv) (hbase : base ≤ w.heap.size) :
    Calls Try.prog 29 #[.pointer (some ⟨rb, 0, none⟩), I64 now] w
      fun e w' => e = .returned (.tuple #[I64 (s.budget now).2.1, I64 (s.budget now).2.2]) ∧ RefIs w' base rb (s.budget now).1 ∧ RefStep base rb w w' := by
  have HS := hide hs
  have HI := hide hI
  obtain ⟨v, me, own, ge⟩ := hs
  have c9 := me.cell (i := 9) rfl
  cases ht : inTime now
  · have hR := hide (show s.budget now = (s, 0, 34) by unfold Srv.budget; rw [if_pos ht])
    rcases inTime_no ht with h0 | h0
    all_goals
      clear ht
      go_enter Try.func29, Try.ntmps29
      go_wp2
      go_ret2
      rw [hR.out]
      exact ⟨rfl, HS.out, RefStep.refl _⟩
  · obtain ⟨hlo0, hhi⟩ := inTime_yes ht
    by_cases ho : now < s.now
    · have hR := hide (show s.budget now = (s, 0, 30) by unfold Srv.budget; rw [if_neg (by rw [ht]; simp), if_pos ho])
      have hd : decide (now < s.now) = true := by simp [ho]
      clear ho ht
      go_enter Try.func29, Try.ntmps29
      go_wp2
      go_ret2
      rw [hR.out]
      exact ⟨rfl, HS.out, RefStep.refl _⟩
    · have hR := hide (show s.budget now = (s.tell now, (s.tell now).left, 0) by unfold Srv.budget; rw [if_neg (by rw [ht]; simp), if_neg ho])
      have hd : decide (now < s.now) = false := by simp; omega
      have hlo : s.now ≤ now := by omega
      clear ht ho
      go_enter Try.func29, Try.ntmps29
      go_wp2_with fail
      refine (rtell_ok base rb s now _ HS.out HI.out hlo hhi hbase).mono ?_
      rintro e w1 ⟨rfl, hs1, ho1⟩
      have HS1 := hide hs1
      obtain ⟨v1, me1, own1, ge1⟩ := hs1
      have d4 := me1.cell (i := 4) rfl
      go_wp2
      go_ret2
      rw [hR.out]
      exact ⟨rfl, HS1.out, ho1⟩

set_option maxHeartbeats 1000000 in
theorem rprio_ok (base rb : Nat) (s : Srv) (now normal : Int) (w : World) (hs : RefIs w base rb s) (hI : s.Inv) (hbase : base ≤ w.heap.size) :
    Calls Try.prog 30 #[.pointer (some ⟨rb, 0, none⟩), I64 now, I64 normal] w
      fun e w' => e = .returned (.tuple #[I64 (s.prio now normal).2.1, I64 (s.prio now normal).2.2]) ∧ RefIs w' base rb (s.prio now normal).1 ∧ RefStep base rb w w' := by
  have HS := hide hs
  have HI := hide hI
  by_cases hn0 : normal < 0
  · have hR := hide (show s.prio now normal = (s, 0, 34) by unfold Srv.prio; rw [if_pos (.inr (.inl hn0))])
    go_enter Try.func30, Try.ntmps30
    go_wp2
    go_ret2
    rw [hR.out]
    exact ⟨rfl, HS.out, RefStep.refl _⟩
  by_cases hn1 : 255 < normal
  · have hR := hide (show s.prio now normal = (s, 0, 34) by unfold Srv.prio; rw [if_pos (.inr (.inr hn1))])
    go_enter Try.func30, Try.ntmps30
    go_wp2
    go_ret2
    rw [hR.out]
    exact ⟨rfl, HS.out, RefStep.refl _⟩
  have hbud := hide (rbudget_ok base rb s now w hs hI hbase)
  cases ht : inTime now
  · have hR := hide (show s.prio now normal = (s, 0, 34) by unfold Srv.prio; rw [if_pos (.inl ht)])
    have hB : s.budget now = (s, 0, 34) := by unfold Srv.budget; rw [if_pos ht]
    rw [hB] at hbud
    clear hB ht
    go_enter Try.func30, Try.ntmps30
    go_wp2_with fail
    refine hbud.out.mono ?_
    rintro e w1 ⟨rfl, hs1, ho1⟩
    go_wp2
    go_ret2
    rw [hR.out]
    exact ⟨rfl, hs1, ho1⟩
  · have hno : ¬ (inTime now = false ∨ normal < 0 ∨ 255 < normal) := by rw [ht]; simp; omega
    by_cases ho : now < s.now
    · have hR := hide (show s.prio now normal = (s, 0, 30) by unfold Srv.prio; rw [if_neg hno, if_pos ho])
      have hB : s.budget now = (s, 0, 30) := by unfold Srv.budget; rw [if_neg (by rw [ht]; simp), if_pos ho]
      rw [hB] at hbud
      clear hB ht hno ho
      go_enter Try.func30, Try.ntmps30
      go_wp2_with fail
      refine hbud.out.mono ?_
      rintro e w1 ⟨rfl, hs1, ho1⟩
      go_wp2
      go_ret2
      rw [hR.out]
      exact ⟨rfl, hs1, ho1⟩
    · obtain ⟨hlo0, hhi⟩ := inTime_yes ht
      have hlo : s.now ≤ now := by omega
      have hR := hide (show s.prio now normal = (s.tell now, (if 0 < (s.tell now).left then normal else if s.p.L < normal then s.p.L else normal), 0) by unfold Srv.prio; rw [if_neg hno, if_neg ho])
      have hB : s.budget now = (s.tell now, (s.tell now).left, 0) := by unfold Srv.budget; rw [if_neg (by rw [ht]; simp), if_neg ho]
      have HP := hide (tell_rest s now).1
      have hl0 := (HI.out.tells hlo hhi).left
      rw [hB] at hbud
      clear hB ht hno ho
      go_enter Try.func30, Try.ntmps30
      go_wp2_with fail
      refine hbud.out.mono ?_
      rintro e w1 ⟨rfl, hs1, ho1⟩
      try dsimp only at hs1
      have HS1 := hide hs1
      obtain ⟨v1, me1, own1, ge1⟩ := hs1
      have d3 := me1.cell (i := 3) rfl
      rw [HP.out] at d3
      clear hbud me1 own1
      by_cases hl : 0 < (s.tell now).left
      · have hE := hide (show (if 0 < (s.tell now).left then normal else if s.p.L < normal then s.p.L else normal) = normal from if_pos hl)
        have hz : ((s.tell now).left == 0) = false := by simp; omega
        go_wp2
        go_ret2
        rw [hR.out, hE.out]
        exact ⟨rfl, HS1.out, ho1⟩
      · have hz : ((s.tell now).left == 0) = true := by simp; omega
        by_cases hm : s.p.L < normal
        · have hE := hide (show (if 0 < (s.tell now).left then normal else if s.p.L < normal then s.p.L else normal) = s.p.L by rw [if_neg hl, if_pos hm])
          have hm' : decide (s.p.L < normal) = true := by simp [hm]
          go_wp2
          go_ret2
          rw [hR.out, hE.out]
          exact ⟨rfl, HS1.out, ho1⟩
        · have hE := hide (show (if 0 < (s.tell now).left then normal else if s.p.L < normal then s.p.L else normal) = normal by rw [if_neg hl, if_neg hm])
          have hm' : decide (s.p.L < normal) = false := by simp; omega
          go_wp2
          go_ret2
          rw [hR.out, hE.out]
          exact ⟨rfl, HS1.out, ho1⟩


end Go.Proofs.Ytdjkgbkckmjfiaa
