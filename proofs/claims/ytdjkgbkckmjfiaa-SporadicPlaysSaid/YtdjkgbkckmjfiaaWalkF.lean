/- The program's sporadic server: Budget, Next; the examples of the chapter. -/
import Derived.Test.YtdjkgbkckmjfiaaWalkE
namespace Go.Proofs.Ytdjkgbkckmjfiaa
open Go.RowKit

set_option maxHeartbeats 1000000 in
theorem budget_ok (b g bs : Nat) (s : Srv) (now : Int) (w : World) (hs : SrvIs w b g bs s) (hI : s.Inv) :
    Calls Try.prog 11 #[.pointer (some ⟨b, 0, none⟩), I64 now] w
      fun e w' => e = .returned (.tuple #[I64 (s.budget now).2.1, I64 (s.budget now).2.2]) ∧ SrvIs w' b g bs (s.budget now).1 ∧ Only [b, g] w w' := by
  have HS := hide hs
  have HI := hide hI
  obtain ⟨fr, buf, me, bufb, box, ring⟩ := hs
  have c13 := me.cell (i := 13) rfl
  have c14 := me.cell (i := 14) rfl
  cases ht : inTime now
  · have hR := hide (show s.budget now = (s, 0, 34) by unfold Srv.budget; rw [if_pos ht])
    go_enter Try.func11, Try.ntmps11
    go_wp2_with fail
    refine (inRange_no now _ ht).mono ?_
    rintro e w1 ⟨rfl, rfl⟩
    go_wp2
    go_ret2
    rw [hR.out]
    exact ⟨rfl, HS.out, Only.refl _ _⟩
  · have HT := hide ht
    by_cases ho : now < s.now
    · have hR := hide (show s.budget now = (s, 0, 30) by unfold Srv.budget; rw [if_neg (by rw [ht]; simp), if_pos ho])
      have hd : decide (s.now ≤ now) = false := by simp; omega
      clear ho ht
      go_enter Try.func11, Try.ntmps11
      go_wp2_with fail
      refine (inRange_yes now _ HT.out).mono ?_
      rintro e w1 ⟨rfl, rfl⟩
      go_wp2_with fail
      refine (inOrder_ok now _ b g bs s HS.out).mono ?_
      rintro e w1 ⟨rfl, rfl⟩
      go_wp2
      go_ret2
      rw [hR.out]
      exact ⟨rfl, HS.out, Only.refl _ _⟩
    · have hR := hide (show s.budget now = (s.tell now, (s.tell now).left, 0) by unfold Srv.budget; rw [if_neg (by rw [ht]; simp), if_neg ho])
      have hd : decide (s.now ≤ now) = true := by simp; omega
      have hlo : s.now ≤ now := by omega
      have hhi : now ≤ 1099511627776 := by simp only [inTime, Bool.and_eq_true, decide_eq_true_eq] at ht; omega
      clear ht ho
      go_enter Try.func11, Try.ntmps11
      go_wp2_with fail
      refine (inRange_yes now _ HT.out).mono ?_
      rintro e w1 ⟨rfl, rfl⟩
      go_wp2_with fail
      refine (inOrder_ok now _ b g bs s HS.out).mono ?_
      rintro e w1 ⟨rfl, rfl⟩
      go_wp2_with fail
      refine (tell_ok b g bs s now _ HS.out HI.out hlo hhi).mono ?_
      rintro e w1 ⟨rfl, hs1, ho1⟩
      have d4 := hs1.left.1
      go_wp2
      go_ret2
      rw [hR.out]
      exact ⟨rfl, hs1, ho1⟩

def Srv.next (s : Srv) : Int × Bool := match s.list with | [] => (0, false) | x :: _ => (x.1, true)

theorem next_ok (b g bs : Nat) (s : Srv) (w : World) (hs : SrvIs w b g bs s) (hI : s.Inv) :
    Calls Try.prog 21 #[.pointer (some ⟨b, 0, none⟩)] w
      fun e w' => e = .returned (.tuple #[I64 s.next.1, .bool s.next.2]) ∧ ∃ n, w' = w.drewN n := by
  obtain ⟨fr, buf, me, bufb, box, ring⟩ := hs
  have c5 := me.cell (i := 5) rfl
  have c6 := me.cell (i := 6) rfl
  have c7 := me.cell (i := 7) rfl
  have hfr := ring.from_
  have hN := hI.prm.2.2.2.2.2.1
  rcases hl : s.list with _ | ⟨x, l⟩
  · have hn := hide (show s.next = (0, false) by unfold Srv.next; rw [hl])
    rw [hl] at c7
    clear hl
    go_enter Try.func21, Try.ntmps21
    go_wp2
    go_ret2
    rw [hn.out]
    exact ⟨rfl, 0, rfl⟩
  · have hn := hide (show s.next = (x.1, true) by unfold Srv.next; rw [hl])
    have hx := ring.at_ 0 (by rw [hl]; simp)
    rw [hl] at hx c7
    simp only [Nat.add_zero, List.getElem?_cons_zero] at hx
    simp only [List.length_cons] at c7
    have g0 := bufb.cell (bufCells_at buf _ x hx).1
    have hz : (((l.length + 1 : Nat) : Int) == 0) = false := by simp; omega
    clear hl hx
    go_enter Try.func21, Try.ntmps21
    go_wp2_with fail
    refine (at_ok b 5 g s.p.N fr 0 _ c5 c6 hfr (by omega) (by omega) hN).mono ?_
    rintro e w1 ⟨rfl, n1, rfl⟩
    go_wp2
    go_ret2
    rw [hn.out]
    exact ⟨rfl, n1, rfl⟩

end Go.Proofs.Ytdjkgbkckmjfiaa
