/- The reference's server: tell, Run, Budget, Priority, Next, Replenishments. -/
import Derived.Test.YtdjkgbkckmjfiaaRefB
namespace Go.Proofs.Ytdjkgbkckmjfiaa
open Go.RowKit

theorem RefIs.setNow {w : World} {base rb : Nat} {s : Srv} (h : RefIs w base rb s) (n : Int) : RefIs (w.setCell ⟨rb, 9, none⟩ (I64 n)) base rb { s with now := n } := by
  obtain ⟨v, me, own, ge⟩ := h
  exact ⟨v, me.set 9 _, own_setCell own (own_ne_blk own me (by decide)) _, ge⟩

set_option maxHeartbeats 400000 in
theorem rtell_ok (base rb : Nat) (s : Srv) (now : Int) (w : World) (hs : RefIs w base rb s) (hI : s.Inv) (h0 : s.now ≤ now) (h1 : now ≤ 1099511627776) (hb : base ≤ w.heap.size) :
    Calls Try.prog 34 #[.pointer (some ⟨rb, 0, none⟩), I64 now] w
      fun e w' => e = .returned (.tuple #[]) ∧ RefIs w' base rb (s.tell now) ∧ RefStep base rb w w' := by
  have HS := hide hs
  have HI := hide (hI.at h0 h1)
  have hlb := hI.lastb
  obtain ⟨v, me, own, ge⟩ := hs
  have c9 := me.cell (i := 8) rfl
  have c10 := me.cell (i := 6) rfl
  have c11 := me.cell (i := 9) rfl
  have f11 := me.frozen 9
  have hbs : base ≤ (w.setCell ⟨rb, 9, none⟩ (I64 now)).heap.size := by simpa [World.setCell] using hb
  have hst : RefStep base rb w (w.setCell ⟨rb, 9, none⟩ (I64 now)) := RefStep.of_only ((Only.refl _ _).set (.inl (by simp)) _)
  by_cases hc : s.run = true ∧ s.last + 1 < now
  · have hT := hide (show s.tell now = ((({ s with now := now } : Srv).take (s.last + 1)).endc).take now by unfold Srv.tell; rw [if_pos hc])
    obtain ⟨hr, hl⟩ := hc
    have HR := hide hr
    rw [hr] at c10
    clear hr
    go_enter Try.func34, Try.ntmps34
    go_wp2_with fail
    refine (rtake_ok base rb { s with now := now } (s.last + 1) _ (HS.out.setNow now) HI.out.fit hbs).mono ?_
    rintro e w1 ⟨rfl, hs1, ho1⟩
    go_wp2_with fail
    refine (rend_ok base rb _ _ hs1 (HI.out.takes _).fit (Nat.le_trans hbs ho1.size)).mono ?_
    rintro e w2 ⟨rfl, hs2, ho2⟩
    go_wp2_with fail
    refine (rtake_ok base rb _ now _ hs2 ((HI.out.takes _).ends HR.out).fit (Nat.le_trans hbs (Nat.le_trans ho1.size ho2.size))).mono ?_
    rintro e w3 ⟨rfl, hs3, ho3⟩
    go_wp2
    go_end0
    rw [hT.out]
    exact ⟨rfl, hs3, (hst.trans ho1).trans (ho2.trans ho3)⟩
  · have hT := hide (show s.tell now = ({ s with now := now } : Srv).take now by unfold Srv.tell; rw [if_neg hc])
    cases hr : s.run
    · rw [hr] at c10
      clear hr hc
      go_enter Try.func34, Try.ntmps34
      go_wp2_with fail
      refine (rtake_ok base rb { s with now := now } now _ (HS.out.setNow now) HI.out.fit hbs).mono ?_
      rintro e w1 ⟨rfl, hs1, ho1⟩
      go_wp2
      go_end0
      rw [hT.out]
      exact ⟨rfl, hs1, hst.trans ho1⟩
    · have hl : now ≤ s.last + 1 := by
        rcases Int.lt_or_le (s.last + 1) now with hl | hl
        · exact absurd ⟨hr, hl⟩ hc
        · exact hl
      rw [hr] at c10
      clear hr hc
      go_enter Try.func34, Try.ntmps34
      go_wp2_with fail
      refine (rtake_ok base rb { s with now := now } now _ (HS.out.setNow now) HI.out.fit hbs).mono ?_
      rintro e w1 ⟨rfl, hs1, ho1⟩
      go_wp2
      go_end0
      rw [hT.out]
      exact ⟨rfl, hs1, hst.trans ho1⟩

end Go.Proofs.Ytdjkgbkckmjfiaa
