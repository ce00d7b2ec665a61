/- step: both servers do the same. -/
import Derived.Test.YtdjkgbkckmjfiaaRefI
import Derived.Test.YtdjkgbkckmjfiaaKeep
namespace Go.Proofs.Ytdjkgbkckmjfiaa
open Go.RowKit

/-- Both servers are there, in one state; all that they turn lies behind 'base'. -/
structure Both (w : World) (base b g bs rb : Nat) (s : Srv) : Prop where
  srv : SrvIs w b g bs s
  ref : RefIs w base rb s
  inv : s.Inv
  le : base ≤ b ∧ base ≤ g ∧ base ≤ bs ∧ base ≤ rb ∧ base ≤ w.heap.size

section
variable {base b g bs rb : Nat} {s s' : Srv} {w w' : World}
theorem SrvIs.refstep (h : SrvIs w b g bs s) (hr : RefIs w base rb s') (ho : RefStep base rb w w') : SrvIs w' b g bs s := by
  obtain ⟨fr, buf, me, bufb, box, ring⟩ := h
  obtain ⟨v, me', _, _⟩ := hr
  exact ⟨fr, buf, ho.blk me (me.ne me' (by decide)) (by decide), ho.blk bufb (bufb.ne me' (by decide)) (by decide), ho.blk box (box.ne me' (by decide)) (by decide), ring⟩
theorem RefIs.srvstep (h : RefIs w base rb s) (hs : SrvIs w b g bs s') (ho : Only [b, g] w w') : RefIs w' base rb s := by
  obtain ⟨fr, buf, me, bufb, box, ring⟩ := hs
  obtain ⟨v, me', own, ge⟩ := h
  have h1 := me.ne me' (by decide)
  have h2 := bufb.ne me' (by decide)
  refine ⟨v, ho.blk me' (by simp; omega), ownsRow_only own ho fun k hk => ?_, ge⟩
  simp only [List.mem_cons, List.not_mem_nil, or_false, not_or]
  refine ⟨?_, ?_⟩ <;> rintro rfl
  · exact own_ne_blk own me (by decide) hk
  · exact own_ne_blk own bufb (by decide) hk
theorem RefStep.below (h : RefStep base rb w w') (hb : base ≤ rb) (hw : base ≤ w.heap.size) : Below base w w' :=
  ⟨h.os, h.tape, h.output, h.size, fun k hk => h.block k (by omega) (by omega) (.inl hk)⟩
theorem Both.only (h : Both w base b g bs rb s) (ho : Only [] w w') : Both w' base b g bs rb s :=
  ⟨h.srv.only ho (by simp) (by simp) (by simp), h.ref.only ho, h.inv, by have := ho.size; have := h.le; omega⟩
theorem Both.mk2 (h : Both w base b g bs rb s) {w1 : World} (h1 : SrvIs w1 b g bs s') (o1 : Only [b, g] w w1) (h2 : RefIs w' base rb s') (o2 : RefStep base rb w1 w') (hI : s'.Inv) :
    Both w' base b g bs rb s' ∧ Below base w w' := by
  have hr1 := h.ref.srvstep h.srv o1
  obtain ⟨l1, l2, l3, l4, l5⟩ := h.le
  have s1 := o1.size
  have s2 := o2.size
  exact ⟨⟨h1.refstep hr1 o2, h2, hI, by omega⟩, (o1.below (by simp; omega) l5).trans (o2.below l4 (by omega))⟩
end

abbrev ActV (d gap raw normal : Int) : Value := .agg #[.int .u8 d, .int .u8 gap, I64 raw, I64 normal]

def StepPost (w : World) (base b g bs rb : Nat) (e : Ending) (w' : World) : Prop :=
  e = .returned (.bool true) ∧ (∃ s', Both w' base b g bs rb s') ∧ Below base w w'

set_option maxHeartbeats 2000000 in
theorem step_ok (base b g bs rb : Nat) (s : Srv) (d gap raw normal now : Int) (w : World) (h : Both w base b g bs rb s) (hd0 : 0 ≤ d) (hd1 : d ≤ 255) :
    Calls Try.prog 18 #[.pointer (some ⟨b, 0, none⟩), .pointer (some ⟨rb, 0, none⟩), ActV d gap raw normal, I64 now] w (StepPost w base b g bs rb) := by
  have ha : Both (w.alloc (.cells #[.int .u8 d, .int .u8 gap, I64 raw, I64 normal] 53)) base b g bs rb s := h.only ((Only.refl _ _).alloc _)
  have hbx := Blk.new w 53 [.int .u8 d, .int .u8 gap, I64 raw, I64 normal]
  have fin : ∀ w', Below base (w.alloc (.cells #[.int .u8 d, .int .u8 gap, I64 raw, I64 normal] 53)) w' → Below base w w' := fun w' k => ((Below.refl _ _).alloc h.le.2.2.2.2 _).trans k
  have FIN := hide fin
  have hbl := ha.le
  have hslt := h.srv.lt
  have hbx' := hide hbx
  clear fin hbx
  have h0 : 0 ≤ d % 4 := Int.emod_nonneg _ (by omega)
  have h4 : d % 4 < 4 := Int.emod_lt_of_pos _ (by omega)
  by_cases h2 : d % 4 = 2
  · have e2 : (d % 4 == 2) = true := by simp [h2]
    have HA := hide ha
    have b1 := hide (budget_ok b g bs s now _ ha.srv ha.inv)
    have i1 := hide (ha.inv.budgets now)
    clear h2 h h0 h4 ha
    go_enter Try.func18, Try.ntmps18
    go_wp2_with fail
    refine b1.out.mono ?_
    rintro e w1 ⟨rfl, hs1, ho1⟩
    have HS1 := hide hs1
    have HO1 := hide ho1
    have hz1 := ho1.size
    have b2 := hide (rbudget_ok base rb s now w1 (HA.out.ref.srvstep HA.out.srv ho1) HA.out.inv (by omega))
    clear hs1 ho1
    go_wp2_with fail
    refine b2.out.mono ?_
    rintro e w2 ⟨rfl, hs2, ho2⟩
    have HF := hide (HA.out.mk2 HS1.out HO1.out hs2 ho2 i1.out)
    clear hs2 ho2
    go_wp2
    go_ret
    exact ⟨rfl, ⟨_, HF.out.1⟩, FIN.out _ HF.out.2⟩
  by_cases h3 : d % 4 = 3
  · have e2 : (d % 4 == 2) = false := by simp [h3]
    have e3 : (d % 4 == 3) = true := by simp [h3]
    have HA := hide ha
    have b1 := hide (prio_ok b g bs s now normal _ ha.srv ha.inv)
    have i1 := hide (ha.inv.prios now normal)
    clear h2 h3 h h0 h4 ha
    have g3 := hbx'.out.cell (i := 3) rfl
    go_enter Try.func18, Try.ntmps18
    go_wp2_with fail
    refine b1.out.mono ?_
    rintro e w1 ⟨rfl, hs1, ho1⟩
    have HS1 := hide hs1
    have HO1 := hide ho1
    have hz1 := ho1.size
    have g3' : w1.cell? ⟨w.heap.size, 3, none⟩ = some (I64 normal) := by
      have hne : w.heap.size ∉ [b, g] := by simp; omega
      exact ho1.cellA g3 hne
    have b2 := hide (rprio_ok base rb s now normal w1 (HA.out.ref.srvstep HA.out.srv ho1) HA.out.inv (by omega))
    clear hs1 ho1
    go_wp2_with fail
    refine b2.out.mono ?_
    rintro e w2 ⟨rfl, hs2, ho2⟩
    have HF := hide (HA.out.mk2 HS1.out HO1.out hs2 ho2 i1.out)
    clear hs2 ho2
    go_wp2
    go_ret
    exact ⟨rfl, ⟨_, HF.out.1⟩, FIN.out _ HF.out.2⟩
  · have e2 : (d % 4 == 2) = false := by simp [h2]
    have e3 : (d % 4 == 3) = false := by simp [h3]
    have HA := hide ha
    have b1 := hide (run_ok b g bs s now _ ha.srv ha.inv)
    have i1 := hide (ha.inv.runs now)
    clear h2 h3 h h0 h4 ha
    go_enter Try.func18, Try.ntmps18
    go_wp2_with fail
    refine b1.out.mono ?_
    rintro e w1 ⟨rfl, hs1, ho1⟩
    have HS1 := hide hs1
    have HO1 := hide ho1
    have hz1 := ho1.size
    have b2 := hide (rrun_ok base rb s now w1 (HA.out.ref.srvstep HA.out.srv ho1) HA.out.inv (by omega))
    clear hs1 ho1
    go_wp2_with fail
    refine b2.out.mono ?_
    rintro e w2 ⟨rfl, hs2, ho2⟩
    have HF := hide (HA.out.mk2 HS1.out HO1.out hs2 ho2 i1.out)
    clear hs2 ho2
    go_wp2
    go_ret
    exact ⟨rfl, ⟨_, HF.out.1⟩, FIN.out _ HF.out.2⟩

end Go.Proofs.Ytdjkgbkckmjfiaa
