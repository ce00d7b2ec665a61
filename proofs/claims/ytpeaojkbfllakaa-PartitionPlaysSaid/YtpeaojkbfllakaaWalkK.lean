/- The chapter's example holds. -/
import Derived.Test.YtpeaojkbfllakaaWalkJ
namespace Go.Proofs.Ytpeaojkbfllakaa
open Go.RowKit

def exC : Cfg := ⟨10, 1, [(70, 0), (30, 0)]⟩
def ex0 : Mtr := Mtr.new exC
def ex1 : Mtr := ex0.charged 0 1 false
def ex2 : Mtr := ex1.charged 1 1 false
def ex3 : Mtr := ex2.charged 2 1 false
def ex4 : Mtr := ex3.at_ 3
theorem exC_ok : exC.ok := by
  refine ⟨by decide, by decide, by decide, by decide, by decide, by decide, ?_, by decide⟩
  intro x hx
  simp [exC] at hx
  rcases hx with rfl | rfl <;> decide
theorem ex0_inv : ex0.Inv := Mtr.Inv.new exC_ok
theorem ex1_inv : ex1.Inv := ex0_inv.charged (by decide) (by decide) (by decide) (by decide)
theorem ex2_inv : ex2.Inv := ex1_inv.charged (by decide) (by decide) (by decide) (by decide)
theorem ex3_inv : ex3.Inv := ex2_inv.charged (by decide) (by decide) (by decide) (by decide)
theorem ex4_inv : ex4.Inv := ex3_inv.at_ (by decide) (by decide)
theorem ex_c0 : (ex0.charge 0 1 false) = (ex1, 0) := by
  have h : ex0.err 0 [1] = 0 := by decide
  unfold Mtr.charge; rw [h, if_neg (by simp), if_neg (by decide)]; rfl
theorem ex_c1 : (ex1.charge 1 1 false) = (ex2, 0) := by
  have h : ex1.err 1 [1] = 0 := by decide
  unfold Mtr.charge; rw [h, if_neg (by simp), if_neg (by decide)]; rfl
theorem ex_c2 : (ex2.charge 2 1 false) = (ex3, 0) := by
  have h : ex2.err 2 [1] = 0 := by decide
  unfold Mtr.charge; rw [h, if_neg (by simp), if_neg (by decide)]; rfl
theorem ex_h3 : (ex3.has 3 1) = (ex4, false, 0) := by
  have h : ex3.err 3 [1] = 0 := by decide
  unfold Mtr.has; rw [h, if_neg (by simp)]
  have : decide ((ex3.at_ 3).sumv (Int.toNat 1) false < ex3.cfg.bud (ex3.cfg.share (Int.toNat 1)).1) = false := by decide
  rw [this]; rfl
theorem ex_h4 : (ex4.has 11 1).2 = (true, 0) := by
  have h : ex4.err 11 [1] = 0 := by decide
  unfold Mtr.has; rw [h, if_neg (by simp)]
  have : decide ((ex4.at_ 11).sumv (Int.toNat 1) false < ex4.cfg.bud (ex4.cfg.share (Int.toNat 1)).1) = true := by decide
  rw [this]
theorem ex_chk : chk 10 1 [(70, 0), (30, 0)] = 0 := by
  rw [chk_sum (by omega) (by simp) (by simp) (fun x hx => by simp at hx; rcases hx with rfl | rfl <;> (unfold badP; omega))]
  simp

set_option maxHeartbeats 2000000 in
theorem awake_ok (w : World) : Calls Try.prog 9 #[] w fun e w' => e = .returned (.bool true) ∧ Only [] w w' := by
  have hb := Blk.new w 64 [I64 70, I64 0, I64 30, I64 0]
  have hin : PartsIn (w.alloc (.cells #[I64 70, I64 0, I64 30, I64 0] 64)) (w.heap.size + 1) (some ⟨w.heap.size, 0, none⟩) [(70, 0), (30, 0)] := by
    intro k x hx
    match k, hx with
    | 0, hx => simp at hx; subst hx; exact ⟨_, _, rfl, by omega, hb.cell rfl, hb.cell rfl⟩
    | 1, hx => simp at hx; subst hx; exact ⟨_, _, rfl, by omega, hb.cell rfl, hb.cell rfl⟩
  have hn := hide (new_yes 10 1 _ [(70, 0), (30, 0)] 2 _ (w.heap.size + 1) hin (by simp) (by simp) ex_chk)
  have HO := hide ((Only.refl [] w).alloc (.cells #[I64 70, I64 0, I64 30, I64 0] 64))
  clear hb hin
  go_enter Try.func9, Try.ntmps9
  go_wp2_with fail
  refine hn.out.mono ?_
  rintro e w1 ⟨b, pb, rfl, hm1, hbb, hpb, ho1⟩
  have hm1 : MtrIs w1 b pb ex0 := hm1
  have hge : w.heap.size ≤ b := by simp at hbb; omega
  have k1 := hide (charge_ok b pb ex0 0 1 false w1 hm1 ex0_inv)
  rw [ex_c0] at k1
  have HO1 := hide (HO.out.trans ho1)
  clear ho1 hm1
  go_wp2_with fail
  refine k1.out.mono ?_
  rintro e w2 ⟨rfl, hm2, ho2⟩
  have k2 := hide (charge_ok b pb ex1 1 1 false w2 hm2 ex1_inv)
  rw [ex_c1] at k2
  have HO2 := hide (HO1.out.trans' ho2 (by simp; omega))
  clear ho2 hm2
  go_wp2_with fail
  refine k2.out.mono ?_
  rintro e w3 ⟨rfl, hm3, ho3⟩
  have k3 := hide (charge_ok b pb ex2 2 1 false w3 hm3 ex2_inv)
  rw [ex_c2] at k3
  have HO3 := hide (HO2.out.trans' ho3 (by simp; omega))
  clear ho3 hm3
  go_wp2_with fail
  refine k3.out.mono ?_
  rintro e w4 ⟨rfl, hm4, ho4⟩
  have k4 := hide (has_ok b pb ex3 3 1 w4 hm4 ex3_inv)
  rw [ex_h3] at k4
  have HO4 := hide (HO3.out.trans' ho4 (by simp; omega))
  clear ho4 hm4
  go_wp2_with fail
  refine k4.out.mono ?_
  rintro e w5 ⟨rfl, hm5, ho5⟩
  have k5 := hide (has_ok b pb ex4 11 1 w5 hm5 ex4_inv)
  rw [ex_h4] at k5
  have HO5 := hide (HO4.out.trans' ho5 (by simp; omega))
  clear ho5 hm5
  go_wp2_with fail
  refine k5.out.mono ?_
  rintro e w6 ⟨rfl, hm6, ho6⟩
  have HO6 := hide (HO5.out.trans' ho6 (by simp; omega))
  clear ho6 hm6
  go_wp2
  go_ret
  exact ⟨rfl, HO6.out⟩

end Go.Proofs.Ytpeaojkbfllakaa
