/- The examples hold. -/
import Derived.Test.YtacnmlifmjflfaaWalkG
namespace Go.Proofs.Ytacnmlifmjflfaa
open Go.RowKit

theorem ArmedS.out {base q b m : Nat} {r : (Int × Int × Int) × Tab} {w w' : World} {e : Ending} (h : ArmedS base q b m r w e w') : e = .returned (.tuple #[I64 r.1.1, I64 r.1.2.1, I64 r.1.2.2]) ∧ TabIs base q b m r.2 w' ∧ OnlyT tabTs base w w' := h

/-- The armed notification of a chapter's example. -/
def exA (o c : Int) (k : Bool) : Armd := ⟨o, c, 0, 0, 0, 0, 0, k, 0⟩
def exT (o c : Int) (k : Bool) : Tab := ⟨0, fun _ => 0, [⟨o, c, 0, 0, 0, 0, 0, k, 1⟩], [], 1⟩

theorem arm_ex (o c : Int) (k : Bool) (ho : numb o = true) (h1 : 1 ≤ c) (h2 : c ≤ 15) : Tab.new.arm (exA o c k) = ((1, 0, 0), exT o c k) := by
  have e : Tab.armErr (exA o c k) = 0 := by
    unfold Tab.armErr exA
    rw [if_neg (by simp [ho]), if_neg (by simp; omega), if_neg (by simp)]
  have eb : band (Tab.new.pres (exA o c k).obj) (exA o c k).cond = 0 := by
    show bits .and .i64 0 c = 0
    have : c = 1 ∨ c = 2 ∨ c = 3 ∨ c = 4 ∨ c = 5 ∨ c = 6 ∨ c = 7 ∨ c = 8 ∨ c = 9 ∨ c = 10 ∨ c = 11 ∨ c = 12 ∨ c = 13 ∨ c = 14 ∨ c = 15 := by omega
    rcases this with rfl | rfl | rfl | rfl | rfl | rfl | rfl | rfl | rfl | rfl | rfl | rfl | rfl | rfl | rfl <;> decide
  unfold Tab.arm
  rw [e, eb, if_neg (by simp), if_neg (by simp), if_neg (by simp [Tab.new])]
  rfl

theorem upd_ex : (exT 3 1 false).upd 3 5 = (([⟨1, 1, 0, 0, 0, 0, 0⟩], [], 0), { exT 3 1 false with pres := presU (fun _ => 0) 3 5, arms := [] }) := by rfl

set_option maxRecDepth 100000 in
set_option maxHeartbeats 4000000 in
theorem awake_ok (w : World) : Calls Try.prog 9 #[] w fun e w' => e = .returned (.bool true) ∧ Only [] w w' := by
  have hbt : ∀ W : World, (Instr.build 32 #[(0, I64 3), (1, I64 1)]).run Try.prog W = .ok (armV (exA 3 1 false)) W := fun _ => by kernel_rfl
  go_enter Try.func9, Try.ntmps9
  go_wp2_with fail
  refine (New_ok w.heap.size w (Nat.le_refl _)).mono ?_
  rintro e w1 ⟨rfl, k1, k2⟩
  go_wp2_with fail
  refine (Arm_ok w.heap.size (w.heap.size + 1) w.heap.size 0 Tab.new (exA 3 1 false) w1 k1 k2.size (wf64_of (by decide) (by decide)) (by decide) (by decide) (by decide)).mono ?_
  rw [arm_ex 3 1 false rfl (by decide) (by decide)]
  rintro e w2 ⟨rfl, k3, k4⟩
  clear hbt
  go_wp2_with fail
  refine (Update_ok w.heap.size (w.heap.size + 1) w.heap.size 0 _ 3 5 w2 k3 ⟨by decide, by decide, by simp [exT]⟩ (Nat.le_trans k2.size k4.size) (wf64_of (by decide) (by decide)) (wf64_of (by decide) (by decide)) (by decide)).mono ?_
  rw [upd_ex]
  rintro e w3 ⟨vf, vw, rfl, k5, k6, k7, k8⟩
  have HO : Hid (Only [] w w3) := hide (k8.only (k4.only k2 (Nat.le_refl _)) (Nat.le_refl _) (Nat.le_refl _))
  clear k1 k2 k3 k4 k5 k7 k8
  have k6' : w3.ownsRow w.heap.size 73 7 vf 1 [I64 1, I64 1, I64 0, I64 0, I64 0, I64 0, I64 0] := k6
  rcases k6'.2 with ⟨-, h0⟩ | ⟨g, cp, cur, rfl, -, hh, -⟩
  · omega
  obtain ⟨-, -, -, rest, hB, -⟩ := blk_of_row k6'
  have f0 := hB.cell (i := 0) rfl
  have f1 := hB.cell (i := 1) rfl
  have f2 := hB.cell (i := 2) rfl
  have f3 := hB.cell (i := 3) rfl
  have f4 := hB.cell (i := 4) rfl
  have f5 := hB.cell (i := 5) rfl
  have f6 := hB.cell (i := 6) rfl
  have hbf : ∀ W : World, (Instr.build 73 #[(0, I64 1), (1, I64 1)]).run Try.prog W = .ok (.agg #[I64 1, I64 1, I64 0, I64 0, I64 0, I64 0, I64 0]) W := fun _ => by kernel_rfl
  clear k6 k6' hh hB
  dsimp only [List.length_singleton]
  go_wp2
  go_ret
  exact ⟨rfl, HO.out⟩

end Go.Proofs.Ytacnmlifmjflfaa
