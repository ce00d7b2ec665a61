/- NotifyOnce answers true. -/
import Derived.Test.YtacnmlifmjflfaaWalkH
import Derived.Test.YtacnmlifmjflfaaReads
namespace Go.Proofs.Ytacnmlifmjflfaa
open Go.RowKit

/-- The bit of Output. -/
def rb (c : Int) : Bool := decide (bits .and .u8 c 2 ≠ 0)
def riseB (c p : Int) : Bool := rb c && !rb p

theorem bits16 : ((List.range 16).all fun c => (List.range 16).all fun p => decide (bits .and .i64 2 (bits .andNot .i64 c p) ≠ 0) == riseB c p) = true := by kernel_rfl
theorem rise_bits {c p : Int} (c0 : 0 ≤ c) (c1 : c ≤ 15) (p0 : 0 ≤ p) (p1 : p ≤ 15) : decide (band 2 (bandn c p) ≠ 0) = riseB c p := by
  have h := bits16
  rw [List.all_eq_true] at h
  have h1 := h c.toNat (by simp; omega)
  rw [List.all_eq_true] at h1
  have h2 := h1 p.toNat (by simp; omega)
  rw [Int.toNat_of_nonneg c0, Int.toNat_of_nonneg p0] at h2
  exact eq_of_beq h2

def onA (keep : Bool) : Armd := ⟨5, 2, 0, 0, 0, 0, 0, keep, 1⟩
/-- The table behind r rises. -/
def onT (keep : Bool) (pres : Int → Int) (r : Nat) : Tab := ⟨0, pres, if keep = true ∨ r = 0 then [onA keep] else [], [], 1⟩
def firedN (keep : Bool) (r : Nat) : Nat := if keep = true then r else min r 1
def nextR (c p : Int) (r : Nat) : Nat := if riseB c p = true then r + 1 else r

theorem onA_keep (keep : Bool) : (onA keep).keep = keep := rfl
theorem on_new (keep : Bool) : exT 5 2 keep = onT keep (fun _ => 0) 0 := by
  unfold exT onT
  rw [if_pos (.inr rfl)]
  rfl

theorem updErr_on {c : Int} (c0 : 0 ≤ c) (c1 : c ≤ 15) : Tab.updErr 5 c = 0 := by
  unfold Tab.updErr
  rw [if_neg (by decide), if_neg (by omega)]

theorem on_upd (keep : Bool) (pres : Int → Int) (r : Nat) {c : Int} (c0 : 0 ≤ c) (c1 : c ≤ 15) (p0 : 0 ≤ pres 5) (p1 : pres 5 ≤ 15) :
    ∃ fs, (onT keep pres r).upd 5 c = ((fs, [], 0), onT keep (presU pres 5 c) (nextR c (pres 5) r)) ∧ firedN keep r + fs.length = firedN keep (nextR c (pres 5) r) := by
  have hb := rise_bits c0 c1 p0 p1
  have hh : hit 5 (bandn c (pres 5)) (onA keep) = riseB c (pres 5) := by
    unfold hit
    rw [show (onA keep).obj = 5 from rfl, show (onA keep).cond = 2 from rfl, hb]
    simp
  have hw : (onT keep pres r).updW 5 c = ([], ([], [])) := rfl
  have hu : (onT keep pres r).upd 5 c = ((((onT keep pres r).updA 5 c).2.1, [], 0), { onT keep pres r with pres := presU pres 5 c, arms := ((onT keep pres r).updA 5 c).1, wts := [] }) := by
    unfold Tab.upd
    rw [updErr_on c0 c1, if_neg (by simp), hw]
    rfl
  have hA : (onT keep pres r).updA 5 c = takeS (fun _ x => goes 5 (bandn c (pres 5)) x) (firedS 5 (bandn c (pres 5))) [] (onT keep pres r).arms := rfl
  refine ⟨((onT keep pres r).updA 5 c).2.1, ?_, ?_⟩
  · rw [hu]
    refine Prod.ext rfl ?_
    show Tab.mk 0 (presU pres 5 c) ((onT keep pres r).updA 5 c).1 [] 1 = Tab.mk 0 (presU pres 5 c) (if keep = true ∨ nextR c (pres 5) r = 0 then [onA keep] else []) [] 1
    congr 1
    rw [hA]
    unfold onT nextR
    by_cases hk : keep = true ∨ r = 0
    · simp only [if_pos hk]
      cases hr : riseB c (pres 5)
      · rw [if_pos (by simpa using hk)]
        simp [takeS, keepS, goes, hh, hr, onA_keep]
      · cases keep
        · rw [if_neg (by simp)]
          simp [takeS, keepS, goes, hh, hr, onA_keep]
        · rw [if_pos (.inl rfl)]
          simp [takeS, keepS, goes, hh, hr, onA_keep]
    · simp only [if_neg hk]
      rw [if_neg (by
        rintro (h | h)
        · exact hk (.inl h)
        · split at h <;> first | omega | exact hk (.inr h))]
      rfl
  · rw [hA]
    unfold onT nextR firedN
    by_cases hk : keep = true ∨ r = 0
    · simp only [if_pos hk]
      cases hr : riseB c (pres 5)
      · simp [takeS, keepS, firedS, goes, hh, hr, onA_keep]
      · cases keep
        · obtain rfl : r = 0 := by simpa using hk
          simp [takeS, keepS, firedS, goes, hh, hr, onA_keep]
        · simp [takeS, keepS, firedS, goes, hh, hr, onA_keep]
    · simp only [if_neg hk]
      have h1 : keep = false := by simpa using fun h => hk (.inl h)
      have h2 : r ≠ 0 := fun h => hk (.inr h)
      subst h1
      simp [takeS, keepS]
      split <;> omega

set_option maxRecDepth 100000 in
set_option maxHeartbeats 4000000 in
theorem once_big (keep : Bool) (A : Option Addr) (len cap : Nat) (w : World) (h : 60 < len) (hm : len ≤ maxLen) :
    Calls Try.prog 3 #[.slice A len cap, .bool keep] w fun e w' => e = .returned (.bool true) ∧ Only [] w w' := by
  have hlt : decide ((60 : Int) < (len : Int)) = true := by simp; omega
  go_enter Try.func3, Try.ntmps3
  go_wp2_with fail
  refine (awake_ok _).mono ?_
  rintro e w1 ⟨rfl, ho⟩
  go_wp2
  go_ret
  exact ⟨rfl, ho⟩

set_option maxRecDepth 100000 in
set_option maxHeartbeats 4000000 in
theorem once_small (keep : Bool) (A : Option Addr) (gs : List Nat) (cap n : Nat) (w : World) (hn : gs.length = n) (h2 : n ≤ 60) (hg8 : ∀ x ∈ gs, x ≤ 255) (hR : Reads w w.heap.size .u8 A (gs.map fun (x : Nat) => (x : Int))) :
    Calls Try.prog 3 #[.slice A n cap, .bool keep] w fun e w' => e = .returned (.bool true) ∧ Only [] w w' := by
  have hbt : ∀ W : World, (Instr.build 32 #[(0, I64 5), (1, I64 2), (3, .bool keep)]).run Try.prog W = .ok (armV (exA 5 2 keep)) W := fun _ => by kernel_rfl
  have HN := hide hn
  have HG := hide hg8
  have HRD := hide hR
  clear hn hg8 hR
  go_enter Try.func3, Try.ntmps3
  go_wp2_with fail
  refine (awake_ok _).mono ?_
  rintro e w1 ⟨rfl, ho⟩
  go_wp2_with fail
  refine (New_ok w1.heap.size w1 (Nat.le_refl _)).mono ?_
  rintro e w2 ⟨rfl, k1, k2⟩
  go_wp2_with fail
  refine (Arm_ok w1.heap.size (w1.heap.size + 1) w1.heap.size 0 Tab.new (exA 5 2 keep) w2 k1 k2.size (show wf64 5 from wf64_of (by decide) (by decide)) (by decide) (by decide) (by decide)).mono ?_
  rw [arm_ex 5 2 keep rfl (by decide) (by decide)]
  rintro e w3 ⟨rfl, k3, k4⟩
  have hst : Hid (TabIs w1.heap.size (w1.heap.size + 1) w1.heap.size 0 (onT keep (fun _ => 0) 0) w3 ∧ Only [] w w3) := hide ⟨by rw [← on_new]; exact k3, k4.only (Only.trans ho k2) ho.size⟩
  clear hbt k1 k2 k3 k4
  dsimp only
  go_wp2
  go_loopw [9, 10, 11, 43] (fun fv rv bv i wr => ∃ (k r : Nat) (pres : Int → Int), k ≤ n ∧ r ≤ k ∧ i = .int .i64 k ∧ fv = .int .i64 (firedN keep r : Nat) ∧ rv = .int .i64 r ∧ bv = .bool (rb (pres 5)) ∧
    Hid (TabIs w1.heap.size (w1.heap.size + 1) w1.heap.size k (onT keep pres r) wr ∧ Only [] w wr ∧ 0 ≤ pres 5 ∧ pres 5 ≤ 15)) (fun _ _ _ i _ => n - (intOf i).toNat)
  case atStart => exact ⟨0, 0, fun _ => 0, Nat.zero_le _, Nat.le_refl _, rfl, by cases keep <;> rfl, rfl, congrArg Value.bool (by decide), hide ⟨hst.out.1, hst.out.2, by decide, by decide⟩⟩
  case round =>
    obtain ⟨k, r, pres, hk, hrk, rfl, rfl, rfl, rfl, H⟩ := hrel
    clear hst
    rcases Nat.lt_or_ge k n with hlt | hge
    · obtain ⟨x, hx⟩ : ∃ x, gs[k]? = some x := ⟨_, List.getElem?_eq_getElem (by rw [HN.out]; exact hlt)⟩
      have hx8 := HG.out x (List.mem_of_getElem? hx)
      obtain ⟨bA, oA, rfl, hbA, hcA⟩ := (HRD.out.only H.out.2.1 (Nat.le_refl _) (by simp)) k (x : Int) (by simp [hx])
      clear hx
      have hb1 : w1.heap.size ≤ wr.heap.size := by
        obtain ⟨_, _, K⟩ := H.out.1
        exact Nat.le_of_lt (Nat.lt_of_le_of_lt K.baseb K.map.lt)
      have c0 : (0 : Int) ≤ (x : Int) % 16 := by omega
      have c1 : (x : Int) % 16 ≤ 15 := by omega
      obtain ⟨fs, hu, hfl⟩ := on_upd keep pres r c0 c1 H.out.2.2.1 H.out.2.2.2
      have hup := Update_ok w1.heap.size (w1.heap.size + 1) w1.heap.size k (onT keep pres r) 5 ((x : Int) % 16) wr H.out.1 ⟨by unfold onT; simp; split <;> simp, by simp [onT], by simp [onT]⟩ hb1 (wf64_of (by decide) (by decide)) (wf64_of (by omega) (by omega)) (by omega)
      rw [hu] at hup
      have HUP := hide hup
      have HFL := hide hfl
      have hfr : firedN keep (nextR ((x : Int) % 16) (pres 5) r) ≤ k + 1 := by
        unfold firedN nextR
        split <;> split <;> omega
      have hfs : fs.length ≤ 61 := by omega
      have hfk : firedN keep r ≤ 61 := by omega
      clear hu hup hfl
      go_wp2_with fail
      refine HUP.out.mono ?_
      rintro e w4 ⟨vf, vw, rfl, k5, k6, k7, k8⟩
      have HS : Hid (TabIs w1.heap.size (w1.heap.size + 1) w1.heap.size (k + 1) (onT keep (presU pres 5 ((x : Int) % 16)) (nextR ((x : Int) % 16) (pres 5) r)) w4 ∧ Only [] w w4 ∧ 0 ≤ presU pres 5 ((x : Int) % 16) 5 ∧ presU pres 5 ((x : Int) % 16) 5 ≤ 15) :=
        hide ⟨k5, k8.only H.out.2.1 ho.size (Nat.le_refl _), c0, c1⟩
      obtain ⟨A', cp', rfl⟩ := own_shape k6
      clear k5 k6 k7 k8 HUP H hcA
      dsimp only
      have hrb : rb (presU pres 5 ((x : Int) % 16) 5) = decide (bits .and .u8 ((x : Int) % 16) 2 ≠ 0) := rfl
      by_cases d1 : bits .and .u8 ((x : Int) % 16) 2 = 0
      · have hb' := hide (show rb (presU pres 5 ((x : Int) % 16) 5) = false by rw [hrb]; simp [d1])
        have hnr := hide (show nextR ((x : Int) % 16) (pres 5) r = r by
          unfold nextR riseB
          rw [show rb ((x : Int) % 16) = false from hb'.out]
          simp)
        clear hrb
        rw [hnr.out] at HS HFL hfr
        go_wp2
        go_roundw
        case rel => exact ⟨k + 1, r, _, by omega, by omega, by go_num, by have h := HFL.out; go_num, rfl, by rw [hb'.out], HS⟩
        case measure => simp [intOf]; omega
      · have hb' := hide (show rb (presU pres 5 ((x : Int) % 16) 5) = true by rw [hrb]; simp [d1])
        cases d2 : rb (pres 5)
        · have hnr := hide (show nextR ((x : Int) % 16) (pres 5) r = r + 1 by
            unfold nextR riseB
            rw [show rb ((x : Int) % 16) = true from hb'.out, d2]
            simp)
          clear hrb
          rw [hnr.out] at HS HFL hfr
          have D2 := hide d2
          clear d2
          go_wp2
          go_roundw
          case rel => exact ⟨k + 1, r + 1, _, by omega, by omega, by go_num, by have h := HFL.out; go_num, by go_num, by rw [hb'.out]; simp [d1], HS⟩
          case measure => simp [intOf]; omega
        · have hnr := hide (show nextR ((x : Int) % 16) (pres 5) r = r by
            unfold nextR riseB
            rw [d2]
            simp)
          clear hrb
          rw [hnr.out] at HS HFL hfr
          have D2 := hide d2
          clear d2
          go_wp2
          go_roundw
          case rel => exact ⟨k + 1, r, _, by omega, by omega, by go_num, by have h := HFL.out; go_num, rfl, by rw [hb'.out]; simp [d1], HS⟩
          case measure => simp [intOf]; omega
    · obtain rfl : k = n := by omega
      cases keep
      · rcases Nat.eq_zero_or_pos r with rfl | hr
        · rw [show firedN false 0 = 0 from rfl]
          go_wp2
          go_ret
          exact ⟨rfl, H.out.2.1⟩
        · rw [show firedN false r = 1 by unfold firedN; rw [if_neg (by simp)]; omega]
          have hr1 : ¬ (r : Int) ≤ 0 := by omega
          go_wp2
          all_goals
            go_ret
            refine ⟨?_, H.out.2.1⟩
            first | rfl | (simp; omega)
      · rw [show firedN true r = r by unfold firedN; rw [if_pos rfl]]
        go_wp2
        go_ret
        exact ⟨by simp, H.out.2.1⟩

end Go.Proofs.Ytacnmlifmjflfaa
