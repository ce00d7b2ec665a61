/- The words of a header, collected; the header's checksum. -/
import Derived.Test.YtlnejlhdkmneeaaWalkC
import Derived.RangeFuncNested
import Derived.RangeFuncBound
import Derived.RangeFuncCalls
import Derived.RangeFuncLeaves
import Derived.RangeFuncBox
import Derived.Shelf.Abstract
import Derived.Shelf.RegionOpen
import Derived.OwnWalkIn
import Derived.TacticsInMore
import Derived.LoopNIn
import Derived.LoopIn
import Derived.Maps.AppendAt
import Derived.Sort.QuietTacIn
namespace Go.Proofs.Ytlnejlhdkmneeaa
open Go.RowKit Go.Shelf

attribute [local go_sem] Oper.semAt_some

/-- Word k of a header, the checksum counted as 0. -/
def hword (h : Nat → Nat) (k : Nat) : Nat := if k = 5 then 0 else h (2 * k) * 256 + h (2 * k + 1)
def hwords (h : Nat → Nat) : List Nat := (List.range 10).map (hword h)
theorem hwords_take (h : Nat → Nat) {k : Nat} (hk : k < 10) : (hwords h).take (k + 1) = (hwords h).take k ++ [hword h k] := by
  rw [List.take_add_one]
  congr 1
  simp [hwords, hk]

theorem or16 {a b : Nat} (ha : a ≤ 255) (hb : b ≤ 255) : bits .or .u16 ((a : Int) * 256) (b : Int) = ((a * 256 + b : Nat) : Int) := by
  have h := u16_or8 (b : Int) ((a : Int) * 256) (by omega) (by omega) (by omega) (by omega) (by omega)
  have hc : bits .or .u16 ((a : Int) * 256) (b : Int) = bits .or .u16 (b : Int) ((a : Int) * 256) := by
    show IntKind.u16.wrap ((BitVec.ofInt 16 ((a : Int) * 256) ||| BitVec.ofInt 16 (b : Int)).toNat : Int) = IntKind.u16.wrap ((BitVec.ofInt 16 (b : Int) ||| BitVec.ofInt 16 ((a : Int) * 256)).toNat : Int)
    rw [BitVec.or_comm]
  rw [hc, h]
  omega

set_option maxRecDepth 100000 in
set_option maxHeartbeats 2000000 in
theorem words1_in (F : Fence) (n : Nat) (hF : F.fn 108) (hro : F.round = none) (hn : 1 ≤ n) (l Bh n₀ : Nat) (h : Nat → Nat) (h8 : ∀ k, h k ≤ 255) (hb : Bh < n₀) (J Jx : List Int → World → Prop) (hJ : ∀ pre w w', J pre w → w.grownBy w' none → J pre w')
    (hY : ∀ pre x W, J pre W → pre.length < 10 → YieldAt F (n - 1) Try.prog l #[.int .u16 x] W fun e W' =>
      (e = .returned (.bool true) ∧ J (pre ++ [x]) W' ∧ Below n₀ W W') ∨ (e = .returned (.bool false) ∧ Jx (pre ++ [x]) W'))
    (W : World) (hc : ∀ j, j < 20 → W.cell? ⟨Bh, j, none⟩ = some (.int .u8 (h j : Nat))) (h0 : J [] W) :
    CallsIn F n Try.prog 108 #[.func (.yield l) #[] #[], .pointer (some ⟨Bh, 0, none⟩)] W fun e W' => (∃ v, e = .returned v) ∧
      ((∃ ys, ys = (hwords h).map (fun (x : Nat) => (x : Int)) ∧ J ys W') ∨ (∃ pre, True ∧ Jx pre W')) := by
  refine callsIn_of_wp Try.func108 rfl hF ?_ hro
  simp only [Try.ntmps108, List.size_toArray, List.length_cons, List.length_nil, Nat.reduceAdd, Nat.reduceSub, Array.replicate_succ, Array.replicate_zero, List.push_toArray, List.append_toArray, List.nil_append, List.cons_append]
  gi_wp2
  gi_loopw [3] (fun i wr => ∃ k : Nat, k ≤ 10 ∧ i = .int .i64 (2 * k : Nat) ∧ J (((hwords h).take k).map (fun (x : Nat) => (x : Int))) wr ∧ Below n₀ W wr)
    (fun i _ => 20 - (intOf i).toNat)
  case atStart => exact ⟨0, Nat.zero_le _, rfl, h0, Below.refl _ _⟩
  case round =>
    obtain ⟨k, hk, rfl, hJs, hnx⟩ := hrel
    by_cases hlt : k < 10
    · have c0 : wr.cell? ⟨Bh, 2 * k, none⟩ = some (.int .u8 (h (2 * k) : Nat)) := (hnx.cell (p := ⟨Bh, 2 * k, none⟩) hb).trans (hc (2 * k) (by omega))
      have c1 : wr.cell? ⟨Bh, 2 * k + 1, none⟩ = some (.int .u8 (h (2 * k + 1) : Nat)) := (hnx.cell (p := ⟨Bh, 2 * k + 1, none⟩) hb).trans (hc (2 * k + 1) (by omega))
      have b0 := h8 (2 * k)
      have b1 := h8 (2 * k + 1)
      have hor := or16 b0 b1
      have i20 : (2 * (k : Int)) < 20 := by omega
      have i21 : 2 * (k : Int) + 1 < 20 := by omega
      have it0 : (2 * (k : Int)).toNat = 2 * k := by omega
      have it1 : (2 * (k : Int) + 1).toNat = 2 * k + 1 := by omega
      have iw1 : IntKind.i64.wrap (2 * (k : Int) + 1) = 2 * (k : Int) + 1 := by simp [IntKind.wrap, IntKind.bits, IntKind.signed]; omega
      have iw2 : IntKind.u16.wrap ((h (2 * k) : Nat) : Int) = ((h (2 * k) : Nat) : Int) := by rw [wrap16]; omega
      have iw3 : IntKind.u16.wrap (((h (2 * k) : Nat) : Int) * 256) = ((h (2 * k) : Nat) : Int) * 256 := by rw [wrap16]; omega
      have iw4 : IntKind.u16.wrap ((h (2 * k + 1) : Nat) : Int) = ((h (2 * k + 1) : Nat) : Int) := by rw [wrap16]; omega
      have ip0 : ¬ (2 * (k : Int)) < 0 := by omega
      have ip1 : ¬ (2 * (k : Int) + 1) < 0 := by omega
      gi_wp2
      refine wpIn_region_quiet_lit hro (by kernel_rfl) (by kernel_rfl) ?_
      repeat (quiet_step_in (fail))
      refine wpQuietIn_nil ?_
      rintro _ ⟨nq, rfl⟩
      have hg : wr.grownBy (wr.drewN nq) none := ⟨rfl, rfl, rfl, Nat.le_refl _, fun _ _ _ => rfl⟩
      have hJ2 := hJ _ _ _ hJs hg
      have hn2 : Below n₀ W (wr.drewN nq) := hnx.trans ⟨rfl, rfl, rfl, Nat.le_refl _, fun _ _ => rfl⟩
      have hlen : (((hwords h).take k).map (fun (x : Nat) => (x : Int))).length < 10 := by simp [hwords]; omega
      have htk : ((hwords h).take (k + 1)).map (fun (x : Nat) => (x : Int)) = ((hwords h).take k).map (fun (x : Nat) => (x : Int)) ++ [((hword h k : Nat) : Int)] := by
        rw [hwords_take h hlt, List.map_append]; rfl
      clear hor i20 i21 it0 it1 iw1 iw2 iw3 iw4 ip0 ip1 c0 c1 hJs hnx
      by_cases e5 : k = 5
      · have hw5 : ((hword h k : Nat) : Int) = 0 := by unfold hword; rw [if_pos e5]; rfl
        rw [hw5] at htk
        subst e5
        obtain ⟨fn, tmps, assign, body, hy, hR⟩ := hY _ 0 (wr.drewN nq) hJ2 hlen
        gi_wp2
        refine hR.mono ?_
        rintro e W3 (⟨rfl, hJ3, hk3⟩ | ⟨rfl, hJx3⟩)
        · gi_wp2
          go_roundw
          case rel => exact ⟨6, by omega, by simp, by rw [htk]; exact hJ3, hn2.trans hk3⟩
          case measure => simp [intOf]
        · gi_wp2
          refine bodyPost_ret (results_none rfl _ _ _) rfl ?_
          exact ⟨⟨_, rfl⟩, .inr ⟨_, trivial, hJx3⟩⟩
      · have hw5 : ((hword h k : Nat) : Int) = ((h (2 * k) : Nat) : Int) * 256 + ((h (2 * k + 1) : Nat) : Int) := by unfold hword; rw [if_neg e5]; omega
        rw [hw5] at htk
        have e5' : ¬ (2 * (k : Int)) = 10 := by omega
        obtain ⟨fn, tmps, assign, body, hy, hR⟩ := hY _ (((h (2 * k) : Nat) : Int) * 256 + ((h (2 * k + 1) : Nat) : Int)) (wr.drewN nq) hJ2 hlen
        gi_wp2
        refine hR.mono ?_
        rintro e W3 (⟨rfl, hJ3, hk3⟩ | ⟨rfl, hJx3⟩)
        · gi_wp2
          go_roundw
          case rel => exact ⟨k + 1, by omega, by go_num, by rw [htk]; exact hJ3, hn2.trans hk3⟩
          case measure => simp [intOf]; omega
        · gi_wp2
          refine bodyPost_ret (results_none rfl _ _ _) rfl ?_
          exact ⟨⟨_, rfl⟩, .inr ⟨_, trivial, hJx3⟩⟩
    · obtain rfl : k = 10 := by omega
      gi_wp2
      go_end0
      exact ⟨⟨_, rfl⟩, .inl ⟨_, rfl, by rw [List.take_of_length_le (by simp [hwords])] at hJs; exact hJs⟩⟩

end Go.Proofs.Ytlnejlhdkmneeaa
