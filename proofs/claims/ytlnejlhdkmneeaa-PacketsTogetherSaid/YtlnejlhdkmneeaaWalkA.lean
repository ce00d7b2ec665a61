/- Checksum, Valid, put. -/
import Derived.Test.YtlnejlhdkmneeaaRows
import Derived.Test.YtlnejlhdkmneeaaWords
import Derived.Test.YtlnejlhdkmneeaaDraw
import Derived.Test.YtlnejlhdkmneeaaFblk
import Derived.Test.YtlnejlhdkmneeaaOnlyT
import Derived.WalkLawsBesides
import Derived.Deep.QuietTactic
import Derived.BigQuiet
import Derived.BigRegion
import Derived.IntWalk
import Derived.StillTailTactics
import Derived.Deep.RegionWith
import Derived.Deep.RegionHeld3
import Derived.Deep.LoopGhost
import Derived.OwnWalk
import Derived.Laws.AppendOwn
import Derived.Laws.Entries
import Derived.Laws.BitsAllLaws
import Derived.Lib.EndianBits
namespace Go.Proofs.Ytlnejlhdkmneeaa
open Go.RowKit

abbrev I64 (n : Int) : Value := .int .i64 n

/-- One step of the sum: a carry comes in at the low end. -/
def addw (s w : Nat) : Nat := if s + w ≤ 65535 then s + w else s + w - 65535
def sumw (ws : List Nat) : Nat := ws.foldl addw 0
theorem addw_le {s w : Nat} (hs : s ≤ 65535) (hw : w ≤ 65535) : addw s w ≤ 65535 := by
  unfold addw; split <;> omega
theorem sumw_snoc (ws : List Nat) (w : Nat) : sumw (ws ++ [w]) = addw (sumw ws) w := by simp [sumw]
theorem sumw_le : ∀ {ws : List Nat}, (∀ w ∈ ws, w ≤ 65535) → sumw ws ≤ 65535 := by
  intro ws
  have : ∀ (ws : List Nat) (s : Nat), s ≤ 65535 → (∀ w ∈ ws, w ≤ 65535) → ws.foldl addw s ≤ 65535 := by
    intro ws
    induction ws with
    | nil => intro s hs _; simpa using hs
    | cons w ws ih =>
      intro s hs h
      exact ih _ (addw_le hs (h w (by simp))) (fun v hv => h v (by simp [hv]))
  exact this ws 0 (by omega)

/-- A slice of whole numbers of a kind, wherever its cells lie. -/
def NumsIn (w : World) (kd : IntKind) (A : Option Addr) (xs : List Nat) : Prop :=
  ∀ (k : Nat) (x : Nat), xs[k]? = some x → ∃ b o, A = some ⟨b, o, none⟩ ∧ w.cell? ⟨b, o + k, none⟩ = some (.int kd (x : Int))

theorem NumsIn.only {w w' : World} {kd : IntKind} {A : Option Addr} {xs : List Nat} (h : NumsIn w kd A xs) (ho : Only [] w w') : NumsIn w' kd A xs := by
  intro k x hx
  obtain ⟨b, o, hA, hc⟩ := h k x hx
  exact ⟨b, o, hA, by rw [World.cell?_of_block (w := w) (ho.block b (World.block_lt_of_cell? _ _ hc) (by simp))]; exact hc⟩

theorem wrap16 (n : Int) : IntKind.u16.wrap n = n % 65536 := by simp [IntKind.wrap, IntKind.bits, IntKind.signed]
theorem wrap8 (n : Int) : IntKind.u8.wrap n = n % 256 := by simp [IntKind.wrap, IntKind.bits, IntKind.signed]
theorem wrap32 (n : Int) : IntKind.u32.wrap n = n % 4294967296 := by simp [IntKind.wrap, IntKind.bits, IntKind.signed]
theorem xor16 {x : Nat} (h : x ≤ 65535) : bits .xor .u16 IntKind.u16.max (x : Int) = (65535 - x : Nat) := by
  have e : (BitVec.ofInt 16 IntKind.u16.max ^^^ BitVec.ofInt 16 (x : Int)) = ~~~ (BitVec.ofInt 16 (x : Int)) := by
    rw [show BitVec.ofInt 16 IntKind.u16.max = BitVec.allOnes 16 by decide, BitVec.allOnes_xor]
  show IntKind.u16.wrap ((BitVec.ofInt 16 IntKind.u16.max ^^^ BitVec.ofInt 16 (x : Int)).toNat : Int) = _
  rw [e, BitVec.toNat_not, wrap16, show (BitVec.ofInt 16 (x : Int)).toNat = x by rw [BitVec.ofInt_natCast, BitVec.toNat_ofNat]; exact Nat.mod_eq_of_lt (by omega)]
  omega

set_option maxHeartbeats 1000000 in
theorem add_ok (a b : Nat) (ha : a ≤ 65535) (hb : b ≤ 65535) (w : World) : Calls Try.prog 60 #[.int .u16 (a : Int), .int .u16 (b : Int)] w fun e w' => e = .returned (.int .u16 (addw a b : Nat)) ∧ w' = w := by
  go_enter Try.func60, Try.ntmps60
  go_wp2
  go_ret
  refine ⟨?_, rfl⟩
  have e : IntKind.u16.wrap ((a : Int) + b + ((a : Int) + b) / 65536) = (addw a b : Nat) := by
    rw [wrap16]
    unfold addw
    split <;> omega
  show Ending.returned (.int .u16 (IntKind.u16.wrap ((a : Int) + b + ((a : Int) + b) / 65536))) = _
  rw [e]

set_option maxHeartbeats 2000000 in
theorem Checksum_ok (A : Option Addr) (ws : List Nat) (n cap : Nat) (w : World) (hn : ws.length = n) (hm : n ≤ 1000000) (h16 : ∀ x ∈ ws, x ≤ 65535) (hA : NumsIn w .u16 A ws) :
    Calls Try.prog 14 #[.slice A n cap] w fun e w' => e = .returned (.int .u16 (65535 - sumw ws : Nat)) ∧ w' = w := by
  have HN := hide hn
  have H16 := hide h16
  have HA := hide hA
  clear hn h16 hA
  go_enter Try.func14, Try.ntmps14
  go_wp2
  go_loop [3, 8] (fun sv i => ∃ k : Nat, k ≤ n ∧ i = .int .i64 k ∧ sv = .int .u16 (sumw (ws.take k) : Nat)) (fun _ i => n - (intOf i).toNat)
  case atStart => exact ⟨0, Nat.zero_le _, rfl, rfl⟩
  case round =>
    obtain ⟨k, hk, rfl, rfl⟩ := hrel
    rcases Nat.lt_or_ge k n with hlt | hge
    · obtain ⟨x, hx⟩ : ∃ x, ws[k]? = some x := ⟨_, List.getElem?_eq_getElem (by rw [HN.out]; exact hlt)⟩
      obtain ⟨b, o, rfl, hc⟩ := HA.out k x hx
      have hx16 := H16.out x (List.mem_of_getElem? hx)
      have hs16 : sumw (ws.take k) ≤ 65535 := sumw_le (fun y hy => H16.out y (List.mem_of_mem_take hy))
      have hst := hide (show sumw (ws.take (k + 1)) = addw (sumw (ws.take k)) x by rw [List.take_add_one, hx]; exact sumw_snoc _ _)
      clear hx
      go_wp2_with fail
      refine (add_ok (sumw (ws.take k)) x hs16 hx16 _).mono ?_
      rintro e w1 ⟨rfl, rfl⟩
      go_wp2
      go_roundw
      case rel => exact ⟨k + 1, by omega, by go_num, by rw [hst.out]⟩
      case measure => simp [intOf]; omega
    · obtain rfl : k = n := by omega
      have hs16 : sumw ws ≤ 65535 := sumw_le H16.out
      rw [List.take_of_length_le (by rw [HN.out]; exact Nat.le_refl _)]
      go_wp2
      go_ret
      refine ⟨?_, rfl⟩
      show Ending.returned (.int .u16 (bits .xor .u16 IntKind.u16.max (sumw ws : Nat))) = _
      rw [xor16 hs16]

set_option maxHeartbeats 2000000 in
theorem refChecksum_ok (A : Option Addr) (ws : List Nat) (n cap : Nat) (w : World) (hn : ws.length = n) (hm : n ≤ 1000000) (h16 : ∀ x ∈ ws, x ≤ 65535) (hA : NumsIn w .u16 A ws) :
    Calls Try.prog 15 #[.slice A n cap] w fun e w' => e = .returned (.int .u16 (65535 - sumw ws : Nat)) ∧ w' = w := by
  have HN := hide hn
  have H16 := hide h16
  have HA := hide hA
  clear hn h16 hA
  go_enter Try.func15, Try.ntmps15
  go_wp2
  go_loop [3, 4] (fun sv i => ∃ k : Nat, k ≤ n ∧ i = .int .i64 k ∧ sv = .int .u64 (sumw (ws.take k) : Nat)) (fun _ i => n - (intOf i).toNat)
  case atStart => exact ⟨0, Nat.zero_le _, rfl, rfl⟩
  case round =>
    obtain ⟨k, hk, rfl, rfl⟩ := hrel
    rcases Nat.lt_or_ge k n with hlt | hge
    · obtain ⟨x, hx⟩ : ∃ x, ws[k]? = some x := ⟨_, List.getElem?_eq_getElem (by rw [HN.out]; exact hlt)⟩
      obtain ⟨b, o, rfl, hc⟩ := HA.out k x hx
      have hx16 := H16.out x (List.mem_of_getElem? hx)
      have hs16 : sumw (ws.take k) ≤ 65535 := sumw_le (fun y hy => H16.out y (List.mem_of_mem_take hy))
      have hst := hide (show sumw (ws.take (k + 1)) = addw (sumw (ws.take k)) x by rw [List.take_add_one, hx]; exact sumw_snoc _ _)
      clear hx
      by_cases hc1 : (65535 : Int) < (sumw (ws.take k) : Int) + x
      · have hst' := hide (show addw (sumw (ws.take k)) x = sumw (ws.take k) + x - 65535 by unfold addw; rw [if_neg (by omega)])
        go_wp2
        go_roundw
        case rel => exact ⟨k + 1, by omega, by go_num, by rw [hst.out, hst'.out]; go_num⟩
        case measure => simp [intOf]; omega
      · have hst' := hide (show addw (sumw (ws.take k)) x = sumw (ws.take k) + x by unfold addw; rw [if_pos (by omega)])
        go_wp2
        go_roundw
        case rel => exact ⟨k + 1, by omega, by go_num, by rw [hst.out, hst'.out]; go_num⟩
        case measure => simp [intOf]; omega
    · obtain rfl : k = n := by omega
      have hs16 : sumw ws ≤ 65535 := sumw_le H16.out
      rw [List.take_of_length_le (by rw [HN.out]; exact Nat.le_refl _)]
      go_wp2
      go_ret
      exact ⟨by go_num, rfl⟩

end Go.Proofs.Ytlnejlhdkmneeaa
