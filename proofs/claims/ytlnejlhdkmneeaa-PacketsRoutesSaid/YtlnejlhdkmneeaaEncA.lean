/- The reference's get, put, sum. -/
import Derived.Test.YtlnejlhdkmneeaaWalkL
import Derived.Test.YtlnejlhdkmneeaaSched
import Derived.Test.YtlnejlhdkmneeaaRow
namespace Go.Proofs.Ytlnejlhdkmneeaa
open Go.RowKit

theorem wrap64u (n : Int) : IntKind.u64.wrap n = n % 18446744073709551616 := by simp [IntKind.wrap, IntKind.bits, IntKind.signed]
theorem or64 {a b : Nat} (ha : a ≤ 16777215) (hb : b ≤ 255) : bits .or .u64 ((a : Int) * 256) (b : Int) = (a : Int) * 256 + (b : Int) := by
  have h := u64_or8 (b : Int) ((a : Int) * 256) (by omega) (by omega) (by omega) (by omega) (by omega)
  have hc : bits .or .u64 ((a : Int) * 256) (b : Int) = bits .or .u64 (b : Int) ((a : Int) * 256) := by
    show IntKind.u64.wrap ((BitVec.ofInt 64 ((a : Int) * 256) ||| BitVec.ofInt 64 (b : Int)).toNat : Int) = IntKind.u64.wrap ((BitVec.ofInt 64 (b : Int) ||| BitVec.ofInt 64 ((a : Int) * 256)).toNat : Int)
    rw [BitVec.or_comm]
  rw [hc, h]
  omega

set_option maxHeartbeats 2000000 in
theorem rget2_ok (b o c x0 x1 : Nat) (w : World) (h0 : x0 ≤ 255) (h1 : x1 ≤ 255) (c0 : w.cell? ⟨b, o, none⟩ = some (.int .u8 (x0 : Int))) (c1 : w.cell? ⟨b, o + 1, none⟩ = some (.int .u8 (x1 : Int))) :
    Calls Try.prog 68 #[.slice (some ⟨b, o, none⟩) 2 c] w fun e w' => e = .returned (.int .u64 ((x0 : Int) * 256 + (x1 : Int))) ∧ w' = w := by
  have k0 := or64 (a := 0) (b := x0) (by omega) h0
  have k1 := or64 (a := x0) (b := x1) (by omega) h1
  have k2 : bits .or .u64 0 (x0 : Int) = (x0 : Int) := by simpa using k0
  have k3 : IntKind.u64.wrap ((x0 : Int) * 256) = (x0 : Int) * 256 := by rw [wrap64u]; omega
  clear k0
  go_enter Try.func68, Try.ntmps68
  go_wp2
  refine wp_loop_rounds 3 ?_
  rw [rounds_succ]
  go_wp2
  rw [rounds_succ]
  go_wp2
  rw [rounds_succ]
  go_wp2
  go_ret
  exact ⟨rfl, rfl⟩

set_option maxHeartbeats 2000000 in
theorem rget4_ok (b o c x0 x1 x2 x3 : Nat) (w : World) (h0 : x0 ≤ 255) (h1 : x1 ≤ 255) (h2 : x2 ≤ 255) (h3 : x3 ≤ 255) (c0 : w.cell? ⟨b, o, none⟩ = some (.int .u8 (x0 : Int))) (c1 : w.cell? ⟨b, o + 1, none⟩ = some (.int .u8 (x1 : Int)))
    (c2 : w.cell? ⟨b, o + 2, none⟩ = some (.int .u8 (x2 : Int))) (c3 : w.cell? ⟨b, o + 3, none⟩ = some (.int .u8 (x3 : Int))) :
    Calls Try.prog 68 #[.slice (some ⟨b, o, none⟩) 4 c] w fun e w' => e = .returned (.int .u64 ((((x0 : Int) * 256 + (x1 : Int)) * 256 + (x2 : Int)) * 256 + (x3 : Int))) ∧ w' = w := by
  have k0 := or64 (a := 0) (b := x0) (by omega) h0
  have k1 := or64 (a := x0) (by omega) h1
  have k2 := or64 (a := x0 * 256 + x1) (b := x2) (by omega) h2
  have k3 := or64 (a := (x0 * 256 + x1) * 256 + x2) (b := x3) (by omega) h3
  have k4 : bits .or .u64 0 (x0 : Int) = (x0 : Int) := by simpa using k0
  have w1 : IntKind.u64.wrap ((x0 : Int) * 256) = (x0 : Int) * 256 := by rw [wrap64u]; omega
  have w2 : IntKind.u64.wrap (((x0 : Int) * 256 + (x1 : Int)) * 256) = ((x0 : Int) * 256 + (x1 : Int)) * 256 := by rw [wrap64u]; omega
  have w3 : IntKind.u64.wrap ((((x0 : Int) * 256 + (x1 : Int)) * 256 + (x2 : Int)) * 256) = (((x0 : Int) * 256 + (x1 : Int)) * 256 + (x2 : Int)) * 256 := by rw [wrap64u]; omega
  simp only [Int.natCast_add, Int.natCast_mul, Int.cast_ofNat_Int] at k2 k3
  clear k0
  go_enter Try.func68, Try.ntmps68
  go_wp2
  refine wp_loop_rounds 5 ?_
  rw [rounds_succ]
  go_wp2
  rw [rounds_succ]
  go_wp2
  rw [rounds_succ]
  go_wp2
  rw [rounds_succ]
  go_wp2
  rw [rounds_succ]
  go_wp2
  go_ret
  exact ⟨rfl, rfl⟩

theorem rget_at (bs : List Nat) (h8 : ∀ j, hof bs j ≤ 255) (b o l c k : Nat) (w : World) (hl : l = 2 ∨ l = 4) (c0 : w.cell? ⟨b, o, none⟩ = some (.int .u8 (hof bs k : Nat))) (c1 : w.cell? ⟨b, o + 1, none⟩ = some (.int .u8 (hof bs (k + 1) : Nat)))
    (c2 : l = 4 → w.cell? ⟨b, o + 2, none⟩ = some (.int .u8 (hof bs (k + 2) : Nat))) (c3 : l = 4 → w.cell? ⟨b, o + 3, none⟩ = some (.int .u8 (hof bs (k + 3) : Nat))) :
    Calls Try.prog 68 #[.slice (some ⟨b, o, none⟩) l c] w fun e w' => e = .returned (.int .u64 (gv bs l k)) ∧ w' = w := by
  rcases hl with rfl | rfl
  · exact rget2_ok b o c _ _ w (h8 _) (h8 _) c0 c1
  · exact rget4_ok b o c _ _ _ _ w (h8 _) (h8 _) (h8 _) (h8 _) c0 c1 (c2 rfl) (c3 rfl)

/-- The first k of the n low bytes of a number, the most significant first. -/
def putB (x n k : Nat) : List Nat := (List.range k).map fun j => x / 2 ^ (8 * (n - 1 - j)) % 256
theorem putB_snoc (x n k : Nat) : putB x n (k + 1) = putB x n k ++ [x / 2 ^ (8 * (n - 1 - k)) % 256] := by simp [putB, List.range_succ]
theorem putB_len (x n k : Nat) : (putB x n k).length = k := by simp [putB]
theorem bcells_app (a b : List Nat) : bcells (a ++ b) = bcells a ++ bcells b := by simp [bcells]

/-- What put answers. -/
def RputS (x n : Nat) (w : World) (e : Ending) (w' : World) : Prop := ∃ v, e = .returned v ∧ w'.ownsRow w.heap.size 5 1 v n (bcells (putB x n n)) ∧ Only [] w w'

set_option maxRecDepth 100000 in
set_option maxHeartbeats 4000000 in
theorem rput_ok (x n : Nat) (w : World) (hx : x < 18446744073709551616) (hn : n ≤ 8) : Calls Try.prog 66 #[.int .u64 (x : Int), I64 n] w fun e w' => RputS x n w e w' := by
  obtain ⟨i0, hi0, hz0, hs0, hb0⟩ := info_parts u8_info
  have h0 : Hid (Only [] w (w.alloc (.cells #[] 5)) ∧ (w.alloc (.cells #[] 5)).ownsRow w.heap.size 5 1 (.slice (some ⟨w.heap.size, 0, none⟩) 0 0) 0 []) := hide ⟨(Only.refl [] w).alloc _, World.ownsRow_made w #[] 0 (Nat.le_refl _) (by simp [maxLen]) rfl⟩
  go_enter Try.func66, Try.ntmps66
  go_wp2
  go_loopw [5, 6] (fun s i wr => ∃ k : Nat, k ≤ n ∧ i = I64 ((n : Int) - 1 - k) ∧ Hid (wr.ownsRow w.heap.size 5 1 s k (bcells (putB x n k)) ∧ Only [] w wr)) (fun _ i _ => (intOf i + 1).toNat)
  case atStart => exact ⟨0, Nat.zero_le _, by simp, hide ⟨h0.out.2, h0.out.1⟩⟩
  case round =>
    obtain ⟨k, hk, rfl, HW⟩ := hrel
    rcases Nat.lt_or_ge k n with hlt | hge
    · have hP := hide (putB_snoc x n k)
      obtain ⟨A, c, rfl⟩ := own_shape HW.out.1
      have hcast : Hid (((x / 2 ^ (8 * (n - 1 - k)) % 256 : Nat) : Int) = (x : Int) / 2 ^ (8 * (n - 1 - k)) % 256) := hide (by
        have h2 : (2 : Int) ^ (8 * (n - 1 - k)) = ((2 ^ (8 * (n - 1 - k)) : Nat) : Int) := by rw [Int.natCast_pow]; rfl
        rw [h2, ← Int.natCast_ediv]; rfl)
      clear h0
      go_wp2_with (at_builtin; refine wpList_append_own _ rfl (.tmp 14) (.tmp 21) 28 rfl w.heap.size 5 i0 (.int .u8 0) 1 1 Try.underlying28 hi0 hz0 hs0 hb0 rfl (by decide) (.slice A k c) k (bcells (putB x n k)) rfl (HW.out.1.alloc _) ⟨wr.heap.size, 0, none⟩ 1 1 [.int .u8 ((x : Int) / 2 ^ (8 * (n - 1 - k)) % 256)] rfl rfl ?_ (by simp [Value.oneCell']) (by unfold maxLen; omega) (by omega) ?_ ?_)
      · intro j u hu
        rw [show (⟨wr.heap.size, 0, none⟩ : Addr).add j = ⟨wr.heap.size, j, none⟩ by unfold Addr.add; split <;> simp_all]
        exact (Blk.newA (c := #[.int .u8 ((x : Int) / 2 ^ (8 * (n - 1 - k)) % 256)]) rfl).cell hu
      · have := HW.out.2.size; simp; omega
      intro v3 w3 hown3 hgrow _
      have HO := hide (show w3.ownsRow w.heap.size 5 1 v3 (k + 1) (bcells (putB x n (k + 1))) by
        rw [hP.out, bcells_app]; unfold bcells; rw [List.map_cons, List.map_nil, hcast.out]; exact hown3)
      have HG := hide (show Only [] w w3 from (HW.out.2.alloc (.cells #[.int .u8 ((x : Int) / 2 ^ (8 * (n - 1 - k)) % 256)] 5)).trans' (Only.of_grown hgrow (S := (Value.slice A k c).ownBlock.toList) (fun g hg => by rw [hg]; simp)) (by
        intro i hi hlt
        have := (HW.out.1.lt i (by simpa using hi)).1
        omega))
      clear hown3 hgrow
      go_wp2
      go_roundw
      case rel => exact ⟨k + 1, by omega, by go_num, hide ⟨HO.out, HG.out⟩⟩
      case measure => simp [intOf]; omega
    · obtain rfl : k = n := by omega
      go_wp2
      go_ret
      exact ⟨_, rfl, HW.out.1, HW.out.2⟩


/-- The words of a header but for its sum: of the first k. -/
def rlist (f : Nat → Nat) (k : Nat) : List Nat := (List.range k).flatMap fun j => if j = 5 then [] else [f (2 * j) * 256 + f (2 * j + 1)]
theorem rlist_succ (f : Nat → Nat) (k : Nat) : rlist f (k + 1) = rlist f k ++ (if k = 5 then [] else [f (2 * k) * 256 + f (2 * k + 1)]) := by simp [rlist, List.range_succ]
theorem rlist_sum {f : Nat → Nat} (h8 : ∀ j, f j ≤ 255) : ∀ k, sumw (rlist f k) = sumw ((List.range k).map (hword f)) ∧ sumw (rlist f k) ≤ 65535 := by
  intro k
  induction k with
  | zero => simp [rlist, sumw]
  | succ k ih =>
    rw [rlist_succ, List.range_succ, List.map_append, List.map_cons, List.map_nil, sumw_snoc]
    have := h8 (2 * k)
    have := h8 (2 * k + 1)
    by_cases h5 : k = 5
    · rw [if_pos h5, show hword f k = 0 by unfold hword; rw [if_pos h5], List.append_nil]
      refine ⟨?_, ih.2⟩
      rw [← ih.1]
      have := ih.2
      unfold addw; rw [if_pos (by omega)]; omega
    · rw [if_neg h5, show hword f k = f (2 * k) * 256 + f (2 * k + 1) by unfold hword; rw [if_neg h5], sumw_snoc, ih.1]
      refine ⟨rfl, addw_le (by rw [← ih.1]; exact ih.2) (by omega)⟩
theorem rlist_le {f : Nat → Nat} (h8 : ∀ j, f j ≤ 255) (k : Nat) : ∀ x ∈ rlist f k, x ≤ 65535 := by
  intro x hx
  simp only [rlist, List.mem_flatMap] at hx
  obtain ⟨j, _, hx⟩ := hx
  split at hx
  · simp at hx
  · have := h8 (2 * j)
    have := h8 (2 * j + 1)
    simp at hx; omega
theorem rlist_len (f : Nat → Nat) : ∀ k, (rlist f k).length ≤ k := by
  intro k
  induction k with
  | zero => simp [rlist]
  | succ k ih => rw [rlist_succ]; split <;> simp <;> omega
def wcells (l : List Nat) : List Value := l.map fun (x : Nat) => Value.int .u16 (x : Int)
theorem nums_of_own {w : World} {base n : Nat} {T : TypeId} {kd : IntKind} {A : Option Addr} {c : Nat} {l : List Nat} (h : w.ownsRow base T 1 (.slice A n c) n (l.map fun (x : Nat) => Value.int kd (x : Int))) : NumsIn w kd A l := by
  intro k x hx
  rcases h.2 with ⟨he, hn⟩ | ⟨g, cap, cur, he, h1⟩
  · have := h.1; subst hn; simp at this; subst this; simp at hx
  · injection he with he
    subst he
    refine ⟨g, 0, rfl, ?_⟩
    have := h.cells (g := g) rfl k (.int kd (x : Int)) (by simp [hx])
    rw [show (⟨g, 0, none⟩ : Addr).add k = ⟨g, k, none⟩ by unfold Addr.add; split <;> simp_all] at this
    rw [Nat.zero_add]; exact this
set_option maxRecDepth 100000 in
set_option maxHeartbeats 8000000 in
theorem rsum_ok (b o n c : Nat) (f : Nat → Nat) (w : World) (h8 : ∀ j, f j ≤ 255) (hn : 20 ≤ n) (hnc : n ≤ c) (hcell : ∀ j, j < 20 → w.cell? ⟨b, o + j, none⟩ = some (.int .u8 (f j : Int))) :
    Calls Try.prog 67 #[.slice (some ⟨b, o, none⟩) n c] w fun e w' => e = .returned (.int .u16 (65535 - sumw (hwords f) : Nat)) ∧ Only [] w w' := by
  obtain ⟨i0, hi0, hz0, hs0, hb0⟩ := info_parts u16_info
  have h0 : Hid (Only [] w (w.alloc (.cells #[] 23)) ∧ (w.alloc (.cells #[] 23)).ownsRow w.heap.size 23 1 (.slice (some ⟨w.heap.size, 0, none⟩) 0 0) 0 []) := hide ⟨(Only.refl [] w).alloc _, World.ownsRow_made w #[] 0 (Nat.le_refl _) (by simp [maxLen]) rfl⟩
  have HC := hide (fun (W : World) (hW : Only [] w W) (j : Nat) (hj : j < 20) => (World.cell?_of_block (hW.block b (World.block_lt_of_cell? _ _ (hcell j hj)) (by simp))).trans (hcell j hj))
  have H8 := hide h8
  clear hcell h8
  go_enter Try.func67, Try.ntmps67
  go_wp2
  go_loopw [3, 4] (fun s i wr => ∃ k : Nat, k ≤ 10 ∧ i = I64 (2 * k) ∧ Hid (wr.ownsRow w.heap.size 23 1 s (rlist f k).length (wcells (rlist f k)) ∧ Only [] w wr)) (fun _ i _ => (20 - intOf i).toNat)
  case atStart => exact ⟨0, by omega, by simp, hide ⟨h0.out.2, h0.out.1⟩⟩
  case round =>
    obtain ⟨k, hk, rfl, HW⟩ := hrel
    rcases Nat.lt_or_ge k 10 with hlt | hge
    · by_cases h5 : k = 5
      · subst h5
        have hP := hide (show rlist f 6 = rlist f 5 by rw [rlist_succ, if_pos rfl, List.append_nil])
        clear h0
        go_wp2
        go_roundw
        case rel => exact ⟨6, by omega, by go_num, by rw [hP.out]; exact HW⟩
        case measure => simp [intOf]
      · have hP := hide (show rlist f (k + 1) = rlist f k ++ [f (2 * k) * 256 + f (2 * k + 1)] by rw [rlist_succ, if_neg h5])
        obtain ⟨m, hm⟩ : ∃ m, (rlist f k).length = m := ⟨_, rfl⟩
        have hmk := rlist_len f k
        rw [hm] at HW hmk
        have HM := hide hm
        clear hm
        obtain ⟨A, cc, rfl⟩ := own_shape HW.out.1
        have e0 := HC.out _ HW.out.2 (2 * k) (by omega)
        have e1 := HC.out _ HW.out.2 (2 * k + 1) (by omega)
        have h51 : ((2 * (k : Int)) != 10) = true := by simp; omega
        have q0 := H8.out (2 * k)
        have q1 := H8.out (2 * k + 1)
        have hck : ¬ (c = 2 * k) := by omega
        clear h0
        go_wp2_with fail
        refine (rget2_ok b (o + 2 * k) _ (f (2 * k)) (f (2 * k + 1)) _ q0 q1 e0 e1).mono ?_
        rintro e w1 ⟨rfl, rfl⟩
        go_wp2_with (at_builtin; refine wpList_append_own _ rfl (.tmp 12) (.tmp 20) 22 rfl w.heap.size 23 i0 (.int .u16 0) 1 2 Try.underlying22 hi0 hz0 hs0 hb0 rfl (by decide) (.slice A m cc) m (wcells (rlist f k)) rfl (HW.out.1.alloc _) ⟨w1.heap.size, 0, none⟩ 1 1 [.int .u16 ((f (2 * k) : Int) * 256 + (f (2 * k + 1) : Int))] rfl rfl ?_ (by simp [Value.oneCell']) (by unfold maxLen; omega) (by omega) ?_ ?_)
        · intro j u hu
          rw [show (⟨w1.heap.size, 0, none⟩ : Addr).add j = ⟨w1.heap.size, j, none⟩ by unfold Addr.add; split <;> simp_all]
          exact (Blk.newA (c := #[.int .u16 ((f (2 * k) : Int) * 256 + (f (2 * k + 1) : Int))]) rfl).cell hu
        · have := HW.out.2.size; simp; omega
        intro v3 w3 hown3 hgrow _
        have HO := hide (show w3.ownsRow w.heap.size 23 1 v3 (rlist f (k + 1)).length (wcells (rlist f (k + 1))) by
          rw [hP.out, List.length_append, HM.out]; unfold wcells; rw [List.map_append, List.map_cons, List.map_nil]
          rw [show ((f (2 * k) * 256 + f (2 * k + 1) : Nat) : Int) = (f (2 * k) : Int) * 256 + (f (2 * k + 1) : Int) by simp]; exact hown3)
        have HG := hide (show Only [] w w3 from (HW.out.2.alloc (.cells #[.int .u16 ((f (2 * k) : Int) * 256 + (f (2 * k + 1) : Int))] 23)).trans' (Only.of_grown hgrow (S := (Value.slice A m cc).ownBlock.toList) (fun g hg => by rw [hg]; simp)) (by
          intro i hi hlt
          have := (HW.out.1.lt i (by simpa using hi)).1
          omega))
        clear hown3 hgrow e0 e1
        go_wp2
        go_roundw
        case rel => exact ⟨k + 1, by omega, by go_num, hide ⟨HO.out, HG.out⟩⟩
        case measure => simp [intOf]; omega
    · obtain rfl : k = 10 := by omega
      obtain ⟨A, cc, hv⟩ := own_shape HW.out.1
      subst hv
      have hs := hide ((rlist_sum H8.out 10).1)
      clear h0
      go_wp2_with fail
      refine (refChecksum_ok A (rlist f 10) _ cc _ rfl (by have := rlist_len f 10; omega) (rlist_le H8.out 10) (nums_of_own HW.out.1)).mono ?_
      rintro e w1 ⟨rfl, rfl⟩
      go_wp2
      go_ret
      refine ⟨?_, HW.out.2⟩
      rw [hs.out]; rfl

end Go.Proofs.Ytlnejlhdkmneeaa
