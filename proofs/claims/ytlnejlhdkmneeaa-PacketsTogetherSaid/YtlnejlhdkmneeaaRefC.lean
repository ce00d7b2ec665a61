/- slices.EqualFunc over same, where all are the same. -/
import Derived.Test.YtlnejlhdkmneeaaRefB
namespace Go.Proofs.Ytlnejlhdkmneeaa
open Go.RowKit

theorem Pkt.cells_len (p : Pkt) : p.cells.length = 8 := rfl

/-- Two rows of the same packets. -/
def SameAt (w : World) (qs rs : List Pkt) (k : Nat) : Prop := ∃ (q : Pkt) (B : Option Addr) (d : Nat), qs[k]? = some q ∧ rs[k]? = some (q.at B d) ∧ NumsIn w .u8 q.A q.data ∧ NumsIn w .u8 B q.data ∧ q.data.length ≤ maxLen

set_option maxRecDepth 100000 in
set_option maxHeartbeats 8000000 in
theorem eqfunc_true (g h n c c' : Nat) (qs rs : List Pkt) (xs ys : List Value) (w : World) (hg : Blk w g 30 (qs.flatMap Pkt.cells ++ xs)) (hh : Blk w h 45 (rs.flatMap Pkt.cells ++ ys))
    (hn : n ≤ 1000000) (hs : ∀ k, k < n → SameAt w qs rs k) :
    Calls Try.prog 24 #[.slice (some ⟨g, 0, none⟩) n c, .slice (some ⟨h, 0, none⟩) n c', .func (.func 25) #[] #[]] w fun e w' => e = .returned (.bool true) ∧ Only [] w w' := by
  have HG := hide hg
  have HH := hide hh
  have HSS := hide hs
  clear hg hh hs
  go_enter Try.func24, Try.ntmps24
  go_wp2
  go_loopw [17] (fun i wr => ∃ k : Nat, k ≤ n ∧ i = .int .i64 k ∧ Hid (Only [] w wr)) (fun i _ => n - (intOf i).toNat)
  case atStart => exact ⟨0, Nat.zero_le _, rfl, hide (Only.refl _ _)⟩
  case round =>
    obtain ⟨k, hk, rfl, HW⟩ := hrel
    rcases Nat.lt_or_ge k n with hlt | hge
    · obtain ⟨q, B, d, hq, hr, hqA, hqB, hql⟩ := HSS.out k hlt
      have hc1 : Hid (∀ j v, [.int .u32 q.src, .int .u32 q.dst, I64 q.proto, I64 q.ttl, I64 q.id, I64 q.off, .bool q.more, .slice q.A q.data.length q.cap][j]? = some v → wr.cell? ⟨g, k * 8 + j, none⟩ = some v) := hide fun j v hv => (HW.out.blk HG.out (by simp)).cell (by
        have := flat_at Pkt.cells_len qs k q j v hq hv
        rw [List.getElem?_append_left (List.getElem?_eq_some_iff.1 this).1]
        exact this)
      have hc2 : Hid (∀ j v, [.int .u32 q.src, .int .u32 q.dst, I64 q.proto, I64 q.ttl, I64 q.id, I64 q.off, .bool q.more, .slice B q.data.length d][j]? = some v → (wr.alloc (.cells #[.int .u32 q.src, .int .u32 q.dst, I64 q.proto, I64 q.ttl, I64 q.id, I64 q.off, .bool q.more, .slice q.A q.data.length q.cap] 30)).cell? ⟨h, k * 8 + j, none⟩ = some v) := hide fun j v hv => ((HW.out.blk HH.out (by simp)).alloc _).cell (by
        have := flat_at Pkt.cells_len rs k (q.at B d) j v hr hv
        rw [List.getElem?_append_left (List.getElem?_eq_some_iff.1 this).1]
        exact this)
      have H3 := hide (And.intro hqA hqB)
      clear hq hr hqA hqB
      go_wp2_with (first
        | refine wpList_load_cells rfl 30 (.tmp 20) rfl g (k * 8) rfl [.int .u32 q.src, .int .u32 q.dst, I64 q.proto, I64 q.ttl, I64 q.id, I64 q.off, .bool q.more, .slice q.A q.data.length q.cap] (d := _) hc1.out Try.underlying30 rfl (by kernel_rfl) ?_
        | refine wpList_load_cells rfl 45 (.tmp 24) rfl h (k * 8) rfl [.int .u32 q.src, .int .u32 q.dst, I64 q.proto, I64 q.ttl, I64 q.id, I64 q.off, .bool q.more, .slice B q.data.length d] (d := _) hc2.out Try.underlying45 rfl (by kernel_rfl) ?_)
      refine (same_true q B d _ hql (H3.out.1.only ((HW.out.alloc _).alloc _)) (H3.out.2.only ((HW.out.alloc _).alloc _))).mono ?_
      rintro e w1 ⟨rfl, ho⟩
      have H4 := hide (Only.trans ((HW.out.alloc _).alloc _) ho)
      clear ho
      go_wp2
      go_roundw
      case rel => exact ⟨k + 1, by omega, by go_num, H4⟩
      case measure => simp [intOf]; omega
    · obtain rfl : k = n := by omega
      go_wp2
      go_ret
      exact ⟨rfl, HW.out⟩

end Go.Proofs.Ytlnejlhdkmneeaa
