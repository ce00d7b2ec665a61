/- Fragment where it does not cut. -/
import Derived.Test.YtlnejlhdkmneeaaRefD
import Derived.Test.YtlnejlhdkmneeaaRefC
namespace Go.Proofs.Ytlnejlhdkmneeaa
open Go.RowKit

set_option maxRecDepth 100000 in
set_option maxHeartbeats 4000000 in
theorem frag_bad (p : Pkt) (lim : Int) (w : World) (hl : p.data.length ≤ maxLen) (h : p.bad ∨ lim < 28) :
    Calls Try.prog 21 #[p.V, I64 lim] w fun e w' => e = .returned (.tuple #[.slice none 0 0, I64 34]) ∧ Only [] w w' := by
  have hO : Only [] w (w.alloc (.cells #[.int .u32 p.src, .int .u32 p.dst, I64 p.proto, I64 p.ttl, I64 p.id, I64 p.off, .bool p.more, .slice p.A p.data.length p.cap] 30)) := (Only.refl [] w).alloc _
  have hB : Blk (w.alloc (.cells #[.int .u32 p.src, .int .u32 p.dst, I64 p.proto, I64 p.ttl, I64 p.id, I64 p.off, .bool p.more, .slice p.A p.data.length p.cap] 30)) w.heap.size 30 [.int .u32 p.src, .int .u32 p.dst, I64 p.proto, I64 p.ttl, I64 p.id, I64 p.off, .bool p.more, .slice p.A p.data.length p.cap] := Blk.newA rfl
  show Calls Try.prog 21 #[.agg #[.int .u32 p.src, .int .u32 p.dst, I64 p.proto, I64 p.ttl, I64 p.id, I64 p.off, .bool p.more, .slice p.A p.data.length p.cap], I64 lim] w _
  have HO := hide hO
  clear hO hB
  go_enter Try.func21, Try.ntmps21
  go_wp2_with fail
  refine (Valid_ok p _ hl).mono ?_
  rintro e w1 ⟨rfl, ho⟩
  have H1 := hide (Only.trans HO.out ho)
  clear ho
  by_cases hbad : p.bad
  · rw [Pkt.valid_bad hbad]
    clear hbad h
    go_wp2
    go_ret2
    exact ⟨rfl, H1.out⟩
  · rw [Pkt.valid_good hbad]
    have hlt : lim < 28 := by rcases h with h | h; exact absurd h hbad; exact h
    clear hbad h
    go_wp2
    go_ret2
    exact ⟨rfl, H1.out⟩

set_option maxRecDepth 100000 in
set_option maxHeartbeats 4000000 in
theorem refFrag_bad (p : Pkt) (lim : Int) (w : World) (hl : p.data.length ≤ maxLen) (h : p.bad ∨ lim < 28) :
    Calls Try.prog 22 #[p.V, I64 lim] w fun e w' => e = .returned (.tuple #[.slice none 0 0, I64 34]) ∧ Only [] w w' := by
  have hO : Only [] w (w.alloc (.cells #[.int .u32 p.src, .int .u32 p.dst, I64 p.proto, I64 p.ttl, I64 p.id, I64 p.off, .bool p.more, .slice p.A p.data.length p.cap] 45)) := (Only.refl [] w).alloc _
  have hB : Blk (w.alloc (.cells #[.int .u32 p.src, .int .u32 p.dst, I64 p.proto, I64 p.ttl, I64 p.id, I64 p.off, .bool p.more, .slice p.A p.data.length p.cap] 45)) w.heap.size 45 [.int .u32 p.src, .int .u32 p.dst, I64 p.proto, I64 p.ttl, I64 p.id, I64 p.off, .bool p.more, .slice p.A p.data.length p.cap] := Blk.newA rfl
  show Calls Try.prog 22 #[.agg #[.int .u32 p.src, .int .u32 p.dst, I64 p.proto, I64 p.ttl, I64 p.id, I64 p.off, .bool p.more, .slice p.A p.data.length p.cap], I64 lim] w _
  have HO := hide hO
  clear hO hB
  go_enter Try.func22, Try.ntmps22
  go_wp2_with fail
  refine (refValid_ok p _ hl).mono ?_
  rintro e w1 ⟨rfl, ho⟩
  have H1 := hide (Only.trans HO.out ho)
  clear ho
  by_cases hbad : p.bad
  · rw [Pkt.valid_bad hbad]
    clear hbad h
    go_wp2
    go_ret2
    exact ⟨rfl, H1.out⟩
  · rw [Pkt.valid_good hbad]
    have hlt : lim < 28 := by rcases h with h | h; exact absurd h hbad; exact h
    clear hbad h
    go_wp2
    go_ret2
    exact ⟨rfl, H1.out⟩

set_option maxHeartbeats 4000000 in
theorem eqfunc_nil (w : World) : Calls Try.prog 24 #[.slice none 0 0, .slice none 0 0, .func (.func 25) #[] #[]] w fun e w' => e = .returned (.bool true) ∧ Only [] w w' := by
  go_enter Try.func24, Try.ntmps24
  go_wp2
  refine wp_loop_rounds 1 ?_
  rw [rounds_succ]
  go_wp2
  go_ret
  exact ⟨rfl, Only.refl _ _⟩

theorem same_out {F : Nat → Pkt} {N : Nat} {w : World} {qs rs : List Pkt} (h1 : ∀ k, k < N → ∃ A c, qs[k]? = some ((F k).at A c) ∧ NumsIn w .u8 A (F k).data) (h2 : ∀ k, k < N → ∃ A c, rs[k]? = some ((F k).at A c) ∧ NumsIn w .u8 A (F k).data) (hF : ∀ k, k < N → (F k).data.length ≤ maxLen) : ∀ k, k < N → SameAt w qs rs k := by
  intro k hk
  obtain ⟨A, c, h3, h4⟩ := h1 k hk
  obtain ⟨B, d, h5, h6⟩ := h2 k hk
  exact ⟨(F k).at A c, B, d, h3, h5, h4, h6, hF k hk⟩

end Go.Proofs.Ytlnejlhdkmneeaa
