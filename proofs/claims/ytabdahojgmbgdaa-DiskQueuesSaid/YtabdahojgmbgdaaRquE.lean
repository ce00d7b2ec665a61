/- The queue of both: Requests. -/
import Derived.Test.YtabdahojgmbgdaaRquD
namespace Go.Proofs.Ytabdahojgmbgdaa
open Go.RowKit

/-- A copy of the requests. -/
def ReqS (T : TypeId) (l : List Rq) (n : Nat) (w : World) (e : Ending) (w' : World) : Prop :=
  ∃ A c, e = .returned (.slice A n c) ∧ offRow w' 0 T 3 (.slice A n c) n (l.flatMap Rq.cells) ∧ Only [] w w'

set_option maxRecDepth 20000 in
set_option maxHeartbeats 1000000 in
theorem qclone_ok (base : Nat) (l : List Rq) (n cap : Nat) (A : Option Addr) (w : World) (hr : w.ownsRow base rqT 3 (.slice A n cap) n (l.flatMap Rq.cells)) (hm : n ≤ 1000) :
    Calls Try.prog 53 #[.slice A n cap] w (ReqS rqT l n w) := by
  obtain ⟨i0, hi0, hz0, hs0, hb0⟩ := info_parts rq_info
  cases A with
  | none =>
    obtain ⟨rfl, rfl⟩ : n = 0 ∧ cap = 0 := by
      rcases hr.2 with ⟨h1, h2⟩ | ⟨g', c', cur, h1, -⟩
      · injection h1 with _ _ h3; exact ⟨h2, h3⟩
      · cases h1
    have hl : l.flatMap Rq.cells = [] := List.eq_nil_of_length_eq_zero (by rw [hr.1])
    have HL := hide hl
    clear hr hl
    have heq : ∀ W : World, (binOp BinOp.eql 68 (.slice none 0 0) (.slice none 0 0)).run Try.prog W = .ok (.bool true) W := fun _ => by kernel_rfl
    go_enter Try.func53, Try.ntmps53
    go_wp2
    go_ret
    exact ⟨none, 0, rfl, by rw [HL.out]; exact off_nil _ _ _ _, Only.refl _ _⟩
  | some a =>
    have heq : ∀ W : World, (binOp BinOp.eql 68 (.slice (some a) n cap) (.slice none 0 0)).run Try.prog W = .ok (.bool false) W := fun _ => by kernel_rfl
    have h0 := hide (off_of_own (World.ownsRow_made (base := w.heap.size) (e := rqT) (size := 3) w #[] 0 (Nat.le_refl _) (by simp [maxLen]) rfl))
    have HR := hide (off_of_own (own_nil hr ((Only.refl [] w).alloc (.cells #[] rqT))))
    have hO := hide ((Only.refl [] w).alloc (.cells #[] rqT))
    clear hr
    go_enter Try.func53, Try.ntmps53
    go_wp2_with (
      at_builtin
      refine wpList_append_offs _ rfl (.tmp 5) (.tmp 6) 68 rfl rqT i0 (.agg #[I64 0, I64 0, I64 0]) 3 24 Try.underlying68 hi0 hz0 hs0 hb0 rfl (by decide) w.heap.size (.slice (some ⟨w.heap.size, 0, none⟩) 0 0) 0 [] rfl h0.out hO.out.size base (.slice (some a) n cap) n (l.flatMap Rq.cells) rfl HR.out (rq_one _) (by unfold maxLen; omega) (by omega) ?_
      intro v3 w3 hr3 ho3 hbk3
      rw [Nat.zero_add, List.nil_append] at hr3
      obtain ⟨A3, c3, rfl⟩ := off_shape hr3
      have HF := hide (show offRow w3 w.heap.size rqT 3 (.slice A3 n c3) n (l.flatMap Rq.cells) ∧ Only [] w w3 from ⟨hr3, hO.out.trans' ho3 (by intro i hi hl; simp [Value.ownBlock] at hi; omega)⟩)
      clear hr3 ho3 hbk3)
    go_ret
    refine ⟨A3, c3, rfl, ⟨HF.out.1.1, ?_⟩, HF.out.2⟩
    rcases HF.out.1.2 with h | ⟨g, o, cp, cs, h1, -, h2⟩
    · exact .inl h
    · exact .inr ⟨g, o, cp, cs, h1, Nat.zero_le _, h2⟩

set_option maxRecDepth 20000 in
set_option maxHeartbeats 1000000 in
theorem reqs_ok (base q : Nat) (v : Value) (Q : Qu) (w : World) (h : QuAt base w q v Q) :
    Calls Try.prog 26 #[.pointer (some ⟨q, 0, none⟩)] w (ReqS rqT Q.l Q.l.length w) := by
  obtain ⟨A, cap, hv⟩ := own_shape h.row
  subst hv
  have c2 := h.me.cell (i := 2) rfl
  have lq := h.me.lt
  have hc := hide (qclone_ok base Q.l Q.l.length cap A w h.row h.ok.len)
  clear h
  go_enter Try.func26, Try.ntmps26
  go_wp2_with (go_at_call 53; refine hc.out.mono ?_; rintro e w1 ⟨A1, c1, rfl, h1⟩; have H1 := hide h1; clear h1)
  go_ret
  exact ⟨A1, c1, rfl, H1.out⟩

set_option maxRecDepth 20000 in
set_option maxHeartbeats 1000000 in
theorem rreqs_ok (base q : Nat) (v : Value) (Q : Qu) (w : World) (h : RuAt base w q v Q) :
    Calls Try.prog 27 #[.pointer (some ⟨q, 0, none⟩)] w (ReqS rrT Q.l Q.l.length w) := by
  obtain ⟨i0, hi0, hz0, hs0, hb0⟩ := info_parts rr_info
  obtain ⟨A, cap, hv⟩ := own_shape h.row
  subst hv
  obtain ⟨n, hn⟩ : ∃ n, n = Q.l.length := ⟨_, rfl⟩
  have hm : n ≤ 1000 := by rw [hn]; exact h.ok.len
  rw [← hn] at h ⊢
  have ho := (Only.refl [] w).alloc (.cells #[] rrT)
  have hq := ho.blk h.me (by simp)
  have c2 := hq.cell (i := 2) rfl
  have lq := hq.lt
  have h0 := hide (off_of_own (World.ownsRow_made (base := w.heap.size) (e := rrT) (size := 3) w #[] 0 (Nat.le_refl _) (by simp [maxLen]) rfl))
  have HR := hide (off_of_own (own_nil h.row ho))
  have hO := hide ho
  rw [← hn] at HR
  clear h hn ho hq
  go_enter Try.func27, Try.ntmps27
  go_wp2_with (
    at_builtin
    refine wpList_append_offs _ rfl (.tmp 3) (.tmp 7) 70 rfl rrT i0 (.agg #[I64 0, I64 0, I64 0]) 3 24 Try.underlying70 hi0 hz0 hs0 hb0 rfl (by decide) w.heap.size (.slice (some ⟨w.heap.size, 0, none⟩) 0 0) 0 [] rfl h0.out hO.out.size base (.slice A n cap) n (Q.l.flatMap Rq.cells) rfl HR.out (rq_one _) (by unfold maxLen; omega) (by omega) ?_
    intro v3 w3 hr3 ho3 hbk3
    rw [Nat.zero_add, List.nil_append] at hr3
    obtain ⟨A3, c3, rfl⟩ := off_shape hr3
    have HF := hide (show offRow w3 w.heap.size rrT 3 (.slice A3 n c3) n (Q.l.flatMap Rq.cells) ∧ Only [] w w3 from ⟨hr3, hO.out.trans' ho3 (by intro i hi hl; simp [Value.ownBlock] at hi; omega)⟩)
    clear hr3 ho3 hbk3)
  go_ret
  refine ⟨A3, c3, rfl, ⟨HF.out.1.1, ?_⟩, HF.out.2⟩
  rcases HF.out.1.2 with h | ⟨g, o, cp, cs, h1, -, h2⟩
  · exact .inl h
  · exact .inr ⟨g, o, cp, cs, h1, Nat.zero_le _, h2⟩

end Go.Proofs.Ytabdahojgmbgdaa
