/- A server that is asked at further times runs as the one that is not: on plain numbers. -/
import Derived.Test.YtdjkgbkckmjfiaaSums
namespace Go.Proofs.Ytdjkgbkckmjfiaa

structure AskInv (s t : Srv) (now : Int) : Prop where
  inv : s.Inv
  inv2 : t.Inv
  order : s.now ≤ now
  ran : s.ran < now
  same : t = s ∨ ∃ u, s.now ≤ u ∧ u ≤ now ∧ t = s.tell u

theorem AskInv.new (p : Prm) (h : p.ok) : AskInv (Srv.new p) (Srv.new p) 0 := ⟨Srv.Inv.news h, Srv.Inv.news h, by simp [Srv.new], by simp [Srv.new], .inl rfl⟩
theorem AskInv.later {s t : Srv} {a b : Int} (h : AskInv s t a) (hb : a ≤ b) : AskInv s t b := by
  refine ⟨h.inv, h.inv2, by have := h.order; omega, by have := h.ran; omega, ?_⟩
  rcases h.same with e | ⟨u, h1, h2, e⟩
  · exact .inl e
  · exact .inr ⟨u, h1, by omega, e⟩
theorem AskInv.now {s t : Srv} {n : Int} (h : AskInv s t n) : t.now ≤ n ∧ t.ran = s.ran := by
  rcases h.same with rfl | ⟨u, h1, h2, rfl⟩
  · exact ⟨h.order, rfl⟩
  · have := tell_rest s u
    exact ⟨by rw [this.2.1]; exact h2, this.2.2.1⟩
theorem AskInv.told {s t : Srv} {n : Int} (h : AskInv s t n) : t.tell n = s.tell n := by
  rcases h.same with rfl | ⟨u, h1, h2, rfl⟩
  · rfl
  · exact tell_tell s u n h2
theorem AskInv.ask {s t : Srv} {n : Int} (h : AskInv s t n) (hn : n ≤ 1099511627776) : AskInv s (t.tell n) n := by
  refine ⟨h.inv, h.inv2.tells h.now.1 hn, h.order, h.ran, .inr ⟨n, h.order, Int.le_refl _, h.told⟩⟩
theorem AskInv.runs_same {s t : Srv} {n : Int} (h : AskInv s t n) (hn : inTime n = true) : t.runs n = s.runs n := by
  have h1 := h.now
  have h2 := h.ran
  rw [runs_eq s n hn h.order (by omega), runs_eq t n hn h1.1 (by omega), h.told]
theorem tick_rest (s : Srv) (n : Int) : (s.tick n).1.now = s.now ∧ ((s.tick n).1.ran = s.ran ∨ (s.tick n).1.ran = n) := by
  by_cases h : s.left = 0
  · unfold Srv.tick; rw [if_pos h]; exact ⟨rfl, .inl rfl⟩
  · rw [tick_eq s n h]
    by_cases h1 : s.left = 1
    · rw [if_pos h1]
      have := endc_rest (s.spend n)
      exact ⟨this.2.2.2.2.2.1, .inr this.2.2.2.2.2.2⟩
    · rw [if_neg h1]; exact ⟨rfl, .inr rfl⟩
theorem AskInv.runs {s t : Srv} {n : Int} (h : AskInv s t n) (hn : inTime n = true) : AskInv (s.runs n).1 (t.runs n).1 (n + 1) := by
  rw [h.runs_same hn]
  have h2 := h.ran
  refine ⟨h.inv.runs n, h.inv.runs n, ?_, ?_, .inl rfl⟩
  · rw [runs_eq s n hn h.order (by omega), (tick_rest _ _).1, (tell_rest s n).2.1]; omega
  · rw [runs_eq s n hn h.order (by omega)]
    have := (tick_rest (s.tell n) n).2
    rw [(tell_rest s n).2.2.1] at this
    omega

end Go.Proofs.Ytdjkgbkckmjfiaa
