/- The reference's server: Next, Check, nil. -/
import Derived.Test.YtdjkgbkckmjfiaaRefE
namespace Go.Proofs.Ytdjkgbkckmjfiaa
open Go.RowKit

theorem rnext_ok (base rb : Nat) (s : Srv) (w : World) (hs : RefIs w base rb s) (hI : s.Inv) :
    Calls Try.prog 22 #[.pointer (some ⟨rb, 0, none⟩)] w
      fun e w' => e = .returned (.tuple #[I64 s.next.1, .bool s.next.2]) ∧ w = w' := by
  obtain ⟨v, me, own, ge⟩ := hs
  have c5 := me.cell (i := 5) rfl
  have hN := hI.prm.2.2.2.2.2.1
  have hll := hI.len
  rcases hl : s.list with _ | ⟨x, l⟩
  · have hn := hide (show s.next = (0, false) by unfold Srv.next; rw [hl])
    obtain ⟨A, c, rfl⟩ := own_shape own
    rw [hl] at c5
    clear hl
    go_enter Try.func22, Try.ntmps22
    go_wp2
    go_ret2
    rw [hn.out]
    exact ⟨rfl, rfl⟩
  · have hn := hide (show s.next = (x.1, true) by unfold Srv.next; rw [hl])
    rw [hl] at own hll
    simp only [List.length_cons] at own hll
    obtain ⟨g, cap, rfl⟩ : ∃ g cap, v = .slice (some ⟨g, 0, none⟩) (l.length + 1) cap := by
      rcases own.2 with ⟨_, h⟩ | ⟨g, cap, cur, rfl, _, _, h1, h2, _⟩
      · omega
      · exact ⟨g, cap, rfl⟩
    have g0 := own.cellAt 0 (by omega)
    rw [show (bufCells (x :: l))[0]? = some (I64 x.1) from rfl] at g0
    have hz : (((l.length + 1 : Nat) : Int) == 0) = false := by simp; omega
    clear hl own me
    go_enter Try.func22, Try.ntmps22
    go_wp2
    go_ret2
    rw [hn.out]
    exact ⟨rfl, rfl⟩

end Go.Proofs.Ytdjkgbkckmjfiaa
