/- The reference's Check and New; From. -/
import Derived.Test.YtdjkgbkckmjfiaaRefF
import Derived.Test.YtdjkgbkckmjfiaaWalkE
namespace Go.Proofs.Ytdjkgbkckmjfiaa
open Go.RowKit

theorem rcheck_yes (B P N L : Int) (w : World) (h : okRaw B P N L) :
    Calls Try.prog 17 #[.agg #[I64 B, I64 P, I64 N, I64 L]] w fun e w' => e = .returned (I64 0) ∧ Only [] w w' := by
  obtain ⟨a1, a2, a3, a4, a5, a6, a7, a8⟩ := h
  go_enter Try.func17, Try.ntmps17
  go_wp2
  go_ret
  exact ⟨rfl, (Only.refl _ _).alloc _⟩
set_option maxHeartbeats 1000000 in
theorem rcheck_no (B P N L : Int) (w : World) (h : ¬ okRaw B P N L) :
    Calls Try.prog 17 #[.agg #[I64 B, I64 P, I64 N, I64 L]] w fun e w' => e = .returned (I64 34) ∧ Only [] w w' := by
  unfold okRaw at h
  by_cases a1 : B < 1
  · clear h
    go_enter Try.func17, Try.ntmps17
    go_wp2
    go_ret
    exact ⟨rfl, (Only.refl _ _).alloc _⟩
  by_cases a2 : 1000000 < B
  · clear h
    go_enter Try.func17, Try.ntmps17
    go_wp2
    go_ret
    exact ⟨rfl, (Only.refl _ _).alloc _⟩
  by_cases a3 : P < B
  · clear h
    go_enter Try.func17, Try.ntmps17
    go_wp2
    go_ret
    exact ⟨rfl, (Only.refl _ _).alloc _⟩
  by_cases a4 : 1000000 < P
  · clear h
    go_enter Try.func17, Try.ntmps17
    go_wp2
    go_ret
    exact ⟨rfl, (Only.refl _ _).alloc _⟩
  by_cases a5 : N < 1
  · clear h
    go_enter Try.func17, Try.ntmps17
    go_wp2
    go_ret
    exact ⟨rfl, (Only.refl _ _).alloc _⟩
  by_cases a6 : 32 < N
  · clear h
    go_enter Try.func17, Try.ntmps17
    go_wp2
    go_ret
    exact ⟨rfl, (Only.refl _ _).alloc _⟩
  by_cases a7 : L < 0
  · clear h
    go_enter Try.func17, Try.ntmps17
    go_wp2
    go_ret
    exact ⟨rfl, (Only.refl _ _).alloc _⟩
  have a8 : 255 < L := by omega
  clear h
  go_enter Try.func17, Try.ntmps17
  go_wp2
  go_ret
  exact ⟨rfl, (Only.refl _ _).alloc _⟩

theorem rnew_no (B P N L : Int) (w : World) (h : ¬ okRaw B P N L) :
    Calls Try.prog 14 #[.agg #[I64 B, I64 P, I64 N, I64 L]] w fun e w' => e = .returned (.tuple #[.pointer none, I64 34]) ∧ Only [] w w' := by
  go_enter Try.func14, Try.ntmps14
  go_wp2_with fail
  refine (rcheck_no B P N L _ h).mono ?_
  rintro e w1 ⟨rfl, ho⟩
  go_wp2
  go_ret2
  exact ⟨rfl, ((Only.refl _ _).alloc _).trans ho⟩


theorem rnew_build (B P N L : Int) : ∀ w : World, (Instr.build 72 #[(0, .agg #[I64 B, I64 P, I64 N, I64 L]), (1, I64 B), (7, .int .i64 (-1))]).run Try.prog w = .ok (.agg #[I64 B, I64 P, I64 N, I64 L, I64 B, .slice none 0 0, .bool false, I64 0, I64 0, I64 0, .int .i64 (-1)]) w := fun _ => by kernel_rfl

theorem rnew_yes (p : Prm) (w : World) (base : Nat) (h : p.ok) (hb : base ≤ w.heap.size) :
    Calls Try.prog 14 #[.agg #[I64 p.B, I64 p.P, I64 p.N, I64 p.L]] w fun e w' => ∃ rb, e = .returned (.tuple #[.pointer (some ⟨rb, 0, none⟩), I64 0]) ∧
      RefIs w' base rb (Srv.new p) ∧ w.heap.size ≤ rb ∧ Only [] w w' := by
  have hok : okRaw p.B p.P p.N p.L := by obtain ⟨a1, a2, a3, a4, a5, a6, a7, a8⟩ := h; exact ⟨a1, a2, a3, a4, by omega, by omega, a7, a8⟩
  have hbd := rnew_build
  go_enter Try.func14, Try.ntmps14
  go_wp2_with fail
  refine (rcheck_yes p.B p.P p.N p.L _ hok).mono ?_
  rintro e w1 ⟨rfl, ho⟩
  have hbx := ho.blk (Blk.new w 48 [I64 p.B, I64 p.P, I64 p.N, I64 p.L]) (by simp)
  have e0 := hbx.cell (i := 0) rfl
  have e1 := hbx.cell (i := 1) rfl
  have e2 := hbx.cell (i := 2) rfl
  have e3 := hbx.cell (i := 3) rfl
  go_wp2
  go_ret2
  have hs := ho.size
  simp at hs
  refine ⟨_, rfl, ⟨.slice none 0 0, ?_, World.ownsRow_nil _ _ _ _, by omega⟩, by omega, (((Only.refl _ _).alloc _).trans ho).alloc _⟩
  exact Blk.new w1 _ _

theorem from_ok (B P N L : Int) (w : World) :
    Calls Try.prog 15 #[.agg #[I64 B, I64 P, I64 N, I64 L]] w fun e w' => e = .returned (.agg #[I64 B, I64 P, I64 N, I64 L]) ∧ Only [] w w' := by
  go_enter Try.func15, Try.ntmps15
  go_wp2
  refine bodyPost_ret (v := .agg #[I64 B, I64 P, I64 N, I64 L]) (by simp [results, Try.func15, Try.f15, go_sem]) rfl ?_
  refine ⟨rfl, ?_⟩
  repeat (first | with_reducible exact Only.refl _ _ | with_reducible apply Only.drew | with_reducible apply Only.drewN | with_reducible apply Only.alloc | (with_reducible apply Only.set'; next => (first | (left; simp; done) | (right; dsimp only; omega) | (right; simp; omega))))

end Go.Proofs.Ytdjkgbkckmjfiaa
