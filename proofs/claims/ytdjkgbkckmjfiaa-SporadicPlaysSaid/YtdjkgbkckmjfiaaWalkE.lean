/- The program's sporadic server: Check, New. -/
import Derived.Test.YtdjkgbkckmjfiaaWalkD
import Derived.Laws.EntriesVeiled
import Derived.Laws.MakeOwn
import Derived.Deep.RegionWith
namespace Go.Proofs.Ytdjkgbkckmjfiaa
open Go.RowKit

def okRaw (B P N L : Int) : Prop := 1 ≤ B ∧ B ≤ 1000000 ∧ B ≤ P ∧ P ≤ 1000000 ∧ 1 ≤ N ∧ N ≤ 32 ∧ 0 ≤ L ∧ L ≤ 255

theorem check_yes (B P N L : Int) (w : World) (h : okRaw B P N L) :
    Calls Try.prog 16 #[.agg #[I64 B, I64 P, I64 N, I64 L]] w fun e w' => e = .returned (I64 0) ∧ Only [] w w' := by
  obtain ⟨a1, a2, a3, a4, a5, a6, a7, a8⟩ := h
  go_enter Try.func16, Try.ntmps16
  go_wp2
  go_ret
  exact ⟨rfl, (Only.refl _ _).alloc _⟩
set_option maxHeartbeats 1000000 in
theorem check_no (B P N L : Int) (w : World) (h : ¬ okRaw B P N L) :
    Calls Try.prog 16 #[.agg #[I64 B, I64 P, I64 N, I64 L]] w fun e w' => e = .returned (I64 34) ∧ Only [] w w' := by
  unfold okRaw at h
  by_cases a1 : B < 1
  · clear h
    go_enter Try.func16, Try.ntmps16
    go_wp2
    go_ret
    exact ⟨rfl, (Only.refl _ _).alloc _⟩
  by_cases a2 : 1000000 < B
  · clear h
    go_enter Try.func16, Try.ntmps16
    go_wp2
    go_ret
    exact ⟨rfl, (Only.refl _ _).alloc _⟩
  by_cases a3 : P < B
  · clear h
    go_enter Try.func16, Try.ntmps16
    go_wp2
    go_ret
    exact ⟨rfl, (Only.refl _ _).alloc _⟩
  by_cases a4 : 1000000 < P
  · clear h
    go_enter Try.func16, Try.ntmps16
    go_wp2
    go_ret
    exact ⟨rfl, (Only.refl _ _).alloc _⟩
  by_cases a5 : N < 1
  · clear h
    go_enter Try.func16, Try.ntmps16
    go_wp2
    go_ret
    exact ⟨rfl, (Only.refl _ _).alloc _⟩
  by_cases a6 : 32 < N
  · clear h
    go_enter Try.func16, Try.ntmps16
    go_wp2
    go_ret
    exact ⟨rfl, (Only.refl _ _).alloc _⟩
  by_cases a7 : L < 0
  · clear h
    go_enter Try.func16, Try.ntmps16
    go_wp2
    go_ret
    exact ⟨rfl, (Only.refl _ _).alloc _⟩
  have a8 : 255 < L := by omega
  clear h
  go_enter Try.func16, Try.ntmps16
  go_wp2
  go_ret
  exact ⟨rfl, (Only.refl _ _).alloc _⟩

theorem new_no (B P N L : Int) (w : World) (h : ¬ okRaw B P N L) :
    Calls Try.prog 8 #[.agg #[I64 B, I64 P, I64 N, I64 L]] w fun e w' => e = .returned (.tuple #[.pointer none, I64 34]) ∧ Only [] w w' := by
  go_enter Try.func8, Try.ntmps8
  go_wp2_with fail
  refine (check_no B P N L _ h).mono ?_
  rintro e w1 ⟨rfl, ho⟩
  go_wp2
  go_ret2
  exact ⟨rfl, ((Only.refl _ _).alloc _).trans ho⟩

theorem rep_info : (Try.prog.info? 38).map (fun i => (i.zero, i.size, i.bytes)) = some (some (.agg #[.int .i64 0, .int .i64 0]), 2, 16) := by kernel_rfl

theorem made_new (N : Nat) : (madeCells #[.int .i64 0, .int .i64 0] (N * 2)).toList = bufCells (List.replicate N (0, 0)) := by
  have h : ∀ n : Nat, bufCells (List.replicate n (0, 0)) = List.replicate (n * 2) (I64 0) := by
    intro n
    induction n with
    | zero => rfl
    | succ n ih =>
      show I64 0 :: I64 0 :: bufCells (List.replicate n (0, 0)) = _
      rw [ih, show (n + 1) * 2 = n * 2 + 1 + 1 from by omega, List.replicate_succ, List.replicate_succ]
  rw [h]
  refine List.ext_getElem? fun i => ?_
  simp only [madeCells, Array.toList_map, Array.toList_range, List.getElem?_map, List.getElem?_replicate]
  by_cases hi : i < N * 2
  · rw [List.getElem?_range hi, if_pos hi]
    have : i % 2 = 0 ∨ i % 2 = 1 := by omega
    rcases this with e | e <;> simp [e]
  · rw [if_neg hi, List.getElem?_eq_none (by simp; omega)]
    rfl
theorem ring_new (N : Nat) (h : 1 ≤ N) : Ring N 0 (List.replicate N (0, 0)) [] := ⟨by simp, by omega, by simp, by simp⟩

set_option maxHeartbeats 1000000 in
theorem new_yes (p : Prm) (w : World) (h : p.ok) :
    Calls Try.prog 8 #[.agg #[I64 p.B, I64 p.P, I64 p.N, I64 p.L]] w fun e w' => ∃ b g bs, e = .returned (.tuple #[.pointer (some ⟨b, 0, none⟩), I64 0]) ∧
      SrvIs w' b g bs (Srv.new p) ∧ w.heap.size ≤ b ∧ w.heap.size ≤ g ∧ w.heap.size ≤ bs ∧ Only [] w w' := by
  have hok : okRaw p.B p.P p.N p.L := by obtain ⟨a1, a2, a3, a4, a5, a6, a7, a8⟩ := h; exact ⟨a1, a2, a3, a4, by omega, by omega, a7, a8⟩
  have hN : p.N ≤ 32 := h.2.2.2.2.2.1
  go_enter Try.func8, Try.ntmps8
  go_wp2_with fail
  refine (check_yes p.B p.P p.N p.L _ hok).mono ?_
  rintro e w1 ⟨rfl, ho⟩
  have hbx := ho.blk (Blk.new w 23 [I64 p.B, I64 p.P, I64 p.N, I64 p.L]) (by simp)
  have c0 := hbx.cell (i := 0) rfl
  have c1 := hbx.cell (i := 1) rfl
  have c2 := hbx.cell (i := 2) rfl
  have c3 := hbx.cell (i := 3) rfl
  have hsz := ho.size
  simp at hsz
  have hlt : w.heap.size < w1.heap.size := by omega
  obtain ⟨i0, hi0, hz0, hs0, hb0⟩ := info_parts rep_info
  have hmk : ∀ W : World, (Instr.makeSlice 35 (I64 p.N) (I64 p.N)).run Try.prog W = .ok (.slice (some ⟨W.heap.size, 0, none⟩) p.N p.N) (W.alloc (.cells (madeCells #[.int .i64 0, .int .i64 0] (p.N * 2)) 38)) := by
    intro W
    have hr := run_make (P := Try.prog) W 35 38 i0 _ Try.underlying35 hi0 hz0 .i64 .i64 p.N p.N (by omega) (by omega) (by rw [hb0]; omega) (by omega)
    simp only [Int.toNat_natCast, hs0] at hr
    exact hr
  have hb1 : ∀ (W : World) (g : Nat), (Instr.build 63 #[(0, .slice (some ⟨g, 0, none⟩) p.N p.N)]).run Try.prog W = .ok (.agg #[.slice (some ⟨g, 0, none⟩) p.N p.N, .int .i64 0, .int .i64 0]) W := fun _ _ => by kernel_rfl
  have hb2 : ∀ (W : World) (g : Nat), (Instr.build 66 #[(0, .agg #[I64 p.B, I64 p.P, I64 p.N, I64 p.L]), (1, I64 p.B), (2, .agg #[.slice (some ⟨g, 0, none⟩) p.N p.N, .int .i64 0, .int .i64 0]), (7, .int .i64 (-1))]).run Try.prog W =
      .ok (.agg #[I64 p.B, I64 p.P, I64 p.N, I64 p.L, I64 p.B, .slice (some ⟨g, 0, none⟩) p.N p.N, .int .i64 0, .int .i64 0, .int .i64 0, .int .i64 0, .bool false, .int .i64 0, .int .i64 (-1), .nilFunc, .nilFunc]) W := fun _ _ => by kernel_rfl
  go_wp2
  go_region
  · go_wp2
    go_ret2
    refine ⟨w1.heap.size + 1, w1.heap.size, w1.heap.size + 1 + 1, rfl, ⟨0, List.replicate p.N (0, 0), ?_, ?_, ?_, ring_new p.N h.2.2.2.2.1⟩, by omega, by omega, by omega, ?_⟩
    · apply Blk.to
      next => repeat (first | with_reducible exact trivial | (with_reducible refine Blk.newA ?_; simp; done) | with_reducible apply Blk.drew | with_reducible apply Blk.drewN | with_reducible apply Blk.alloc | with_reducible apply Blk.set | (with_reducible apply Blk.far'; next => (first | assumption | exact Ne.symm ‹_› | (dsimp only; omega))))
      simp [srvCells, Srv.new]
    · apply Blk.to
      next => repeat (first | with_reducible exact trivial | (with_reducible refine Blk.newA ?_; simp; done) | with_reducible apply Blk.drew | with_reducible apply Blk.drewN | with_reducible apply Blk.alloc | with_reducible apply Blk.set | (with_reducible apply Blk.far'; next => (first | assumption | exact Ne.symm ‹_› | (dsimp only; omega))))
      exact made_new p.N
    · apply Blk.to
      next => repeat (first | with_reducible exact trivial | (with_reducible refine Blk.newA ?_; simp; done) | with_reducible apply Blk.drew | with_reducible apply Blk.drewN | with_reducible apply Blk.alloc | with_reducible apply Blk.set | (with_reducible apply Blk.far'; next => (first | assumption | exact Ne.symm ‹_› | (dsimp only; omega))))
      rfl
    · refine Only.trans ?_ (Only.trans ho ?_)
      · repeat (first | with_reducible exact Only.refl _ _ | with_reducible apply Only.drew | with_reducible apply Only.drewN | with_reducible apply Only.alloc | (with_reducible apply Only.set'; next => (first | (left; simp; done) | (right; dsimp only; omega) | (right; simp; omega))))
      · repeat (first | with_reducible exact Only.refl _ _ | with_reducible apply Only.drew | with_reducible apply Only.drewN | with_reducible apply Only.alloc | (with_reducible apply Only.set'; next => (first | (left; simp; done) | (right; dsimp only; omega) | (right; simp; omega))))
  · go_wp2
    go_ret2
    refine ⟨w1.heap.size + 1 + 1, w1.heap.size, w1.heap.size + 1, rfl, ⟨0, List.replicate p.N (0, 0), ?_, ?_, ?_, ring_new p.N h.2.2.2.2.1⟩, by omega, by omega, by omega, ?_⟩
    · apply Blk.to
      next => repeat (first | with_reducible exact trivial | (with_reducible refine Blk.newA ?_; simp; done) | with_reducible apply Blk.drew | with_reducible apply Blk.drewN | with_reducible apply Blk.alloc | with_reducible apply Blk.set | (with_reducible apply Blk.far'; next => (first | assumption | exact Ne.symm ‹_› | (dsimp only; omega))))
      simp [srvCells, Srv.new]
    · apply Blk.to
      next => repeat (first | with_reducible exact trivial | (with_reducible refine Blk.newA ?_; simp; done) | with_reducible apply Blk.drew | with_reducible apply Blk.drewN | with_reducible apply Blk.alloc | with_reducible apply Blk.set | (with_reducible apply Blk.far'; next => (first | assumption | exact Ne.symm ‹_› | (dsimp only; omega))))
      exact made_new p.N
    · apply Blk.to
      next => repeat (first | with_reducible exact trivial | (with_reducible refine Blk.newA ?_; simp; done) | with_reducible apply Blk.drew | with_reducible apply Blk.drewN | with_reducible apply Blk.alloc | with_reducible apply Blk.set | (with_reducible apply Blk.far'; next => (first | assumption | exact Ne.symm ‹_› | (dsimp only; omega))))
      rfl
    · refine Only.trans ?_ (Only.trans ho ?_)
      · repeat (first | with_reducible exact Only.refl _ _ | with_reducible apply Only.drew | with_reducible apply Only.drewN | with_reducible apply Only.alloc | (with_reducible apply Only.set'; next => (first | (left; simp; done) | (right; dsimp only; omega) | (right; simp; omega))))
      · repeat (first | with_reducible exact Only.refl _ _ | with_reducible apply Only.drew | with_reducible apply Only.drewN | with_reducible apply Only.alloc | (with_reducible apply Only.set'; next => (first | (left; simp; done) | (right; dsimp only; omega) | (right; simp; omega))))
  · go_wp2
    go_ret2
    refine ⟨w1.heap.size + 1 + 1, w1.heap.size + 1, w1.heap.size, rfl, ⟨0, List.replicate p.N (0, 0), ?_, ?_, ?_, ring_new p.N h.2.2.2.2.1⟩, by omega, by omega, by omega, ?_⟩
    · apply Blk.to
      next => repeat (first | with_reducible exact trivial | (with_reducible refine Blk.newA ?_; simp; done) | with_reducible apply Blk.drew | with_reducible apply Blk.drewN | with_reducible apply Blk.alloc | with_reducible apply Blk.set | (with_reducible apply Blk.far'; next => (first | assumption | exact Ne.symm ‹_› | (dsimp only; omega))))
      simp [srvCells, Srv.new]
    · apply Blk.to
      next => repeat (first | with_reducible exact trivial | (with_reducible refine Blk.newA ?_; simp; done) | with_reducible apply Blk.drew | with_reducible apply Blk.drewN | with_reducible apply Blk.alloc | with_reducible apply Blk.set | (with_reducible apply Blk.far'; next => (first | assumption | exact Ne.symm ‹_› | (dsimp only; omega))))
      exact made_new p.N
    · apply Blk.to
      next => repeat (first | with_reducible exact trivial | (with_reducible refine Blk.newA ?_; simp; done) | with_reducible apply Blk.drew | with_reducible apply Blk.drewN | with_reducible apply Blk.alloc | with_reducible apply Blk.set | (with_reducible apply Blk.far'; next => (first | assumption | exact Ne.symm ‹_› | (dsimp only; omega))))
      rfl
    · refine Only.trans ?_ (Only.trans ho ?_)
      · repeat (first | with_reducible exact Only.refl _ _ | with_reducible apply Only.drew | with_reducible apply Only.drewN | with_reducible apply Only.alloc | (with_reducible apply Only.set'; next => (first | (left; simp; done) | (right; dsimp only; omega) | (right; simp; omega))))
      · repeat (first | with_reducible exact Only.refl _ _ | with_reducible apply Only.drew | with_reducible apply Only.drewN | with_reducible apply Only.alloc | (with_reducible apply Only.set'; next => (first | (left; simp; done) | (right; dsimp only; omega) | (right; simp; omega))))

end Go.Proofs.Ytdjkgbkckmjfiaa
