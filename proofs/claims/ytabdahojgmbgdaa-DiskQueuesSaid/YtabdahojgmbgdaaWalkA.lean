/- New, On, IsOn, Blocks. -/
import Derived.Test.YtabdahojgmbgdaaDisk
namespace Go.Proofs.Ytabdahojgmbgdaa
open Go.RowKit

def zb : List Nat := List.replicate 64 0
theorem zb_len : zb.length = 64 := by simp [zb]
abbrev nullS : Value := .slice none 0 0
theorem blk_info : (Try.prog.info? blkT).map (fun i => (i.zero, i.size, i.bytes)) = some (some (.agg (bcells zb).toArray), 64, 64) := by kernel_rfl
theorem bcells_zero (n : Nat) : bcells (List.replicate n 0) = List.replicate n (Value.int .u8 0) := by simp [bcells]
theorem zeros_flat (n m : Nat) : (List.replicate n (List.replicate m 0)).flatMap bcells = List.replicate (n * m) (Value.int .u8 0) := by
  induction n with
  | zero => simp
  | succ k ih => rw [List.replicate_succ, List.flatMap_cons, ih, bcells_zero, List.replicate_append_replicate]; congr 1; rw [Nat.add_mul]; omega
theorem made_blocks' (n m : Nat) (hm : 0 < m) : (madeCells (bcells (List.replicate m 0)).toArray (n * m)).toList = (List.replicate n (List.replicate m 0)).flatMap bcells := by
  rw [zeros_flat]
  apply List.ext_getElem?
  intro j
  by_cases hj : j < n * m
  · have h1 : j % m < m := Nat.mod_lt _ hm
    rw [bcells_zero]
    simp [madeCells, hj, h1]
  · rw [List.getElem?_eq_none (by simp [madeCells]; omega), List.getElem?_eq_none (by simp; omega)]
theorem made_blocks (n : Nat) : (madeCells (bcells zb).toArray (n * 64)).toList = (List.replicate n zb).flatMap bcells := made_blocks' n 64 (by decide)
theorem zb_flat (n : Nat) : ((List.replicate n zb).flatMap bcells).length = n * 64 := by unfold zb; rw [zeros_flat]; simp

/-- A disk that is new. -/
def Dk.new (n : Nat) : Dk := ⟨List.replicate n zb, [], false, 0, [], 0⟩
theorem Dk.new_ok (n : Nat) (h : 0 < n) (h2 : n ≤ 4096) : DkOk (Dk.new n) := by
  refine ⟨?_, ?_, ?_, ?_, ?_, ?_, ?_, ?_⟩ <;> simp [Dk.new] <;> first | omega | (intro b; exact zb_len)

theorem build_disk (b n : Nat) : ∀ w : World, (Instr.build dskT #[(0, .slice (some ⟨b, 0, none⟩) n n)]).run Try.prog w = .ok (.agg #[.slice (some ⟨b, 0, none⟩) n n, .slice none 0 0, .bool false, I64 0, .slice none 0 0, .int .i64 0]) w := fun _ => by kernel_rfl

set_option maxHeartbeats 1000000 in
theorem new_bad (w : World) (n : Int) (h : n < 1 ∨ 4096 < n) : Calls Try.prog 14 #[I64 n] w fun e w' => e = .returned (.tuple #[.pointer none, I64 34]) ∧ w' = w := by
  by_cases h1 : n < 1
  · go_enter Try.func14, Try.ntmps14
    go_wp2
    go_ret2
    trivial
  · have h2 : 4096 < n := by omega
    go_enter Try.func14, Try.ntmps14
    go_wp2
    go_ret2
    trivial

set_option maxHeartbeats 1000000 in
theorem new_ok (w : World) (base n : Nat) (hb : base ≤ w.heap.size) (h1 : 1 ≤ n) (h2 : n ≤ 4096) :
    Calls Try.prog 14 #[I64 (n : Int)] w fun e w' => ∃ p, e = .returned (.tuple #[.pointer (some ⟨p.d, 0, none⟩), I64 0]) ∧ w.heap.size ≤ p.d ∧ (∀ k ∈ p.foot, w.heap.size ≤ k) ∧ DkAt base w' p (Dk.new n) ∧ Only [] w w' := by
  obtain ⟨i0, hi0, hz0, hs0, hb0⟩ := info_parts blk_info
  obtain ⟨zs, hzs⟩ : ∃ zs, zs = madeCells (bcells zb).toArray (n * 64) := ⟨_, rfl⟩
  have hmk : ∀ W : World, (Instr.makeSlice 106 (I64 (n : Int)) (I64 (n : Int))).run Try.prog W = .ok (.slice (some ⟨W.heap.size, 0, none⟩) n n) (W.alloc (.cells zs blkT)) := by
    intro W
    have hr := run_make (P := Try.prog) W 106 blkT i0 _ Try.underlying106 hi0 hz0 .i64 .i64 n n (by omega) (by omega) (by rw [hb0]; omega) (by omega)
    simp only [Int.toNat_natCast, hs0] at hr
    rw [hzs]
    exact hr
  have hZ : Hid (zs.toList = (List.replicate n zb).flatMap bcells) := hide (by rw [hzs]; exact made_blocks n)
  clear hzs hi0 hz0 hs0 hb0
  have hbd := build_disk w.heap.size n
  have g1 : (1 : Int) ≤ (n : Int) := by omega
  have g2 : (n : Int) ≤ 4096 := by omega
  have HB := hide hb
  have H1 := hide h1
  have H2 := hide h2
  clear hb h1 h2
  go_enter Try.func14, Try.ntmps14
  go_wp2
  go_ret2
  have ho : Only [] w ((w.alloc (.cells zs blkT)).alloc (.cells #[.slice (some ⟨w.heap.size, 0, none⟩) n n, .slice none 0 0, .bool false, I64 0, .slice none 0 0, .int .i64 0] dskT)) := ((Only.refl [] w).alloc _).alloc _
  refine ⟨⟨w.heap.size + 1, .slice (some ⟨w.heap.size, 0, none⟩) n n, nullS, nullS⟩, by simp, Nat.le_succ _, ?_, ⟨?_, ?_, ?_, ?_, Dk.new_ok n H1.out H2.out⟩, ho⟩
  · intro k hk
    simp [DP.foot, Value.ownBlock] at hk
    omega
  · exact Blk.newA (by simp)
  · refine ⟨by simp only [Dk.new]; rw [zb_flat]; simp, .inr ⟨w.heap.size, 0, n, (List.replicate n zb).flatMap bcells, by simp [Dk.new], HB.out, ((Blk.newA rfl).to hZ.out).alloc _, by simp [Dk.new], ?_, by rw [zb_flat]; omega, ?_⟩⟩
    · have := H2.out; simp [maxLen]; omega
    · simp only [Dk.new, List.length_replicate, List.drop_zero]
      rw [List.take_of_length_le]
      rw [zb_flat]; exact Nat.le_refl _
  · exact off_nil _ _ _ _
  · exact off_nil _ _ _ _

set_option maxHeartbeats 1000000 in
theorem on_ok (base : Nat) (w : World) (p : DP) (D : Dk) (h : DkAt base w p D) : Calls Try.prog 21 #[.pointer (some ⟨p.d, 0, none⟩)] w fun e w' => e = .returned (.tuple #[]) ∧ DkAt base w' p { D with off := false } ∧ Only [p.d] w w' := by
  have c2 := h.me.cell (i := 2) rfl
  have f2 := h.me.frozen 2
  have hl := h.me.lt
  have H := hide h
  clear h
  go_enter Try.func21, Try.ntmps21
  go_wp2
  go_end0
  have ho : Only [p.d] w (w.setCell ⟨p.d, 2, none⟩ (.bool false)) := (Only.refl _ _).set (p := ⟨p.d, 2, none⟩) (.inl (by simp)) _
  have hk := H.out.ok
  exact ⟨rfl, ⟨H.out.me.set 2 _, off_set H.out.br (off_ne_blk H.out.br H.out.me (by decide)) _, off_set H.out.cr (off_ne_blk H.out.cr H.out.me (by decide)) _, off_set H.out.sr (off_ne_blk H.out.sr H.out.me (by decide)) _,
    ⟨hk.hb, hk.hc, hk.pos, hk.most, hk.cm, hk.sm, hk.s8, hk.lf⟩⟩, ho⟩

set_option maxHeartbeats 1000000 in
theorem isOn_ok (base : Nat) (w : World) (p : DP) (D : Dk) (h : DkAt base w p D) : Calls Try.prog 20 #[.pointer (some ⟨p.d, 0, none⟩)] w fun e w' => e = .returned (.bool (!D.off)) ∧ w' = w := by
  have c2 := h.me.cell (i := 2) rfl
  have hl := h.me.lt
  clear h
  go_enter Try.func20, Try.ntmps20
  go_wp2
  go_ret
  trivial

set_option maxHeartbeats 1000000 in
theorem blocks_ok (base : Nat) (w : World) (p : DP) (D : Dk) (h : DkAt base w p D) : Calls Try.prog 32 #[.pointer (some ⟨p.d, 0, none⟩)] w fun e w' => e = .returned (I64 D.bs.length) ∧ w' = w := by
  obtain ⟨g, o, c, cs, hv, -, -, -⟩ := h.ptr
  have hme := h.me
  unfold Dk.cells at hme
  rw [hv] at hme
  have c0 := hme.cell (i := 0) rfl
  have hl := hme.lt
  clear h hme hv
  go_enter Try.func32, Try.ntmps32
  go_wp2
  go_ret
  trivial

end Go.Proofs.Ytabdahojgmbgdaa
