/- The first example of the chapter holds. -/
import Derived.Test.YtlnejlhdkmneeaaWalkH
namespace Go.Proofs.Ytlnejlhdkmneeaa
open Go.RowKit Go.Shelf

def exP (b : Nat) : Pkt := ⟨0, 0, 0, 9, 0, 0, false, some ⟨b, 0, none⟩, 20, List.replicate 20 0⟩
theorem exP_valid (b : Nat) : (exP b).valid = 0 := Pkt.valid_good (by unfold Pkt.bad exP; simp)
theorem frag0 (b : Nat) (A : Option Addr) (c : Nat) : fragF (exP b) 20 8 3 0 A c = ⟨0, 0, 0, 9, 0, 0, true, A, c, List.replicate 8 0⟩ := rfl
theorem frag1 (b : Nat) (A : Option Addr) (c : Nat) : fragF (exP b) 20 8 3 1 A c = ⟨0, 0, 0, 9, 0, 8, true, A, c, List.replicate 8 0⟩ := rfl
theorem frag2 (b : Nat) (A : Option Addr) (c : Nat) : fragF (exP b) 20 8 3 2 A c = ⟨0, 0, 0, 9, 0, 16, false, A, c, List.replicate 4 0⟩ := rfl

theorem made_bytes (n : Nat) : (madeCells #[.int .u8 0] n).toList = bcells (List.replicate n 0) := by
  apply List.ext_getElem?
  intro j
  by_cases hj : j < n
  · simp [madeCells, bcells, hj, Nat.mod_one]
  · rw [List.getElem?_eq_none (by simp [madeCells]; omega), List.getElem?_eq_none (by simp [bcells]; omega)]
theorem ex1_good (A : Option Addr) (c : Nat) : ¬ Pkt.bad ⟨0, 0, 0, 9, 0, 8, true, A, c, List.replicate 8 0⟩ := by unfold Pkt.bad; simp
theorem ex1_len (A : Option Addr) (c : Nat) : (Pkt.bytes ⟨0, 0, 0, 9, 0, 8, true, A, c, List.replicate 8 0⟩).length = 28 := by simp [Pkt.bytes]

theorem frag_ex (w : World) (b : Nat) (hb : Blk w b 5 (bcells (List.replicate 20 0))) :
    Calls Try.prog 21 #[(exP b).V, I64 28] w fun e w' => ∃ g c A0 c0 A1 c1 A2 c2 rest, e = .returned (.tuple #[.slice (some ⟨g, 0, none⟩) 3 c, I64 0]) ∧ 3 ≤ c ∧
      Blk w' g 30 ([.int .u32 0, .int .u32 0, I64 0, I64 9, I64 0, I64 0, .bool true, .slice A0 8 c0, .int .u32 0, .int .u32 0, I64 0, I64 9, I64 0, I64 8, .bool true, .slice A1 8 c1, .int .u32 0, .int .u32 0, I64 0, I64 9, I64 0, I64 16, .bool false, .slice A2 4 c2] ++ rest) ∧
      BytesBlk w' A1 (List.replicate 8 0) ∧ Only [] w w' := by
  have key := callsIn_wide.1 (cut_in (exP b) 28 8 20 20 b 0 3 w rfl rfl rfl (exP_valid b) (by omega) (by omega) (by omega) (by omega) (by omega) (by omega) (NumsIn.of_blk (rest := []) (by rw [List.append_nil]; exact hb)) hb.lt)
  refine key.mono ?_
  rintro e w' ⟨g, c, qs, rest, he, h1, h2, h3, h4, h5⟩
  obtain ⟨A0, c0, q0, -⟩ := h4 0 (by omega)
  obtain ⟨A1, c1, q1, b1⟩ := h4 1 (by omega)
  obtain ⟨A2, c2, q2, -⟩ := h4 2 (by omega)
  rw [frag0] at q0
  rw [frag1] at q1
  rw [frag2] at q2
  match qs, h2, q0, q1, q2 with
  | [x0, x1, x2], _, q0, q1, q2 =>
    simp at q0 q1 q2
    subst q0 q1 q2
    exact ⟨g, c, A0, c0, A1, c1, A2, c2, rest, he, h3, h1, b1.1, h5⟩

set_option maxRecDepth 100000 in
set_option maxHeartbeats 4000000 in
theorem awake_ok (w : World) : Calls Try.prog 16 #[] w fun e w' => e = .returned (.bool true) ∧ Only [] w w' := by
  obtain ⟨i0, hi0, hz0, hs0, hb0⟩ := info_parts u8_info
  have hmk : ∀ W : World, (Instr.makeSlice 28 (I64 20) (I64 20)).run Try.prog W = .ok (.slice (some ⟨W.heap.size, 0, none⟩) 20 20) (W.alloc (.cells (madeCells #[.int .u8 0] 20) 5)) := by
    intro W
    have hr := run_make (P := Try.prog) W 28 5 i0 _ Try.underlying28 hi0 hz0 .i64 .i64 20 20 (by omega) (by omega) (by rw [hb0]; omega) (by omega)
    simp only [hs0, Nat.mul_one] at hr
    exact hr
  have hbt : ∀ (W : World) (b : Nat), (Instr.build 30 #[(3, I64 9), (7, .slice (some ⟨b, 0, none⟩) 20 20)]).run Try.prog W = .ok (exP b).V W := fun _ _ => by kernel_rfl
  have ho : Only [] w (w.alloc (.cells (madeCells #[.int .u8 0] 20) 5)) := (Only.refl _ _).alloc _
  have hF := frag_ex (w.alloc (.cells (madeCells #[.int .u8 0] 20) 5)) w.heap.size (Blk.to (Blk.newA rfl) (made_bytes 20))
  have HF := hide hF
  have HO := hide ho
  clear hF ho
  go_enter Try.func16, Try.ntmps16
  go_wp2_with fail
  refine HF.out.mono ?_
  rintro e w1 ⟨g, c, A0, c0, A1, c1, A2, c2, rest, rfl, hc3, hB, hb1, h1⟩
  have hE := Encode_ok ⟨0, 0, 0, 9, 0, 8, true, A1, c1, List.replicate 8 0⟩ w1 ⟨by show (0 : Int) ≤ 0; decide, by show (0 : Int) < 4294967296; decide, by show (0 : Int) ≤ 0; decide, by show (0 : Int) < 4294967296; decide, by simp⟩ (by simp [maxLen]) hb1.nums
  have HE := hide hE
  have HB := hide hB
  have H1 := hide (Only.trans HO.out h1)
  have e0 := hB.cell (i := 8) rfl
  have e1 := hB.cell (i := 9) rfl
  have e2 := hB.cell (i := 10) rfl
  have e3 := hB.cell (i := 11) rfl
  have e4 := hB.cell (i := 12) rfl
  have e5 := hB.cell (i := 13) rfl
  have e6 := hB.cell (i := 14) rfl
  have e7 := hB.cell (i := 15) rfl
  have lg := hB.lt
  clear hE hB hb1 h1 HF HO hmk hbt
  go_wp2_with fail
  refine HE.out.mono ?_
  rintro e w2 ⟨⟨v, rfl, hv⟩, h2⟩
  rw [if_neg (ex1_good A1 c1)] at hv
  obtain ⟨A3, c3, rfl, -⟩ := hv
  rw [ex1_len, Pkt.valid_good (ex1_good A1 c1)]
  have hB2 := h2.blk HB.out (by simp)
  have g5 := hB2.cell (i := 13) rfl
  have g6 := hB2.cell (i := 14) rfl
  have g14 := hB2.cell (i := 22) rfl
  have g15 := hB2.cell (i := 23) rfl
  have lg2 := hB2.lt
  have H2 := hide (Only.trans H1.out h2)
  clear e0 e1 e2 e3 e4 e5 e6 e7 lg HE HB H1 h2 hB2
  go_wp2
  go_ret
  exact ⟨rfl, H2.out⟩

end Go.Proofs.Ytlnejlhdkmneeaa
