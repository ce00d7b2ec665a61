/- Decode of few bytes; the reference's Decode where it refuses. -/
import Derived.Test.YtlnejlhdkmneeaaDecA
import Derived.Test.YtlnejlhdkmneeaaEncD
namespace Go.Proofs.Ytlnejlhdkmneeaa
open Go.RowKit

set_option maxHeartbeats 2000000 in
theorem decode_short (A : Option Addr) (n c : Nat) (w : World) (h : n < 20) :
    Calls Try.prog 20 #[.slice A n c] w fun e w' => e = .returned (.tuple #[.agg zeroP.toArray, I64 12]) ∧ Only [] w w' := by
  have hbz := build_zeroP
  go_enter Try.func20, Try.ntmps20
  go_wp2
  refine bodyPost_ret (results_cell_tmp rfl _ _ _ rfl (load_zero (Blk.newA rfl))) rfl ?_
  exact ⟨rfl, (Only.refl _ _).alloc _⟩

theorem build_rzeroP : ∀ w : World, (Instr.build 45 #[]).run Try.prog w = .ok (.agg #[.int .u32 0, .int .u32 0, I64 0, I64 0, I64 0, I64 0, .bool false, .slice none 0 0]) w := fun _ => by kernel_rfl
theorem rload_zero {w : World} {b : Nat} (h : Blk w b 45 zeroP) : (loadVar 45 ⟨b, 0, none⟩).run Try.prog w = .ok (.agg zeroP.toArray) w :=
  run_loadVar_cells w b 0 _ zeroP (d := _) (fun j v hv => by rw [Nat.zero_add]; exact h.cell hv) Try.underlying45 rfl (by kernel_rfl)

set_option maxHeartbeats 2000000 in
theorem rdecode_short (A : Option Addr) (n c : Nat) (w : World) (h : n < 20) :
    Calls Try.prog 30 #[.slice A n c] w fun e w' => e = .returned (.tuple #[.agg zeroP.toArray, I64 12]) ∧ Only [] w w' := by
  have hbz := build_rzeroP
  go_enter Try.func30, Try.ntmps30
  go_wp2
  refine bodyPost_ret (results_cell_tmp rfl _ _ _ rfl (rload_zero (Blk.newA rfl))) rfl ?_
  exact ⟨rfl, (Only.refl _ _).alloc _⟩

set_option maxRecDepth 100000 in
set_option maxHeartbeats 8000000 in
theorem rdecode_refuseX (b o c n : Nat) (bs : List Nat) (w : World) (hn : bs.length = n) (h20 : 20 ≤ n) (hmax : n ≤ 100000) (hnc : n ≤ c) (h8 : ∀ x ∈ bs, x ≤ 255) (hA : NumsIn w .u8 (some ⟨b, o, none⟩) bs)
    (hmis : hof bs 0 ≠ 4 ∨ 1 < hof bs 3 ∨ hof bs 4 * 256 + hof bs 5 + 20 ≠ n ∨ hof bs 10 * 256 + hof bs 11 ≠ 65535 - sumw (hwords (hof bs))) :
    Calls Try.prog 30 #[.slice (some ⟨b, o, none⟩) n c] w fun e w' => e = .returned (.tuple #[.agg zeroP.toArray, I64 (dcode bs n)]) ∧ Only [] w w' := by
  have hb8 : ∀ j, hof bs j ≤ 255 := by
    intro j
    unfold hof
    rw [List.getD_eq_getElem?_getD]
    cases hj : bs[j]? with
    | none => simp
    | some x => simpa using h8 x (List.mem_of_getElem? hj)
  have hcell : ∀ j, j < n → w.cell? ⟨b, o + j, none⟩ = some (.int .u8 (hof bs j : Nat)) := by
    intro j hj
    have hx : bs[j]? = some (hof bs j) := by unfold hof; rw [List.getD_eq_getElem?_getD, List.getElem?_eq_getElem (by omega)]; rfl
    obtain ⟨b', o', he, hc⟩ := hA j _ hx
    injection he with he
    injection he with h1 h2
    subst h1 h2
    exact hc
  have HO : Hid (∀ w', Only [] w w' → ∀ j, j < n → w'.cell? ⟨b, o + j, none⟩ = some (.int .u8 (hof bs j : Nat))) := hide (fun w' ho j hj => by
    have lb : b < w.heap.size := World.block_lt_of_cell? _ _ (hcell j hj)
    rw [← hcell j hj]
    unfold World.cell?
    rw [ho.block _ lb (by simp)])
  have H8 := hide hb8
  have HM := hide hmis
  have c0 : w.cell? ⟨b, o, none⟩ = some (.int .u8 (hof bs 0 : Nat)) := by simpa using hcell 0 (by omega)
  have c3 := hcell 3 (by omega)
  have lb : b < w.heap.size := World.block_lt_of_cell? _ _ c0
  have hbz := build_rzeroP
  clear hn hmis hcell h8 hA hb8
  by_cases d0 : (hof bs 0 : Int) = 4
  · by_cases d3 : (1 : Int) < (hof bs 3 : Int)
    · go_enter Try.func30, Try.ntmps30
      go_wp2
      refine bodyPost_ret (results_cell_tmp rfl _ _ _ rfl (rload_zero (Blk.newA rfl))) rfl ?_
      refine ⟨?_, (Only.refl _ _).alloc _⟩
      rw [dcode_form (by omega)]; rfl
    · go_enter Try.func30, Try.ntmps30
      have hc4 : ¬ (c = 4) := by omega
      go_wp2_with fail
      refine (rget2_ok b (o + 4) _ (hof bs 4) (hof bs 5) _ (H8.out _) (H8.out _) (HO.out _ ((Only.refl _ _).alloc _) 4 (by omega)) (HO.out _ ((Only.refl _ _).alloc _) 5 (by omega))).mono ?_
      rintro e w1 ⟨rfl, rfl⟩
      have q4 := H8.out 4
      have q5 := H8.out 5
      have wx : IntKind.i64.wrap ((hof bs 4 : Int) * 256 + (hof bs 5 : Int)) = (hof bs 4 : Int) * 256 + (hof bs 5 : Int) := by simp [IntKind.wrap, IntKind.bits, IntKind.signed]; omega
      have wn : IntKind.i64.wrap ((n : Int) - 20) = (n : Int) - 20 := by simp [IntKind.wrap, IntKind.bits, IntKind.signed]; omega
      by_cases dl : (hof bs 4 : Int) * 256 + (hof bs 5 : Int) = (n : Int) - 20
      · have HL := hide dl
        have hdl : ((hof bs 4 : Int) * 256 + (hof bs 5 : Int) != (n : Int) - 20) = false := by simp [dl]
        clear dl
        have HZ := hide (show (sumBad bs ∧ dcode bs n = 6) from by
          have e1 := HL.out; have e2 := HM.out
          have hs : sumBad bs := by unfold sumBad; omega
          exact ⟨hs, dcode_sum hs (by unfold formBad; omega)⟩)
        have q10 := H8.out 10
        have q11 := H8.out 11
        have hne : ((hof bs 10 : Int) * 256 + (hof bs 11 : Int) != ((65535 - sumw (hwords (hof bs)) : Nat) : Int)) = true := by
          have e1 := HZ.out.1
          unfold sumBad at e1
          simp only [bne_iff_ne, ne_eq]; omega
        have hc10 : ¬ (c = 10) := by omega
        have hO0 := hide ((Only.refl [] w).alloc (.cells zeroP.toArray 45))
        have hB0 := hide (Blk.newA (w := w) (t := 45) (c := zeroP.toArray) rfl)
        go_wp2_with fail
        refine (rget2_ok b (o + 10) _ (hof bs 10) (hof bs 11) _ (H8.out _) (H8.out _) (HO.out _ hO0.out 10 (by omega)) (HO.out _ hO0.out 11 (by omega))).mono ?_
        rintro e w1 ⟨rfl, rfl⟩
        clear wx wn hdl c0 c3 d0 d3 q4 q5
        go_wp2_with fail
        refine (rsum_ok b o n c (hof bs) _ H8.out h20 hnc (fun j hj => HO.out _ hO0.out j (by omega))).mono ?_
        rintro e w1 ⟨rfl, ho⟩
        have HD1 := hide (And.intro (Only.trans hO0.out ho) (ho.blk hB0.out (by simp)))
        clear ho
        go_wp2_with (refine wpList_store_cells rfl 45 (.tmp 2) (.tmp 39) rfl _ _ rfl zeroP rfl 45 zeroP HD1.out.2 (by decide) (by kernel_rfl) (by simp [Value.oneCell']) ?_; intro v1 hw3)
        have ho2 : Only [] w v1 := HD1.out.1.trans' hw3.2.1 (by intro i hi; simp at hi; omega)
        refine bodyPost_ret (results_cell_tmp rfl _ _ _ rfl (rload_zero (Blk.to hw3.1 (by rfl)))) rfl ?_
        refine ⟨?_, ho2⟩
        rw [HZ.out.2]; rfl
      · have hdl : ((hof bs 4 : Int) * 256 + (hof bs 5 : Int) != (n : Int) - 20) = true := by simp [dl]
        have HD2 := hide dl
        clear dl
        go_wp2
        refine bodyPost_ret (results_cell_tmp rfl _ _ _ rfl (rload_zero (Blk.newA rfl))) rfl ?_
        refine ⟨?_, (Only.refl _ _).alloc _⟩
        rw [dcode_form (by have := HD2.out; omega)]; rfl
  · go_enter Try.func30, Try.ntmps30
    go_wp2
    refine bodyPost_ret (results_cell_tmp rfl _ _ _ rfl (rload_zero (Blk.newA rfl))) rfl ?_
    refine ⟨?_, (Only.refl _ _).alloc _⟩
    rw [dcode_form (by omega)]; rfl

end Go.Proofs.Ytlnejlhdkmneeaa
