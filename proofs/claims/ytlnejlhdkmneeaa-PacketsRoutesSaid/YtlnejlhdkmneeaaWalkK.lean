/- Decode where it refuses. -/
import Derived.Test.YtlnejlhdkmneeaaWalkJ
import Derived.Laws.Cover3
namespace Go.Proofs.Ytlnejlhdkmneeaa
open Go.RowKit

abbrev hdrT : TypeId := 123
/-- The first twenty of some bytes. -/
def hof (bs : List Nat) (j : Nat) : Nat := bs.getD j 0

/-- What is known where Decode refuses. -/
def RefusedS (w : World) (e : Ending) (w' : World) : Prop := (∃ v x, e = .returned (.tuple #[v, I64 x]) ∧ x ≠ 0) ∧ Only [] w w'

theorem build_zeroP : ∀ w : World, (Instr.build 30 #[]).run Try.prog w = .ok (.agg #[.int .u32 0, .int .u32 0, I64 0, I64 0, I64 0, I64 0, .bool false, .slice none 0 0]) w := fun _ => by kernel_rfl

abbrev zeroP : List Value := [.int .u32 0, .int .u32 0, I64 0, I64 0, I64 0, I64 0, .bool false, .slice none 0 0]
theorem load_zero {w : World} {b : Nat} (h : Blk w b 30 zeroP) : (loadVar 30 ⟨b, 0, none⟩).run Try.prog w = .ok (.agg zeroP.toArray) w :=
  run_loadVar_cells w b 0 _ zeroP (d := _) (fun j v hv => by rw [Nat.zero_add]; exact h.cell hv) Try.underlying30 rfl (by kernel_rfl)

set_option maxRecDepth 100000 in
set_option maxHeartbeats 8000000 in
theorem decode_refuse (b o c n : Nat) (bs : List Nat) (w : World) (hn : bs.length = n) (h20 : 20 ≤ n) (hmax : n ≤ 100000) (hnc : n ≤ c) (h8 : ∀ x ∈ bs, x ≤ 255) (hA : NumsIn w .u8 (some ⟨b, o, none⟩) bs)
    (hmis : hof bs 0 ≠ 4 ∨ 1 < hof bs 3 ∨ hof bs 4 * 256 + hof bs 5 + 20 ≠ n ∨ hof bs 10 * 256 + hof bs 11 ≠ 65535 - sumw (hwords (hof bs))) :
    Calls Try.prog 20 #[.slice (some ⟨b, o, none⟩) n c] w fun e w' => RefusedS w e w' := by
  have hb8 : ∀ j, hof bs j ≤ 255 := by
    intro j
    unfold hof
    rw [List.getD_eq_getElem?_getD]
    cases hj : bs[j]? with
    | none => simp
    | some x => simpa using h8 x (List.mem_of_getElem? hj)
  have hcell : ∀ j, j < n → w.cell? ⟨b, o + j, none⟩ = some (.int .u8 (hof bs j : Nat)) := by
    intro j hj
    have hx : bs[j]? = some (hof bs j) := by unfold hof; rw [List.getD_eq_getElem?_getD, List.getElem?_eq_getElem (by omega)]; rfl
    obtain ⟨b', o', he, hc⟩ := hA j _ hx
    injection he with he
    injection he with h1 h2
    subst h1 h2
    exact hc
  have HO : Hid (∀ w', Only [] w w' → ∀ j, j < n → w'.cell? ⟨b, o + j, none⟩ = some (.int .u8 (hof bs j : Nat))) := hide (fun w' ho j hj => by
    have lb : b < w.heap.size := World.block_lt_of_cell? _ _ (hcell j hj)
    rw [← hcell j hj]
    unfold World.cell?
    rw [ho.block _ lb (by simp)])
  have H8 := hide hb8
  have HM := hide hmis
  have c0 : w.cell? ⟨b, o, none⟩ = some (.int .u8 (hof bs 0 : Nat)) := by simpa using hcell 0 (by omega)
  have c3 := hcell 3 (by omega)
  have lb : b < w.heap.size := World.block_lt_of_cell? _ _ c0
  have hbz := build_zeroP
  clear hn hmis hcell h8 hA hb8
  by_cases d0 : (hof bs 0 : Int) = 4
  · by_cases d3 : (1 : Int) < (hof bs 3 : Int)
    · go_enter Try.func20, Try.ntmps20
      go_wp2
      refine bodyPost_ret (results_cell_tmp rfl _ _ _ rfl (load_zero (Blk.newA rfl))) rfl ?_
      exact ⟨⟨_, _, rfl, by decide⟩, (Only.refl _ _).alloc _⟩
    · go_enter Try.func20, Try.ntmps20
      have hc4 : ¬ (c = 4) := by omega
      go_wp2_with fail
      refine (get2_ok b (o + 4) _ (hof bs 4) (hof bs 5) _ (H8.out _) (H8.out _) (HO.out _ ((Only.refl _ _).alloc _) 4 (by omega)) (HO.out _ ((Only.refl _ _).alloc _) 5 (by omega))).mono ?_
      rintro e w1 ⟨rfl, rfl⟩
      have q4 := H8.out 4
      have q5 := H8.out 5
      have wx : IntKind.i64.wrap ((hof bs 4 : Int) * 256 + (hof bs 5 : Int)) = (hof bs 4 : Int) * 256 + (hof bs 5 : Int) := by simp [IntKind.wrap, IntKind.bits, IntKind.signed]; omega
      have wn : IntKind.i64.wrap ((n : Int) - 20) = (n : Int) - 20 := by simp [IntKind.wrap, IntKind.bits, IntKind.signed]; omega
      by_cases dl : (hof bs 4 : Int) * 256 + (hof bs 5 : Int) = (n : Int) - 20
      · have HL := hide dl
        have hdl : ((hof bs 4 : Int) * 256 + (hof bs 5 : Int) != (n : Int) - 20) = false := by simp [dl]
        clear dl
        have hat : ∀ w, (Instr.arrayAt 123 (.slice (some ⟨b, o, none⟩) n c)).run Try.prog w = .ok (.pointer (some ⟨b, o, none⟩)) w := fun w => run_arrayAt w 123 _ 20 _ n c Try.underlying123 h20
        have hcn : (hcells (hof bs)).length = 20 := by simp [hcells]
        have HCN := hide hcn
        clear hcn
        go_wp2_with (first
          | simp only [hat]
          | refine wpList_load_cells rfl 123 (.tmp 34) rfl b o rfl (hcells (hof bs)) (d := _) (fun j v hv => by
              have hj : j < 20 := by have := (List.getElem?_eq_some_iff.1 hv).1; rw [HCN.out] at this; exact this
              rw [hcells_at _ hj] at hv
              rw [← hv]
              exact HO.out _ ((Only.refl _ _).alloc _) j (by omega)) Try.underlying123 rfl (by rw [HCN.out]; kernel_rfl) ?_
          | (refine wpList_store_cells rfl 123 (.tmp 4) (.tmp 35) rfl _ _ rfl (hcells (hof bs)) rfl 123 zs20 (Blk.newA (by show w.heap.size + 1 = (w.heap.push _).size; rw [Array.size_push])) (by rw [HCN.out]; exact Nat.le_refl _) (by rw [HCN.out]; kernel_rfl) (by simp [hcells, Value.oneCell']) ?_; intro v0 hw2))
        have hAl : Only [] w ((w.alloc (.cells zeroP.toArray 30)).alloc (.cells zs20.toArray 123)) := ((Only.refl [] w).alloc _).alloc _
        have h1 : Only [] w v0 := hAl.trans' hw2.2.1 (by intro i hi; simp at hi; omega)
        have h2 : Blk v0 w.heap.size 30 zeroP := hw2.2.1.blk ((Blk.new w _ zeroP).alloc _) (by simp)
        have h3 : Blk v0 (w.heap.size + 1) 123 (hcells (hof bs)) := Blk.to hw2.1 (by rw [HCN.out]; simp)
        have HD := hide (And.intro h1 (And.intro h2 h3))
        have lt1 := h3.lt
        have hne : ((hof bs 10 : Int) * 256 + (hof bs 11 : Int) != ((65535 - sumw (hwords (hof bs)) : Nat) : Int)) = true := by
          have e1 := HL.out
          have e2 := HM.out
          have e3 : ¬ hof bs 10 * 256 + hof bs 11 = 65535 - sumw (hwords (hof bs)) := by omega
          simp only [bne_iff_ne, ne_eq]
          omega
        have q10 := H8.out 10
        have q11 := H8.out 11
        have wy : IntKind.u16.wrap ((hof bs 10 : Int) * 256 + (hof bs 11 : Int)) = (hof bs 10 : Int) * 256 + (hof bs 11 : Int) := by rw [wrap16]; omega
        clear h1 h2 h3 hAl hw2 hat wx wn hdl c0 c3 d0 d3 hmax q4 q5
        simp only [Act.put]
        refine wp_region_text 4 [1] [2] [3] (fun w' => Blk w' (w.heap.size + 1) hdrT (hcells (hof bs))) (by kernel_rfl) (by kernel_rfl) HD.out.2.2.drew ?_
        simp only [List.take_succ_cons, List.take_zero, List.drop_succ_cons, List.drop_zero]
        repeat (first | ((refine wpText_h rfl rfl ?_; apply Exists.intro; refine ⟨?_, ?_⟩; next => (go_simp; (try (go_bits; go_simp)); (first | done | with_reducible rfl | (rw [if_neg (by omega)]; (try (go_bits; go_simp)); (first | done | with_reducible rfl)) | (rw [if_pos (by omega)]; (try (go_bits; go_simp)); (first | done | with_reducible rfl))))); (try simp only [Act.put, List.setIfInBounds_toArray, List.set_cons_zero, List.set_cons_succ])) | ((refine wpText_p rfl rfl ?_; apply Exists.intro; refine ⟨?_, ?_⟩; next => (intro w'; go_simp; (try (go_bits; go_simp)); (first | done | with_reducible rfl | (rw [if_neg (by omega)]; (try (go_bits; go_simp)); (first | done | with_reducible rfl)) | (rw [if_pos (by omega)]; (try (go_bits; go_simp)); (first | done | with_reducible rfl))))); (try simp only [Act.put, List.setIfInBounds_toArray, List.set_cons_zero, List.set_cons_succ])) | ((refine wpText_y rfl rfl ?_; apply Exists.intro; refine ⟨?_, ?_⟩; next => (intro w' hS; (first | obtain ⟨_, rfl⟩ := hS | skip); go_simp; (try (go_bits; go_simp)); (first | done | with_reducible rfl | (rw [if_neg (by omega)]; (try (go_bits; go_simp)); (first | done | with_reducible rfl)) | (rw [if_pos (by omega)]; (try (go_bits; go_simp)); (first | done | with_reducible rfl))))); (try simp only [Act.put, List.setIfInBounds_toArray, List.set_cons_zero, List.set_cons_succ])) | (refine wpText_skip (by first | exact .inl rfl | exact .inr (.inl rfl) | exact .inr (.inr rfl)) rfl ?_; (try simp only [Act.put, List.setIfInBounds_toArray, List.set_cons_zero, List.set_cons_succ])))
        refine wpText_e rfl rfl (fun K hK => ?_)
        go_wp2_with fail
        refine (get2_ok (w.heap.size + 1) 10 _ (hof bs 10) (hof bs 11) _ (H8.out _) (H8.out _) (HD.out.2.2.drew.cell (hcells_at _ (by omega))) (HD.out.2.2.drew.cell (hcells_at _ (by omega)))).mono ?_
        rintro e w1 ⟨rfl, rfl⟩
        refine hK _ _ HD.out.2.2.drew ?_
        clear hK K
        repeat (first | ((refine wpText_h rfl rfl ?_; apply Exists.intro; refine ⟨?_, ?_⟩; next => (go_simp; (try (go_bits; go_simp)); (first | done | with_reducible rfl | (rw [if_neg (by omega)]; (try (go_bits; go_simp)); (first | done | with_reducible rfl)) | (rw [if_pos (by omega)]; (try (go_bits; go_simp)); (first | done | with_reducible rfl))))); (try simp only [Act.put, List.setIfInBounds_toArray, List.set_cons_zero, List.set_cons_succ])) | ((refine wpText_p rfl rfl ?_; apply Exists.intro; refine ⟨?_, ?_⟩; next => (intro w'; go_simp; (try (go_bits; go_simp)); (first | done | with_reducible rfl | (rw [if_neg (by omega)]; (try (go_bits; go_simp)); (first | done | with_reducible rfl)) | (rw [if_pos (by omega)]; (try (go_bits; go_simp)); (first | done | with_reducible rfl))))); (try simp only [Act.put, List.setIfInBounds_toArray, List.set_cons_zero, List.set_cons_succ])) | ((refine wpText_y rfl rfl ?_; apply Exists.intro; refine ⟨?_, ?_⟩; next => (intro w' hS; (first | obtain ⟨_, rfl⟩ := hS | skip); go_simp; (try (go_bits; go_simp)); (first | done | with_reducible rfl | (rw [if_neg (by omega)]; (try (go_bits; go_simp)); (first | done | with_reducible rfl)) | (rw [if_pos (by omega)]; (try (go_bits; go_simp)); (first | done | with_reducible rfl))))); (try simp only [Act.put, List.setIfInBounds_toArray, List.set_cons_zero, List.set_cons_succ])) | (refine wpText_skip (by first | exact .inl rfl | exact .inr (.inl rfl) | exact .inr (.inr rfl)) rfl ?_; (try simp only [Act.put, List.setIfInBounds_toArray, List.set_cons_zero, List.set_cons_succ])))
        refine wpText_y rfl rfl ⟨.agg (hcells (hof bs)).toArray, ?_, ?_⟩
        · intro w' hS
          exact exec_load_cells 123 (.tmp 4) rfl (w.heap.size + 1) 0 rfl (hcells (hof bs)) (d := _) (fun j v hv => by rw [Nat.zero_add]; exact Blk.cell hS hv) Try.underlying123 rfl (by rw [HCN.out]; kernel_rfl)
        try simp only [Act.put, List.setIfInBounds_toArray, List.set_cons_zero, List.set_cons_succ]
        repeat (first | ((refine wpText_h rfl rfl ?_; apply Exists.intro; refine ⟨?_, ?_⟩; next => (go_simp; (try (go_bits; go_simp)); (first | done | with_reducible rfl | (rw [if_neg (by omega)]; (try (go_bits; go_simp)); (first | done | with_reducible rfl)) | (rw [if_pos (by omega)]; (try (go_bits; go_simp)); (first | done | with_reducible rfl))))); (try simp only [Act.put, List.setIfInBounds_toArray, List.set_cons_zero, List.set_cons_succ])) | ((refine wpText_p rfl rfl ?_; apply Exists.intro; refine ⟨?_, ?_⟩; next => (intro w'; go_simp; (try (go_bits; go_simp)); (first | done | with_reducible rfl | (rw [if_neg (by omega)]; (try (go_bits; go_simp)); (first | done | with_reducible rfl)) | (rw [if_pos (by omega)]; (try (go_bits; go_simp)); (first | done | with_reducible rfl))))); (try simp only [Act.put, List.setIfInBounds_toArray, List.set_cons_zero, List.set_cons_succ])) | ((refine wpText_y rfl rfl ?_; apply Exists.intro; refine ⟨?_, ?_⟩; next => (intro w' hS; (first | obtain ⟨_, rfl⟩ := hS | skip); go_simp; (try (go_bits; go_simp)); (first | done | with_reducible rfl | (rw [if_neg (by omega)]; (try (go_bits; go_simp)); (first | done | with_reducible rfl)) | (rw [if_pos (by omega)]; (try (go_bits; go_simp)); (first | done | with_reducible rfl))))); (try simp only [Act.put, List.setIfInBounds_toArray, List.set_cons_zero, List.set_cons_succ])) | (refine wpText_skip (by first | exact .inl rfl | exact .inr (.inl rfl) | exact .inr (.inr rfl)) rfl ?_; (try simp only [Act.put, List.setIfInBounds_toArray, List.set_cons_zero, List.set_cons_succ])))
        refine wpText_nil ?_
        go_wp2_with fail
        refine (sum_ok (hof bs) H8.out _).mono ?_
        rintro e w1 ⟨rfl, ho⟩
        have HD1 := hide (And.intro (Only.trans HD.out.1.drew ho) (ho.blk HD.out.2.1.drew (by simp)))
        clear ho
        go_wp2
        refine NoX.normal ?_
        go_wp2_with (refine wpList_store_cells rfl 30 (.tmp 2) (.tmp 42) rfl _ _ rfl zeroP rfl 30 zeroP HD1.out.2 (by decide) (by kernel_rfl) (by simp [Value.oneCell']) ?_; intro v1 hw3)
        have ho2 : Only [] w v1 := HD1.out.1.trans' hw3.2.1 (by intro i hi; simp at hi; omega)
        refine bodyPost_ret (results_cell_tmp rfl _ _ _ rfl (load_zero (Blk.to hw3.1 (by rfl)))) rfl ?_
        exact ⟨⟨_, _, rfl, by decide⟩, ho2⟩
      · have hdl : ((hof bs 4 : Int) * 256 + (hof bs 5 : Int) != (n : Int) - 20) = true := by simp [dl]
        clear dl
        go_wp2
        refine bodyPost_ret (results_cell_tmp rfl _ _ _ rfl (load_zero (Blk.newA rfl))) rfl ?_
        exact ⟨⟨_, _, rfl, by decide⟩, (Only.refl _ _).alloc _⟩
  · go_enter Try.func20, Try.ntmps20
    go_wp2
    refine bodyPost_ret (results_cell_tmp rfl _ _ _ rfl (load_zero (Blk.newA rfl))) rfl ?_
    exact ⟨⟨_, _, rfl, by decide⟩, (Only.refl _ _).alloc _⟩

end Go.Proofs.Ytlnejlhdkmneeaa
