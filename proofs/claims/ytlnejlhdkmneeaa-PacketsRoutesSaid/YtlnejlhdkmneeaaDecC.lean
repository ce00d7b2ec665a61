/- The reference's Decode where it accepts. -/
import Derived.Test.YtlnejlhdkmneeaaDecB
namespace Go.Proofs.Ytlnejlhdkmneeaa
open Go.RowKit

theorem gv4_le {bs : List Nat} (h8 : ∀ j, hof bs j ≤ 255) (o : Nat) : 0 ≤ gv bs 4 o ∧ gv bs 4 o < 4294967296 := by
  have h1 := h8 o
  have h2 := h8 (o + 1)
  have h3 := h8 (o + 2)
  have h4 := h8 (o + 3)
  unfold gv
  rw [if_neg (by decide)]
  omega
theorem made_at {w0 w : World} {l : List (Value × List Nat)} (hR : RowsOk w0 w l) (G : Nat) (hG : G = w.heap.size) (cs : Array Value) (L : List Nat) (n : Nat) (hn : L.length = n) (hc : cs.toList = bcells L) (hm : n ≤ 1000) : RowsOk w0 (w.alloc (.cells cs 5)) ((.slice (some ⟨G, 0, none⟩) n n, L) :: l) := by
  subst hG; exact hR.made cs L n hn hc hm
def decC (bs : List Nat) (A : Option Addr) (m c : Nat) : List Value := [.int .u32 (gv bs 4 12), .int .u32 (gv bs 4 16), I64 (hof bs 1 : Int), I64 (hof bs 2 : Int), I64 (gv bs 2 6), I64 (gv bs 2 8), .bool ((hof bs 3 : Int) == 1), .slice A m c]
def RDecCut (bs : List Nat) (w : World) (s4 : Value) (wx : World) : Prop := ∃ R A c, s4 = .pointer (some ⟨R, 0, none⟩) ∧ Only [] w wx ∧ Blk wx w.heap.size 45 zeroP ∧ Blk wx R 45 (decP bs A c).cells ∧ wx.ownsRow 0 5 1 (.slice A (bs.drop 20).length c) (bs.drop 20).length (bcells (bs.drop 20))
section
variable {P : Program}
theorem wp_store_cells {o : Oper} {a : Act} {w : World} {K : Act → World → Prop} {Q : Exit → Act → World → Prop} (ty : TypeId) (x y : Operand) (ho : o.op = .store ty x y)
    (b off : Nat) (hx : a.eval x = .pointer (some ⟨b, off, none⟩)) (vs : List Value) (hy : a.eval y = .agg vs.toArray) (t : TypeId) (cs : List Value) (hb : Blk w b t cs) (hl : off + vs.length ≤ cs.length)
    (hi : (P.info? ty).map (·.size) = some vs.length) (h1 : ∀ v ∈ vs, v.oneCell' = true) (h : ∀ w', StoredCells w b off t cs vs w' → K (a.put o.dst undef) w') : o.wp P a w K Q := by
  obtain ⟨w', hr, hs⟩ := run_storeVar_cells w b off ty t cs vs hb hl hi h1
  unfold Oper.wp execOp
  simp only [ho, hx, hy, Instr.storeAt, Instr.sureAddr, Sem.run_bind, Sem.run_pure, Result.andThen_ok, hr]
  exact h w' hs
end
/-- What the region leaves. -/
theorem rdec_fin (bs : List Nat) (w w1 W W' : World) (R : Nat) (A : Option Addr) (c m : Nat) (l : List (Value × List Nat)) (h1 : Only [] w w1) (h2 : Blk w1 w.heap.size 45 zeroP) (hr : RowsOk w1 W ((.slice A m c, [] ++ bs.drop 20) :: l)) (hZ : Blk W R 45 zeroP) (hRw : w1.heap.size ≤ R) (hs : StoredCells W R 0 45 zeroP (decC bs A m c) W') (hm : (bs.drop 20).length = m) :
    Only [] w W' ∧ Blk W' w.heap.size 45 zeroP ∧ Blk W' R 45 (decP bs A c).cells ∧ W'.ownsRow 0 5 1 (.slice A (bs.drop 20).length c) (bs.drop 20).length (bcells (bs.drop 20)) := by
  subst hm
  have hlt := h2.lt
  have hsz := h1.size
  refine ⟨(h1.trans hr.1).trans' hs.2.1 (by intro i hi hl; simp at hi; omega), hs.2.1.blk (hr.1.blk h2 (by simp)) (by simp; omega), Blk.to hs.1 ?_, ?_⟩
  · simp [decC, decP, Pkt.cells]
  · have hown : W.ownsRow w1.heap.size 5 1 (.slice A (bs.drop 20).length c) (bs.drop 20).length (bcells (bs.drop 20)) := hr.get 0 rfl
    exact own_base (own_only hown hs.2.1 (fun k hk hm => own_ne_blk hown hZ (by decide) (by rw [hk]; simpa using hm))) (Nat.zero_le _)

set_option maxRecDepth 100000 in
set_option maxHeartbeats 32000000 in
theorem rdecode_accept (b o c n : Nat) (bs : List Nat) (w : World) (hn : bs.length = n) (h20 : 20 ≤ n) (hmax : n ≤ 100000) (hnc : n ≤ c) (h8 : ∀ x ∈ bs, x ≤ 255) (hA : NumsIn w .u8 (some ⟨b, o, none⟩) bs)
    (hmis : hof bs 0 = 4 ∧ hof bs 3 ≤ 1 ∧ hof bs 4 * 256 + hof bs 5 + 20 = n ∧ hof bs 10 * 256 + hof bs 11 = 65535 - sumw (hwords (hof bs))) :
    Calls Try.prog 30 #[.slice (some ⟨b, o, none⟩) n c] w fun e w' => AcceptedS bs w e w' := by
  have hb8 : ∀ j, hof bs j ≤ 255 := by
    intro j
    unfold hof
    rw [List.getD_eq_getElem?_getD]
    cases hj : bs[j]? with
    | none => simp
    | some x => simpa using h8 x (List.mem_of_getElem? hj)
  have hcell : ∀ j, j < n → w.cell? ⟨b, o + j, none⟩ = some (.int .u8 (hof bs j : Nat)) := by
    intro j hj
    have hx : bs[j]? = some (hof bs j) := by unfold hof; rw [List.getD_eq_getElem?_getD, List.getElem?_eq_getElem (by omega)]; rfl
    obtain ⟨b', o', he, hc⟩ := hA j _ hx
    injection he with he
    injection he with h1 h2
    subst h1 h2
    exact hc
  have HO : Hid (∀ w', Only [] w w' → ∀ j, j < n → w'.cell? ⟨b, o + j, none⟩ = some (.int .u8 (hof bs j : Nat))) := hide (fun w' ho j hj => by
    have lb : b < w.heap.size := World.block_lt_of_cell? _ _ (hcell j hj)
    rw [← hcell j hj]
    unfold World.cell?
    rw [ho.block _ lb (by simp)])
  have H8 := hide hb8
  have HM := hide hmis
  have HNN := hide hn
  have HA := hide hA
  have d0 : (hof bs 0 : Int) = 4 := by have := hmis.1; omega
  have d3 : ¬ (1 : Int) < (hof bs 3 : Int) := by have := hmis.2.1; omega
  have dl : (hof bs 4 : Int) * 256 + (hof bs 5 : Int) = (n : Int) - 20 := by have := hmis.2.2.1; omega
  have c0 : w.cell? ⟨b, o, none⟩ = some (.int .u8 (hof bs 0 : Nat)) := by simpa using hcell 0 (by omega)
  have c3 := hcell 3 (by omega)
  have lb : b < w.heap.size := World.block_lt_of_cell? _ _ c0
  have hbz := build_rzeroP
  clear hn hmis hcell h8 hA hb8
  have hc4 : ¬ (c = 4) := by omega
  have q4 := H8.out 4
  have q5 := H8.out 5
  have wx : IntKind.i64.wrap ((hof bs 4 : Int) * 256 + (hof bs 5 : Int)) = (hof bs 4 : Int) * 256 + (hof bs 5 : Int) := by simp [IntKind.wrap, IntKind.bits, IntKind.signed]; omega
  have wn : IntKind.i64.wrap ((n : Int) - 20) = (n : Int) - 20 := by simp [IntKind.wrap, IntKind.bits, IntKind.signed]; omega
  have HL := hide dl
  have hdl : ((hof bs 4 : Int) * 256 + (hof bs 5 : Int) != (n : Int) - 20) = false := by simp [dl]
  have hne : ((hof bs 10 : Int) * 256 + (hof bs 11 : Int) != ((65535 - sumw (hwords (hof bs)) : Nat) : Int)) = false := by
    have e2 := HM.out.2.2.2
    simp only [bne_eq_false_iff_eq]; omega
  have q10 := H8.out 10
  have q11 := H8.out 11
  have hc10 : ¬ (c = 10) := by omega
  have hO0 := hide ((Only.refl [] w).alloc (.cells zeroP.toArray 45))
  have hB0 := hide (Blk.newA (w := w) (t := 45) (c := zeroP.toArray) rfl)
  clear dl
  go_enter Try.func30, Try.ntmps30
  go_wp2_with fail
  refine (rget2_ok b (o + 4) _ (hof bs 4) (hof bs 5) _ (H8.out _) (H8.out _) (HO.out _ ((Only.refl _ _).alloc _) 4 (by omega)) (HO.out _ ((Only.refl _ _).alloc _) 5 (by omega))).mono ?_
  rintro e w1 ⟨rfl, rfl⟩
  go_wp2_with fail
  refine (rget2_ok b (o + 10) _ (hof bs 10) (hof bs 11) _ (H8.out _) (H8.out _) (HO.out _ hO0.out 10 (by omega)) (HO.out _ hO0.out 11 (by omega))).mono ?_
  rintro e w1 ⟨rfl, rfl⟩
  clear wx wn hdl c0 c3 d0 d3 q4 q5
  go_wp2_with fail
  refine (rsum_ok b o n c (hof bs) _ H8.out h20 hnc (fun j hj => HO.out _ hO0.out j (by omega))).mono ?_
  rintro e w1 ⟨rfl, ho⟩
  have HD1 := hide (And.intro (Only.trans hO0.out ho) (ho.blk hB0.out (by simp)))
  have lt0 := HD1.out.2.lt
  clear ho hO0 hB0
  go_wp2_with fail
  clear hne q10 q11 hc10 hc4
  have hc12 : ¬ (c = 12) := by omega
  have hc16 : ¬ (c = 16) := by omega
  have hc6 : ¬ (c = 6) := by omega
  have hc8 : ¬ (c = 8) := by omega
  have x1 := H8.out 1
  have x2 := H8.out 2
  have x6 := gv2_le H8.out 6
  have x8 := gv2_le H8.out 8
  have u12 := gv4_le H8.out 12
  have u16 := gv4_le H8.out 16
  have HDL : Hid ((bs.drop 20).length = n - 20) := hide (by rw [List.length_drop, HNN.out])
  have HNW : Hid (∀ W, Only [] w W → NumsIn W .u8 (some ⟨b, o + 20, none⟩) (bs.drop 20)) := hide fun W hW j x hx => by
    rw [List.getElem?_drop] at hx
    obtain ⟨b', o', he, hc⟩ := HA.out (20 + j) x hx
    injection he with he
    injection he with h1 h2
    subst h1 h2
    refine ⟨b, o + 20, rfl, ?_⟩
    rw [World.cell?_of_block (w := w) (hW.block b (World.block_lt_of_cell? _ _ hc) (by simp)), Nat.add_assoc]
    exact hc
  have hcc : 20 ≤ c := by omega
  have HS := hide (show ∀ W, Only [] w W → (fun w' => w'.cell? ⟨b, o + 1, none⟩ = some (.int .u8 (hof bs 1 : Nat)) ∧ w'.cell? ⟨b, o + 2, none⟩ = some (.int .u8 (hof bs 2 : Nat)) ∧ w'.cell? ⟨b, o + 3, none⟩ = some (.int .u8 (hof bs 3 : Nat)) ∧ Only [] w w') W from fun W hW => ⟨HO.out W hW 1 (by omega), HO.out W hW 2 (by omega), HO.out W hW 3 (by omega), hW⟩)
  go_cut [4] (fun s4 wx => RDecCut bs w s4 wx)
  case first =>
    by_cases hc20 : c = 20
    · subst hc20
      obtain rfl : n = 20 := by omega
      have HNO : Hid (∀ W, NumsIn W .u8 (some ⟨b, o, none⟩) (bs.drop 20)) := hide fun W j x hx => by
        rw [List.length_eq_zero_iff.1 HDL.out] at hx; simp at hx
      refine wp_region_sch 35 [28, 31, 33, 34] (fun w' => w'.cell? ⟨b, o + 1, none⟩ = some (.int .u8 (hof bs 1 : Nat)) ∧ w'.cell? ⟨b, o + 2, none⟩ = some (.int .u8 (hof bs 2 : Nat)) ∧ w'.cell? ⟨b, o + 3, none⟩ = some (.int .u8 (hof bs 3 : Nat)) ∧ Only [] w w') (by kernel_rfl) (by kernel_rfl) (HS.out _ HD1.out.1.drew) ?_
      repeat (first | ((refine sch_y rfl rfl rfl rfl ?_; apply Exists.intro; refine ⟨?_, ?_⟩; next => (intro w' hS; (first | obtain ⟨_, rfl⟩ := hS | skip); go_simp; (try (go_bits; go_simp)); (first | done | with_reducible rfl | (rw [if_neg (by omega)]; (try (go_bits; go_simp)); (first | done | with_reducible rfl)) | (rw [if_pos (by omega)]; (try (go_bits; go_simp)); (first | done | with_reducible rfl))))); (try simp only [Act.put, List.setIfInBounds_toArray, List.set_cons_zero, List.set_cons_succ])) | ((refine sch_skip rfl rfl rfl rfl ?_); (try simp only [Act.put, List.setIfInBounds_toArray, List.set_cons_zero, List.set_cons_succ])))
      refine sch_q (.int .u64 (gv bs 4 12)) 68 #[.slice (some ⟨b, o + 12, none⟩) 4 (20 - 12)] rfl rfl rfl rfl (fun _ => by first | kernel_rfl | (go_simp; done)) (fun W hW => rget_at bs H8.out b (o + 12) 4 (20 - 12) 12 W (by omega) (HO.out W hW.2.2.2 12 (by omega)) (HO.out W hW.2.2.2 13 (by omega)) (fun _ => HO.out W hW.2.2.2 14 (by omega)) (fun _ => HO.out W hW.2.2.2 15 (by omega))) ?_
      try simp only [Act.put, List.setIfInBounds_toArray, List.set_cons_zero, List.set_cons_succ]
      repeat (first | ((refine sch_y rfl rfl rfl rfl ?_; apply Exists.intro; refine ⟨?_, ?_⟩; next => (intro w' hS; (first | obtain ⟨_, rfl⟩ := hS | skip); go_simp; (try (go_bits; go_simp)); (first | done | with_reducible rfl | (rw [if_neg (by omega)]; (try (go_bits; go_simp)); (first | done | with_reducible rfl)) | (rw [if_pos (by omega)]; (try (go_bits; go_simp)); (first | done | with_reducible rfl))))); (try simp only [Act.put, List.setIfInBounds_toArray, List.set_cons_zero, List.set_cons_succ])) | ((refine sch_skip rfl rfl rfl rfl ?_); (try simp only [Act.put, List.setIfInBounds_toArray, List.set_cons_zero, List.set_cons_succ])))
      refine sch_q (.int .u64 (gv bs 4 16)) 68 #[.slice (some ⟨b, o + 16, none⟩) 4 (20 - 16)] rfl rfl rfl rfl (fun _ => by first | kernel_rfl | (go_simp; done)) (fun W hW => rget_at bs H8.out b (o + 16) 4 (20 - 16) 16 W (by omega) (HO.out W hW.2.2.2 16 (by omega)) (HO.out W hW.2.2.2 17 (by omega)) (fun _ => HO.out W hW.2.2.2 18 (by omega)) (fun _ => HO.out W hW.2.2.2 19 (by omega))) ?_
      try simp only [Act.put, List.setIfInBounds_toArray, List.set_cons_zero, List.set_cons_succ]
      repeat (first | ((refine sch_y rfl rfl rfl rfl ?_; apply Exists.intro; refine ⟨?_, ?_⟩; next => (intro w' hS; (first | obtain ⟨_, rfl⟩ := hS | skip); go_simp; (try (go_bits; go_simp)); (first | done | with_reducible rfl | (rw [if_neg (by omega)]; (try (go_bits; go_simp)); (first | done | with_reducible rfl)) | (rw [if_pos (by omega)]; (try (go_bits; go_simp)); (first | done | with_reducible rfl))))); (try simp only [Act.put, List.setIfInBounds_toArray, List.set_cons_zero, List.set_cons_succ])) | ((refine sch_skip rfl rfl rfl rfl ?_); (try simp only [Act.put, List.setIfInBounds_toArray, List.set_cons_zero, List.set_cons_succ])))
      refine sch_q (.int .u64 (gv bs 2 6)) 68 #[.slice (some ⟨b, o + 6, none⟩) 2 (20 - 6)] rfl rfl rfl rfl (fun _ => by first | kernel_rfl | (go_simp; done)) (fun W hW => rget_at bs H8.out b (o + 6) 2 (20 - 6) 6 W (by omega) (HO.out W hW.2.2.2 6 (by omega)) (HO.out W hW.2.2.2 7 (by omega)) (fun _ => HO.out W hW.2.2.2 8 (by omega)) (fun _ => HO.out W hW.2.2.2 9 (by omega))) ?_
      try simp only [Act.put, List.setIfInBounds_toArray, List.set_cons_zero, List.set_cons_succ]
      repeat (first | ((refine sch_y rfl rfl rfl rfl ?_; apply Exists.intro; refine ⟨?_, ?_⟩; next => (intro w' hS; (first | obtain ⟨_, rfl⟩ := hS | skip); go_simp; (try (go_bits; go_simp)); (first | done | with_reducible rfl | (rw [if_neg (by omega)]; (try (go_bits; go_simp)); (first | done | with_reducible rfl)) | (rw [if_pos (by omega)]; (try (go_bits; go_simp)); (first | done | with_reducible rfl))))); (try simp only [Act.put, List.setIfInBounds_toArray, List.set_cons_zero, List.set_cons_succ])) | ((refine sch_skip rfl rfl rfl rfl ?_); (try simp only [Act.put, List.setIfInBounds_toArray, List.set_cons_zero, List.set_cons_succ])))
      refine sch_q (.int .u64 (gv bs 2 8)) 68 #[.slice (some ⟨b, o + 8, none⟩) 2 (20 - 8)] rfl rfl rfl rfl (fun _ => by first | kernel_rfl | (go_simp; done)) (fun W hW => rget_at bs H8.out b (o + 8) 2 (20 - 8) 8 W (by omega) (HO.out W hW.2.2.2 8 (by omega)) (HO.out W hW.2.2.2 9 (by omega)) (fun _ => HO.out W hW.2.2.2 10 (by omega)) (fun _ => HO.out W hW.2.2.2 11 (by omega))) ?_
      try simp only [Act.put, List.setIfInBounds_toArray, List.set_cons_zero, List.set_cons_succ]
      repeat (first | ((refine sch_y rfl rfl rfl rfl ?_; apply Exists.intro; refine ⟨?_, ?_⟩; next => (intro w' hS; (first | obtain ⟨_, rfl⟩ := hS | skip); go_simp; (try (go_bits; go_simp)); (first | done | with_reducible rfl | (rw [if_neg (by omega)]; (try (go_bits; go_simp)); (first | done | with_reducible rfl)) | (rw [if_pos (by omega)]; (try (go_bits; go_simp)); (first | done | with_reducible rfl))))); (try simp only [Act.put, List.setIfInBounds_toArray, List.set_cons_zero, List.set_cons_succ])) | ((refine sch_skip rfl rfl rfl rfl ?_); (try simp only [Act.put, List.setIfInBounds_toArray, List.set_cons_zero, List.set_cons_succ])))
      have HR0 := hide (RowsOk.only (RowsOk.nil w1) (Only.refl [] w1).drew)
      refine sch_e2 rfl rfl rfl rfl rfl rfl ?_ ?_
      · refine ⟨rfl, fun K hK => ?_⟩
        go_wp2
        have HR1 := hide (made_at HR0.out (w1.heap.size) (by simp) #[] [] 0 rfl rfl (by decide))
        refine hK _ _ (HS.out _ (HD1.out.1.trans HR1.out.1)) ?_
        clear hK K
        try simp only [Act.put, List.setIfInBounds_toArray, List.set_cons_zero, List.set_cons_succ]
        repeat (first | ((refine sch_y rfl rfl rfl rfl ?_; apply Exists.intro; refine ⟨?_, ?_⟩; next => (intro w' hS; (first | obtain ⟨_, rfl⟩ := hS | skip); go_simp; (try (go_bits; go_simp)); (first | done | with_reducible rfl | (rw [if_neg (by omega)]; (try (go_bits; go_simp)); (first | done | with_reducible rfl)) | (rw [if_pos (by omega)]; (try (go_bits; go_simp)); (first | done | with_reducible rfl))))); (try simp only [Act.put, List.setIfInBounds_toArray, List.set_cons_zero, List.set_cons_succ])) | ((refine sch_skip rfl rfl rfl rfl ?_); (try simp only [Act.put, List.setIfInBounds_toArray, List.set_cons_zero, List.set_cons_succ])))
        refine sch_e2 rfl rfl rfl rfl rfl rfl ?_ ?_
        · refine ⟨rfl, fun K hK => ?_⟩
          refine wp_app2 (.tmp 68) (.tmp 70) rfl w1 [] [] _ (.slice (some ⟨w1.heap.size, 0, none⟩) 0 0) [] rfl HR1.out rfl ⟨b, o, none⟩ 0 0 (bs.drop 20) rfl HDL.out (HNO.out _) (by simp only [List.length_nil]; omega) ?_
          intro v y2 hr hfr
          obtain ⟨A2, c2, rfl⟩ : ∃ A c, v = .slice A 0 c := by
            obtain ⟨A, c, h⟩ := own_shape (hr.get 0 rfl)
            refine ⟨A, c, ?_⟩
            have hl := HDL.out
            simp only [List.nil_append] at h
            rw [hl] at h; exact h
          have HR2 := hide hr
          clear hr hfr
          refine hK _ _ (HS.out _ (HD1.out.1.trans HR2.out.1)) ?_
          clear hK K
          try simp only [Act.put, List.setIfInBounds_toArray, List.set_cons_zero, List.set_cons_succ]
          repeat (first | ((refine sch_y rfl rfl rfl rfl ?_; apply Exists.intro; refine ⟨?_, ?_⟩; next => (intro w' hS; (first | obtain ⟨_, rfl⟩ := hS | skip); go_simp; (try (go_bits; go_simp)); (first | done | with_reducible rfl | (rw [if_neg (by omega)]; (try (go_bits; go_simp)); (first | done | with_reducible rfl)) | (rw [if_pos (by omega)]; (try (go_bits; go_simp)); (first | done | with_reducible rfl))))); (try simp only [Act.put, List.setIfInBounds_toArray, List.set_cons_zero, List.set_cons_succ])) | ((refine sch_skip rfl rfl rfl rfl ?_); (try simp only [Act.put, List.setIfInBounds_toArray, List.set_cons_zero, List.set_cons_succ])))
          refine sch_e1 rfl rfl rfl rfl ?_
          · refine ⟨rfl, fun K hK => ?_⟩
            go_wp2
            have HR3 := hide (HR2.out.only ((Only.refl [] _).alloc (.cells zeroP.toArray 45)))
            have HZ3 := hide (Blk.newA (g := y2.heap.size) (w := y2) (t := 45) (c := zeroP.toArray) (by simp))
            refine hK _ _ (HS.out _ (HD1.out.1.trans HR3.out.1)) ?_
            clear hK K
            try simp only [Act.put, List.setIfInBounds_toArray, List.set_cons_zero, List.set_cons_succ]
            repeat (first | ((refine sch_y rfl rfl rfl rfl ?_; apply Exists.intro; refine ⟨?_, ?_⟩; next => (intro w' hS; (first | obtain ⟨_, rfl⟩ := hS | skip); go_simp; (try (go_bits; go_simp)); (first | done | with_reducible rfl | (rw [if_neg (by omega)]; (try (go_bits; go_simp)); (first | done | with_reducible rfl)) | (rw [if_pos (by omega)]; (try (go_bits; go_simp)); (first | done | with_reducible rfl))))); (try simp only [Act.put, List.setIfInBounds_toArray, List.set_cons_zero, List.set_cons_succ])) | ((refine sch_skip rfl rfl rfl rfl ?_); (try simp only [Act.put, List.setIfInBounds_toArray, List.set_cons_zero, List.set_cons_succ])))
            refine sch_e1 rfl rfl rfl rfl ?_
            · refine ⟨rfl, fun K hK => ?_⟩
              refine wp_store_cells 45 (.tmp 4) (.tmp 72) rfl _ 0 rfl (decC bs A2 0 c2) rfl 45 zeroP HZ3.out (by simp [decC]) (by unfold decC; kernel_rfl) (by simp [decC, Value.oneCell']) ?_
              intro y4 hst
              have HF := hide (rdec_fin bs w w1 _ _ (y2.heap.size) A2 c2 0 _ HD1.out.1 HD1.out.2 HR3.out HZ3.out (by have := HR2.out.1.size; (try simp at this); omega) hst HDL.out)
              clear hst
              refine hK _ _ (HS.out _ HF.out.1) ?_
              clear hK K
              try simp only [Act.put, List.setIfInBounds_toArray, List.set_cons_zero, List.set_cons_succ]
              repeat (first | ((refine sch_y rfl rfl rfl rfl ?_; apply Exists.intro; refine ⟨?_, ?_⟩; next => (intro w' hS; (first | obtain ⟨_, rfl⟩ := hS | skip); go_simp; (try (go_bits; go_simp)); (first | done | with_reducible rfl | (rw [if_neg (by omega)]; (try (go_bits; go_simp)); (first | done | with_reducible rfl)) | (rw [if_pos (by omega)]; (try (go_bits; go_simp)); (first | done | with_reducible rfl))))); (try simp only [Act.put, List.setIfInBounds_toArray, List.set_cons_zero, List.set_cons_succ])) | ((refine sch_skip rfl rfl rfl rfl ?_); (try simp only [Act.put, List.setIfInBounds_toArray, List.set_cons_zero, List.set_cons_succ])))
              refine sch_nil ?_
              go_wp2_with fail
              go_meet
              exact ⟨_, A2, c2, rfl, HF.out.1, HF.out.2.1, HF.out.2.2.1, HF.out.2.2.2⟩
        · refine ⟨rfl, fun K hK => ?_⟩
          go_wp2
          have HR5 := hide (HR1.out.only ((Only.refl [] _).alloc (.cells zeroP.toArray 45)))
          have HZ5 := hide (Blk.newA (g := w1.heap.size + 1) (w := (w1.drew.alloc (.cells #[] 5))) (t := 45) (c := zeroP.toArray) (by simp))
          refine hK _ _ (HS.out _ (HD1.out.1.trans HR5.out.1)) ?_
          clear hK K
          try simp only [Act.put, List.setIfInBounds_toArray, List.set_cons_zero, List.set_cons_succ]
          repeat (first | ((refine sch_y rfl rfl rfl rfl ?_; apply Exists.intro; refine ⟨?_, ?_⟩; next => (intro w' hS; (first | obtain ⟨_, rfl⟩ := hS | skip); go_simp; (try (go_bits; go_simp)); (first | done | with_reducible rfl | (rw [if_neg (by omega)]; (try (go_bits; go_simp)); (first | done | with_reducible rfl)) | (rw [if_pos (by omega)]; (try (go_bits; go_simp)); (first | done | with_reducible rfl))))); (try simp only [Act.put, List.setIfInBounds_toArray, List.set_cons_zero, List.set_cons_succ])) | ((refine sch_skip rfl rfl rfl rfl ?_); (try simp only [Act.put, List.setIfInBounds_toArray, List.set_cons_zero, List.set_cons_succ])))
          refine sch_e1 rfl rfl rfl rfl ?_
          · refine ⟨rfl, fun K hK => ?_⟩
            refine wp_app2 (.tmp 68) (.tmp 70) rfl w1 [] [] _ (.slice (some ⟨w1.heap.size, 0, none⟩) 0 0) [] rfl HR5.out rfl ⟨b, o, none⟩ 0 0 (bs.drop 20) rfl HDL.out (HNO.out _) (by simp only [List.length_nil]; omega) ?_
            intro v y6 hr hfr
            obtain ⟨A6, c6, rfl⟩ : ∃ A c, v = .slice A 0 c := by
              obtain ⟨A, c, h⟩ := own_shape (hr.get 0 rfl)
              refine ⟨A, c, ?_⟩
              have hl := HDL.out
              simp only [List.nil_append] at h
              rw [hl] at h; exact h
            have HR6 := hide hr
            have HZ6 := hide (hfr _ _ _ (by decide) HZ5.out)
            clear hr hfr
            refine hK _ _ (HS.out _ (HD1.out.1.trans HR6.out.1)) ?_
            clear hK K
            try simp only [Act.put, List.setIfInBounds_toArray, List.set_cons_zero, List.set_cons_succ]
            repeat (first | ((refine sch_y rfl rfl rfl rfl ?_; apply Exists.intro; refine ⟨?_, ?_⟩; next => (intro w' hS; (first | obtain ⟨_, rfl⟩ := hS | skip); go_simp; (try (go_bits; go_simp)); (first | done | with_reducible rfl | (rw [if_neg (by omega)]; (try (go_bits; go_simp)); (first | done | with_reducible rfl)) | (rw [if_pos (by omega)]; (try (go_bits; go_simp)); (first | done | with_reducible rfl))))); (try simp only [Act.put, List.setIfInBounds_toArray, List.set_cons_zero, List.set_cons_succ])) | ((refine sch_skip rfl rfl rfl rfl ?_); (try simp only [Act.put, List.setIfInBounds_toArray, List.set_cons_zero, List.set_cons_succ])))
            refine sch_e1 rfl rfl rfl rfl ?_
            · refine ⟨rfl, fun K hK => ?_⟩
              refine wp_store_cells 45 (.tmp 4) (.tmp 72) rfl _ 0 rfl (decC bs A6 0 c6) rfl 45 zeroP HZ6.out (by simp [decC]) (by unfold decC; kernel_rfl) (by simp [decC, Value.oneCell']) ?_
              intro y7 hst
              have HF := hide (rdec_fin bs w w1 _ _ (w1.heap.size + 1) A6 c6 0 _ HD1.out.1 HD1.out.2 HR6.out HZ6.out (by have := HR1.out.1.size; (try simp at this); omega) hst HDL.out)
              clear hst
              refine hK _ _ (HS.out _ HF.out.1) ?_
              clear hK K
              try simp only [Act.put, List.setIfInBounds_toArray, List.set_cons_zero, List.set_cons_succ]
              repeat (first | ((refine sch_y rfl rfl rfl rfl ?_; apply Exists.intro; refine ⟨?_, ?_⟩; next => (intro w' hS; (first | obtain ⟨_, rfl⟩ := hS | skip); go_simp; (try (go_bits; go_simp)); (first | done | with_reducible rfl | (rw [if_neg (by omega)]; (try (go_bits; go_simp)); (first | done | with_reducible rfl)) | (rw [if_pos (by omega)]; (try (go_bits; go_simp)); (first | done | with_reducible rfl))))); (try simp only [Act.put, List.setIfInBounds_toArray, List.set_cons_zero, List.set_cons_succ])) | ((refine sch_skip rfl rfl rfl rfl ?_); (try simp only [Act.put, List.setIfInBounds_toArray, List.set_cons_zero, List.set_cons_succ])))
              refine sch_nil ?_
              go_wp2_with fail
              go_meet
              exact ⟨_, A6, c6, rfl, HF.out.1, HF.out.2.1, HF.out.2.2.1, HF.out.2.2.2⟩
      · refine ⟨rfl, fun K hK => ?_⟩
        go_wp2
        have HR8 := hide (HR0.out.only ((Only.refl [] _).alloc (.cells zeroP.toArray 45)))
        have HZ8 := hide (Blk.newA (g := w1.heap.size) (w := w1.drew) (t := 45) (c := zeroP.toArray) (by simp))
        refine hK _ _ (HS.out _ (HD1.out.1.trans HR8.out.1)) ?_
        clear hK K
        try simp only [Act.put, List.setIfInBounds_toArray, List.set_cons_zero, List.set_cons_succ]
        repeat (first | ((refine sch_y rfl rfl rfl rfl ?_; apply Exists.intro; refine ⟨?_, ?_⟩; next => (intro w' hS; (first | obtain ⟨_, rfl⟩ := hS | skip); go_simp; (try (go_bits; go_simp)); (first | done | with_reducible rfl | (rw [if_neg (by omega)]; (try (go_bits; go_simp)); (first | done | with_reducible rfl)) | (rw [if_pos (by omega)]; (try (go_bits; go_simp)); (first | done | with_reducible rfl))))); (try simp only [Act.put, List.setIfInBounds_toArray, List.set_cons_zero, List.set_cons_succ])) | ((refine sch_skip rfl rfl rfl rfl ?_); (try simp only [Act.put, List.setIfInBounds_toArray, List.set_cons_zero, List.set_cons_succ])))
        refine sch_e1 rfl rfl rfl rfl ?_
        · refine ⟨rfl, fun K hK => ?_⟩
          go_wp2
          have HR9 := hide (made_at HR8.out (w1.heap.size + 1) (by simp) #[] [] 0 rfl rfl (by decide))
          have HZ9 := hide (HZ8.out.alloc (.cells #[] 5))
          refine hK _ _ (HS.out _ (HD1.out.1.trans HR9.out.1)) ?_
          clear hK K
          try simp only [Act.put, List.setIfInBounds_toArray, List.set_cons_zero, List.set_cons_succ]
          repeat (first | ((refine sch_y rfl rfl rfl rfl ?_; apply Exists.intro; refine ⟨?_, ?_⟩; next => (intro w' hS; (first | obtain ⟨_, rfl⟩ := hS | skip); go_simp; (try (go_bits; go_simp)); (first | done | with_reducible rfl | (rw [if_neg (by omega)]; (try (go_bits; go_simp)); (first | done | with_reducible rfl)) | (rw [if_pos (by omega)]; (try (go_bits; go_simp)); (first | done | with_reducible rfl))))); (try simp only [Act.put, List.setIfInBounds_toArray, List.set_cons_zero, List.set_cons_succ])) | ((refine sch_skip rfl rfl rfl rfl ?_); (try simp only [Act.put, List.setIfInBounds_toArray, List.set_cons_zero, List.set_cons_succ])))
          refine sch_e1 rfl rfl rfl rfl ?_
          · refine ⟨rfl, fun K hK => ?_⟩
            refine wp_app2 (.tmp 68) (.tmp 70) rfl w1 [] [] _ (.slice (some ⟨w1.heap.size + 1, 0, none⟩) 0 0) [] rfl HR9.out rfl ⟨b, o, none⟩ 0 0 (bs.drop 20) rfl HDL.out (HNO.out _) (by simp only [List.length_nil]; omega) ?_
            intro v y10 hr hfr
            obtain ⟨A10, c10, rfl⟩ : ∃ A c, v = .slice A 0 c := by
              obtain ⟨A, c, h⟩ := own_shape (hr.get 0 rfl)
              refine ⟨A, c, ?_⟩
              have hl := HDL.out
              simp only [List.nil_append] at h
              rw [hl] at h; exact h
            have HR10 := hide hr
            have HZ10 := hide (hfr _ _ _ (by decide) HZ9.out)
            clear hr hfr
            refine hK _ _ (HS.out _ (HD1.out.1.trans HR10.out.1)) ?_
            clear hK K
            try simp only [Act.put, List.setIfInBounds_toArray, List.set_cons_zero, List.set_cons_succ]
            repeat (first | ((refine sch_y rfl rfl rfl rfl ?_; apply Exists.intro; refine ⟨?_, ?_⟩; next => (intro w' hS; (first | obtain ⟨_, rfl⟩ := hS | skip); go_simp; (try (go_bits; go_simp)); (first | done | with_reducible rfl | (rw [if_neg (by omega)]; (try (go_bits; go_simp)); (first | done | with_reducible rfl)) | (rw [if_pos (by omega)]; (try (go_bits; go_simp)); (first | done | with_reducible rfl))))); (try simp only [Act.put, List.setIfInBounds_toArray, List.set_cons_zero, List.set_cons_succ])) | ((refine sch_skip rfl rfl rfl rfl ?_); (try simp only [Act.put, List.setIfInBounds_toArray, List.set_cons_zero, List.set_cons_succ])))
            refine sch_e1 rfl rfl rfl rfl ?_
            · refine ⟨rfl, fun K hK => ?_⟩
              refine wp_store_cells 45 (.tmp 4) (.tmp 72) rfl _ 0 rfl (decC bs A10 0 c10) rfl 45 zeroP HZ10.out (by simp [decC]) (by unfold decC; kernel_rfl) (by simp [decC, Value.oneCell']) ?_
              intro y11 hst
              have HF := hide (rdec_fin bs w w1 _ _ (w1.heap.size) A10 c10 0 _ HD1.out.1 HD1.out.2 HR10.out HZ10.out (by have := HR0.out.1.size; (try simp at this); omega) hst HDL.out)
              clear hst
              refine hK _ _ (HS.out _ HF.out.1) ?_
              clear hK K
              try simp only [Act.put, List.setIfInBounds_toArray, List.set_cons_zero, List.set_cons_succ]
              repeat (first | ((refine sch_y rfl rfl rfl rfl ?_; apply Exists.intro; refine ⟨?_, ?_⟩; next => (intro w' hS; (first | obtain ⟨_, rfl⟩ := hS | skip); go_simp; (try (go_bits; go_simp)); (first | done | with_reducible rfl | (rw [if_neg (by omega)]; (try (go_bits; go_simp)); (first | done | with_reducible rfl)) | (rw [if_pos (by omega)]; (try (go_bits; go_simp)); (first | done | with_reducible rfl))))); (try simp only [Act.put, List.setIfInBounds_toArray, List.set_cons_zero, List.set_cons_succ])) | ((refine sch_skip rfl rfl rfl rfl ?_); (try simp only [Act.put, List.setIfInBounds_toArray, List.set_cons_zero, List.set_cons_succ])))
              refine sch_nil ?_
              go_wp2_with fail
              go_meet
              exact ⟨_, A10, c10, rfl, HF.out.1, HF.out.2.1, HF.out.2.2.1, HF.out.2.2.2⟩
    · have hc20' : ¬ (c = 20) := hc20
      refine wp_region_sch 35 [28, 31, 33, 34] (fun w' => w'.cell? ⟨b, o + 1, none⟩ = some (.int .u8 (hof bs 1 : Nat)) ∧ w'.cell? ⟨b, o + 2, none⟩ = some (.int .u8 (hof bs 2 : Nat)) ∧ w'.cell? ⟨b, o + 3, none⟩ = some (.int .u8 (hof bs 3 : Nat)) ∧ Only [] w w') (by kernel_rfl) (by kernel_rfl) (HS.out _ HD1.out.1.drew) ?_
      repeat (first | ((refine sch_y rfl rfl rfl rfl ?_; apply Exists.intro; refine ⟨?_, ?_⟩; next => (intro w' hS; (first | obtain ⟨_, rfl⟩ := hS | skip); go_simp; (try (go_bits; go_simp)); (first | done | with_reducible rfl | (rw [if_neg (by omega)]; (try (go_bits; go_simp)); (first | done | with_reducible rfl)) | (rw [if_pos (by omega)]; (try (go_bits; go_simp)); (first | done | with_reducible rfl))))); (try simp only [Act.put, List.setIfInBounds_toArray, List.set_cons_zero, List.set_cons_succ])) | ((refine sch_skip rfl rfl rfl rfl ?_); (try simp only [Act.put, List.setIfInBounds_toArray, List.set_cons_zero, List.set_cons_succ])))
      refine sch_q (.int .u64 (gv bs 4 12)) 68 #[.slice (some ⟨b, o + 12, none⟩) 4 (c - 12)] rfl rfl rfl rfl (fun _ => by first | kernel_rfl | (go_simp; done)) (fun W hW => rget_at bs H8.out b (o + 12) 4 (c - 12) 12 W (by omega) (HO.out W hW.2.2.2 12 (by omega)) (HO.out W hW.2.2.2 13 (by omega)) (fun _ => HO.out W hW.2.2.2 14 (by omega)) (fun _ => HO.out W hW.2.2.2 15 (by omega))) ?_
      try simp only [Act.put, List.setIfInBounds_toArray, List.set_cons_zero, List.set_cons_succ]
      repeat (first | ((refine sch_y rfl rfl rfl rfl ?_; apply Exists.intro; refine ⟨?_, ?_⟩; next => (intro w' hS; (first | obtain ⟨_, rfl⟩ := hS | skip); go_simp; (try (go_bits; go_simp)); (first | done | with_reducible rfl | (rw [if_neg (by omega)]; (try (go_bits; go_simp)); (first | done | with_reducible rfl)) | (rw [if_pos (by omega)]; (try (go_bits; go_simp)); (first | done | with_reducible rfl))))); (try simp only [Act.put, List.setIfInBounds_toArray, List.set_cons_zero, List.set_cons_succ])) | ((refine sch_skip rfl rfl rfl rfl ?_); (try simp only [Act.put, List.setIfInBounds_toArray, List.set_cons_zero, List.set_cons_succ])))
      refine sch_q (.int .u64 (gv bs 4 16)) 68 #[.slice (some ⟨b, o + 16, none⟩) 4 (c - 16)] rfl rfl rfl rfl (fun _ => by first | kernel_rfl | (go_simp; done)) (fun W hW => rget_at bs H8.out b (o + 16) 4 (c - 16) 16 W (by omega) (HO.out W hW.2.2.2 16 (by omega)) (HO.out W hW.2.2.2 17 (by omega)) (fun _ => HO.out W hW.2.2.2 18 (by omega)) (fun _ => HO.out W hW.2.2.2 19 (by omega))) ?_
      try simp only [Act.put, List.setIfInBounds_toArray, List.set_cons_zero, List.set_cons_succ]
      repeat (first | ((refine sch_y rfl rfl rfl rfl ?_; apply Exists.intro; refine ⟨?_, ?_⟩; next => (intro w' hS; (first | obtain ⟨_, rfl⟩ := hS | skip); go_simp; (try (go_bits; go_simp)); (first | done | with_reducible rfl | (rw [if_neg (by omega)]; (try (go_bits; go_simp)); (first | done | with_reducible rfl)) | (rw [if_pos (by omega)]; (try (go_bits; go_simp)); (first | done | with_reducible rfl))))); (try simp only [Act.put, List.setIfInBounds_toArray, List.set_cons_zero, List.set_cons_succ])) | ((refine sch_skip rfl rfl rfl rfl ?_); (try simp only [Act.put, List.setIfInBounds_toArray, List.set_cons_zero, List.set_cons_succ])))
      refine sch_q (.int .u64 (gv bs 2 6)) 68 #[.slice (some ⟨b, o + 6, none⟩) 2 (c - 6)] rfl rfl rfl rfl (fun _ => by first | kernel_rfl | (go_simp; done)) (fun W hW => rget_at bs H8.out b (o + 6) 2 (c - 6) 6 W (by omega) (HO.out W hW.2.2.2 6 (by omega)) (HO.out W hW.2.2.2 7 (by omega)) (fun _ => HO.out W hW.2.2.2 8 (by omega)) (fun _ => HO.out W hW.2.2.2 9 (by omega))) ?_
      try simp only [Act.put, List.setIfInBounds_toArray, List.set_cons_zero, List.set_cons_succ]
      repeat (first | ((refine sch_y rfl rfl rfl rfl ?_; apply Exists.intro; refine ⟨?_, ?_⟩; next => (intro w' hS; (first | obtain ⟨_, rfl⟩ := hS | skip); go_simp; (try (go_bits; go_simp)); (first | done | with_reducible rfl | (rw [if_neg (by omega)]; (try (go_bits; go_simp)); (first | done | with_reducible rfl)) | (rw [if_pos (by omega)]; (try (go_bits; go_simp)); (first | done | with_reducible rfl))))); (try simp only [Act.put, List.setIfInBounds_toArray, List.set_cons_zero, List.set_cons_succ])) | ((refine sch_skip rfl rfl rfl rfl ?_); (try simp only [Act.put, List.setIfInBounds_toArray, List.set_cons_zero, List.set_cons_succ])))
      refine sch_q (.int .u64 (gv bs 2 8)) 68 #[.slice (some ⟨b, o + 8, none⟩) 2 (c - 8)] rfl rfl rfl rfl (fun _ => by first | kernel_rfl | (go_simp; done)) (fun W hW => rget_at bs H8.out b (o + 8) 2 (c - 8) 8 W (by omega) (HO.out W hW.2.2.2 8 (by omega)) (HO.out W hW.2.2.2 9 (by omega)) (fun _ => HO.out W hW.2.2.2 10 (by omega)) (fun _ => HO.out W hW.2.2.2 11 (by omega))) ?_
      try simp only [Act.put, List.setIfInBounds_toArray, List.set_cons_zero, List.set_cons_succ]
      repeat (first | ((refine sch_y rfl rfl rfl rfl ?_; apply Exists.intro; refine ⟨?_, ?_⟩; next => (intro w' hS; (first | obtain ⟨_, rfl⟩ := hS | skip); go_simp; (try (go_bits; go_simp)); (first | done | with_reducible rfl | (rw [if_neg (by omega)]; (try (go_bits; go_simp)); (first | done | with_reducible rfl)) | (rw [if_pos (by omega)]; (try (go_bits; go_simp)); (first | done | with_reducible rfl))))); (try simp only [Act.put, List.setIfInBounds_toArray, List.set_cons_zero, List.set_cons_succ])) | ((refine sch_skip rfl rfl rfl rfl ?_); (try simp only [Act.put, List.setIfInBounds_toArray, List.set_cons_zero, List.set_cons_succ])))
      have HR0 := hide (RowsOk.only (RowsOk.nil w1) (Only.refl [] w1).drew)
      refine sch_e2 rfl rfl rfl rfl rfl rfl ?_ ?_
      · refine ⟨rfl, fun K hK => ?_⟩
        go_wp2
        have HR12 := hide (made_at HR0.out (w1.heap.size) (by simp) #[] [] 0 rfl rfl (by decide))
        refine hK _ _ (HS.out _ (HD1.out.1.trans HR12.out.1)) ?_
        clear hK K
        try simp only [Act.put, List.setIfInBounds_toArray, List.set_cons_zero, List.set_cons_succ]
        repeat (first | ((refine sch_y rfl rfl rfl rfl ?_; apply Exists.intro; refine ⟨?_, ?_⟩; next => (intro w' hS; (first | obtain ⟨_, rfl⟩ := hS | skip); go_simp; (try (go_bits; go_simp)); (first | done | with_reducible rfl | (rw [if_neg (by omega)]; (try (go_bits; go_simp)); (first | done | with_reducible rfl)) | (rw [if_pos (by omega)]; (try (go_bits; go_simp)); (first | done | with_reducible rfl))))); (try simp only [Act.put, List.setIfInBounds_toArray, List.set_cons_zero, List.set_cons_succ])) | ((refine sch_skip rfl rfl rfl rfl ?_); (try simp only [Act.put, List.setIfInBounds_toArray, List.set_cons_zero, List.set_cons_succ])))
        refine sch_e2 rfl rfl rfl rfl rfl rfl ?_ ?_
        · refine ⟨rfl, fun K hK => ?_⟩
          refine wp_app2 (.tmp 68) (.tmp 70) rfl w1 [] [] _ (.slice (some ⟨w1.heap.size, 0, none⟩) 0 0) [] rfl HR12.out rfl ⟨b, o + 20, none⟩ (n - 20) (c - 20) (bs.drop 20) rfl HDL.out (HNW.out _ (HD1.out.1.trans HR12.out.1)) (by simp only [List.length_nil]; omega) ?_
          intro v y13 hr hfr
          obtain ⟨A13, c13, rfl⟩ : ∃ A c, v = .slice A (n - 20) c := by
            obtain ⟨A, c, h⟩ := own_shape (hr.get 0 rfl)
            refine ⟨A, c, ?_⟩
            have hl := HDL.out
            simp only [List.nil_append] at h
            rw [hl] at h; exact h
          have HR13 := hide hr
          clear hr hfr
          refine hK _ _ (HS.out _ (HD1.out.1.trans HR13.out.1)) ?_
          clear hK K
          try simp only [Act.put, List.setIfInBounds_toArray, List.set_cons_zero, List.set_cons_succ]
          repeat (first | ((refine sch_y rfl rfl rfl rfl ?_; apply Exists.intro; refine ⟨?_, ?_⟩; next => (intro w' hS; (first | obtain ⟨_, rfl⟩ := hS | skip); go_simp; (try (go_bits; go_simp)); (first | done | with_reducible rfl | (rw [if_neg (by omega)]; (try (go_bits; go_simp)); (first | done | with_reducible rfl)) | (rw [if_pos (by omega)]; (try (go_bits; go_simp)); (first | done | with_reducible rfl))))); (try simp only [Act.put, List.setIfInBounds_toArray, List.set_cons_zero, List.set_cons_succ])) | ((refine sch_skip rfl rfl rfl rfl ?_); (try simp only [Act.put, List.setIfInBounds_toArray, List.set_cons_zero, List.set_cons_succ])))
          refine sch_e1 rfl rfl rfl rfl ?_
          · refine ⟨rfl, fun K hK => ?_⟩
            go_wp2
            have HR14 := hide (HR13.out.only ((Only.refl [] _).alloc (.cells zeroP.toArray 45)))
            have HZ14 := hide (Blk.newA (g := y13.heap.size) (w := y13) (t := 45) (c := zeroP.toArray) (by simp))
            refine hK _ _ (HS.out _ (HD1.out.1.trans HR14.out.1)) ?_
            clear hK K
            try simp only [Act.put, List.setIfInBounds_toArray, List.set_cons_zero, List.set_cons_succ]
            repeat (first | ((refine sch_y rfl rfl rfl rfl ?_; apply Exists.intro; refine ⟨?_, ?_⟩; next => (intro w' hS; (first | obtain ⟨_, rfl⟩ := hS | skip); go_simp; (try (go_bits; go_simp)); (first | done | with_reducible rfl | (rw [if_neg (by omega)]; (try (go_bits; go_simp)); (first | done | with_reducible rfl)) | (rw [if_pos (by omega)]; (try (go_bits; go_simp)); (first | done | with_reducible rfl))))); (try simp only [Act.put, List.setIfInBounds_toArray, List.set_cons_zero, List.set_cons_succ])) | ((refine sch_skip rfl rfl rfl rfl ?_); (try simp only [Act.put, List.setIfInBounds_toArray, List.set_cons_zero, List.set_cons_succ])))
            refine sch_e1 rfl rfl rfl rfl ?_
            · refine ⟨rfl, fun K hK => ?_⟩
              refine wp_store_cells 45 (.tmp 4) (.tmp 72) rfl _ 0 rfl (decC bs A13 (n - 20) c13) rfl 45 zeroP HZ14.out (by simp [decC]) (by unfold decC; kernel_rfl) (by simp [decC, Value.oneCell']) ?_
              intro y15 hst
              have HF := hide (rdec_fin bs w w1 _ _ (y13.heap.size) A13 c13 (n - 20) _ HD1.out.1 HD1.out.2 HR14.out HZ14.out (by have := HR13.out.1.size; (try simp at this); omega) hst HDL.out)
              clear hst
              refine hK _ _ (HS.out _ HF.out.1) ?_
              clear hK K
              try simp only [Act.put, List.setIfInBounds_toArray, List.set_cons_zero, List.set_cons_succ]
              repeat (first | ((refine sch_y rfl rfl rfl rfl ?_; apply Exists.intro; refine ⟨?_, ?_⟩; next => (intro w' hS; (first | obtain ⟨_, rfl⟩ := hS | skip); go_simp; (try (go_bits; go_simp)); (first | done | with_reducible rfl | (rw [if_neg (by omega)]; (try (go_bits; go_simp)); (first | done | with_reducible rfl)) | (rw [if_pos (by omega)]; (try (go_bits; go_simp)); (first | done | with_reducible rfl))))); (try simp only [Act.put, List.setIfInBounds_toArray, List.set_cons_zero, List.set_cons_succ])) | ((refine sch_skip rfl rfl rfl rfl ?_); (try simp only [Act.put, List.setIfInBounds_toArray, List.set_cons_zero, List.set_cons_succ])))
              refine sch_nil ?_
              go_wp2_with fail
              go_meet
              exact ⟨_, A13, c13, rfl, HF.out.1, HF.out.2.1, HF.out.2.2.1, HF.out.2.2.2⟩
        · refine ⟨rfl, fun K hK => ?_⟩
          go_wp2
          have HR16 := hide (HR12.out.only ((Only.refl [] _).alloc (.cells zeroP.toArray 45)))
          have HZ16 := hide (Blk.newA (g := w1.heap.size + 1) (w := (w1.drew.alloc (.cells #[] 5))) (t := 45) (c := zeroP.toArray) (by simp))
          refine hK _ _ (HS.out _ (HD1.out.1.trans HR16.out.1)) ?_
          clear hK K
          try simp only [Act.put, List.setIfInBounds_toArray, List.set_cons_zero, List.set_cons_succ]
          repeat (first | ((refine sch_y rfl rfl rfl rfl ?_; apply Exists.intro; refine ⟨?_, ?_⟩; next => (intro w' hS; (first | obtain ⟨_, rfl⟩ := hS | skip); go_simp; (try (go_bits; go_simp)); (first | done | with_reducible rfl | (rw [if_neg (by omega)]; (try (go_bits; go_simp)); (first | done | with_reducible rfl)) | (rw [if_pos (by omega)]; (try (go_bits; go_simp)); (first | done | with_reducible rfl))))); (try simp only [Act.put, List.setIfInBounds_toArray, List.set_cons_zero, List.set_cons_succ])) | ((refine sch_skip rfl rfl rfl rfl ?_); (try simp only [Act.put, List.setIfInBounds_toArray, List.set_cons_zero, List.set_cons_succ])))
          refine sch_e1 rfl rfl rfl rfl ?_
          · refine ⟨rfl, fun K hK => ?_⟩
            refine wp_app2 (.tmp 68) (.tmp 70) rfl w1 [] [] _ (.slice (some ⟨w1.heap.size, 0, none⟩) 0 0) [] rfl HR16.out rfl ⟨b, o + 20, none⟩ (n - 20) (c - 20) (bs.drop 20) rfl HDL.out (HNW.out _ (HD1.out.1.trans HR16.out.1)) (by simp only [List.length_nil]; omega) ?_
            intro v y17 hr hfr
            obtain ⟨A17, c17, rfl⟩ : ∃ A c, v = .slice A (n - 20) c := by
              obtain ⟨A, c, h⟩ := own_shape (hr.get 0 rfl)
              refine ⟨A, c, ?_⟩
              have hl := HDL.out
              simp only [List.nil_append] at h
              rw [hl] at h; exact h
            have HR17 := hide hr
            have HZ17 := hide (hfr _ _ _ (by decide) HZ16.out)
            clear hr hfr
            refine hK _ _ (HS.out _ (HD1.out.1.trans HR17.out.1)) ?_
            clear hK K
            try simp only [Act.put, List.setIfInBounds_toArray, List.set_cons_zero, List.set_cons_succ]
            repeat (first | ((refine sch_y rfl rfl rfl rfl ?_; apply Exists.intro; refine ⟨?_, ?_⟩; next => (intro w' hS; (first | obtain ⟨_, rfl⟩ := hS | skip); go_simp; (try (go_bits; go_simp)); (first | done | with_reducible rfl | (rw [if_neg (by omega)]; (try (go_bits; go_simp)); (first | done | with_reducible rfl)) | (rw [if_pos (by omega)]; (try (go_bits; go_simp)); (first | done | with_reducible rfl))))); (try simp only [Act.put, List.setIfInBounds_toArray, List.set_cons_zero, List.set_cons_succ])) | ((refine sch_skip rfl rfl rfl rfl ?_); (try simp only [Act.put, List.setIfInBounds_toArray, List.set_cons_zero, List.set_cons_succ])))
            refine sch_e1 rfl rfl rfl rfl ?_
            · refine ⟨rfl, fun K hK => ?_⟩
              refine wp_store_cells 45 (.tmp 4) (.tmp 72) rfl _ 0 rfl (decC bs A17 (n - 20) c17) rfl 45 zeroP HZ17.out (by simp [decC]) (by unfold decC; kernel_rfl) (by simp [decC, Value.oneCell']) ?_
              intro y18 hst
              have HF := hide (rdec_fin bs w w1 _ _ (w1.heap.size + 1) A17 c17 (n - 20) _ HD1.out.1 HD1.out.2 HR17.out HZ17.out (by have := HR12.out.1.size; (try simp at this); omega) hst HDL.out)
              clear hst
              refine hK _ _ (HS.out _ HF.out.1) ?_
              clear hK K
              try simp only [Act.put, List.setIfInBounds_toArray, List.set_cons_zero, List.set_cons_succ]
              repeat (first | ((refine sch_y rfl rfl rfl rfl ?_; apply Exists.intro; refine ⟨?_, ?_⟩; next => (intro w' hS; (first | obtain ⟨_, rfl⟩ := hS | skip); go_simp; (try (go_bits; go_simp)); (first | done | with_reducible rfl | (rw [if_neg (by omega)]; (try (go_bits; go_simp)); (first | done | with_reducible rfl)) | (rw [if_pos (by omega)]; (try (go_bits; go_simp)); (first | done | with_reducible rfl))))); (try simp only [Act.put, List.setIfInBounds_toArray, List.set_cons_zero, List.set_cons_succ])) | ((refine sch_skip rfl rfl rfl rfl ?_); (try simp only [Act.put, List.setIfInBounds_toArray, List.set_cons_zero, List.set_cons_succ])))
              refine sch_nil ?_
              go_wp2_with fail
              go_meet
              exact ⟨_, A17, c17, rfl, HF.out.1, HF.out.2.1, HF.out.2.2.1, HF.out.2.2.2⟩
      · refine ⟨rfl, fun K hK => ?_⟩
        go_wp2
        have HR19 := hide (HR0.out.only ((Only.refl [] _).alloc (.cells zeroP.toArray 45)))
        have HZ19 := hide (Blk.newA (g := w1.heap.size) (w := w1.drew) (t := 45) (c := zeroP.toArray) (by simp))
        refine hK _ _ (HS.out _ (HD1.out.1.trans HR19.out.1)) ?_
        clear hK K
        try simp only [Act.put, List.setIfInBounds_toArray, List.set_cons_zero, List.set_cons_succ]
        repeat (first | ((refine sch_y rfl rfl rfl rfl ?_; apply Exists.intro; refine ⟨?_, ?_⟩; next => (intro w' hS; (first | obtain ⟨_, rfl⟩ := hS | skip); go_simp; (try (go_bits; go_simp)); (first | done | with_reducible rfl | (rw [if_neg (by omega)]; (try (go_bits; go_simp)); (first | done | with_reducible rfl)) | (rw [if_pos (by omega)]; (try (go_bits; go_simp)); (first | done | with_reducible rfl))))); (try simp only [Act.put, List.setIfInBounds_toArray, List.set_cons_zero, List.set_cons_succ])) | ((refine sch_skip rfl rfl rfl rfl ?_); (try simp only [Act.put, List.setIfInBounds_toArray, List.set_cons_zero, List.set_cons_succ])))
        refine sch_e1 rfl rfl rfl rfl ?_
        · refine ⟨rfl, fun K hK => ?_⟩
          go_wp2
          have HR20 := hide (made_at HR19.out (w1.heap.size + 1) (by simp) #[] [] 0 rfl rfl (by decide))
          have HZ20 := hide (HZ19.out.alloc (.cells #[] 5))
          refine hK _ _ (HS.out _ (HD1.out.1.trans HR20.out.1)) ?_
          clear hK K
          try simp only [Act.put, List.setIfInBounds_toArray, List.set_cons_zero, List.set_cons_succ]
          repeat (first | ((refine sch_y rfl rfl rfl rfl ?_; apply Exists.intro; refine ⟨?_, ?_⟩; next => (intro w' hS; (first | obtain ⟨_, rfl⟩ := hS | skip); go_simp; (try (go_bits; go_simp)); (first | done | with_reducible rfl | (rw [if_neg (by omega)]; (try (go_bits; go_simp)); (first | done | with_reducible rfl)) | (rw [if_pos (by omega)]; (try (go_bits; go_simp)); (first | done | with_reducible rfl))))); (try simp only [Act.put, List.setIfInBounds_toArray, List.set_cons_zero, List.set_cons_succ])) | ((refine sch_skip rfl rfl rfl rfl ?_); (try simp only [Act.put, List.setIfInBounds_toArray, List.set_cons_zero, List.set_cons_succ])))
          refine sch_e1 rfl rfl rfl rfl ?_
          · refine ⟨rfl, fun K hK => ?_⟩
            refine wp_app2 (.tmp 68) (.tmp 70) rfl w1 [] [] _ (.slice (some ⟨w1.heap.size + 1, 0, none⟩) 0 0) [] rfl HR20.out rfl ⟨b, o + 20, none⟩ (n - 20) (c - 20) (bs.drop 20) rfl HDL.out (HNW.out _ (HD1.out.1.trans HR20.out.1)) (by simp only [List.length_nil]; omega) ?_
            intro v y21 hr hfr
            obtain ⟨A21, c21, rfl⟩ : ∃ A c, v = .slice A (n - 20) c := by
              obtain ⟨A, c, h⟩ := own_shape (hr.get 0 rfl)
              refine ⟨A, c, ?_⟩
              have hl := HDL.out
              simp only [List.nil_append] at h
              rw [hl] at h; exact h
            have HR21 := hide hr
            have HZ21 := hide (hfr _ _ _ (by decide) HZ20.out)
            clear hr hfr
            refine hK _ _ (HS.out _ (HD1.out.1.trans HR21.out.1)) ?_
            clear hK K
            try simp only [Act.put, List.setIfInBounds_toArray, List.set_cons_zero, List.set_cons_succ]
            repeat (first | ((refine sch_y rfl rfl rfl rfl ?_; apply Exists.intro; refine ⟨?_, ?_⟩; next => (intro w' hS; (first | obtain ⟨_, rfl⟩ := hS | skip); go_simp; (try (go_bits; go_simp)); (first | done | with_reducible rfl | (rw [if_neg (by omega)]; (try (go_bits; go_simp)); (first | done | with_reducible rfl)) | (rw [if_pos (by omega)]; (try (go_bits; go_simp)); (first | done | with_reducible rfl))))); (try simp only [Act.put, List.setIfInBounds_toArray, List.set_cons_zero, List.set_cons_succ])) | ((refine sch_skip rfl rfl rfl rfl ?_); (try simp only [Act.put, List.setIfInBounds_toArray, List.set_cons_zero, List.set_cons_succ])))
            refine sch_e1 rfl rfl rfl rfl ?_
            · refine ⟨rfl, fun K hK => ?_⟩
              refine wp_store_cells 45 (.tmp 4) (.tmp 72) rfl _ 0 rfl (decC bs A21 (n - 20) c21) rfl 45 zeroP HZ21.out (by simp [decC]) (by unfold decC; kernel_rfl) (by simp [decC, Value.oneCell']) ?_
              intro y22 hst
              have HF := hide (rdec_fin bs w w1 _ _ (w1.heap.size) A21 c21 (n - 20) _ HD1.out.1 HD1.out.2 HR21.out HZ21.out (by have := HR0.out.1.size; (try simp at this); omega) hst HDL.out)
              clear hst
              refine hK _ _ (HS.out _ HF.out.1) ?_
              clear hK K
              try simp only [Act.put, List.setIfInBounds_toArray, List.set_cons_zero, List.set_cons_succ]
              repeat (first | ((refine sch_y rfl rfl rfl rfl ?_; apply Exists.intro; refine ⟨?_, ?_⟩; next => (intro w' hS; (first | obtain ⟨_, rfl⟩ := hS | skip); go_simp; (try (go_bits; go_simp)); (first | done | with_reducible rfl | (rw [if_neg (by omega)]; (try (go_bits; go_simp)); (first | done | with_reducible rfl)) | (rw [if_pos (by omega)]; (try (go_bits; go_simp)); (first | done | with_reducible rfl))))); (try simp only [Act.put, List.setIfInBounds_toArray, List.set_cons_zero, List.set_cons_succ])) | ((refine sch_skip rfl rfl rfl rfl ?_); (try simp only [Act.put, List.setIfInBounds_toArray, List.set_cons_zero, List.set_cons_succ])))
              refine sch_nil ?_
              go_wp2_with fail
              go_meet
              exact ⟨_, A21, c21, rfl, HF.out.1, HF.out.2.1, HF.out.2.2.1, HF.out.2.2.2⟩
  case rest =>
    have HVal : Hid (∀ (A : Option Addr) (c : Nat) (W : World), Calls Try.prog 28 #[.agg #[.int .u32 (gv bs 4 12), .int .u32 (gv bs 4 16), I64 (hof bs 1 : Int), I64 (hof bs 2 : Int), I64 (gv bs 2 6), I64 (gv bs 2 8), .bool ((hof bs 3 : Int) == 1), .slice A (n - 20) c]] W fun e w' => e = .returned (I64 (decP bs none 0).valid) ∧ Only [] W w') := hide fun A c W => by
      have h := refValid_ok (decP bs A c) W (by show (bs.drop 20).length ≤ maxLen; rw [List.length_drop, HNN.out]; unfold maxLen; omega)
      have e : (bs.drop 20).length = n - 20 := by rw [List.length_drop, HNN.out]
      show Calls Try.prog 28 #[.agg #[.int .u32 (gv bs 4 12), .int .u32 (gv bs 4 16), I64 (hof bs 1 : Int), I64 (hof bs 2 : Int), I64 (gv bs 2 6), I64 (gv bs 2 8), .bool ((hof bs 3 : Int) == 1), .slice A (n - 20) c]] W _
      rw [← e]
      exact h
    obtain ⟨R, A', c', rfl, k1, k2, k3, k4⟩ := hcut
    have e0 := k3.cell (i := 0) rfl
    have e1 := k3.cell (i := 1) rfl
    have e2 := k3.cell (i := 2) rfl
    have e3 := k3.cell (i := 3) rfl
    have e4 := k3.cell (i := 4) rfl
    have e5 := k3.cell (i := 5) rfl
    have e6 := k3.cell (i := 6) rfl
    have e7 := (Blk.to k3 (show (decP bs A' c').cells = [.int .u32 (gv bs 4 12), .int .u32 (gv bs 4 16), I64 (hof bs 1 : Int), I64 (hof bs 2 : Int), I64 (gv bs 2 6), I64 (gv bs 2 8), .bool ((hof bs 3 : Int) == 1), .slice A' (n - 20) c'] by unfold Pkt.cells decP; simp only [HDL.out])).cell (i := 7) rfl
    have ltR := k3.lt
    have HK := hide (show _ ∧ _ ∧ _ ∧ _ from ⟨k1, k2, k3, k4⟩)
    clear k1 k2 k3 k4
    go_wp2_with fail
    refine (HVal.out _ _ _).mono ?_
    rintro e w6 ⟨rfl, ho6⟩
    have HK6 := hide (show _ ∧ _ ∧ _ ∧ _ from ⟨Only.trans HK.out.1 ho6, ho6.blk HK.out.2.1 (by simp), ho6.blk HK.out.2.2.1 (by simp), own_nil HK.out.2.2.2 ho6⟩)
    clear ho6 e0 e1 e2 e3 e4 e5 e6 e7 ltR HK
    by_cases hbad : (decP bs none 0).bad
    · rw [Pkt.valid_bad hbad]
      have HBD := hide hbad
      clear hbad
      have hbz := build_rzeroP
      go_wp2_with (refine wpList_store_cells rfl 45 (.tmp 2) (.tmp 77) rfl _ _ rfl zeroP rfl 45 zeroP HK6.out.2.1 (by decide) (by kernel_rfl) (by simp [Value.oneCell']) ?_; intro v1 hw3)
      have ho2 : Only [] w v1 := HK6.out.1.trans' hw3.2.1 (by intro i hi; simp at hi; omega)
      refine bodyPost_ret (results_cell_tmp rfl _ _ _ rfl (rload_zero (Blk.to hw3.1 (by rfl)))) rfl ?_
      exact ⟨ho2, .inl ⟨HBD.out, rfl⟩⟩
    · rw [Pkt.valid_good hbad]
      have HBD := hide hbad
      clear hbad
      go_wp2_with (first
        | (refine wpList_load_cells rfl 45 (.tmp 4) rfl R 0 rfl (decP bs A' c').cells (d := _) (fun j v hv => by rw [Nat.zero_add]; exact HK6.out.2.2.1.cell hv) Try.underlying45 rfl (by unfold Pkt.cells; kernel_rfl) ?_)
        | (refine wpList_store_cells rfl 45 (.tmp 2) (.tmp 79) rfl _ _ rfl (decP bs A' c').cells rfl 45 zeroP HK6.out.2.1 (by simp [Pkt.cells]) (by unfold Pkt.cells; kernel_rfl) (by simp [Pkt.cells, Value.oneCell']) ?_; intro v1 hw3))
      have ho2 : Only [] w v1 := HK6.out.1.trans' hw3.2.1 (by intro i hi; simp at hi; omega)
      refine bodyPost_ret (results_cell_tmp rfl _ _ _ rfl (load_ref (p := decP bs A' c') (Blk.to hw3.1 (by simp [Pkt.cells])))) rfl ?_
      refine ⟨ho2, .inr ⟨HBD.out, A', c', rfl, ?_⟩⟩
      exact nums_of_own (T := 5) (own_only HK6.out.2.2.2 hw3.2.1 (fun k hk hm => own_ne_blk HK6.out.2.2.2 HK6.out.2.1 (by decide) (by rw [hk]; simpa using hm)))

end Go.Proofs.Ytlnejlhdkmneeaa
