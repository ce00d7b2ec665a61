/- The reference's routes: index, Add. -/
import Derived.Test.YtlnejlhdkmneeaaRouC
namespace Go.Proofs.Ytlnejlhdkmneeaa
open Go.RowKit

set_option maxRecDepth 100000 in
set_option maxHeartbeats 4000000 in
theorem refIndex_ok (b : Nat) (A : Option Addr) (rs : List Rt) (n cap : Nat) (x : Rt) (w : World) (hn : rs.length = n) (hm : n ≤ 1000000) (hr : RRoutesAt w b (.slice A n cap) rs) :
    Calls Try.prog 89 #[.pointer (some ⟨b, 0, none⟩), x.V] w fun e w' => e = .returned (I64 (ixOf rs x)) ∧ Only [] w w' := by
  have HN := hide hn
  have HB := hide (show Only [] w (w.alloc (.cells #[.int .u32 x.addr, I64 x.bits, .int .u32 x.gw, I64 x.ifc, I64 x.met] 104)) ∧ Blk (w.alloc (.cells #[.int .u32 x.addr, I64 x.bits, .int .u32 x.gw, I64 x.ifc, I64 x.met] 104)) w.heap.size 104 [.int .u32 x.addr, I64 x.bits, .int .u32 x.gw, I64 x.ifc, I64 x.met] ∧ RRoutesAt (w.alloc (.cells #[.int .u32 x.addr, I64 x.bits, .int .u32 x.gw, I64 x.ifc, I64 x.met] 104)) b (.slice A n cap) rs from ⟨(Only.refl [] w).alloc _, Blk.newA rfl, hr.only ((Only.refl [] w).alloc _) (by simp) (by simp)⟩)
  clear hn hr
  show Calls Try.prog 89 #[.pointer (some ⟨b, 0, none⟩), .agg #[.int .u32 x.addr, I64 x.bits, .int .u32 x.gw, I64 x.ifc, I64 x.met]] w _
  go_enter Try.func89, Try.ntmps89
  go_wp2
  go_loopw [5] (fun i wr => ∃ k : Nat, k ≤ n ∧ i = .int .i64 k ∧ Hid (∀ j, j < k → rs[j]? ≠ some x) ∧ Hid (Only [] w wr ∧ Blk wr w.heap.size 104 [.int .u32 x.addr, I64 x.bits, .int .u32 x.gw, I64 x.ifc, I64 x.met] ∧ RRoutesAt wr b (.slice A n cap) rs)) (fun i _ => n - (intOf i).toNat)
  case atStart => exact ⟨0, Nat.zero_le _, rfl, hide (by intro j hj; omega), HB⟩
  case round =>
    obtain ⟨k, hk, rfl, HJ, HW⟩ := hrel
    have b0 := HW.out.2.2.me.cell (i := 0) rfl
    have ltb := HW.out.2.2.me.lt
    rcases Nat.lt_or_ge k n with hlt | hge
    · obtain ⟨y, hy⟩ : ∃ y, rs[k]? = some y := ⟨_, List.getElem?_eq_getElem (by rw [HN.out]; exact hlt)⟩
      obtain ⟨g, o, rfl, hc⟩ := HW.out.2.2.rts k y hy
      have HY := hide hy
      have y0 := hc 0 _ rfl
      rw [Nat.add_zero] at y0
      have y1 := hc 1 _ rfl
      have y2 := hc 2 _ rfl
      have y3 := hc 3 _ rfl
      have y4 := hc 4 _ rfl
      have x0 := HW.out.2.1.cell (i := 0) rfl
      have x1 := HW.out.2.1.cell (i := 1) rfl
      have x2 := HW.out.2.1.cell (i := 2) rfl
      have x3 := HW.out.2.1.cell (i := 3) rfl
      have x4 := HW.out.2.1.cell (i := 4) rfl
      clear hy hc
      by_cases hxy : x = y
      · have hR : Hid (ixOf rs x = (k : Int)) := hide (ixOf_at HJ.out (by rw [hxy]; exact HY.out))
        have HE : ∀ W : World, (binOp .eql 104 (.agg #[.int .u32 y.addr, I64 y.bits, .int .u32 y.gw, I64 y.ifc, I64 y.met]) (.agg #[.int .u32 x.addr, I64 x.bits, .int .u32 x.gw, I64 x.ifc, I64 x.met])).run Try.prog W = .ok (.bool true) W := fun W => by
          rw [show Value.agg #[.int .u32 y.addr, I64 y.bits, .int .u32 y.gw, I64 y.ifc, I64 y.met] = y.V from rfl, eq_rrt, decide_eq_true hxy.symm]
        clear hxy
        go_wp2
        refine wp_region_text0 9 [] [] [] (fun _ => True) (by kernel_rfl) (by kernel_rfl) trivial ?_
        repeat (first | ((refine wpText_h rfl rfl ?_; apply Exists.intro; refine ⟨?_, ?_⟩; next => (go_simp; (try (go_bits; go_simp)); (first | done | with_reducible rfl | (rw [if_neg (by omega)]; (try (go_bits; go_simp)); (first | done | with_reducible rfl)) | (rw [if_pos (by omega)]; (try (go_bits; go_simp)); (first | done | with_reducible rfl))))); (try simp only [Act.put, List.setIfInBounds_toArray, List.set_cons_zero, List.set_cons_succ])) | ((refine wpText_p rfl rfl ?_; apply Exists.intro; refine ⟨?_, ?_⟩; next => (intro w'; go_simp; (try (go_bits; go_simp)); (first | done | with_reducible rfl | (rw [if_neg (by omega)]; (try (go_bits; go_simp)); (first | done | with_reducible rfl)) | (rw [if_pos (by omega)]; (try (go_bits; go_simp)); (first | done | with_reducible rfl))))); (try simp only [Act.put, List.setIfInBounds_toArray, List.set_cons_zero, List.set_cons_succ])) | ((refine wpText_y rfl rfl ?_; apply Exists.intro; refine ⟨?_, ?_⟩; next => (intro w' hS; (first | obtain ⟨_, rfl⟩ := hS | skip); go_simp; (try (go_bits; go_simp)); (first | done | with_reducible rfl | (rw [if_neg (by omega)]; (try (go_bits; go_simp)); (first | done | with_reducible rfl)) | (rw [if_pos (by omega)]; (try (go_bits; go_simp)); (first | done | with_reducible rfl))))); (try simp only [Act.put, List.setIfInBounds_toArray, List.set_cons_zero, List.set_cons_succ])) | (refine wpText_skip (by first | exact .inl rfl | exact .inr (.inl rfl) | exact .inr (.inr rfl)) rfl ?_; (try simp only [Act.put, List.setIfInBounds_toArray, List.set_cons_zero, List.set_cons_succ])))
        refine wpText_nil ?_
        clear HE
        go_wp2
        go_ret
        rw [hR.out]; exact ⟨rfl, HW.out.1.drew⟩
      · have hR : Hid (∀ j, j < k + 1 → rs[j]? ≠ some x) := hide (fun j hj => by
          rcases Nat.lt_or_ge j k with h1 | h1
          · exact HJ.out j h1
          · obtain rfl : j = k := by omega
            rw [HY.out]; intro e; injection e with e; exact hxy e.symm)
        have HE : ∀ W : World, (binOp .eql 104 (.agg #[.int .u32 y.addr, I64 y.bits, .int .u32 y.gw, I64 y.ifc, I64 y.met]) (.agg #[.int .u32 x.addr, I64 x.bits, .int .u32 x.gw, I64 x.ifc, I64 x.met])).run Try.prog W = .ok (.bool false) W := fun W => by
          rw [show Value.agg #[.int .u32 y.addr, I64 y.bits, .int .u32 y.gw, I64 y.ifc, I64 y.met] = y.V from rfl, eq_rrt, decide_eq_false (fun h => hxy h.symm)]
        clear hxy
        go_wp2
        refine wp_region_text0 9 [] [] [] (fun _ => True) (by kernel_rfl) (by kernel_rfl) trivial ?_
        repeat (first | ((refine wpText_h rfl rfl ?_; apply Exists.intro; refine ⟨?_, ?_⟩; next => (go_simp; (try (go_bits; go_simp)); (first | done | with_reducible rfl | (rw [if_neg (by omega)]; (try (go_bits; go_simp)); (first | done | with_reducible rfl)) | (rw [if_pos (by omega)]; (try (go_bits; go_simp)); (first | done | with_reducible rfl))))); (try simp only [Act.put, List.setIfInBounds_toArray, List.set_cons_zero, List.set_cons_succ])) | ((refine wpText_p rfl rfl ?_; apply Exists.intro; refine ⟨?_, ?_⟩; next => (intro w'; go_simp; (try (go_bits; go_simp)); (first | done | with_reducible rfl | (rw [if_neg (by omega)]; (try (go_bits; go_simp)); (first | done | with_reducible rfl)) | (rw [if_pos (by omega)]; (try (go_bits; go_simp)); (first | done | with_reducible rfl))))); (try simp only [Act.put, List.setIfInBounds_toArray, List.set_cons_zero, List.set_cons_succ])) | ((refine wpText_y rfl rfl ?_; apply Exists.intro; refine ⟨?_, ?_⟩; next => (intro w' hS; (first | obtain ⟨_, rfl⟩ := hS | skip); go_simp; (try (go_bits; go_simp)); (first | done | with_reducible rfl | (rw [if_neg (by omega)]; (try (go_bits; go_simp)); (first | done | with_reducible rfl)) | (rw [if_pos (by omega)]; (try (go_bits; go_simp)); (first | done | with_reducible rfl))))); (try simp only [Act.put, List.setIfInBounds_toArray, List.set_cons_zero, List.set_cons_succ])) | (refine wpText_skip (by first | exact .inl rfl | exact .inr (.inl rfl) | exact .inr (.inr rfl)) rfl ?_; (try simp only [Act.put, List.setIfInBounds_toArray, List.set_cons_zero, List.set_cons_succ])))
        refine wpText_nil ?_
        clear HE
        go_wp2
        go_roundw
        case rel => exact ⟨k + 1, by omega, by go_num, hR, hide ⟨HW.out.1.drew, HW.out.2.1.drew, HW.out.2.2.only (Only.refl [] _).drew (by simp) (by simp)⟩⟩
        case measure => simp [intOf]; omega
    · obtain rfl : k = n := by omega
      have hR : Hid (ixOf rs x = -1) := hide (ixOf_none (by rw [HN.out]; exact HJ.out))
      go_wp2
      go_ret
      rw [hR.out]; exact ⟨rfl, HW.out.1⟩

/-- What Add answers. -/
def RAddRtS (x : Rt) (rs : List Rt) (b : Nat) (v : Value) (w : World) (e : Ending) (w' : World) : Prop :=
  (e = .returned (I64 x.code) ∧ x.code ≠ 0 ∧ Only [] w w') ∨ (x.code = 0 ∧ x ∈ rs ∧ e = .returned (I64 10) ∧ Only [] w w') ∨ (x.code = 0 ∧ x ∉ rs ∧ 500 ≤ rs.length ∧ e = .returned (I64 18) ∧ Only [] w w') ∨
    (x.code = 0 ∧ x ∉ rs ∧ rs.length < 500 ∧ e = .returned (I64 0) ∧ ∃ v', RRoutesAt w' b v' (rs ++ [x]) ∧ Only (b :: v.ownBlock.toList) w w' ∧ (v'.ownBlock = v.ownBlock ∨ ∃ g, v'.ownBlock = some g ∧ w.heap.size ≤ g))

set_option maxRecDepth 100000 in
set_option maxHeartbeats 8000000 in
theorem refAddRt_ok (b : Nat) (v : Value) (rs : List Rt) (n : Nat) (x : Rt) (w : World) (hn : rs.length = n) (hm : n ≤ 1000) (hf : x.Fit) (hr : RRoutesAt w b v rs) :
    Calls Try.prog 49 #[.pointer (some ⟨b, 0, none⟩), x.V] w fun e w' => RAddRtS x rs b v w e w' := by
  obtain ⟨A, c, rfl⟩ : ∃ A c, v = .slice A n c := by
    obtain ⟨A, c, h⟩ := own_shape hr.row
    exact ⟨A, c, by rw [h, hn]⟩
  have ho : Only [] w (w.alloc (.cells #[.int .u32 x.addr, I64 x.bits, .int .u32 x.gw, I64 x.ifc, I64 x.met] 104)) := (Only.refl [] w).alloc _
  have hx : Blk (w.alloc (.cells #[.int .u32 x.addr, I64 x.bits, .int .u32 x.gw, I64 x.ifc, I64 x.met] 104)) w.heap.size 104 [.int .u32 x.addr, I64 x.bits, .int .u32 x.gw, I64 x.ifc, I64 x.met] := Blk.newA rfl
  have hx0 := hx.cell (i := 0) rfl
  have H0 := hide (show _ ∧ _ ∧ _ from ⟨ho, hx, hr.only ho (by simp) (by simp)⟩)
  have HF := hide hf
  have HN := hide hn
  clear ho hx hr hf hn
  show Calls Try.prog 49 #[.pointer (some ⟨b, 0, none⟩), .agg #[.int .u32 x.addr, I64 x.bits, .int .u32 x.gw, I64 x.ifc, I64 x.met]] w _
  go_enter Try.func49, Try.ntmps49
  go_wp2_with fail
  refine (refCheck_ok x _ HF.out).mono ?_
  rintro e w1 ⟨rfl, ho⟩
  have H1 := hide (show _ ∧ _ ∧ _ from ⟨Only.trans H0.out.1 ho, ho.blk H0.out.2.1 (by simp), H0.out.2.2.only ho (by simp) (by simp)⟩)
  clear ho hx0
  by_cases hc : x.code = 0
  · have HC := hide hc
    rw [hc]
    clear hc
    have x0 := H1.out.2.1.cell (i := 0) rfl
    have x1 := H1.out.2.1.cell (i := 1) rfl
    have x2 := H1.out.2.1.cell (i := 2) rfl
    have x3 := H1.out.2.1.cell (i := 3) rfl
    have x4 := H1.out.2.1.cell (i := 4) rfl
    have ltx := H1.out.2.1.lt
    have b0 := H1.out.2.2.me.cell (i := 0) rfl
    have ltb := H1.out.2.2.me.lt
    go_wp2_with fail
    refine (refIndex_ok b A rs n c x _ HN.out (by omega) H1.out.2.2).mono ?_
    rintro e w2 ⟨rfl, ho⟩
    have H2 := hide (show _ ∧ _ ∧ _ from ⟨Only.trans H1.out.1 ho, ho.blk H1.out.2.1 (by simp), H1.out.2.2.only ho (by simp) (by simp)⟩)
    clear ho x0 x1 x2 x3 x4 ltx b0 ltb H1 H0
    have HI0 := hide (ixOf_ge rs x)
    by_cases hin : x ∈ rs
    · have hge : 0 ≤ ixOf rs x := HI0.out.2 hin
      have HI := hide hin
      clear hin
      go_wp2
      go_ret
      exact .inr (.inl ⟨HC.out, HI.out, rfl, H2.out.1⟩)
    · have hge : ¬ 0 ≤ ixOf rs x := fun h => hin (HI0.out.1 h)
      have HI := hide hin
      clear hin
      have b0 := H2.out.2.2.me.cell (i := 0) rfl
      have ltb := H2.out.2.2.me.lt
      by_cases h5 : 500 ≤ n
      · go_wp2
        go_ret
        exact .inr (.inr (.inl ⟨HC.out, HI.out, by rw [HN.out]; exact h5, rfl, H2.out.1⟩))
      · have x0 := H2.out.2.1.cell (i := 0) rfl
        have x1 := H2.out.2.1.cell (i := 1) rfl
        have x2 := H2.out.2.1.cell (i := 2) rfl
        have x3 := H2.out.2.1.cell (i := 3) rfl
        have x4 := H2.out.2.1.cell (i := 4) rfl
        have ltx := H2.out.2.1.lt
        go_wp2
        refine wp_region_text 7 [6] [0, 1, 2, 3] [4] (fun w' => w'.cell? ⟨b, 0, none⟩ = some (.slice A n c)) (by kernel_rfl) (by kernel_rfl) (by go_simp) ?_
        simp only [List.take_succ_cons, List.take_zero, List.drop_succ_cons, List.drop_zero]
        repeat (first | ((refine wpText_h rfl rfl ?_; apply Exists.intro; refine ⟨?_, ?_⟩; next => (go_simp; (try (go_bits; go_simp)); (first | done | with_reducible rfl | (rw [if_neg (by omega)]; (try (go_bits; go_simp)); (first | done | with_reducible rfl)) | (rw [if_pos (by omega)]; (try (go_bits; go_simp)); (first | done | with_reducible rfl))))); (try simp only [Act.put, List.setIfInBounds_toArray, List.set_cons_zero, List.set_cons_succ])) | ((refine wpText_p rfl rfl ?_; apply Exists.intro; refine ⟨?_, ?_⟩; next => (intro w'; go_simp; (try (go_bits; go_simp)); (first | done | with_reducible rfl | (rw [if_neg (by omega)]; (try (go_bits; go_simp)); (first | done | with_reducible rfl)) | (rw [if_pos (by omega)]; (try (go_bits; go_simp)); (first | done | with_reducible rfl))))); (try simp only [Act.put, List.setIfInBounds_toArray, List.set_cons_zero, List.set_cons_succ])) | ((refine wpText_y rfl rfl ?_; apply Exists.intro; refine ⟨?_, ?_⟩; next => (intro w' hS; (first | obtain ⟨_, rfl⟩ := hS | skip); go_simp; (try (go_bits; go_simp)); (first | done | with_reducible rfl | (rw [if_neg (by omega)]; (try (go_bits; go_simp)); (first | done | with_reducible rfl)) | (rw [if_pos (by omega)]; (try (go_bits; go_simp)); (first | done | with_reducible rfl))))); (try simp only [Act.put, List.setIfInBounds_toArray, List.set_cons_zero, List.set_cons_succ])) | (refine wpText_skip (by first | exact .inl rfl | exact .inr (.inl rfl) | exact .inr (.inr rfl)) rfl ?_; (try simp only [Act.put, List.setIfInBounds_toArray, List.set_cons_zero, List.set_cons_succ])))
        refine wpText_e rfl rfl (fun K hK => ?_)
        go_wp2
        refine hK _ _ (by go_simp) ?_
        clear hK K
        try simp only [Act.put, List.setIfInBounds_toArray, List.set_cons_zero, List.set_cons_succ]
        repeat (first | ((refine wpText_h rfl rfl ?_; apply Exists.intro; refine ⟨?_, ?_⟩; next => (go_simp; (try (go_bits; go_simp)); (first | done | with_reducible rfl | (rw [if_neg (by omega)]; (try (go_bits; go_simp)); (first | done | with_reducible rfl)) | (rw [if_pos (by omega)]; (try (go_bits; go_simp)); (first | done | with_reducible rfl))))); (try simp only [Act.put, List.setIfInBounds_toArray, List.set_cons_zero, List.set_cons_succ])) | ((refine wpText_p rfl rfl ?_; apply Exists.intro; refine ⟨?_, ?_⟩; next => (intro w'; go_simp; (try (go_bits; go_simp)); (first | done | with_reducible rfl | (rw [if_neg (by omega)]; (try (go_bits; go_simp)); (first | done | with_reducible rfl)) | (rw [if_pos (by omega)]; (try (go_bits; go_simp)); (first | done | with_reducible rfl))))); (try simp only [Act.put, List.setIfInBounds_toArray, List.set_cons_zero, List.set_cons_succ])) | ((refine wpText_y rfl rfl ?_; apply Exists.intro; refine ⟨?_, ?_⟩; next => (intro w' hS; (first | obtain ⟨_, rfl⟩ := hS | skip); go_simp; (try (go_bits; go_simp)); (first | done | with_reducible rfl | (rw [if_neg (by omega)]; (try (go_bits; go_simp)); (first | done | with_reducible rfl)) | (rw [if_pos (by omega)]; (try (go_bits; go_simp)); (first | done | with_reducible rfl))))); (try simp only [Act.put, List.setIfInBounds_toArray, List.set_cons_zero, List.set_cons_succ])) | (refine wpText_skip (by first | exact .inl rfl | exact .inr (.inl rfl) | exact .inr (.inr rfl)) rfl ?_; (try simp only [Act.put, List.setIfInBounds_toArray, List.set_cons_zero, List.set_cons_succ])))
        refine wpText_nil ?_
        obtain ⟨i0, hi0, hz0, hs0, hb0⟩ := info_parts rrt_info
        have HROW := hide (show w2.ownsRow 0 104 5 (.slice A n c) n (rs.flatMap Rt.cells) by have h := H2.out.2.2.row; rw [HN.out] at h; exact h)
        go_wp2_with (at_builtin; refine wpList_append_row _ rfl (.tmp 25) (.tmp 27) 113 rfl 104 i0 (.agg #[.int .u32 0, I64 0, .int .u32 0, I64 0, I64 0]) 5 40 Try.underlying113 hi0 hz0 hs0 hb0 rfl (by decide) (.slice A n c) n (rs.flatMap Rt.cells) rfl ((HROW.out.alloc _).drew) ⟨w2.heap.size, 0, none⟩ 1 1 x.cells rfl rfl ?_ (by simp [Rt.cells, Value.oneCell']) (by unfold maxLen; omega) (by omega) ?_)
        · intro j u hu
          rw [show (⟨w2.heap.size, 0, none⟩ : Addr).add j = ⟨w2.heap.size, j, none⟩ by unfold Addr.add; split <;> simp_all]
          exact ((Blk.newA (c := #[.int .u32 x.addr, I64 x.bits, .int .u32 x.gw, I64 x.ifc, I64 x.met]) rfl).drew).cell hu
        intro v3 w3 hown3 ho3 hbk3
        obtain ⟨A3, c3, rfl⟩ := own_shape hown3
        have hnb := own_ne_blk H2.out.2.2.row H2.out.2.2.me (by decide)
        have me3 : Blk w3 b 179 [.slice A n c] := ho3.blk ((H2.out.2.2.me.alloc _).drew) (by simpa [Option.mem_toList] using hnb)
        have e5 := me3.frozen 0
        have hl3 := me3.lt
        have hon3 := own_ne_blk hown3 me3 (by decide)
        have HM := hide me3
        have HO := hide hown3
        have HS := hide (show Only (b :: (Value.slice A n c).ownBlock.toList) w w3 from (((H2.out.1.alloc (.cells #[.int .u32 x.addr, I64 x.bits, .int .u32 x.gw, I64 x.ifc, I64 x.met] 104)).drew).mono (fun k hk _ => absurd hk (by simp))).trans' ho3 (fun i hi _ => List.mem_cons_of_mem _ hi))
        have HG := hide (show (Value.slice A3 (n + 1) c3).ownBlock = (Value.slice A n c).ownBlock ∨ ∃ g, (Value.slice A3 (n + 1) c3).ownBlock = some g ∧ w.heap.size ≤ g from hbk3.imp id fun h => ⟨_, h, by have := H2.out.1.size; omega⟩)
        have d5 := me3.cell (i := 0) rfl
        clear me3 hown3 ho3 hbk3 hnb x0 x1 x2 x3 x4 ltx b0
        go_wp2
        refine NoX.normal ?_
        go_wp2
        go_ret
        refine .inr (.inr (.inr ⟨HC.out, HI.out, by rw [HN.out]; omega, rfl, _, ⟨HM.out.set 0 _, ?_⟩, HS.out.set (p := ⟨b, 0, none⟩) (.inl (by simp)) _, HG.out⟩))
        rw [List.length_append, HN.out, List.flatMap_append]
        exact own_setCell (by simpa using HO.out) hon3 _
  · have HC := hide hc
    have hc' : (x.code != 0) = true := by simp [hc]
    clear hc
    go_wp2
    go_ret
    exact .inl ⟨rfl, HC.out, H1.out.1⟩



end Go.Proofs.Ytlnejlhdkmneeaa
