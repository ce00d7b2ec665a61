/- The reference's queue: next. -/
import Derived.Test.YtabdahojgmbgdaaRquA
import Derived.Test.YtabdahojgmbgdaaQueG
namespace Go.Proofs.Ytabdahojgmbgdaa
open Go.RowKit

set_option maxRecDepth 20000 in
set_option maxHeartbeats 2000000 in
theorem rnear_ok (base q : Nat) (v : Value) (Q : Qu) (w : World) (h : RuAt base w q v Q) :
    Calls Try.prog 52 #[.pointer (some ⟨q, 0, none⟩)] w fun e w' => e = .returned (I64 (ixI (Q.near Q.down))) ∧ Only [] w w' := by
  obtain ⟨hd, dn, l⟩ := Q
  obtain ⟨A, cap, hv⟩ := own_shape h.row
  subst hv
  obtain ⟨n, hn⟩ : ∃ n, n = l.length := ⟨_, rfl⟩
  dsimp only at *
  rw [← hn] at h
  have c0 := h.me.cell (i := 0) rfl
  have c1 := h.me.cell (i := 1) rfl
  have c2 := h.me.cell (i := 2) rfl
  have lq := h.me.lt
  have hn4 : n ≤ 1000 := by rw [hn]; exact h.ok.len
  have HQ := hide h
  have HN := hide hn
  have HG : Hid (Qu.near ⟨hd, dn, l⟩ dn = leastK (fun r => decide (0 ≤ dist hd dn r)) (cmpNear hd dn) l n) := hide (by rw [hn]; rfl)
  clear h hn
  cases dn with
  | true =>
    go_enter Try.func52, Try.ntmps52
    go_wp2
    go_loopw [3, 11] (fun at' i wr => ∃ (k : Nat) (a : Int), k ≤ n ∧ i = I64 (k : Nat) ∧ at' = I64 a ∧ Hid (LeastI (fun r => decide (0 ≤ dist hd true r)) (cmpNear hd true) l w a k wr)) (fun _ i _ => n - (intOf i).toNat)
    case atStart => exact ⟨0, -1, Nat.zero_le _, rfl, rfl, hide ⟨rfl, Only.refl _ _⟩⟩
    case round =>
      obtain ⟨k, a, hk, rfl, rfl, HI⟩ := hrel
      rcases Nat.lt_or_ge k n with hlt | hge
      · obtain ⟨r, hr⟩ : ∃ r, l[k]? = some r := ⟨_, List.getElem?_eq_getElem (by rw [← HN.out]; exact hlt)⟩
        have hmem := List.mem_of_getElem? hr
        obtain ⟨g, cp, hsl⟩ := own_slice HQ.out.row (by rw [← HN.out]; omega)
        obtain rfl : A = some ⟨g, 0, none⟩ := by injection hsl
        have hrow : wr.ownsRow base rrT 3 (.slice (some ⟨g, 0, none⟩) n cap) n (l.flatMap Rq.cells) := by
          have := own_nil HQ.out.row HI.out.2
          rwa [← HN.out] at this
        obtain ⟨x0, x1, x2⟩ := rrow_cells hrow rfl hr
        have HR := hide hr
        have HM := hide hmem
        have HRO := hide (HQ.out.ok.ok r hmem)
        have hk0 : ((k : Nat) : Int) < (n : Int) := by omega
        clear hr hmem hsl hrow c0 c1 c2
        go_upto_region 5 with (refine wpList_store_cells rfl rrT (.tmp 5) (.tmp 15) rfl wr.heap.size 0 rfl r.cells rfl rrT [I64 0, I64 0, I64 0] (Blk.newA rfl) (by exact Nat.le_refl _) (by kernel_rfl) (by simp [Rq.cells, Value.oneCell']) ?_; intro w2 hw2)
        simp only [Act.put]
        have hox : Only [] wr w2 := ((Only.refl [] wr).alloc _).trans' hw2.2.1 (by intro i hi hlt; simp at hi; omega)
        have hbx : Blk w2 wr.heap.size rrT r.cells := hw2.1.to (by simp [Rq.cells])
        have y0 := hbx.cell (i := 0) rfl
        have y1 := hbx.cell (i := 1) rfl
        have y2 := hbx.cell (i := 2) rfl
        have ly := hbx.lt
        have hme := (HI.out.2.trans hox).blk HQ.out.me (by simp)
        have c0 := hme.cell (i := 0) rfl
        have c1 := hme.cell (i := 1) rfl
        have c2 := hme.cell (i := 2) rfl
        have lq2 := hme.lt
        dsimp only at c0 c1 c2
        have HO2 := hide (HI.out.2.trans hox)
        have HB := hide hbx
        clear hw2 hox hbx x0 x1 x2 hme
        by_cases hah : hd < r.blk
        · have HP : Hid (decide (0 ≤ dist hd true r) = false) := hide (by simp [dist]; omega)
          refine wp_region_text0 29 [] [] [] (fun _ => True) (by kernel_rfl) (by kernel_rfl) trivial ?_
          repeat (first | ((refine wpText_h rfl rfl ?_; apply Exists.intro; refine ⟨?_, ?_⟩; next => (go_simp; (try (go_bits; go_simp)); (first | done | with_reducible rfl | (rw [if_neg (by omega)]; (try (go_bits; go_simp)); (first | done | with_reducible rfl)) | (rw [if_pos (by omega)]; (try (go_bits; go_simp)); (first | done | with_reducible rfl))))); (try simp only [Act.put, List.setIfInBounds_toArray, List.set_cons_zero, List.set_cons_succ])) | ((refine wpText_p rfl rfl ?_; apply Exists.intro; refine ⟨?_, ?_⟩; next => (intro w'; go_simp; (try (go_bits; go_simp)); (first | done | with_reducible rfl | (rw [if_neg (by omega)]; (try (go_bits; go_simp)); (first | done | with_reducible rfl)) | (rw [if_pos (by omega)]; (try (go_bits; go_simp)); (first | done | with_reducible rfl))))); (try simp only [Act.put, List.setIfInBounds_toArray, List.set_cons_zero, List.set_cons_succ])) | ((refine wpText_y rfl rfl ?_; apply Exists.intro; refine ⟨?_, ?_⟩; next => (intro w' hS; (first | obtain ⟨_, rfl⟩ := hS | skip); go_simp; (try (go_bits; go_simp)); (first | done | with_reducible rfl | (rw [if_neg (by omega)]; (try (go_bits; go_simp)); (first | done | with_reducible rfl)) | (rw [if_pos (by omega)]; (try (go_bits; go_simp)); (first | done | with_reducible rfl))))); (try simp only [Act.put, List.setIfInBounds_toArray, List.set_cons_zero, List.set_cons_succ])) | (refine wpText_skip (by first | exact .inl rfl | exact .inr (.inl rfl) | exact .inr (.inr rfl)) rfl ?_; (try simp only [Act.put, List.setIfInBounds_toArray, List.set_cons_zero, List.set_cons_succ])))
          refine wpText_nil ?_
          have hR : Hid (leastK (fun r => decide (0 ≤ dist hd true r)) (cmpNear hd true) l (k + 1) = leastK (fun r => decide (0 ≤ dist hd true r)) (cmpNear hd true) l k) := hide (by
            conv => lhs; unfold leastK
            rw [HR.out]
            simp only
            rw [if_neg (by rw [HP.out]; decide)])
          go_wp2
          go_roundw
          case rel => exact ⟨k + 1, a, by omega, by go_num, rfl, hide ⟨by rw [hR.out]; exact HI.out.1, HO2.out.drew⟩⟩
          case measure => simp [intOf]; omega
        · have HP : Hid (decide (0 ≤ dist hd true r) = true) := hide (by simp [dist]; omega)
          refine wp_region_text0 29 [] [] [] (fun _ => True) (by kernel_rfl) (by kernel_rfl) trivial ?_
          repeat (first | ((refine wpText_h rfl rfl ?_; apply Exists.intro; refine ⟨?_, ?_⟩; next => (go_simp; (try (go_bits; go_simp)); (first | done | with_reducible rfl | (rw [if_neg (by omega)]; (try (go_bits; go_simp)); (first | done | with_reducible rfl)) | (rw [if_pos (by omega)]; (try (go_bits; go_simp)); (first | done | with_reducible rfl))))); (try simp only [Act.put, List.setIfInBounds_toArray, List.set_cons_zero, List.set_cons_succ])) | ((refine wpText_p rfl rfl ?_; apply Exists.intro; refine ⟨?_, ?_⟩; next => (intro w'; go_simp; (try (go_bits; go_simp)); (first | done | with_reducible rfl | (rw [if_neg (by omega)]; (try (go_bits; go_simp)); (first | done | with_reducible rfl)) | (rw [if_pos (by omega)]; (try (go_bits; go_simp)); (first | done | with_reducible rfl))))); (try simp only [Act.put, List.setIfInBounds_toArray, List.set_cons_zero, List.set_cons_succ])) | ((refine wpText_y rfl rfl ?_; apply Exists.intro; refine ⟨?_, ?_⟩; next => (intro w' hS; (first | obtain ⟨_, rfl⟩ := hS | skip); go_simp; (try (go_bits; go_simp)); (first | done | with_reducible rfl | (rw [if_neg (by omega)]; (try (go_bits; go_simp)); (first | done | with_reducible rfl)) | (rw [if_pos (by omega)]; (try (go_bits; go_simp)); (first | done | with_reducible rfl))))); (try simp only [Act.put, List.setIfInBounds_toArray, List.set_cons_zero, List.set_cons_succ])) | (refine wpText_skip (by first | exact .inl rfl | exact .inr (.inl rfl) | exact .inr (.inr rfl)) rfl ?_; (try simp only [Act.put, List.setIfInBounds_toArray, List.set_cons_zero, List.set_cons_succ])))
          refine wpText_nil ?_
          go_wp2
          cases hlk : leastK (fun r => decide (0 ≤ dist hd true r)) (cmpNear hd true) l k with
          | none =>
            have hR : Hid (leastK (fun r => decide (0 ≤ dist hd true r)) (cmpNear hd true) l (k + 1) = some k) := hide (by
              unfold leastK
              rw [HR.out]
              simp only
              rw [if_pos HP.out, hlk])
            obtain rfl : a = -1 := by have := HI.out.1; rw [hlk] at this; exact this
            clear hlk
            refine wp_region_text 12 [] [] [] (fun _ => True) (by kernel_rfl) (by kernel_rfl) trivial ?_
            simp only [List.take_succ_cons, List.take_zero, List.drop_succ_cons, List.drop_zero]
            repeat (first | ((refine wpText_h rfl rfl ?_; apply Exists.intro; refine ⟨?_, ?_⟩; next => (go_simp; (try (go_bits; go_simp)); (first | done | with_reducible rfl | (rw [if_neg (by omega)]; (try (go_bits; go_simp)); (first | done | with_reducible rfl)) | (rw [if_pos (by omega)]; (try (go_bits; go_simp)); (first | done | with_reducible rfl))))); (try simp only [Act.put, List.setIfInBounds_toArray, List.set_cons_zero, List.set_cons_succ])) | ((refine wpText_p rfl rfl ?_; apply Exists.intro; refine ⟨?_, ?_⟩; next => (intro w'; go_simp; (try (go_bits; go_simp)); (first | done | with_reducible rfl | (rw [if_neg (by omega)]; (try (go_bits; go_simp)); (first | done | with_reducible rfl)) | (rw [if_pos (by omega)]; (try (go_bits; go_simp)); (first | done | with_reducible rfl))))); (try simp only [Act.put, List.setIfInBounds_toArray, List.set_cons_zero, List.set_cons_succ])) | ((refine wpText_y rfl rfl ?_; apply Exists.intro; refine ⟨?_, ?_⟩; next => (intro w' hS; (first | obtain ⟨_, rfl⟩ := hS | skip); go_simp; (try (go_bits; go_simp)); (first | done | with_reducible rfl | (rw [if_neg (by omega)]; (try (go_bits; go_simp)); (first | done | with_reducible rfl)) | (rw [if_pos (by omega)]; (try (go_bits; go_simp)); (first | done | with_reducible rfl))))); (try simp only [Act.put, List.setIfInBounds_toArray, List.set_cons_zero, List.set_cons_succ])) | (refine wpText_skip (by first | exact .inl rfl | exact .inr (.inl rfl) | exact .inr (.inr rfl)) rfl ?_; (try simp only [Act.put, List.setIfInBounds_toArray, List.set_cons_zero, List.set_cons_succ])))
            refine wpText_nil ?_
            go_wp2
            refine NoX.normal ?_
            go_wp2
            go_roundw
            case rel => exact ⟨k + 1, (k : Int), by omega, by go_num, rfl, hide ⟨by rw [hR.out]; rfl, HO2.out.drew.drew⟩⟩
            case measure => simp [intOf]; omega
          | some i =>
            have hik : i < k := leastK_lt k i (by rw [← HN.out]; exact hk) hlk
            obtain ⟨x, hx⟩ : ∃ x, l[i]? = some x := ⟨_, List.getElem?_eq_getElem (by rw [← HN.out]; omega)⟩
            obtain rfl : a = (i : Nat) := by have := HI.out.1; rw [hlk] at this; exact this
            have hR : Hid (leastK (fun r => decide (0 ≤ dist hd true r)) (cmpNear hd true) l (k + 1) = if (cmpNear hd true) r x < 0 then some k else some i) := hide (by
              unfold leastK
              rw [HR.out]
              simp only
              rw [if_pos HP.out, hlk]
              simp only
              rw [hx])
            have hrow : w2.ownsRow base rrT 3 (.slice (some ⟨g, 0, none⟩) n cap) n (l.flatMap Rq.cells) := by
              have := own_nil HQ.out.row HO2.out
              rwa [← HN.out] at this
            obtain ⟨x0, x1, x2⟩ := rrow_cells hrow rfl hx
            have hi0 : ((i : Nat) : Int) < (n : Int) := by omega
            have hi1 : ¬ ((i : Nat) : Int) < 0 := by omega
            have hbe := fun W (hW : Only [] w W) => better_ok q hd true _ r x W (hW.blk HQ.out.me (by simp)) HQ.out.ok.h0 HQ.out.ok.h1 HRO.out (HQ.out.ok.ok x (List.mem_of_getElem? hx))
            have HBE := hide hbe
            clear hlk hx hrow hbe
            cases hbt : bt hd true r x with
            | true =>
              have HBT := hide hbt
              clear hbt
              refine wp_region_text 12 [] [] [] (fun _ => True) (by kernel_rfl) (by kernel_rfl) trivial ?_
              simp only [List.take_succ_cons, List.take_zero, List.drop_succ_cons, List.drop_zero]
              repeat (first | ((refine wpText_h rfl rfl ?_; apply Exists.intro; refine ⟨?_, ?_⟩; next => (go_simp; (try (go_bits; go_simp)); (first | done | with_reducible rfl | (rw [if_neg (by omega)]; (try (go_bits; go_simp)); (first | done | with_reducible rfl)) | (rw [if_pos (by omega)]; (try (go_bits; go_simp)); (first | done | with_reducible rfl))))); (try simp only [Act.put, List.setIfInBounds_toArray, List.set_cons_zero, List.set_cons_succ])) | ((refine wpText_p rfl rfl ?_; apply Exists.intro; refine ⟨?_, ?_⟩; next => (intro w'; go_simp; (try (go_bits; go_simp)); (first | done | with_reducible rfl | (rw [if_neg (by omega)]; (try (go_bits; go_simp)); (first | done | with_reducible rfl)) | (rw [if_pos (by omega)]; (try (go_bits; go_simp)); (first | done | with_reducible rfl))))); (try simp only [Act.put, List.setIfInBounds_toArray, List.set_cons_zero, List.set_cons_succ])) | ((refine wpText_y rfl rfl ?_; apply Exists.intro; refine ⟨?_, ?_⟩; next => (intro w' hS; (first | obtain ⟨_, rfl⟩ := hS | skip); go_simp; (try (go_bits; go_simp)); (first | done | with_reducible rfl | (rw [if_neg (by omega)]; (try (go_bits; go_simp)); (first | done | with_reducible rfl)) | (rw [if_pos (by omega)]; (try (go_bits; go_simp)); (first | done | with_reducible rfl))))); (try simp only [Act.put, List.setIfInBounds_toArray, List.set_cons_zero, List.set_cons_succ])) | (refine wpText_skip (by first | exact .inl rfl | exact .inr (.inl rfl) | exact .inr (.inr rfl)) rfl ?_; (try simp only [Act.put, List.setIfInBounds_toArray, List.set_cons_zero, List.set_cons_succ])))
              refine wpText_nil ?_
              go_wp2_with (go_at_call 91; refine (HBE.out _ (by exact HO2.out.drew.drew)).mono ?_; rw [HBT.out]; rintro e w3 ⟨rfl, ho3⟩; have HO3 := hide (HO2.out.drew.drew.trans ho3); clear ho3)
              refine NoX.normal ?_
              go_wp2
              go_roundw
              case rel => exact ⟨k + 1, (k : Int), by omega, by go_num, rfl, hide ⟨by rw [hR.out, if_pos (by have := HBT.out; unfold bt at this; simpa using this)]; rfl, HO3.out⟩⟩
              case measure => simp [intOf]; omega
            | false =>
              have HBT := hide hbt
              clear hbt
              refine wp_region_text 12 [] [] [] (fun _ => True) (by kernel_rfl) (by kernel_rfl) trivial ?_
              simp only [List.take_succ_cons, List.take_zero, List.drop_succ_cons, List.drop_zero]
              repeat (first | ((refine wpText_h rfl rfl ?_; apply Exists.intro; refine ⟨?_, ?_⟩; next => (go_simp; (try (go_bits; go_simp)); (first | done | with_reducible rfl | (rw [if_neg (by omega)]; (try (go_bits; go_simp)); (first | done | with_reducible rfl)) | (rw [if_pos (by omega)]; (try (go_bits; go_simp)); (first | done | with_reducible rfl))))); (try simp only [Act.put, List.setIfInBounds_toArray, List.set_cons_zero, List.set_cons_succ])) | ((refine wpText_p rfl rfl ?_; apply Exists.intro; refine ⟨?_, ?_⟩; next => (intro w'; go_simp; (try (go_bits; go_simp)); (first | done | with_reducible rfl | (rw [if_neg (by omega)]; (try (go_bits; go_simp)); (first | done | with_reducible rfl)) | (rw [if_pos (by omega)]; (try (go_bits; go_simp)); (first | done | with_reducible rfl))))); (try simp only [Act.put, List.setIfInBounds_toArray, List.set_cons_zero, List.set_cons_succ])) | ((refine wpText_y rfl rfl ?_; apply Exists.intro; refine ⟨?_, ?_⟩; next => (intro w' hS; (first | obtain ⟨_, rfl⟩ := hS | skip); go_simp; (try (go_bits; go_simp)); (first | done | with_reducible rfl | (rw [if_neg (by omega)]; (try (go_bits; go_simp)); (first | done | with_reducible rfl)) | (rw [if_pos (by omega)]; (try (go_bits; go_simp)); (first | done | with_reducible rfl))))); (try simp only [Act.put, List.setIfInBounds_toArray, List.set_cons_zero, List.set_cons_succ])) | (refine wpText_skip (by first | exact .inl rfl | exact .inr (.inl rfl) | exact .inr (.inr rfl)) rfl ?_; (try simp only [Act.put, List.setIfInBounds_toArray, List.set_cons_zero, List.set_cons_succ])))
              refine wpText_nil ?_
              go_wp2_with (go_at_call 91; refine (HBE.out _ (by exact HO2.out.drew.drew)).mono ?_; rw [HBT.out]; rintro e w3 ⟨rfl, ho3⟩; have HO3 := hide (HO2.out.drew.drew.trans ho3); clear ho3)
              refine NoX.normal ?_
              go_wp2
              go_roundw
              case rel => exact ⟨k + 1, (i : Int), by omega, by go_num, rfl, hide ⟨by rw [hR.out, if_neg (by have := HBT.out; unfold bt at this; simpa using this)]; rfl, HO3.out⟩⟩
              case measure => simp [intOf]; omega
      · obtain rfl : k = n := by omega
        go_wp2
        go_ret
        exact ⟨by rw [HG.out, HI.out.1]; rfl, HI.out.2⟩
  | false =>
    go_enter Try.func52, Try.ntmps52
    go_wp2
    go_loopw [3, 11] (fun at' i wr => ∃ (k : Nat) (a : Int), k ≤ n ∧ i = I64 (k : Nat) ∧ at' = I64 a ∧ Hid (LeastI (fun r => decide (0 ≤ dist hd false r)) (cmpNear hd false) l w a k wr)) (fun _ i _ => n - (intOf i).toNat)
    case atStart => exact ⟨0, -1, Nat.zero_le _, rfl, rfl, hide ⟨rfl, Only.refl _ _⟩⟩
    case round =>
      obtain ⟨k, a, hk, rfl, rfl, HI⟩ := hrel
      rcases Nat.lt_or_ge k n with hlt | hge
      · obtain ⟨r, hr⟩ : ∃ r, l[k]? = some r := ⟨_, List.getElem?_eq_getElem (by rw [← HN.out]; exact hlt)⟩
        have hmem := List.mem_of_getElem? hr
        obtain ⟨g, cp, hsl⟩ := own_slice HQ.out.row (by rw [← HN.out]; omega)
        obtain rfl : A = some ⟨g, 0, none⟩ := by injection hsl
        have hrow : wr.ownsRow base rrT 3 (.slice (some ⟨g, 0, none⟩) n cap) n (l.flatMap Rq.cells) := by
          have := own_nil HQ.out.row HI.out.2
          rwa [← HN.out] at this
        obtain ⟨x0, x1, x2⟩ := rrow_cells hrow rfl hr
        have HR := hide hr
        have HM := hide hmem
        have HRO := hide (HQ.out.ok.ok r hmem)
        have hk0 : ((k : Nat) : Int) < (n : Int) := by omega
        clear hr hmem hsl hrow c0 c1 c2
        go_upto_region 5 with (refine wpList_store_cells rfl rrT (.tmp 5) (.tmp 15) rfl wr.heap.size 0 rfl r.cells rfl rrT [I64 0, I64 0, I64 0] (Blk.newA rfl) (by exact Nat.le_refl _) (by kernel_rfl) (by simp [Rq.cells, Value.oneCell']) ?_; intro w2 hw2)
        simp only [Act.put]
        have hox : Only [] wr w2 := ((Only.refl [] wr).alloc _).trans' hw2.2.1 (by intro i hi hlt; simp at hi; omega)
        have hbx : Blk w2 wr.heap.size rrT r.cells := hw2.1.to (by simp [Rq.cells])
        have y0 := hbx.cell (i := 0) rfl
        have y1 := hbx.cell (i := 1) rfl
        have y2 := hbx.cell (i := 2) rfl
        have ly := hbx.lt
        have hme := (HI.out.2.trans hox).blk HQ.out.me (by simp)
        have c0 := hme.cell (i := 0) rfl
        have c1 := hme.cell (i := 1) rfl
        have c2 := hme.cell (i := 2) rfl
        have lq2 := hme.lt
        dsimp only at c0 c1 c2
        have HO2 := hide (HI.out.2.trans hox)
        have HB := hide hbx
        clear hw2 hox hbx x0 x1 x2 hme
        by_cases hah : r.blk < hd
        · have HP : Hid (decide (0 ≤ dist hd false r) = false) := hide (by simp [dist]; omega)
          refine wp_region_text0 29 [] [] [] (fun _ => True) (by kernel_rfl) (by kernel_rfl) trivial ?_
          repeat (first | ((refine wpText_h rfl rfl ?_; apply Exists.intro; refine ⟨?_, ?_⟩; next => (go_simp; (try (go_bits; go_simp)); (first | done | with_reducible rfl | (rw [if_neg (by omega)]; (try (go_bits; go_simp)); (first | done | with_reducible rfl)) | (rw [if_pos (by omega)]; (try (go_bits; go_simp)); (first | done | with_reducible rfl))))); (try simp only [Act.put, List.setIfInBounds_toArray, List.set_cons_zero, List.set_cons_succ])) | ((refine wpText_p rfl rfl ?_; apply Exists.intro; refine ⟨?_, ?_⟩; next => (intro w'; go_simp; (try (go_bits; go_simp)); (first | done | with_reducible rfl | (rw [if_neg (by omega)]; (try (go_bits; go_simp)); (first | done | with_reducible rfl)) | (rw [if_pos (by omega)]; (try (go_bits; go_simp)); (first | done | with_reducible rfl))))); (try simp only [Act.put, List.setIfInBounds_toArray, List.set_cons_zero, List.set_cons_succ])) | ((refine wpText_y rfl rfl ?_; apply Exists.intro; refine ⟨?_, ?_⟩; next => (intro w' hS; (first | obtain ⟨_, rfl⟩ := hS | skip); go_simp; (try (go_bits; go_simp)); (first | done | with_reducible rfl | (rw [if_neg (by omega)]; (try (go_bits; go_simp)); (first | done | with_reducible rfl)) | (rw [if_pos (by omega)]; (try (go_bits; go_simp)); (first | done | with_reducible rfl))))); (try simp only [Act.put, List.setIfInBounds_toArray, List.set_cons_zero, List.set_cons_succ])) | (refine wpText_skip (by first | exact .inl rfl | exact .inr (.inl rfl) | exact .inr (.inr rfl)) rfl ?_; (try simp only [Act.put, List.setIfInBounds_toArray, List.set_cons_zero, List.set_cons_succ])))
          refine wpText_nil ?_
          have hR : Hid (leastK (fun r => decide (0 ≤ dist hd false r)) (cmpNear hd false) l (k + 1) = leastK (fun r => decide (0 ≤ dist hd false r)) (cmpNear hd false) l k) := hide (by
            conv => lhs; unfold leastK
            rw [HR.out]
            simp only
            rw [if_neg (by rw [HP.out]; decide)])
          go_wp2
          go_roundw
          case rel => exact ⟨k + 1, a, by omega, by go_num, rfl, hide ⟨by rw [hR.out]; exact HI.out.1, HO2.out.drew⟩⟩
          case measure => simp [intOf]; omega
        · have HP : Hid (decide (0 ≤ dist hd false r) = true) := hide (by simp [dist]; omega)
          refine wp_region_text0 29 [] [] [] (fun _ => True) (by kernel_rfl) (by kernel_rfl) trivial ?_
          repeat (first | ((refine wpText_h rfl rfl ?_; apply Exists.intro; refine ⟨?_, ?_⟩; next => (go_simp; (try (go_bits; go_simp)); (first | done | with_reducible rfl | (rw [if_neg (by omega)]; (try (go_bits; go_simp)); (first | done | with_reducible rfl)) | (rw [if_pos (by omega)]; (try (go_bits; go_simp)); (first | done | with_reducible rfl))))); (try simp only [Act.put, List.setIfInBounds_toArray, List.set_cons_zero, List.set_cons_succ])) | ((refine wpText_p rfl rfl ?_; apply Exists.intro; refine ⟨?_, ?_⟩; next => (intro w'; go_simp; (try (go_bits; go_simp)); (first | done | with_reducible rfl | (rw [if_neg (by omega)]; (try (go_bits; go_simp)); (first | done | with_reducible rfl)) | (rw [if_pos (by omega)]; (try (go_bits; go_simp)); (first | done | with_reducible rfl))))); (try simp only [Act.put, List.setIfInBounds_toArray, List.set_cons_zero, List.set_cons_succ])) | ((refine wpText_y rfl rfl ?_; apply Exists.intro; refine ⟨?_, ?_⟩; next => (intro w' hS; (first | obtain ⟨_, rfl⟩ := hS | skip); go_simp; (try (go_bits; go_simp)); (first | done | with_reducible rfl | (rw [if_neg (by omega)]; (try (go_bits; go_simp)); (first | done | with_reducible rfl)) | (rw [if_pos (by omega)]; (try (go_bits; go_simp)); (first | done | with_reducible rfl))))); (try simp only [Act.put, List.setIfInBounds_toArray, List.set_cons_zero, List.set_cons_succ])) | (refine wpText_skip (by first | exact .inl rfl | exact .inr (.inl rfl) | exact .inr (.inr rfl)) rfl ?_; (try simp only [Act.put, List.setIfInBounds_toArray, List.set_cons_zero, List.set_cons_succ])))
          refine wpText_nil ?_
          go_wp2
          cases hlk : leastK (fun r => decide (0 ≤ dist hd false r)) (cmpNear hd false) l k with
          | none =>
            have hR : Hid (leastK (fun r => decide (0 ≤ dist hd false r)) (cmpNear hd false) l (k + 1) = some k) := hide (by
              unfold leastK
              rw [HR.out]
              simp only
              rw [if_pos HP.out, hlk])
            obtain rfl : a = -1 := by have := HI.out.1; rw [hlk] at this; exact this
            clear hlk
            refine wp_region_text 12 [] [] [] (fun _ => True) (by kernel_rfl) (by kernel_rfl) trivial ?_
            simp only [List.take_succ_cons, List.take_zero, List.drop_succ_cons, List.drop_zero]
            repeat (first | ((refine wpText_h rfl rfl ?_; apply Exists.intro; refine ⟨?_, ?_⟩; next => (go_simp; (try (go_bits; go_simp)); (first | done | with_reducible rfl | (rw [if_neg (by omega)]; (try (go_bits; go_simp)); (first | done | with_reducible rfl)) | (rw [if_pos (by omega)]; (try (go_bits; go_simp)); (first | done | with_reducible rfl))))); (try simp only [Act.put, List.setIfInBounds_toArray, List.set_cons_zero, List.set_cons_succ])) | ((refine wpText_p rfl rfl ?_; apply Exists.intro; refine ⟨?_, ?_⟩; next => (intro w'; go_simp; (try (go_bits; go_simp)); (first | done | with_reducible rfl | (rw [if_neg (by omega)]; (try (go_bits; go_simp)); (first | done | with_reducible rfl)) | (rw [if_pos (by omega)]; (try (go_bits; go_simp)); (first | done | with_reducible rfl))))); (try simp only [Act.put, List.setIfInBounds_toArray, List.set_cons_zero, List.set_cons_succ])) | ((refine wpText_y rfl rfl ?_; apply Exists.intro; refine ⟨?_, ?_⟩; next => (intro w' hS; (first | obtain ⟨_, rfl⟩ := hS | skip); go_simp; (try (go_bits; go_simp)); (first | done | with_reducible rfl | (rw [if_neg (by omega)]; (try (go_bits; go_simp)); (first | done | with_reducible rfl)) | (rw [if_pos (by omega)]; (try (go_bits; go_simp)); (first | done | with_reducible rfl))))); (try simp only [Act.put, List.setIfInBounds_toArray, List.set_cons_zero, List.set_cons_succ])) | (refine wpText_skip (by first | exact .inl rfl | exact .inr (.inl rfl) | exact .inr (.inr rfl)) rfl ?_; (try simp only [Act.put, List.setIfInBounds_toArray, List.set_cons_zero, List.set_cons_succ])))
            refine wpText_nil ?_
            go_wp2
            refine NoX.normal ?_
            go_wp2
            go_roundw
            case rel => exact ⟨k + 1, (k : Int), by omega, by go_num, rfl, hide ⟨by rw [hR.out]; rfl, HO2.out.drew.drew⟩⟩
            case measure => simp [intOf]; omega
          | some i =>
            have hik : i < k := leastK_lt k i (by rw [← HN.out]; exact hk) hlk
            obtain ⟨x, hx⟩ : ∃ x, l[i]? = some x := ⟨_, List.getElem?_eq_getElem (by rw [← HN.out]; omega)⟩
            obtain rfl : a = (i : Nat) := by have := HI.out.1; rw [hlk] at this; exact this
            have hR : Hid (leastK (fun r => decide (0 ≤ dist hd false r)) (cmpNear hd false) l (k + 1) = if (cmpNear hd false) r x < 0 then some k else some i) := hide (by
              unfold leastK
              rw [HR.out]
              simp only
              rw [if_pos HP.out, hlk]
              simp only
              rw [hx])
            have hrow : w2.ownsRow base rrT 3 (.slice (some ⟨g, 0, none⟩) n cap) n (l.flatMap Rq.cells) := by
              have := own_nil HQ.out.row HO2.out
              rwa [← HN.out] at this
            obtain ⟨x0, x1, x2⟩ := rrow_cells hrow rfl hx
            have hi0 : ((i : Nat) : Int) < (n : Int) := by omega
            have hi1 : ¬ ((i : Nat) : Int) < 0 := by omega
            have hbe := fun W (hW : Only [] w W) => better_ok q hd false _ r x W (hW.blk HQ.out.me (by simp)) HQ.out.ok.h0 HQ.out.ok.h1 HRO.out (HQ.out.ok.ok x (List.mem_of_getElem? hx))
            have HBE := hide hbe
            clear hlk hx hrow hbe
            cases hbt : bt hd false r x with
            | true =>
              have HBT := hide hbt
              clear hbt
              refine wp_region_text 12 [] [] [] (fun _ => True) (by kernel_rfl) (by kernel_rfl) trivial ?_
              simp only [List.take_succ_cons, List.take_zero, List.drop_succ_cons, List.drop_zero]
              repeat (first | ((refine wpText_h rfl rfl ?_; apply Exists.intro; refine ⟨?_, ?_⟩; next => (go_simp; (try (go_bits; go_simp)); (first | done | with_reducible rfl | (rw [if_neg (by omega)]; (try (go_bits; go_simp)); (first | done | with_reducible rfl)) | (rw [if_pos (by omega)]; (try (go_bits; go_simp)); (first | done | with_reducible rfl))))); (try simp only [Act.put, List.setIfInBounds_toArray, List.set_cons_zero, List.set_cons_succ])) | ((refine wpText_p rfl rfl ?_; apply Exists.intro; refine ⟨?_, ?_⟩; next => (intro w'; go_simp; (try (go_bits; go_simp)); (first | done | with_reducible rfl | (rw [if_neg (by omega)]; (try (go_bits; go_simp)); (first | done | with_reducible rfl)) | (rw [if_pos (by omega)]; (try (go_bits; go_simp)); (first | done | with_reducible rfl))))); (try simp only [Act.put, List.setIfInBounds_toArray, List.set_cons_zero, List.set_cons_succ])) | ((refine wpText_y rfl rfl ?_; apply Exists.intro; refine ⟨?_, ?_⟩; next => (intro w' hS; (first | obtain ⟨_, rfl⟩ := hS | skip); go_simp; (try (go_bits; go_simp)); (first | done | with_reducible rfl | (rw [if_neg (by omega)]; (try (go_bits; go_simp)); (first | done | with_reducible rfl)) | (rw [if_pos (by omega)]; (try (go_bits; go_simp)); (first | done | with_reducible rfl))))); (try simp only [Act.put, List.setIfInBounds_toArray, List.set_cons_zero, List.set_cons_succ])) | (refine wpText_skip (by first | exact .inl rfl | exact .inr (.inl rfl) | exact .inr (.inr rfl)) rfl ?_; (try simp only [Act.put, List.setIfInBounds_toArray, List.set_cons_zero, List.set_cons_succ])))
              refine wpText_nil ?_
              go_wp2_with (go_at_call 91; refine (HBE.out _ (by exact HO2.out.drew.drew)).mono ?_; rw [HBT.out]; rintro e w3 ⟨rfl, ho3⟩; have HO3 := hide (HO2.out.drew.drew.trans ho3); clear ho3)
              refine NoX.normal ?_
              go_wp2
              go_roundw
              case rel => exact ⟨k + 1, (k : Int), by omega, by go_num, rfl, hide ⟨by rw [hR.out, if_pos (by have := HBT.out; unfold bt at this; simpa using this)]; rfl, HO3.out⟩⟩
              case measure => simp [intOf]; omega
            | false =>
              have HBT := hide hbt
              clear hbt
              refine wp_region_text 12 [] [] [] (fun _ => True) (by kernel_rfl) (by kernel_rfl) trivial ?_
              simp only [List.take_succ_cons, List.take_zero, List.drop_succ_cons, List.drop_zero]
              repeat (first | ((refine wpText_h rfl rfl ?_; apply Exists.intro; refine ⟨?_, ?_⟩; next => (go_simp; (try (go_bits; go_simp)); (first | done | with_reducible rfl | (rw [if_neg (by omega)]; (try (go_bits; go_simp)); (first | done | with_reducible rfl)) | (rw [if_pos (by omega)]; (try (go_bits; go_simp)); (first | done | with_reducible rfl))))); (try simp only [Act.put, List.setIfInBounds_toArray, List.set_cons_zero, List.set_cons_succ])) | ((refine wpText_p rfl rfl ?_; apply Exists.intro; refine ⟨?_, ?_⟩; next => (intro w'; go_simp; (try (go_bits; go_simp)); (first | done | with_reducible rfl | (rw [if_neg (by omega)]; (try (go_bits; go_simp)); (first | done | with_reducible rfl)) | (rw [if_pos (by omega)]; (try (go_bits; go_simp)); (first | done | with_reducible rfl))))); (try simp only [Act.put, List.setIfInBounds_toArray, List.set_cons_zero, List.set_cons_succ])) | ((refine wpText_y rfl rfl ?_; apply Exists.intro; refine ⟨?_, ?_⟩; next => (intro w' hS; (first | obtain ⟨_, rfl⟩ := hS | skip); go_simp; (try (go_bits; go_simp)); (first | done | with_reducible rfl | (rw [if_neg (by omega)]; (try (go_bits; go_simp)); (first | done | with_reducible rfl)) | (rw [if_pos (by omega)]; (try (go_bits; go_simp)); (first | done | with_reducible rfl))))); (try simp only [Act.put, List.setIfInBounds_toArray, List.set_cons_zero, List.set_cons_succ])) | (refine wpText_skip (by first | exact .inl rfl | exact .inr (.inl rfl) | exact .inr (.inr rfl)) rfl ?_; (try simp only [Act.put, List.setIfInBounds_toArray, List.set_cons_zero, List.set_cons_succ])))
              refine wpText_nil ?_
              go_wp2_with (go_at_call 91; refine (HBE.out _ (by exact HO2.out.drew.drew)).mono ?_; rw [HBT.out]; rintro e w3 ⟨rfl, ho3⟩; have HO3 := hide (HO2.out.drew.drew.trans ho3); clear ho3)
              refine NoX.normal ?_
              go_wp2
              go_roundw
              case rel => exact ⟨k + 1, (i : Int), by omega, by go_num, rfl, hide ⟨by rw [hR.out, if_neg (by have := HBT.out; unfold bt at this; simpa using this)]; rfl, HO3.out⟩⟩
              case measure => simp [intOf]; omega
      · obtain rfl : k = n := by omega
        go_wp2
        go_ret
        exact ⟨by rw [HG.out, HI.out.1]; rfl, HI.out.2⟩

end Go.Proofs.Ytabdahojgmbgdaa
