/- DiskQueues walked: the loop. -/
import Derived.Test.YtabdahojgmbgdaaLawQueues
namespace Go.Proofs.Ytabdahojgmbgdaa
open Go.RowKit

set_option maxRecDepth 20000 in
set_option maxHeartbeats 2000000 in
theorem queues_ok (head : Int) (A : Option Addr) (l : List Rc) (n c : Nat) (w : World) (h : n ≤ 100) (hn : l.length = n) (hb0 : 0 ≤ head) (hb1 : head < 4096) (hA : RcsIn w A l) :
    Calls Try.prog 5 #[I64 head, .slice A n c] w fun e w' => e = .returned (.bool true) ∧ Only [] w w' := by
  have haw := hide (fun W => awake_ok W)
  have h40 : ¬ (100 : Int) < (n : Int) := by omega
  have hx := hide (newq_ok w.heap.size w head hb0 hb1)
  have hy := hide (fun W => rnewq_ok w.heap.size W head hb0 hb1)
  have HA := hide hA
  have HN := hide hn
  clear h hb0 hb1 hA hn
  go_enter Try.func5, Try.ntmps5
  go_wp2_with (first
    | (go_at_call 10
       refine hx.out.mono ?_
       rintro e w1 ⟨rfl, hq, ho⟩
       have H1 := hide (And.intro hq ho)
       clear hq ho hx)
    | (go_at_call 22
       refine (hy.out _).mono ?_
       rintro e w2 ⟨rfl, hq2, ho2⟩
       have H2 := hide (And.intro hq2 ho2)
       clear hq2 ho2 hy))
  obtain ⟨p, hp⟩ : ∃ p, p = w.heap.size := ⟨_, rfl⟩
  obtain ⟨q, hq⟩ : ∃ q, q = w1.heap.size := ⟨_, rfl⟩
  have HS : Hid (StI w p q w2) := hide ⟨_, _, _, by
    rw [hp, hq]
    exact ⟨H1.out.1.keep H2.out.2, H2.out.1, Nat.le_refl _, H1.out.2.size, H1.out.2.trans H2.out.2⟩⟩
  rw [← hp, ← hq]
  clear H1 H2 hp hq
  go_loopw [48] (fun i wr => ∃ k : Nat, k ≤ n ∧ i = I64 (k : Nat) ∧ Hid (StI w p q wr)) (fun i _ => n - (intOf i).toNat)
  case atStart => exact ⟨0, Nat.zero_le _, rfl, HS⟩
  case round =>
    obtain ⟨k, hk, rfl, HI⟩ := hrel
    clear HS
    rcases Nat.lt_or_ge k n with hlt | hge
    · obtain ⟨x, hx⟩ : ∃ x, l[k]? = some x := ⟨_, List.getElem?_eq_getElem (by rw [HN.out]; exact hlt)⟩
      obtain ⟨vx, vy, Q, hB⟩ := HI.out
      obtain ⟨g, o, rfl, hc⟩ := HA.out.only hB.o k x hx
      have x0 : wr.cell? ⟨g, o + k * 4, none⟩ = some (.bool x.nx) := hc 0 _ rfl
      have x1 : wr.cell? ⟨g, o + k * 4 + 1, none⟩ = some (I64 x.r.id) := hc 1 _ rfl
      have x2 : wr.cell? ⟨g, o + k * 4 + 2, none⟩ = some (I64 x.r.blk) := hc 2 _ rfl
      have x3 : wr.cell? ⟨g, o + k * 4 + 3, none⟩ = some (I64 x.r.dl) := hc 3 _ rfl
      have hk0 : ((k : Nat) : Int) < (n : Int) := by omega
      have HB := hide hB
      clear hc hx hB
      go_upto_region 10 with (refine wpList_store_cells rfl rcT (.tmp 10) (.tmp 51) rfl wr.heap.size 0 rfl x.cells rfl rcT [.bool false, I64 0, I64 0, I64 0] (Blk.newA rfl) (by exact Nat.le_refl _) (by kernel_rfl) (by simp [Rc.cells, Value.oneCell']) ?_; intro w2 hw2)
      simp only [Act.put]
      have hox : Only [] wr w2 := ((Only.refl [] wr).alloc _).trans' hw2.2.1 (by intro i hi hlt; simp at hi; omega)
      have hbx : Blk w2 wr.heap.size rcT x.cells := hw2.1.to (by simp [Rc.cells])
      have y0 := hbx.cell (i := 0) rfl
      have y1 := hbx.cell (i := 1) rfl
      have y2 := hbx.cell (i := 2) rfl
      have y3 := hbx.cell (i := 3) rfl
      have ly := hbx.lt
      have HBX := hide hbx
      have HB2 := hide (HB.out.only hox)
      clear hw2 hox x0 x1 x2 x3 hbx HI
      obtain ⟨xn, r⟩ := x
      dsimp only at *
      cases xn with
      | true =>
        obtain ⟨rr, hrr⟩ : ∃ rr, rr = (Q.next r.dl).2.1 := ⟨_, rfl⟩
        obtain ⟨bb, hbb⟩ : ∃ bb, bb = (Q.next r.dl).2.2 := ⟨_, rfl⟩
        have hnx := HB2.out.next r.dl
        rw [← hrr, ← hbb] at hnx
        have HNX := hide hnx
        have hne := neq_rq rr
        have hbn : (bb != bb) = false := by simp
        clear hnx hrr hbb
        go_upto_region 14 with (first
          | (go_at_call 12
             refine HNX.out.mono ?_
             clear HNX
             rintro e w3 ⟨rfl, ho3, hn3⟩
             have HN3 := hide hn3
             have HX3 := hide (ho3.blk HBX.out (own_far HB2.out.x.row HB2.out.x.me HBX.out (by decide) (by decide)))
             have hq3 : q < w3.heap.size := Nat.lt_of_lt_of_le HB2.out.y.me.lt ho3.size
             clear hn3 ho3 y0 y1 y2 y3)
          | (refine wpList_store_cells rfl rqT (.tmp 11) (.tmp 61) rfl w3.heap.size 0 rfl rr.cells rfl rqT [I64 0, I64 0, I64 0] (Blk.newA rfl) (by exact Nat.le_refl _) (by kernel_rfl) (by simp [Rq.cells, Value.oneCell']) ?_
             intro w4 hw4
             have hox4 : Only [] w3 w4 := ((Only.refl [] w3).alloc _).trans' hw4.2.1 (by intro i hi hlt; simp at hi; omega)
             have hb4 : Blk w4 w3.heap.size rqT rr.cells := hw4.1.to (by simp [Rq.cells])
             have hx4 := hox4.blk HX3.out (by simp)
             have z3 := hx4.cell (i := 3) rfl
             have lz := hx4.lt
             have HB4 := hide (And.intro hox4 hb4)
             clear hw4 hox4 hb4 hx4)
          | (go_at_call 23
             refine (HN3.out _ HB4.out.1).mono ?_
             clear HN3
             rintro e w5 ⟨rfl, ho5, hs5⟩
             have HS5 := hide hs5
             have hb5 := ho5.blk HB4.out.2 (by simp; omega)
             have HB5 := hide hb5
             clear ho5 hs5 hb5)
          | (refine wpList_store_cells rfl rrT (.tmp 13) (.tmp 68) rfl w5.heap.size 0 rfl rr.cells rfl rrT [I64 0, I64 0, I64 0] (Blk.newA rfl) (by exact Nat.le_refl _) (by kernel_rfl) (by simp [Rq.cells, Value.oneCell']) ?_
             intro w6 hw6
             have hox6 : Only [] w5 w6 := ((Only.refl [] w5).alloc _).trans' hw6.2.1 (by intro i hi hlt; simp at hi; omega)
             have hb6 : Blk w6 w5.heap.size rrT rr.cells := hw6.1.to (by simp [Rq.cells])
             have hb5 := hox6.blk HB5.out (by simp)
             have a0 := hb5.cell (i := 0) rfl
             have a1 := hb5.cell (i := 1) rfl
             have a2 := hb5.cell (i := 2) rfl
             have la := hb5.lt
             have b0 := hb6.cell (i := 0) rfl
             have b1 := hb6.cell (i := 1) rfl
             have b2 := hb6.cell (i := 2) rfl
             have lb := hb6.lt
             have HO6 := hide hox6
             clear hw6 hox6 hb6 hb5))
        go_upto_region 18 with fail
        clear a0 a1 a2 la b0 b1 b2 lb z3 lz
        obtain ⟨vx6, vy6, Q6, h6⟩ := (show StI w p q w6 from by obtain ⟨vx', vy', Q', h'⟩ := HS5.out; exact ⟨_, _, _, h'.only HO6.out⟩)
        obtain ⟨hv, hhv⟩ : ∃ hv, hv = Q6.head := ⟨_, rfl⟩
        obtain ⟨dv, hdv⟩ : ∃ dv, dv = !Q6.down := ⟨_, rfl⟩
        obtain ⟨N, hN⟩ : ∃ N, N = Q6.l.length := ⟨_, rfl⟩
        have hN4 : N ≤ 1000 := by rw [hN]; exact h6.x.ok.len
        have hc1 := hide (fun W (hW : Only [] w6 W) => head_ok _ p vx6 Q6 W (h6.only hW).x)
        have hc2 := hide (fun W (hW : Only [] w6 W) => rhead_ok _ q vy6 Q6 W (h6.only hW).y)
        have hc3 := hide (fun W (hW : Only [] w6 W) => reqs_ok _ p vx6 Q6 W (h6.only hW).x)
        have hc4 := hide (fun W (hW : Only [] w6 W) => rreqs_ok _ q vy6 Q6 W (h6.only hW).y)
        rw [← hhv, ← hdv] at hc1 hc2
        rw [← hN] at hc3 hc4
        have HNN := hide hN
        have H6 := hide h6
        have hdn : (dv != dv) = false := by simp
        clear hhv hdv hN h6
        go_wp2_with (first
          | (go_at_call 13
             refine (hc1.out _ (by first | exact Only.refl _ _ | exact (Only.refl _ _).drew)).mono ?_
             rintro e w7 ⟨rfl, ho7⟩
             have HO7 := hide (show Only [] w6 w7 from (by first | exact ho7 | exact (Only.refl _ _).drew.trans ho7))
             clear ho7 hc1)
          | (go_at_call 25
             refine (hc2.out _ HO7.out).mono ?_
             rintro e w8 ⟨rfl, ho8⟩
             have HO8 := hide (HO7.out.trans ho8)
             clear ho8 hc2)
          | (go_at_call 26
             refine (hc3.out _ HO8.out).mono ?_
             rintro e w9 ⟨A1, c1, rfl, hr9, ho9⟩
             have HO9 := hide (HO8.out.trans ho9)
             have HR9 := hide hr9
             clear ho9 hc3 hr9)
          | (go_at_call 27
             refine (hc4.out _ HO9.out).mono ?_
             rintro e w10 ⟨A2, c2, rfl, hr10, ho10⟩
             have HO10 := hide (HO9.out.trans ho10)
             have HR10 := hide (And.intro (off_keep HR9.out ho10) hr10)
             clear ho10 hc4 hr10))
        go_loopw [128] (fun i w11 => ∃ j : Nat, j ≤ N ∧ i = I64 (j : Nat) ∧ Hid (Only [] w10 w11)) (fun i _ => N - (intOf i).toNat)
        case atStart => exact ⟨0, Nat.zero_le _, rfl, hide (Only.refl _ _)⟩
        case round =>
          obtain ⟨j, hj, rfl, HJ⟩ := hrel
          rcases Nat.lt_or_ge j N with hjl | hjg
          · obtain ⟨rj, hrj⟩ : ∃ rj, Q6.l[j]? = some rj := ⟨_, List.getElem?_eq_getElem (by rw [← HNN.out]; exact hjl)⟩
            obtain ⟨g1, o1, rfl, m0, m1, m2⟩ := off_rows (off_keep HR10.out.1 HJ.out) hrj
            obtain ⟨g2, o2, rfl, n0, n1, n2⟩ := off_rows (off_keep HR10.out.2 HJ.out) hrj
            have hne := neq_rq rj
            have hj0 : ((j : Nat) : Int) < (N : Int) := by omega
            clear hrj
            go_upto_region 26 with fail
            refine wp_region_text0 9 [] [] [] (fun _ => True) (by kernel_rfl) (by kernel_rfl) trivial ?_
            repeat (first | ((refine wpText_h rfl rfl ?_; apply Exists.intro; refine ⟨?_, ?_⟩; next => (go_simp; (try (go_bits; go_simp)); (first | done | with_reducible rfl | (rw [if_neg (by omega)]; (try (go_bits; go_simp)); (first | done | with_reducible rfl)) | (rw [if_pos (by omega)]; (try (go_bits; go_simp)); (first | done | with_reducible rfl))))); (try simp only [Act.put, List.setIfInBounds_toArray, List.set_cons_zero, List.set_cons_succ])) | ((refine wpText_p rfl rfl ?_; apply Exists.intro; refine ⟨?_, ?_⟩; next => (intro w'; go_simp; (try (go_bits; go_simp)); (first | done | with_reducible rfl | (rw [if_neg (by omega)]; (try (go_bits; go_simp)); (first | done | with_reducible rfl)) | (rw [if_pos (by omega)]; (try (go_bits; go_simp)); (first | done | with_reducible rfl))))); (try simp only [Act.put, List.setIfInBounds_toArray, List.set_cons_zero, List.set_cons_succ])) | ((refine wpText_y rfl rfl ?_; apply Exists.intro; refine ⟨?_, ?_⟩; next => (intro w' hS; (first | obtain ⟨_, rfl⟩ := hS | skip); go_simp; (try (go_bits; go_simp)); (first | done | with_reducible rfl | (rw [if_neg (by omega)]; (try (go_bits; go_simp)); (first | done | with_reducible rfl)) | (rw [if_pos (by omega)]; (try (go_bits; go_simp)); (first | done | with_reducible rfl))))); (try simp only [Act.put, List.setIfInBounds_toArray, List.set_cons_zero, List.set_cons_succ])) | (refine wpText_skip (by first | exact .inl rfl | exact .inr (.inl rfl) | exact .inr (.inr rfl)) rfl ?_; (try simp only [Act.put, List.setIfInBounds_toArray, List.set_cons_zero, List.set_cons_succ])))
            refine wpText_nil ?_
            go_wp2
            go_roundw
            case rel => exact ⟨j + 1, by omega, by go_num, hide HJ.out.drew⟩
            case measure => simp [intOf]; omega
          · obtain rfl : N = j := by omega
            go_wp2
            go_roundw
            case rel => exact ⟨k + 1, by omega, by go_num, hide ⟨_, _, _, (H6.out.only HO10.out).only HJ.out⟩⟩
            case measure => simp [intOf]; omega

      | false =>
        obtain ⟨ac, hac⟩ : ∃ ac, ac = (Q.add r).2 := ⟨_, rfl⟩
        have hadd := (HB2.out.only (Only.refl _ _).drew).add r
        rw [← hac] at hadd
        have HADD := hide hadd
        have hb1 : ∀ W : World, (Instr.build rqT #[(0, I64 r.id), (1, I64 r.blk), (2, I64 r.dl)]).run Try.prog W = .ok (.agg #[I64 r.id, I64 r.blk, I64 r.dl]) W := fun _ => by kernel_rfl
        have hb2 : ∀ W : World, (Instr.build rrT #[(0, I64 r.id), (1, I64 r.blk), (2, I64 r.dl)]).run Try.prog W = .ok (.agg #[I64 r.id, I64 r.blk, I64 r.dl]) W := fun _ => by kernel_rfl
        have hcn : (ac != ac) = false := by simp
        clear hac hadd
        go_upto_region 16 with fail
        refine wp_region_text 17 [8] [9, 10, 12, 14, 16] [11, 13, 15] (fun W => W.cell? ⟨wr.heap.size, 1, none⟩ = some (I64 r.id) ∧ W.cell? ⟨wr.heap.size, 2, none⟩ = some (I64 r.blk) ∧ W.cell? ⟨wr.heap.size, 3, none⟩ = some (I64 r.dl)) (by kernel_rfl) (by kernel_rfl) ⟨y1, y2, y3⟩ ?_
        simp only [List.take_succ_cons, List.take_zero, List.drop_succ_cons, List.drop_zero]
        repeat (first | ((refine wpText_h rfl rfl ?_; apply Exists.intro; refine ⟨?_, ?_⟩; next => (go_simp; (try (go_bits; go_simp)); (first | done | with_reducible rfl | (rw [if_neg (by omega)]; (try (go_bits; go_simp)); (first | done | with_reducible rfl)) | (rw [if_pos (by omega)]; (try (go_bits; go_simp)); (first | done | with_reducible rfl))))); (try simp only [Act.put, List.setIfInBounds_toArray, List.set_cons_zero, List.set_cons_succ])) | ((refine wpText_p rfl rfl ?_; apply Exists.intro; refine ⟨?_, ?_⟩; next => (intro w'; go_simp; (try (go_bits; go_simp)); (first | done | with_reducible rfl | (rw [if_neg (by omega)]; (try (go_bits; go_simp)); (first | done | with_reducible rfl)) | (rw [if_pos (by omega)]; (try (go_bits; go_simp)); (first | done | with_reducible rfl))))); (try simp only [Act.put, List.setIfInBounds_toArray, List.set_cons_zero, List.set_cons_succ])) | ((refine wpText_y rfl rfl ?_; apply Exists.intro; refine ⟨?_, ?_⟩; next => (intro w' hS; (first | obtain ⟨_, rfl⟩ := hS | skip); go_simp; (try (go_bits; go_simp)); (first | done | with_reducible rfl | (rw [if_neg (by omega)]; (try (go_bits; go_simp)); (first | done | with_reducible rfl)) | (rw [if_pos (by omega)]; (try (go_bits; go_simp)); (first | done | with_reducible rfl))))); (try simp only [Act.put, List.setIfInBounds_toArray, List.set_cons_zero, List.set_cons_succ])) | (refine wpText_skip (by first | exact .inl rfl | exact .inr (.inl rfl) | exact .inr (.inr rfl)) rfl ?_; (try simp only [Act.put, List.setIfInBounds_toArray, List.set_cons_zero, List.set_cons_succ])))
        refine wpText_e rfl rfl (fun K hK => ?_)
        go_wp2_with fail
        refine HADD.out.mono ?_
        rintro e w3 ⟨rfl, ho3, hn3⟩
        have hx3 := ho3.blk HBX.out.drew (own_far (HB2.out.only (Only.refl _ _).drew).x.row (HB2.out.only (Only.refl _ _).drew).x.me HBX.out.drew (by decide) (by decide))
        have z1 := hx3.cell (i := 1) rfl
        have z2 := hx3.cell (i := 2) rfl
        have z3 := hx3.cell (i := 3) rfl
        have lz := hx3.lt
        have HN3 := hide hn3
        refine hK _ _ ⟨z1, z2, z3⟩ ?_
        clear hK K ho3 hn3 hx3 y0 y1 y2 y3
        repeat (first | ((refine wpText_h rfl rfl ?_; apply Exists.intro; refine ⟨?_, ?_⟩; next => (go_simp; (try (go_bits; go_simp)); (first | done | with_reducible rfl | (rw [if_neg (by omega)]; (try (go_bits; go_simp)); (first | done | with_reducible rfl)) | (rw [if_pos (by omega)]; (try (go_bits; go_simp)); (first | done | with_reducible rfl))))); (try simp only [Act.put, List.setIfInBounds_toArray, List.set_cons_zero, List.set_cons_succ])) | ((refine wpText_p rfl rfl ?_; apply Exists.intro; refine ⟨?_, ?_⟩; next => (intro w'; go_simp; (try (go_bits; go_simp)); (first | done | with_reducible rfl | (rw [if_neg (by omega)]; (try (go_bits; go_simp)); (first | done | with_reducible rfl)) | (rw [if_pos (by omega)]; (try (go_bits; go_simp)); (first | done | with_reducible rfl))))); (try simp only [Act.put, List.setIfInBounds_toArray, List.set_cons_zero, List.set_cons_succ])) | ((refine wpText_y rfl rfl ?_; apply Exists.intro; refine ⟨?_, ?_⟩; next => (intro w' hS; (first | obtain ⟨_, rfl⟩ := hS | skip); go_simp; (try (go_bits; go_simp)); (first | done | with_reducible rfl | (rw [if_neg (by omega)]; (try (go_bits; go_simp)); (first | done | with_reducible rfl)) | (rw [if_pos (by omega)]; (try (go_bits; go_simp)); (first | done | with_reducible rfl))))); (try simp only [Act.put, List.setIfInBounds_toArray, List.set_cons_zero, List.set_cons_succ])) | (refine wpText_skip (by first | exact .inl rfl | exact .inr (.inl rfl) | exact .inr (.inr rfl)) rfl ?_; (try simp only [Act.put, List.setIfInBounds_toArray, List.set_cons_zero, List.set_cons_succ])))
        refine wpText_nil ?_
        go_wp2_with (
          go_at_call 24
          refine (HN3.out _ (Only.refl _ _)).mono ?_
          rintro e w6 ⟨rfl, hs6⟩
          have HS6 := hide hs6
          clear hs6 HN3)
        refine NoX.normal ?_
        clear z1 z2 z3 lz
        obtain ⟨vx6, vy6, Q6, h6⟩ := HS6.out
        obtain ⟨hv, hhv⟩ : ∃ hv, hv = Q6.head := ⟨_, rfl⟩
        obtain ⟨dv, hdv⟩ : ∃ dv, dv = !Q6.down := ⟨_, rfl⟩
        obtain ⟨N, hN⟩ : ∃ N, N = Q6.l.length := ⟨_, rfl⟩
        have hN4 : N ≤ 1000 := by rw [hN]; exact h6.x.ok.len
        have hc1 := hide (fun W (hW : Only [] w6 W) => head_ok _ p vx6 Q6 W (h6.only hW).x)
        have hc2 := hide (fun W (hW : Only [] w6 W) => rhead_ok _ q vy6 Q6 W (h6.only hW).y)
        have hc3 := hide (fun W (hW : Only [] w6 W) => reqs_ok _ p vx6 Q6 W (h6.only hW).x)
        have hc4 := hide (fun W (hW : Only [] w6 W) => rreqs_ok _ q vy6 Q6 W (h6.only hW).y)
        rw [← hhv, ← hdv] at hc1 hc2
        rw [← hN] at hc3 hc4
        have HNN := hide hN
        have H6 := hide h6
        have hdn : (dv != dv) = false := by simp
        clear hhv hdv hN h6
        go_wp2_with (first
          | (go_at_call 13
             refine (hc1.out _ (by first | exact Only.refl _ _ | exact (Only.refl _ _).drew)).mono ?_
             rintro e w7 ⟨rfl, ho7⟩
             have HO7 := hide (show Only [] w6 w7 from (by first | exact ho7 | exact (Only.refl _ _).drew.trans ho7))
             clear ho7 hc1)
          | (go_at_call 25
             refine (hc2.out _ HO7.out).mono ?_
             rintro e w8 ⟨rfl, ho8⟩
             have HO8 := hide (HO7.out.trans ho8)
             clear ho8 hc2)
          | (go_at_call 26
             refine (hc3.out _ HO8.out).mono ?_
             rintro e w9 ⟨A1, c1, rfl, hr9, ho9⟩
             have HO9 := hide (HO8.out.trans ho9)
             have HR9 := hide hr9
             clear ho9 hc3 hr9)
          | (go_at_call 27
             refine (hc4.out _ HO9.out).mono ?_
             rintro e w10 ⟨A2, c2, rfl, hr10, ho10⟩
             have HO10 := hide (HO9.out.trans ho10)
             have HR10 := hide (And.intro (off_keep HR9.out ho10) hr10)
             clear ho10 hc4 hr10))
        go_loopw [128] (fun i w11 => ∃ j : Nat, j ≤ N ∧ i = I64 (j : Nat) ∧ Hid (Only [] w10 w11)) (fun i _ => N - (intOf i).toNat)
        case atStart => exact ⟨0, Nat.zero_le _, rfl, hide (Only.refl _ _)⟩
        case round =>
          obtain ⟨j, hj, rfl, HJ⟩ := hrel
          rcases Nat.lt_or_ge j N with hjl | hjg
          · obtain ⟨rj, hrj⟩ : ∃ rj, Q6.l[j]? = some rj := ⟨_, List.getElem?_eq_getElem (by rw [← HNN.out]; exact hjl)⟩
            obtain ⟨g1, o1, rfl, m0, m1, m2⟩ := off_rows (off_keep HR10.out.1 HJ.out) hrj
            obtain ⟨g2, o2, rfl, n0, n1, n2⟩ := off_rows (off_keep HR10.out.2 HJ.out) hrj
            have hne := neq_rq rj
            have hj0 : ((j : Nat) : Int) < (N : Int) := by omega
            clear hrj
            go_upto_region 26 with fail
            refine wp_region_text0 9 [] [] [] (fun _ => True) (by kernel_rfl) (by kernel_rfl) trivial ?_
            repeat (first | ((refine wpText_h rfl rfl ?_; apply Exists.intro; refine ⟨?_, ?_⟩; next => (go_simp; (try (go_bits; go_simp)); (first | done | with_reducible rfl | (rw [if_neg (by omega)]; (try (go_bits; go_simp)); (first | done | with_reducible rfl)) | (rw [if_pos (by omega)]; (try (go_bits; go_simp)); (first | done | with_reducible rfl))))); (try simp only [Act.put, List.setIfInBounds_toArray, List.set_cons_zero, List.set_cons_succ])) | ((refine wpText_p rfl rfl ?_; apply Exists.intro; refine ⟨?_, ?_⟩; next => (intro w'; go_simp; (try (go_bits; go_simp)); (first | done | with_reducible rfl | (rw [if_neg (by omega)]; (try (go_bits; go_simp)); (first | done | with_reducible rfl)) | (rw [if_pos (by omega)]; (try (go_bits; go_simp)); (first | done | with_reducible rfl))))); (try simp only [Act.put, List.setIfInBounds_toArray, List.set_cons_zero, List.set_cons_succ])) | ((refine wpText_y rfl rfl ?_; apply Exists.intro; refine ⟨?_, ?_⟩; next => (intro w' hS; (first | obtain ⟨_, rfl⟩ := hS | skip); go_simp; (try (go_bits; go_simp)); (first | done | with_reducible rfl | (rw [if_neg (by omega)]; (try (go_bits; go_simp)); (first | done | with_reducible rfl)) | (rw [if_pos (by omega)]; (try (go_bits; go_simp)); (first | done | with_reducible rfl))))); (try simp only [Act.put, List.setIfInBounds_toArray, List.set_cons_zero, List.set_cons_succ])) | (refine wpText_skip (by first | exact .inl rfl | exact .inr (.inl rfl) | exact .inr (.inr rfl)) rfl ?_; (try simp only [Act.put, List.setIfInBounds_toArray, List.set_cons_zero, List.set_cons_succ])))
            refine wpText_nil ?_
            go_wp2
            go_roundw
            case rel => exact ⟨j + 1, by omega, by go_num, hide HJ.out.drew⟩
            case measure => simp [intOf]; omega
          · obtain rfl : N = j := by omega
            go_wp2
            go_roundw
            case rel => exact ⟨k + 1, by omega, by go_num, hide ⟨_, _, _, (H6.out.only HO10.out).only HJ.out⟩⟩
            case measure => simp [intOf]; omega

    · obtain rfl : n = k := by omega
      clear h40
      go_wp2_with (go_at_call 9; refine (haw.out _).mono ?_; rintro e w5 ⟨rfl, ho5⟩; have HO := hide ho5; clear ho5)
      go_ret
      obtain ⟨vx, vy, Q, hB⟩ := HI.out
      exact ⟨rfl, hB.o.trans HO.out⟩

end Go.Proofs.Ytabdahojgmbgdaa
