/- The reference's Lookup. -/
import Derived.Test.YtlnejlhdkmneeaaRouD
import Derived.Test.YtlnejlhdkmneeaaLawOrderP
namespace Go.Proofs.Ytlnejlhdkmneeaa
open Go.RowKit

theorem load_rrt {w : World} {b : Nat} (r : Rt) (h : Blk w b 104 r.cells) : (loadVar 104 ⟨b, 0, none⟩).run Try.prog w = .ok r.V w :=
  run_loadVar_cells w b 0 _ r.cells (d := _) (fun j v hv => by rw [Nat.zero_add]; exact h.cell hv) Try.underlying104 rfl (by unfold Rt.cells; kernel_rfl)

set_option maxRecDepth 100000 in
set_option maxHeartbeats 16000000 in
theorem refLookup_ok (b : Nat) (A : Option Addr) (c : Nat) (rs : List Rt) (n : Nat) (a : Int) (w : World) (hn : rs.length = n) (hm : n ≤ 1000) (ha : 0 ≤ a ∧ a < 4294967296) (hv : ∀ x ∈ rs, x.code = 0 ∧ x.Fit) (hr : RRoutesAt w b (.slice A n c) rs) :
    Calls Try.prog 53 #[.pointer (some ⟨b, 0, none⟩), .int .u32 a] w fun e w' => LookS rs a w e w' := by
  have hz : ∀ w : World, (Instr.build 104 #[]).run Try.prog w = .ok (.agg #[.int .u32 0, I64 0, .int .u32 0, I64 0, I64 0]) w := fun _ => by kernel_rfl
  have ho : Only [] w (w.alloc (.cells #[.int .u32 0, I64 0, .int .u32 0, I64 0, I64 0] 104)) := (Only.refl [] w).alloc _
  have hx : Blk (w.alloc (.cells #[.int .u32 0, I64 0, .int .u32 0, I64 0, I64 0] 104)) w.heap.size 104 [.int .u32 0, I64 0, .int .u32 0, I64 0, I64 0] := Blk.newA rfl
  have H0 := hide (show _ ∧ _ ∧ _ from ⟨ho, hx, hr.only ho (by simp) (by simp)⟩)
  have HN := hide hn
  have HV := hide hv
  have HA := hide ha
  clear ho hx hr hn hv ha
  go_enter Try.func53, Try.ntmps53
  go_wp2
  go_loopw [6, 7] (fun bi i wr => ∃ (k : Nat) (z : Int), k ≤ n ∧ i = .int .i64 k ∧ bi = I64 z ∧ Hid (At rs (bestR (rs.take k) a) z) ∧ Hid (Only [] w wr ∧ Blk wr w.heap.size 104 [.int .u32 0, I64 0, .int .u32 0, I64 0, I64 0] ∧ RRoutesAt wr b (.slice A n c) rs)) (fun _ i _ => n - (intOf i).toNat)
  case atStart => exact ⟨0, -1, Nat.zero_le _, rfl, rfl, hide (.inl ⟨rfl, rfl⟩), H0⟩
  case round =>
    obtain ⟨k, z, hk, rfl, rfl, HZ, HW⟩ := hrel
    have b0 := HW.out.2.2.me.cell (i := 0) rfl
    have ltb := HW.out.2.2.me.lt
    rcases Nat.lt_or_ge k n with hlt | hge
    · obtain ⟨y, hy⟩ : ∃ y, rs[k]? = some y := ⟨_, List.getElem?_eq_getElem (by rw [HN.out]; exact hlt)⟩
      have HST := hide (show bestR (rs.take (k + 1)) a = pickR a (bestR (rs.take k) a) y by rw [List.take_add_one, hy]; exact bestR_snoc _ _ _)
      obtain ⟨g, o, rfl, hc⟩ := HW.out.2.2.rts k y hy
      have hvy := HV.out y (List.mem_of_getElem? hy)
      have HY := hide hy
      have y0 := hc 0 _ rfl
      rw [Nat.add_zero] at y0
      have y1 := hc 1 _ rfl
      have y2 := hc 2 _ rfl
      have y3 := hc 3 _ rfl
      have y4 := hc 4 _ rfl
      clear hy hc hz
      have HX := hide (show Only [] w (wr.alloc (.cells #[.int .u32 y.addr, I64 y.bits, .int .u32 y.gw, I64 y.ifc, I64 y.met] 104)) ∧ Blk (wr.alloc (.cells #[.int .u32 y.addr, I64 y.bits, .int .u32 y.gw, I64 y.ifc, I64 y.met] 104)) w.heap.size 104 [.int .u32 0, I64 0, .int .u32 0, I64 0, I64 0] ∧ RRoutesAt (wr.alloc (.cells #[.int .u32 y.addr, I64 y.bits, .int .u32 y.gw, I64 y.ifc, I64 y.met] 104)) b (.slice (some ⟨g, o, none⟩) n c) rs ∧ Blk (wr.alloc (.cells #[.int .u32 y.addr, I64 y.bits, .int .u32 y.gw, I64 y.ifc, I64 y.met] 104)) wr.heap.size 104 [.int .u32 y.addr, I64 y.bits, .int .u32 y.gw, I64 y.ifc, I64 y.met] from ⟨HW.out.1.alloc _, HW.out.2.1.alloc _, HW.out.2.2.only ((Only.refl [] wr).alloc _) (by simp) (by simp), Blk.newA rfl⟩)
      go_wp2_with fail
      have e0 := HX.out.2.2.2.cell (i := 0) rfl
      have e1 := HX.out.2.2.2.cell (i := 1) rfl
      have e4 := HX.out.2.2.2.cell (i := 4) rfl
      have ltx := HX.out.2.2.2.lt
      have hb0 := HX.out.2.2.1.me.cell (i := 0) rfl
      clear y0 y1 y2 y3 y4 H0
      have HBL := hide (fun W => belongs_ok a y W HA.out hvy.2 hvy.1)
      have hy32 := code_bits hvy.1
      clear hvy
      by_cases hp : pre a y.bits = y.addr
      · have HP := hide hp
        have hpd := decide_eq_true hp
        rcases HZ.out with ⟨hnn, rfl⟩ | ⟨j, q, hq, rfl, hj⟩
        · have HB := hide (show bestR (rs.take (k + 1)) a = some y by rw [HST.out, hnn]; unfold pickR; rw [if_pos HP.out])
          clear hnn hp
          refine wp_region_text0 49 [5] [] [] (fun _ => True) (by kernel_rfl) (by kernel_rfl) trivial ?_
          repeat (first | ((refine wpText_h rfl rfl ?_; apply Exists.intro; refine ⟨?_, ?_⟩; next => (go_simp; (try (go_bits; go_simp)); (first | done | with_reducible rfl | (rw [if_neg (by omega)]; (try (go_bits; go_simp)); (first | done | with_reducible rfl)) | (rw [if_pos (by omega)]; (try (go_bits; go_simp)); (first | done | with_reducible rfl))))); (try simp only [Act.put, List.setIfInBounds_toArray, List.set_cons_zero, List.set_cons_succ])) | ((refine wpText_p rfl rfl ?_; apply Exists.intro; refine ⟨?_, ?_⟩; next => (intro w'; go_simp; (try (go_bits; go_simp)); (first | done | with_reducible rfl | (rw [if_neg (by omega)]; (try (go_bits; go_simp)); (first | done | with_reducible rfl)) | (rw [if_pos (by omega)]; (try (go_bits; go_simp)); (first | done | with_reducible rfl))))); (try simp only [Act.put, List.setIfInBounds_toArray, List.set_cons_zero, List.set_cons_succ])) | ((refine wpText_y rfl rfl ?_; apply Exists.intro; refine ⟨?_, ?_⟩; next => (intro w' hS; (first | obtain ⟨_, rfl⟩ := hS | skip); go_simp; (try (go_bits; go_simp)); (first | done | with_reducible rfl | (rw [if_neg (by omega)]; (try (go_bits; go_simp)); (first | done | with_reducible rfl)) | (rw [if_pos (by omega)]; (try (go_bits; go_simp)); (first | done | with_reducible rfl))))); (try simp only [Act.put, List.setIfInBounds_toArray, List.set_cons_zero, List.set_cons_succ])) | (refine wpText_skip (by first | exact .inl rfl | exact .inr (.inl rfl) | exact .inr (.inr rfl)) rfl ?_; (try simp only [Act.put, List.setIfInBounds_toArray, List.set_cons_zero, List.set_cons_succ])))
          refine wpText_e rfl rfl (fun K hK => ?_)
          go_wp2_with fail
          refine (HBL.out _).mono ?_
          rintro e w1 ⟨rfl, rfl⟩
          rw [hpd]
          refine hK _ _ trivial ?_
          clear hK K hpd
          repeat (first | ((refine wpText_h rfl rfl ?_; apply Exists.intro; refine ⟨?_, ?_⟩; next => (go_simp; (try (go_bits; go_simp)); (first | done | with_reducible rfl | (rw [if_neg (by omega)]; (try (go_bits; go_simp)); (first | done | with_reducible rfl)) | (rw [if_pos (by omega)]; (try (go_bits; go_simp)); (first | done | with_reducible rfl))))); (try simp only [Act.put, List.setIfInBounds_toArray, List.set_cons_zero, List.set_cons_succ])) | ((refine wpText_p rfl rfl ?_; apply Exists.intro; refine ⟨?_, ?_⟩; next => (intro w'; go_simp; (try (go_bits; go_simp)); (first | done | with_reducible rfl | (rw [if_neg (by omega)]; (try (go_bits; go_simp)); (first | done | with_reducible rfl)) | (rw [if_pos (by omega)]; (try (go_bits; go_simp)); (first | done | with_reducible rfl))))); (try simp only [Act.put, List.setIfInBounds_toArray, List.set_cons_zero, List.set_cons_succ])) | ((refine wpText_y rfl rfl ?_; apply Exists.intro; refine ⟨?_, ?_⟩; next => (intro w' hS; (first | obtain ⟨_, rfl⟩ := hS | skip); go_simp; (try (go_bits; go_simp)); (first | done | with_reducible rfl | (rw [if_neg (by omega)]; (try (go_bits; go_simp)); (first | done | with_reducible rfl)) | (rw [if_pos (by omega)]; (try (go_bits; go_simp)); (first | done | with_reducible rfl))))); (try simp only [Act.put, List.setIfInBounds_toArray, List.set_cons_zero, List.set_cons_succ])) | (refine wpText_skip (by first | exact .inl rfl | exact .inr (.inl rfl) | exact .inr (.inr rfl)) rfl ?_; (try simp only [Act.put, List.setIfInBounds_toArray, List.set_cons_zero, List.set_cons_succ])))
          refine wpText_nil ?_
          go_wp2
          go_roundw
          case rel => exact ⟨k + 1, k, by omega, by go_num, rfl, by rw [HB.out]; exact hide (.inr ⟨k, y, rfl, rfl, HY.out⟩), hide ⟨HX.out.1.drew, HX.out.2.1, HX.out.2.2.1.only (Only.refl [] _).drew (by simp) (by simp)⟩⟩
          case measure => simp [intOf]; omega
        · have HQ := hide hq
          have HJ := hide hj
          obtain ⟨g', o', hgo, hc⟩ := HX.out.2.2.1.rts j q hj
          injection hgo with hgo
          injection hgo with hg' ho'
          subst hg' ho'
          have hjn : j < n := by have := (List.getElem?_eq_some_iff.1 hj).1; have := HN.out; omega
          have q1 := hc 1 _ rfl
          have q4 := hc 4 _ rfl
          clear hq hj hc hp
          have key : (better y q ∧ (q.bits < y.bits ∨ (¬ q.bits < y.bits ∧ y.bits = q.bits ∧ y.met < q.met))) ∨ (¬ better y q ∧ ((¬ q.bits < y.bits ∧ ¬ y.bits = q.bits) ∨ (¬ q.bits < y.bits ∧ y.bits = q.bits ∧ ¬ y.met < q.met))) := by
            unfold better; omega
          rcases key with ⟨hbt, hcs⟩ | ⟨hbt, hcs⟩
          · have HB := hide (show bestR (rs.take (k + 1)) a = some y by rw [HST.out, HQ.out]; unfold pickR; rw [if_pos HP.out]; simp only; rw [if_pos hbt])
            clear hbt
            rcases hcs with h1 | ⟨h1, h2, h3⟩
            · have t1 : decide (q.bits < y.bits) = true := decide_eq_true h1
              refine wp_region_text0 49 [5] [] [] (fun _ => True) (by kernel_rfl) (by kernel_rfl) trivial ?_
              repeat (first | ((refine wpText_h rfl rfl ?_; apply Exists.intro; refine ⟨?_, ?_⟩; next => (go_simp; (try (go_bits; go_simp)); (first | done | with_reducible rfl | (rw [if_neg (by omega)]; (try (go_bits; go_simp)); (first | done | with_reducible rfl)) | (rw [if_pos (by omega)]; (try (go_bits; go_simp)); (first | done | with_reducible rfl))))); (try simp only [Act.put, List.setIfInBounds_toArray, List.set_cons_zero, List.set_cons_succ])) | ((refine wpText_p rfl rfl ?_; apply Exists.intro; refine ⟨?_, ?_⟩; next => (intro w'; go_simp; (try (go_bits; go_simp)); (first | done | with_reducible rfl | (rw [if_neg (by omega)]; (try (go_bits; go_simp)); (first | done | with_reducible rfl)) | (rw [if_pos (by omega)]; (try (go_bits; go_simp)); (first | done | with_reducible rfl))))); (try simp only [Act.put, List.setIfInBounds_toArray, List.set_cons_zero, List.set_cons_succ])) | ((refine wpText_y rfl rfl ?_; apply Exists.intro; refine ⟨?_, ?_⟩; next => (intro w' hS; (first | obtain ⟨_, rfl⟩ := hS | skip); go_simp; (try (go_bits; go_simp)); (first | done | with_reducible rfl | (rw [if_neg (by omega)]; (try (go_bits; go_simp)); (first | done | with_reducible rfl)) | (rw [if_pos (by omega)]; (try (go_bits; go_simp)); (first | done | with_reducible rfl))))); (try simp only [Act.put, List.setIfInBounds_toArray, List.set_cons_zero, List.set_cons_succ])) | (refine wpText_skip (by first | exact .inl rfl | exact .inr (.inl rfl) | exact .inr (.inr rfl)) rfl ?_; (try simp only [Act.put, List.setIfInBounds_toArray, List.set_cons_zero, List.set_cons_succ])))
              refine wpText_e rfl rfl (fun K hK => ?_)
              go_wp2_with fail
              refine (HBL.out _).mono ?_
              rintro e w1 ⟨rfl, rfl⟩
              rw [hpd]
              refine hK _ _ trivial ?_
              clear hK K hpd
              repeat (first | ((refine wpText_h rfl rfl ?_; apply Exists.intro; refine ⟨?_, ?_⟩; next => (go_simp; (try (go_bits; go_simp)); (first | done | with_reducible rfl | (rw [if_neg (by omega)]; (try (go_bits; go_simp)); (first | done | with_reducible rfl)) | (rw [if_pos (by omega)]; (try (go_bits; go_simp)); (first | done | with_reducible rfl))))); (try simp only [Act.put, List.setIfInBounds_toArray, List.set_cons_zero, List.set_cons_succ])) | ((refine wpText_p rfl rfl ?_; apply Exists.intro; refine ⟨?_, ?_⟩; next => (intro w'; go_simp; (try (go_bits; go_simp)); (first | done | with_reducible rfl | (rw [if_neg (by omega)]; (try (go_bits; go_simp)); (first | done | with_reducible rfl)) | (rw [if_pos (by omega)]; (try (go_bits; go_simp)); (first | done | with_reducible rfl))))); (try simp only [Act.put, List.setIfInBounds_toArray, List.set_cons_zero, List.set_cons_succ])) | ((refine wpText_y rfl rfl ?_; apply Exists.intro; refine ⟨?_, ?_⟩; next => (intro w' hS; (first | obtain ⟨_, rfl⟩ := hS | skip); go_simp; (try (go_bits; go_simp)); (first | done | with_reducible rfl | (rw [if_neg (by omega)]; (try (go_bits; go_simp)); (first | done | with_reducible rfl)) | (rw [if_pos (by omega)]; (try (go_bits; go_simp)); (first | done | with_reducible rfl))))); (try simp only [Act.put, List.setIfInBounds_toArray, List.set_cons_zero, List.set_cons_succ])) | (refine wpText_skip (by first | exact .inl rfl | exact .inr (.inl rfl) | exact .inr (.inr rfl)) rfl ?_; (try simp only [Act.put, List.setIfInBounds_toArray, List.set_cons_zero, List.set_cons_succ])))
              refine wpText_nil ?_
              go_wp2
              go_roundw
              case rel => exact ⟨k + 1, k, by omega, by go_num, rfl, by rw [HB.out]; exact hide (.inr ⟨k, y, rfl, rfl, HY.out⟩), hide ⟨HX.out.1.drew, HX.out.2.1, HX.out.2.2.1.only (Only.refl [] _).drew (by simp) (by simp)⟩⟩
              case measure => simp [intOf]; omega
            · have t1 : decide (q.bits < y.bits) = false := decide_eq_false h1
              have t2 : (y.bits == q.bits) = true := by simp [h2]
              have t3 : decide (y.met < q.met) = true := decide_eq_true h3
              clear h2
              refine wp_region_text0 49 [5] [] [] (fun _ => True) (by kernel_rfl) (by kernel_rfl) trivial ?_
              repeat (first | ((refine wpText_h rfl rfl ?_; apply Exists.intro; refine ⟨?_, ?_⟩; next => (go_simp; (try (go_bits; go_simp)); (first | done | with_reducible rfl | (rw [if_neg (by omega)]; (try (go_bits; go_simp)); (first | done | with_reducible rfl)) | (rw [if_pos (by omega)]; (try (go_bits; go_simp)); (first | done | with_reducible rfl))))); (try simp only [Act.put, List.setIfInBounds_toArray, List.set_cons_zero, List.set_cons_succ])) | ((refine wpText_p rfl rfl ?_; apply Exists.intro; refine ⟨?_, ?_⟩; next => (intro w'; go_simp; (try (go_bits; go_simp)); (first | done | with_reducible rfl | (rw [if_neg (by omega)]; (try (go_bits; go_simp)); (first | done | with_reducible rfl)) | (rw [if_pos (by omega)]; (try (go_bits; go_simp)); (first | done | with_reducible rfl))))); (try simp only [Act.put, List.setIfInBounds_toArray, List.set_cons_zero, List.set_cons_succ])) | ((refine wpText_y rfl rfl ?_; apply Exists.intro; refine ⟨?_, ?_⟩; next => (intro w' hS; (first | obtain ⟨_, rfl⟩ := hS | skip); go_simp; (try (go_bits; go_simp)); (first | done | with_reducible rfl | (rw [if_neg (by omega)]; (try (go_bits; go_simp)); (first | done | with_reducible rfl)) | (rw [if_pos (by omega)]; (try (go_bits; go_simp)); (first | done | with_reducible rfl))))); (try simp only [Act.put, List.setIfInBounds_toArray, List.set_cons_zero, List.set_cons_succ])) | (refine wpText_skip (by first | exact .inl rfl | exact .inr (.inl rfl) | exact .inr (.inr rfl)) rfl ?_; (try simp only [Act.put, List.setIfInBounds_toArray, List.set_cons_zero, List.set_cons_succ])))
              refine wpText_e rfl rfl (fun K hK => ?_)
              go_wp2_with fail
              refine (HBL.out _).mono ?_
              rintro e w1 ⟨rfl, rfl⟩
              rw [hpd]
              refine hK _ _ trivial ?_
              clear hK K hpd
              repeat (first | ((refine wpText_h rfl rfl ?_; apply Exists.intro; refine ⟨?_, ?_⟩; next => (go_simp; (try (go_bits; go_simp)); (first | done | with_reducible rfl | (rw [if_neg (by omega)]; (try (go_bits; go_simp)); (first | done | with_reducible rfl)) | (rw [if_pos (by omega)]; (try (go_bits; go_simp)); (first | done | with_reducible rfl))))); (try simp only [Act.put, List.setIfInBounds_toArray, List.set_cons_zero, List.set_cons_succ])) | ((refine wpText_p rfl rfl ?_; apply Exists.intro; refine ⟨?_, ?_⟩; next => (intro w'; go_simp; (try (go_bits; go_simp)); (first | done | with_reducible rfl | (rw [if_neg (by omega)]; (try (go_bits; go_simp)); (first | done | with_reducible rfl)) | (rw [if_pos (by omega)]; (try (go_bits; go_simp)); (first | done | with_reducible rfl))))); (try simp only [Act.put, List.setIfInBounds_toArray, List.set_cons_zero, List.set_cons_succ])) | ((refine wpText_y rfl rfl ?_; apply Exists.intro; refine ⟨?_, ?_⟩; next => (intro w' hS; (first | obtain ⟨_, rfl⟩ := hS | skip); go_simp; (try (go_bits; go_simp)); (first | done | with_reducible rfl | (rw [if_neg (by omega)]; (try (go_bits; go_simp)); (first | done | with_reducible rfl)) | (rw [if_pos (by omega)]; (try (go_bits; go_simp)); (first | done | with_reducible rfl))))); (try simp only [Act.put, List.setIfInBounds_toArray, List.set_cons_zero, List.set_cons_succ])) | (refine wpText_skip (by first | exact .inl rfl | exact .inr (.inl rfl) | exact .inr (.inr rfl)) rfl ?_; (try simp only [Act.put, List.setIfInBounds_toArray, List.set_cons_zero, List.set_cons_succ])))
              refine wpText_nil ?_
              go_wp2
              go_roundw
              case rel => exact ⟨k + 1, k, by omega, by go_num, rfl, by rw [HB.out]; exact hide (.inr ⟨k, y, rfl, rfl, HY.out⟩), hide ⟨HX.out.1.drew, HX.out.2.1, HX.out.2.2.1.only (Only.refl [] _).drew (by simp) (by simp)⟩⟩
              case measure => simp [intOf]; omega
          · have HB := hide (show bestR (rs.take (k + 1)) a = some q by rw [HST.out, HQ.out]; unfold pickR; rw [if_pos HP.out]; simp only; rw [if_neg hbt])
            clear hbt
            rcases hcs with ⟨h1, h2⟩ | ⟨h1, h2, h3⟩
            · have t1 : decide (q.bits < y.bits) = false := decide_eq_false h1
              have t2 : (y.bits == q.bits) = false := by simp [h2]
              refine wp_region_text0 49 [5] [] [] (fun _ => True) (by kernel_rfl) (by kernel_rfl) trivial ?_
              repeat (first | ((refine wpText_h rfl rfl ?_; apply Exists.intro; refine ⟨?_, ?_⟩; next => (go_simp; (try (go_bits; go_simp)); (first | done | with_reducible rfl | (rw [if_neg (by omega)]; (try (go_bits; go_simp)); (first | done | with_reducible rfl)) | (rw [if_pos (by omega)]; (try (go_bits; go_simp)); (first | done | with_reducible rfl))))); (try simp only [Act.put, List.setIfInBounds_toArray, List.set_cons_zero, List.set_cons_succ])) | ((refine wpText_p rfl rfl ?_; apply Exists.intro; refine ⟨?_, ?_⟩; next => (intro w'; go_simp; (try (go_bits; go_simp)); (first | done | with_reducible rfl | (rw [if_neg (by omega)]; (try (go_bits; go_simp)); (first | done | with_reducible rfl)) | (rw [if_pos (by omega)]; (try (go_bits; go_simp)); (first | done | with_reducible rfl))))); (try simp only [Act.put, List.setIfInBounds_toArray, List.set_cons_zero, List.set_cons_succ])) | ((refine wpText_y rfl rfl ?_; apply Exists.intro; refine ⟨?_, ?_⟩; next => (intro w' hS; (first | obtain ⟨_, rfl⟩ := hS | skip); go_simp; (try (go_bits; go_simp)); (first | done | with_reducible rfl | (rw [if_neg (by omega)]; (try (go_bits; go_simp)); (first | done | with_reducible rfl)) | (rw [if_pos (by omega)]; (try (go_bits; go_simp)); (first | done | with_reducible rfl))))); (try simp only [Act.put, List.setIfInBounds_toArray, List.set_cons_zero, List.set_cons_succ])) | (refine wpText_skip (by first | exact .inl rfl | exact .inr (.inl rfl) | exact .inr (.inr rfl)) rfl ?_; (try simp only [Act.put, List.setIfInBounds_toArray, List.set_cons_zero, List.set_cons_succ])))
              refine wpText_e rfl rfl (fun K hK => ?_)
              go_wp2_with fail
              refine (HBL.out _).mono ?_
              rintro e w1 ⟨rfl, rfl⟩
              rw [hpd]
              refine hK _ _ trivial ?_
              clear hK K hpd
              repeat (first | ((refine wpText_h rfl rfl ?_; apply Exists.intro; refine ⟨?_, ?_⟩; next => (go_simp; (try (go_bits; go_simp)); (first | done | with_reducible rfl | (rw [if_neg (by omega)]; (try (go_bits; go_simp)); (first | done | with_reducible rfl)) | (rw [if_pos (by omega)]; (try (go_bits; go_simp)); (first | done | with_reducible rfl))))); (try simp only [Act.put, List.setIfInBounds_toArray, List.set_cons_zero, List.set_cons_succ])) | ((refine wpText_p rfl rfl ?_; apply Exists.intro; refine ⟨?_, ?_⟩; next => (intro w'; go_simp; (try (go_bits; go_simp)); (first | done | with_reducible rfl | (rw [if_neg (by omega)]; (try (go_bits; go_simp)); (first | done | with_reducible rfl)) | (rw [if_pos (by omega)]; (try (go_bits; go_simp)); (first | done | with_reducible rfl))))); (try simp only [Act.put, List.setIfInBounds_toArray, List.set_cons_zero, List.set_cons_succ])) | ((refine wpText_y rfl rfl ?_; apply Exists.intro; refine ⟨?_, ?_⟩; next => (intro w' hS; (first | obtain ⟨_, rfl⟩ := hS | skip); go_simp; (try (go_bits; go_simp)); (first | done | with_reducible rfl | (rw [if_neg (by omega)]; (try (go_bits; go_simp)); (first | done | with_reducible rfl)) | (rw [if_pos (by omega)]; (try (go_bits; go_simp)); (first | done | with_reducible rfl))))); (try simp only [Act.put, List.setIfInBounds_toArray, List.set_cons_zero, List.set_cons_succ])) | (refine wpText_skip (by first | exact .inl rfl | exact .inr (.inl rfl) | exact .inr (.inr rfl)) rfl ?_; (try simp only [Act.put, List.setIfInBounds_toArray, List.set_cons_zero, List.set_cons_succ])))
              refine wpText_nil ?_
              go_wp2
              go_roundw
              case rel => exact ⟨k + 1, j, by omega, by go_num, rfl, by rw [HB.out]; exact hide (.inr ⟨j, q, rfl, rfl, HJ.out⟩), hide ⟨HX.out.1.drew, HX.out.2.1, HX.out.2.2.1.only (Only.refl [] _).drew (by simp) (by simp)⟩⟩
              case measure => simp [intOf]; omega
            · have t1 : decide (q.bits < y.bits) = false := decide_eq_false h1
              have t2 : (y.bits == q.bits) = true := by simp [h2]
              have t3 : decide (y.met < q.met) = false := decide_eq_false h3
              clear h2
              refine wp_region_text0 49 [5] [] [] (fun _ => True) (by kernel_rfl) (by kernel_rfl) trivial ?_
              repeat (first | ((refine wpText_h rfl rfl ?_; apply Exists.intro; refine ⟨?_, ?_⟩; next => (go_simp; (try (go_bits; go_simp)); (first | done | with_reducible rfl | (rw [if_neg (by omega)]; (try (go_bits; go_simp)); (first | done | with_reducible rfl)) | (rw [if_pos (by omega)]; (try (go_bits; go_simp)); (first | done | with_reducible rfl))))); (try simp only [Act.put, List.setIfInBounds_toArray, List.set_cons_zero, List.set_cons_succ])) | ((refine wpText_p rfl rfl ?_; apply Exists.intro; refine ⟨?_, ?_⟩; next => (intro w'; go_simp; (try (go_bits; go_simp)); (first | done | with_reducible rfl | (rw [if_neg (by omega)]; (try (go_bits; go_simp)); (first | done | with_reducible rfl)) | (rw [if_pos (by omega)]; (try (go_bits; go_simp)); (first | done | with_reducible rfl))))); (try simp only [Act.put, List.setIfInBounds_toArray, List.set_cons_zero, List.set_cons_succ])) | ((refine wpText_y rfl rfl ?_; apply Exists.intro; refine ⟨?_, ?_⟩; next => (intro w' hS; (first | obtain ⟨_, rfl⟩ := hS | skip); go_simp; (try (go_bits; go_simp)); (first | done | with_reducible rfl | (rw [if_neg (by omega)]; (try (go_bits; go_simp)); (first | done | with_reducible rfl)) | (rw [if_pos (by omega)]; (try (go_bits; go_simp)); (first | done | with_reducible rfl))))); (try simp only [Act.put, List.setIfInBounds_toArray, List.set_cons_zero, List.set_cons_succ])) | (refine wpText_skip (by first | exact .inl rfl | exact .inr (.inl rfl) | exact .inr (.inr rfl)) rfl ?_; (try simp only [Act.put, List.setIfInBounds_toArray, List.set_cons_zero, List.set_cons_succ])))
              refine wpText_e rfl rfl (fun K hK => ?_)
              go_wp2_with fail
              refine (HBL.out _).mono ?_
              rintro e w1 ⟨rfl, rfl⟩
              rw [hpd]
              refine hK _ _ trivial ?_
              clear hK K hpd
              repeat (first | ((refine wpText_h rfl rfl ?_; apply Exists.intro; refine ⟨?_, ?_⟩; next => (go_simp; (try (go_bits; go_simp)); (first | done | with_reducible rfl | (rw [if_neg (by omega)]; (try (go_bits; go_simp)); (first | done | with_reducible rfl)) | (rw [if_pos (by omega)]; (try (go_bits; go_simp)); (first | done | with_reducible rfl))))); (try simp only [Act.put, List.setIfInBounds_toArray, List.set_cons_zero, List.set_cons_succ])) | ((refine wpText_p rfl rfl ?_; apply Exists.intro; refine ⟨?_, ?_⟩; next => (intro w'; go_simp; (try (go_bits; go_simp)); (first | done | with_reducible rfl | (rw [if_neg (by omega)]; (try (go_bits; go_simp)); (first | done | with_reducible rfl)) | (rw [if_pos (by omega)]; (try (go_bits; go_simp)); (first | done | with_reducible rfl))))); (try simp only [Act.put, List.setIfInBounds_toArray, List.set_cons_zero, List.set_cons_succ])) | ((refine wpText_y rfl rfl ?_; apply Exists.intro; refine ⟨?_, ?_⟩; next => (intro w' hS; (first | obtain ⟨_, rfl⟩ := hS | skip); go_simp; (try (go_bits; go_simp)); (first | done | with_reducible rfl | (rw [if_neg (by omega)]; (try (go_bits; go_simp)); (first | done | with_reducible rfl)) | (rw [if_pos (by omega)]; (try (go_bits; go_simp)); (first | done | with_reducible rfl))))); (try simp only [Act.put, List.setIfInBounds_toArray, List.set_cons_zero, List.set_cons_succ])) | (refine wpText_skip (by first | exact .inl rfl | exact .inr (.inl rfl) | exact .inr (.inr rfl)) rfl ?_; (try simp only [Act.put, List.setIfInBounds_toArray, List.set_cons_zero, List.set_cons_succ])))
              refine wpText_nil ?_
              go_wp2
              go_roundw
              case rel => exact ⟨k + 1, j, by omega, by go_num, rfl, by rw [HB.out]; exact hide (.inr ⟨j, q, rfl, rfl, HJ.out⟩), hide ⟨HX.out.1.drew, HX.out.2.1, HX.out.2.2.1.only (Only.refl [] _).drew (by simp) (by simp)⟩⟩
              case measure => simp [intOf]; omega
      · have HP := hide hp
        have hpd := decide_eq_false hp
        have HB := hide (show bestR (rs.take (k + 1)) a = bestR (rs.take k) a by rw [HST.out]; unfold pickR; rw [if_neg HP.out])
        clear hp
        refine wp_region_text0 49 [5] [] [] (fun _ => True) (by kernel_rfl) (by kernel_rfl) trivial ?_
        repeat (first | ((refine wpText_h rfl rfl ?_; apply Exists.intro; refine ⟨?_, ?_⟩; next => (go_simp; (try (go_bits; go_simp)); (first | done | with_reducible rfl | (rw [if_neg (by omega)]; (try (go_bits; go_simp)); (first | done | with_reducible rfl)) | (rw [if_pos (by omega)]; (try (go_bits; go_simp)); (first | done | with_reducible rfl))))); (try simp only [Act.put, List.setIfInBounds_toArray, List.set_cons_zero, List.set_cons_succ])) | ((refine wpText_p rfl rfl ?_; apply Exists.intro; refine ⟨?_, ?_⟩; next => (intro w'; go_simp; (try (go_bits; go_simp)); (first | done | with_reducible rfl | (rw [if_neg (by omega)]; (try (go_bits; go_simp)); (first | done | with_reducible rfl)) | (rw [if_pos (by omega)]; (try (go_bits; go_simp)); (first | done | with_reducible rfl))))); (try simp only [Act.put, List.setIfInBounds_toArray, List.set_cons_zero, List.set_cons_succ])) | ((refine wpText_y rfl rfl ?_; apply Exists.intro; refine ⟨?_, ?_⟩; next => (intro w' hS; (first | obtain ⟨_, rfl⟩ := hS | skip); go_simp; (try (go_bits; go_simp)); (first | done | with_reducible rfl | (rw [if_neg (by omega)]; (try (go_bits; go_simp)); (first | done | with_reducible rfl)) | (rw [if_pos (by omega)]; (try (go_bits; go_simp)); (first | done | with_reducible rfl))))); (try simp only [Act.put, List.setIfInBounds_toArray, List.set_cons_zero, List.set_cons_succ])) | (refine wpText_skip (by first | exact .inl rfl | exact .inr (.inl rfl) | exact .inr (.inr rfl)) rfl ?_; (try simp only [Act.put, List.setIfInBounds_toArray, List.set_cons_zero, List.set_cons_succ])))
        refine wpText_e rfl rfl (fun K hK => ?_)
        go_wp2_with fail
        refine (HBL.out _).mono ?_
        rintro e w1 ⟨rfl, rfl⟩
        rw [hpd]
        refine hK _ _ trivial ?_
        clear hK K hpd
        repeat (first | ((refine wpText_h rfl rfl ?_; apply Exists.intro; refine ⟨?_, ?_⟩; next => (go_simp; (try (go_bits; go_simp)); (first | done | with_reducible rfl | (rw [if_neg (by omega)]; (try (go_bits; go_simp)); (first | done | with_reducible rfl)) | (rw [if_pos (by omega)]; (try (go_bits; go_simp)); (first | done | with_reducible rfl))))); (try simp only [Act.put, List.setIfInBounds_toArray, List.set_cons_zero, List.set_cons_succ])) | ((refine wpText_p rfl rfl ?_; apply Exists.intro; refine ⟨?_, ?_⟩; next => (intro w'; go_simp; (try (go_bits; go_simp)); (first | done | with_reducible rfl | (rw [if_neg (by omega)]; (try (go_bits; go_simp)); (first | done | with_reducible rfl)) | (rw [if_pos (by omega)]; (try (go_bits; go_simp)); (first | done | with_reducible rfl))))); (try simp only [Act.put, List.setIfInBounds_toArray, List.set_cons_zero, List.set_cons_succ])) | ((refine wpText_y rfl rfl ?_; apply Exists.intro; refine ⟨?_, ?_⟩; next => (intro w' hS; (first | obtain ⟨_, rfl⟩ := hS | skip); go_simp; (try (go_bits; go_simp)); (first | done | with_reducible rfl | (rw [if_neg (by omega)]; (try (go_bits; go_simp)); (first | done | with_reducible rfl)) | (rw [if_pos (by omega)]; (try (go_bits; go_simp)); (first | done | with_reducible rfl))))); (try simp only [Act.put, List.setIfInBounds_toArray, List.set_cons_zero, List.set_cons_succ])) | (refine wpText_skip (by first | exact .inl rfl | exact .inr (.inl rfl) | exact .inr (.inr rfl)) rfl ?_; (try simp only [Act.put, List.setIfInBounds_toArray, List.set_cons_zero, List.set_cons_succ])))
        refine wpText_nil ?_
        go_wp2
        go_roundw
        case rel => exact ⟨k + 1, z, by omega, by go_num, rfl, by rw [HB.out]; exact HZ, hide ⟨HX.out.1.drew, HX.out.2.1, HX.out.2.2.1.only (Only.refl [] _).drew (by simp) (by simp)⟩⟩
        case measure => simp [intOf]; omega
    · obtain rfl : k = n := by omega
      have HT := hide (show rs.take k = rs by rw [List.take_of_length_le]; rw [HN.out]; exact Nat.le_refl _)
      rw [HT.out] at HZ
      rcases HZ.out with ⟨hnn, rfl⟩ | ⟨j, q, hq, rfl, hj⟩
      · have HQ := hide hnn
        clear hnn
        go_wp2_with (refine wpList_store_cells rfl 104 (.tmp 4) (.tmp 77) rfl _ _ rfl [.int .u32 0, I64 0, .int .u32 0, I64 0, I64 0] rfl 104 [.int .u32 0, I64 0, .int .u32 0, I64 0, I64 0] HW.out.2.1 (by decide) (by kernel_rfl) (by simp [Value.oneCell']) ?_; intro v1 hw3)
        have ho2 : Only [] w v1 := HW.out.1.trans' hw3.2.1 (by intro i hi; simp at hi; omega)
        refine bodyPost_ret (results_cell_tmp rfl _ _ _ rfl (load_rrt Rt.zero (Blk.to hw3.1 (by rfl)))) rfl ?_
        exact ⟨ho2, .inl ⟨HQ.out, rfl⟩⟩
      · have HQ := hide hq
        obtain ⟨g, o, rfl, hc⟩ := HW.out.2.2.rts j q hj
        have q0 := hc 0 _ rfl
        rw [Nat.add_zero] at q0
        have q1 := hc 1 _ rfl
        have q2 := hc 2 _ rfl
        have q3 := hc 3 _ rfl
        have q4 := hc 4 _ rfl
        have hjn : j < k := by have := (List.getElem?_eq_some_iff.1 hj).1; have := HN.out; omega
        clear hq hj hc
        go_wp2_with (refine wpList_store_cells rfl 104 (.tmp 4) (.tmp 84) rfl _ _ rfl q.cells rfl 104 [.int .u32 0, I64 0, .int .u32 0, I64 0, I64 0] HW.out.2.1 (by simp [Rt.cells]) (by kernel_rfl) (by simp [Rt.cells, Value.oneCell']) ?_; intro v1 hw3)
        have ho2 : Only [] w v1 := HW.out.1.trans' hw3.2.1 (by intro i hi; simp at hi; omega)
        refine bodyPost_ret (results_cell_tmp rfl _ _ _ rfl (load_rrt q (Blk.to hw3.1 (by simp [Rt.cells])))) rfl ?_
        exact ⟨ho2, .inr ⟨q, HQ.out, rfl⟩⟩

end Go.Proofs.Ytlnejlhdkmneeaa
