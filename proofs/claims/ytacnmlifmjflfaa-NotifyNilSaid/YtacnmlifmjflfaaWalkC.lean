/- Arm. -/
import Derived.Test.YtacnmlifmjflfaaWalkB
namespace Go.Proofs.Ytacnmlifmjflfaa
open Go.RowKit

abbrev band (x y : Int) : Int := bits .and .i64 x y
abbrev bandn (x y : Int) : Int := bits .andNot .i64 x y
theorem wf64_bits (op : BinOp) (x y : Int) : wf64 (bits op .i64 x y) := wf64_of (bits_lo_i64 op x y) (bits_hi_i64 op x y)

/-- What Arm answers, and the table behind. -/
def Tab.armErr (x : Armd) : Int :=
  if numb x.obj = false then 34 else if x.cond < 1 ∨ 15 < x.cond then 14 else if x.kind < 0 ∨ 5 ≤ x.kind then 17 else 0
def Tab.arm (T : Tab) (x : Armd) : (Int × Int × Int) × Tab :=
  if Tab.armErr x ≠ 0 then ((0, 0, Tab.armErr x), T)
  else if band (T.pres x.obj) x.cond ≠ 0 ∧ x.keep = false then ((0, band (T.pres x.obj) x.cond, 0), T)
  else if 200 ≤ T.arms.length then ((0, 0, 18), T)
  else ((T.last + 1, band (T.pres x.obj) x.cond, 0), { T with last := T.last + 1, arms := T.arms ++ [{ x with id := T.last + 1 }] })

theorem Tab.arm_err {T : Tab} {x : Armd} {e : Int} (h : Tab.armErr x = e) (he : e ≠ 0) : T.arm x = ((0, 0, e), T) := by
  unfold Tab.arm
  rw [h, if_pos he]

abbrev armV (x : Armd) : Value := .agg #[I64 x.obj, I64 x.cond, I64 x.kind, I64 x.conn, I64 x.prio, I64 x.code, I64 x.val, .bool x.keep]

def ArmedS (base q b m : Nat) (r : (Int × Int × Int) × Tab) (w : World) (e : Ending) (w' : World) : Prop :=
  e = .returned (.tuple #[I64 r.1.1, I64 r.1.2.1, I64 r.1.2.2]) ∧ TabIs base q b m r.2 w' ∧ OnlyT tabTs base w w'

theorem build_armed (x : Armd) (id : Int) : ∀ w : World, (Instr.build 86 #[(0, armV x), (1, I64 id)]).run Try.prog w = .ok (.agg (encarmed { x with id := id }).toArray) w := fun _ => by kernel_rfl

set_option maxRecDepth 100000 in
set_option maxHeartbeats 4000000 in
theorem Arm_ok (base q b m : Nat) (T : Tab) (x : Armd) (w : World) (h : TabIs base q b m T w) (hbw : base ≤ w.heap.size) (hx : wf64 x.obj) (hl0 : 0 ≤ T.last) (hl : T.last ≤ 1000000000) (hn : T.arms.length ≤ 200) :
    Calls Try.prog 11 #[.pointer (some ⟨q, 0, none⟩), armV x] w fun e w' => ArmedS base q b m (T.arm x) w e w' := by
  obtain ⟨va, vw, k⟩ := h
  have K := hide k
  have c1 := k.me.cell (i := 1) rfl
  have c2 := k.me.cell (i := 2) rfl
  have c4 := k.me.cell (i := 4) rfl
  have f4 := k.me.frozen 4
  have hlt := k.me.lt
  have hlk : ∀ o, (Instr.lookup 74 (.map (some b)) (.int .i64 x.obj) false).run Try.prog (w.alloc o) = .ok (.int .i64 (T.pres x.obj)) (w.alloc o) := fun o => ((k.map.alloc o).look hx).1
  have hlk2 : ∀ o, (Instr.lookup 74 (.map (some b)) (.int .i64 x.obj) false).run Try.prog (w.alloc o).drew = .ok (.int .i64 (T.pres x.obj)) (w.alloc o).drew := fun o => ((show PMap (w.alloc o).drew b m T.pres from k.map.alloc o).look hx).1
  have hb0 := build_armed x (T.last + 1)
  obtain ⟨A, c, rfl⟩ := own_shape k.arms
  have TI := hide (show TabIs base q b m T w from ⟨_, _, k⟩)
  clear k
  have HO : Hid (OnlyT tabTs base w (w.alloc (Obj.cells #[I64 x.obj, I64 x.cond, I64 x.kind, I64 x.conn, I64 x.prio, I64 x.code, I64 x.val, .bool x.keep] 32))) := hide (.of_nil ((Only.refl [] w).alloc _))
  by_cases a1 : numb x.obj = false
  · have hR : Hid (T.arm x = ((0, 0, 34), T)) := hide (Tab.arm_err (by unfold Tab.armErr; rw [if_pos a1]) (by decide))
    go_enter Try.func11, Try.ntmps11
    go_wp2_with (go_at_call 34; refine (number_ok _ _).mono ?_; rintro e w1 ⟨rfl, rfl⟩)
    go_ret3
    rw [hR.out]; exact ⟨rfl, TI.out.alloc _, HO.out⟩
  have a1' : numb x.obj = true := by simpa using a1
  clear a1
  by_cases a2 : x.cond < 1
  · have hR : Hid (T.arm x = ((0, 0, 14), T)) := hide (Tab.arm_err (by unfold Tab.armErr; rw [if_neg (by simp [a1']), if_pos (.inl a2)]) (by decide))
    go_enter Try.func11, Try.ntmps11
    go_wp2_with (go_at_call 34; refine (number_ok _ _).mono ?_; rintro e w1 ⟨rfl, rfl⟩)
    go_ret3
    rw [hR.out]; exact ⟨rfl, TI.out.alloc _, HO.out⟩
  by_cases a3 : 15 < x.cond
  · have hR : Hid (T.arm x = ((0, 0, 14), T)) := hide (Tab.arm_err (by unfold Tab.armErr; rw [if_neg (by simp [a1']), if_pos (.inr a3)]) (by decide))
    go_enter Try.func11, Try.ntmps11
    go_wp2_with (go_at_call 34; refine (number_ok _ _).mono ?_; rintro e w1 ⟨rfl, rfl⟩)
    go_ret3
    rw [hR.out]; exact ⟨rfl, TI.out.alloc _, HO.out⟩
  by_cases a4 : x.kind < 0
  · have hR : Hid (T.arm x = ((0, 0, 17), T)) := hide (Tab.arm_err (by unfold Tab.armErr; rw [if_neg (by simp [a1']), if_neg (by omega), if_pos (.inl a4)]) (by decide))
    go_enter Try.func11, Try.ntmps11
    go_wp2_with (go_at_call 34; refine (number_ok _ _).mono ?_; rintro e w1 ⟨rfl, rfl⟩)
    go_ret3
    rw [hR.out]; exact ⟨rfl, TI.out.alloc _, HO.out⟩
  by_cases a5 : 5 ≤ x.kind
  · have hR : Hid (T.arm x = ((0, 0, 17), T)) := hide (Tab.arm_err (by unfold Tab.armErr; rw [if_neg (by simp [a1']), if_neg (by omega), if_pos (.inr a5)]) (by decide))
    go_enter Try.func11, Try.ntmps11
    go_wp2_with (go_at_call 34; refine (number_ok _ _).mono ?_; rintro e w1 ⟨rfl, rfl⟩)
    go_ret3
    rw [hR.out]; exact ⟨rfl, TI.out.alloc _, HO.out⟩
  have HE : Hid (Tab.armErr x = 0) := hide (by unfold Tab.armErr; rw [if_neg (by simp [a1']), if_neg (by omega), if_neg (by omega)])
  have hbd := hide (wf64_bits .and (T.pres x.obj) x.cond)
  generalize hth : bits .and .i64 (T.pres x.obj) x.cond = th at hbd
  have HTH := hide hth
  clear hth
  go_enter Try.func11, Try.ntmps11
  go_wp2_with (go_at_call 34; refine (number_ok _ _).mono ?_; rintro e w1 ⟨rfl, rfl⟩)
  refine wp_region_text 11 [] [] [] (fun _ => True) (by kernel_rfl) (by kernel_rfl) trivial ?_
  simp only [List.take_succ_cons, List.take_zero, List.drop_succ_cons, List.drop_zero]
  repeat (first | ((refine wpText_h rfl rfl ?_; apply Exists.intro; refine ⟨?_, ?_⟩; next => (go_simp; (try (go_bits; go_simp)); (first | done | with_reducible rfl | (rw [if_neg (by omega)]; (try (go_bits; go_simp)); (first | done | with_reducible rfl)) | (rw [if_pos (by omega)]; (try (go_bits; go_simp)); (first | done | with_reducible rfl))))); (try simp only [Act.put, List.setIfInBounds_toArray, List.set_cons_zero, List.set_cons_succ])) | ((refine wpText_p rfl rfl ?_; apply Exists.intro; refine ⟨?_, ?_⟩; next => (intro w'; go_simp; (try (go_bits; go_simp)); (first | done | with_reducible rfl | (rw [if_neg (by omega)]; (try (go_bits; go_simp)); (first | done | with_reducible rfl)) | (rw [if_pos (by omega)]; (try (go_bits; go_simp)); (first | done | with_reducible rfl))))); (try simp only [Act.put, List.setIfInBounds_toArray, List.set_cons_zero, List.set_cons_succ])) | ((refine wpText_y rfl rfl ?_; apply Exists.intro; refine ⟨?_, ?_⟩; next => (intro w' hS; (first | obtain ⟨_, rfl⟩ := hS | skip); go_simp; (try (go_bits; go_simp)); (first | done | with_reducible rfl | (rw [if_neg (by omega)]; (try (go_bits; go_simp)); (first | done | with_reducible rfl)) | (rw [if_pos (by omega)]; (try (go_bits; go_simp)); (first | done | with_reducible rfl))))); (try simp only [Act.put, List.setIfInBounds_toArray, List.set_cons_zero, List.set_cons_succ])) | (refine wpText_skip (by first | exact .inl rfl | exact .inr (.inl rfl) | exact .inr (.inr rfl)) rfl ?_; (try simp only [Act.put, List.setIfInBounds_toArray, List.set_cons_zero, List.set_cons_succ])))
  refine wpText_nil ?_
  rw [HTH.out]
  clear hlk hlk2
  go_wp2
  refine NoX.normal ?_
  by_cases d1 : th = 0
  · subst d1
    by_cases d2 : 200 ≤ T.arms.length
    · have hR : Hid (T.arm x = ((0, 0, 18), T)) := hide (by unfold Tab.arm; rw [if_neg (by rw [HE.out]; decide), if_neg (by intro h; exact h.1 (by show bits .and .i64 _ _ = 0; rw [HTH.out])), if_pos d2])
      go_wp2
      go_ret3
      rw [hR.out]; exact ⟨rfl, (TI.out.alloc _).drewN (n := 1), HO.out.trans (.of_nil ((Only.refl [] _).drew))⟩
    · have hR : Hid (T.arm x = ((T.last + 1, 0, 0), { T with last := T.last + 1, arms := T.arms ++ [{ x with id := T.last + 1 }] })) := hide (by unfold Tab.arm; rw [if_neg (by rw [HE.out]; decide), if_neg (by intro h; exact h.1 (by show bits .and .i64 _ _ = 0; rw [HTH.out])), if_neg d2]; rw [show band (T.pres x.obj) x.cond = 0 from HTH.out])
      go_wp2
      have hme := K.out.me.set 4 (I64 (T.last + 1))
      have hnm := K.out.map.ne K.out.me
      have hna := own_ne_blk K.out.arms K.out.me (by decide)
      have hnw := own_ne_blk K.out.wts K.out.me (by decide)
      have hset : Only [q] w (w.setCell ⟨q, 4, none⟩ (I64 (T.last + 1))) := (Only.refl [q] w).set (.inl (by simp)) _
      have H1 : TabAt base q b m { T with last := T.last + 1 } (.slice A T.arms.length c) vw (w.setCell ⟨q, 4, none⟩ (I64 (T.last + 1))) :=
        ⟨hme, K.out.map.set hnm _, own_setCell K.out.arms hna _, own_setCell K.out.wts hnw _, fun y hy => own_setCell (K.out.ins y hy) (own_ne_blk (K.out.ins y hy) K.out.me (by decide)) _, K.out.baseq, K.out.baseb⟩
      have hO1 : OnlyT tabTs base w (w.setCell ⟨q, 4, none⟩ (I64 (T.last + 1))) := .of_only hset (by
        intro k hk _
        obtain rfl : k = q := by simpa using hk
        exact ⟨K.out.baseq, K.out.me.hasT (by simp)⟩)
      have hnew : Blk ((w.setCell ⟨q, 4, none⟩ (I64 (T.last + 1))).alloc (Obj.cells #[I64 x.obj, I64 x.cond, I64 x.kind, I64 x.conn, I64 x.prio, I64 x.code, I64 x.val, .bool x.keep] 32)).drew w.heap.size 32 [I64 x.obj, I64 x.cond, I64 x.kind, I64 x.conn, I64 x.prio, I64 x.code, I64 x.val, .bool x.keep] :=
        (Blk.newA (c := #[I64 x.obj, I64 x.cond, I64 x.kind, I64 x.conn, I64 x.prio, I64 x.code, I64 x.val, .bool x.keep]) (by simp [World.setCell])).drew
      have hOn := ((Only.refl [] (w.setCell ⟨q, 4, none⟩ (I64 (T.last + 1)))).alloc (Obj.cells #[I64 x.obj, I64 x.cond, I64 x.kind, I64 x.conn, I64 x.prio, I64 x.code, I64 x.val, .bool x.keep] 32)).drew
      revert hnew hOn
      generalize ((w.setCell ⟨q, 4, none⟩ (I64 (T.last + 1))).alloc (Obj.cells #[I64 x.obj, I64 x.cond, I64 x.kind, I64 x.conn, I64 x.prio, I64 x.code, I64 x.val, .bool x.keep] 32)).drew = W
      intro hnew hOn
      obtain ⟨va', vw', H2⟩ := (show TabIs base q b m { T with last := T.last + 1 } (w.setCell ⟨q, 4, none⟩ (I64 (T.last + 1))) from ⟨_, _, H1⟩).only hOn
      have H2' : TabAt base q b m { T with last := T.last + 1 } (.slice A T.arms.length c) vw W := ⟨hOn.blk hme (by simp), H1.map.only hOn, own_nil H1.arms hOn, own_nil H1.wts hOn, fun y hy => own_nil (H1.ins y hy) hOn, H1.baseq, H1.baseb⟩
      have HN := hide hnew
      have HT := hide H2'
      have HO2 := hide (hO1.trans (.of_nil hOn))
      have c1' := H2'.me.cell (i := 1) rfl
      have c2' := H2'.me.cell (i := 2) rfl
      have c4' := H2'.me.cell (i := 4) rfl
      clear hme hnm hna hnw hset H1 hO1 hnew hOn H2 H2' c1 c2 c4 f4 HO TI
      refine wp_region_text 9 [] [] [] (fun _ => True) (by kernel_rfl) (by kernel_rfl) trivial ?_
      simp only [List.take_succ_cons, List.take_zero, List.drop_succ_cons, List.drop_zero]
      repeat (first | ((refine wpText_h rfl rfl ?_; apply Exists.intro; refine ⟨?_, ?_⟩; next => (go_simp; (try (go_bits; go_simp)); (first | done | with_reducible rfl | (rw [if_neg (by omega)]; (try (go_bits; go_simp)); (first | done | with_reducible rfl)) | (rw [if_pos (by omega)]; (try (go_bits; go_simp)); (first | done | with_reducible rfl))))); (try simp only [Act.put, List.setIfInBounds_toArray, List.set_cons_zero, List.set_cons_succ])) | ((refine wpText_p rfl rfl ?_; apply Exists.intro; refine ⟨?_, ?_⟩; next => (intro w'; go_simp; (try (go_bits; go_simp)); (first | done | with_reducible rfl | (rw [if_neg (by omega)]; (try (go_bits; go_simp)); (first | done | with_reducible rfl)) | (rw [if_pos (by omega)]; (try (go_bits; go_simp)); (first | done | with_reducible rfl))))); (try simp only [Act.put, List.setIfInBounds_toArray, List.set_cons_zero, List.set_cons_succ])) | ((refine wpText_y rfl rfl ?_; apply Exists.intro; refine ⟨?_, ?_⟩; next => (intro w' hS; (first | obtain ⟨_, rfl⟩ := hS | skip); go_simp; (try (go_bits; go_simp)); (first | done | with_reducible rfl | (rw [if_neg (by omega)]; (try (go_bits; go_simp)); (first | done | with_reducible rfl)) | (rw [if_pos (by omega)]; (try (go_bits; go_simp)); (first | done | with_reducible rfl))))); (try simp only [Act.put, List.setIfInBounds_toArray, List.set_cons_zero, List.set_cons_succ])) | (refine wpText_skip (by first | exact .inl rfl | exact .inr (.inl rfl) | exact .inr (.inr rfl)) rfl ?_; (try simp only [Act.put, List.setIfInBounds_toArray, List.set_cons_zero, List.set_cons_succ])))
      refine wpText_h rfl rfl ⟨armV x, ?_, ?_⟩
      · exact exec_load_cells 32 (.tmp 3) rfl w.heap.size 0 rfl [I64 x.obj, I64 x.cond, I64 x.kind, I64 x.conn, I64 x.prio, I64 x.code, I64 x.val, .bool x.keep] (d := _) (fun j v hv => by rw [Nat.zero_add]; exact HN.out.drew.cell hv) Try.underlying32 rfl (by kernel_rfl)
      try simp only [Act.put, List.setIfInBounds_toArray, List.set_cons_zero, List.set_cons_succ]
      repeat (first | ((refine wpText_h rfl rfl ?_; apply Exists.intro; refine ⟨?_, ?_⟩; next => (go_simp; (try (go_bits; go_simp)); (first | done | with_reducible rfl | (rw [if_neg (by omega)]; (try (go_bits; go_simp)); (first | done | with_reducible rfl)) | (rw [if_pos (by omega)]; (try (go_bits; go_simp)); (first | done | with_reducible rfl))))); (try simp only [Act.put, List.setIfInBounds_toArray, List.set_cons_zero, List.set_cons_succ])) | ((refine wpText_p rfl rfl ?_; apply Exists.intro; refine ⟨?_, ?_⟩; next => (intro w'; go_simp; (try (go_bits; go_simp)); (first | done | with_reducible rfl | (rw [if_neg (by omega)]; (try (go_bits; go_simp)); (first | done | with_reducible rfl)) | (rw [if_pos (by omega)]; (try (go_bits; go_simp)); (first | done | with_reducible rfl))))); (try simp only [Act.put, List.setIfInBounds_toArray, List.set_cons_zero, List.set_cons_succ])) | ((refine wpText_y rfl rfl ?_; apply Exists.intro; refine ⟨?_, ?_⟩; next => (intro w' hS; (first | obtain ⟨_, rfl⟩ := hS | skip); go_simp; (try (go_bits; go_simp)); (first | done | with_reducible rfl | (rw [if_neg (by omega)]; (try (go_bits; go_simp)); (first | done | with_reducible rfl)) | (rw [if_pos (by omega)]; (try (go_bits; go_simp)); (first | done | with_reducible rfl))))); (try simp only [Act.put, List.setIfInBounds_toArray, List.set_cons_zero, List.set_cons_succ])) | (refine wpText_skip (by first | exact .inl rfl | exact .inr (.inl rfl) | exact .inr (.inr rfl)) rfl ?_; (try simp only [Act.put, List.setIfInBounds_toArray, List.set_cons_zero, List.set_cons_succ])))
      refine wpText_nil ?_
      go_wp2_with (go_at_call 35; refine (addarmed_ok base q 2 T.arms.length { x with id := T.last + 1 } T.arms (.slice A T.arms.length c) _ W.drew (Nat.le_trans hbw HO2.out.size) HT.out.baseq HT.out.me.drew rfl HT.out.arms.drew rfl (by omega)).mono ?_; rintro e w1 ⟨rfl, v', k1, k2, k3⟩)
      have g4 := k1.cell (i := 4) rfl
      have HK : Hid (TabIs base q b m { T with last := T.last + 1, arms := T.arms ++ [{ x with id := T.last + 1 }] } w1 ∧ OnlyT tabTs base w w1) := hide (by
        refine ⟨⟨v', vw, k1, (show PMap W.drew b m T.pres from HT.out.map).onlyT k3, ?_, k3.own (show W.drew.ownsRow base 91 3 vw T.wts.length (T.wts.flatMap encwaiter) from HT.out.wts) (by decide), fun y hy => k3.own (show W.drew.ownsRow base 64 2 y.l y.ins.length (y.ins.flatMap encI) from HT.out.ins y hy) (by decide), HT.out.baseq, HT.out.baseb⟩, ?_⟩
        · have : T.arms.length + 1 = (T.arms ++ [{ x with id := T.last + 1 }]).length := by simp
          show w1.ownsRow base _ 9 v' (T.arms ++ [{ x with id := T.last + 1 }]).length ((T.arms ++ [{ x with id := T.last + 1 }]).flatMap encarmed)
          rw [← this, List.flatMap_append]
          simpa using k2
        · exact (HO2.out.trans (.of_nil ((Only.refl [] W).drew))).trans (k3.mono (by intro t ht; simp at ht ⊢; rcases ht with rfl | rfl <;> simp)))
      clear k1 k2 k3
      go_wp2
      refine NoX.normal ?_
      go_wp2
      go_ret3
      rw [hR.out]
      exact ⟨rfl, HK.out.1, HK.out.2⟩

  · by_cases d3 : x.keep = false
    · have hR : Hid (T.arm x = ((0, th, 0), T)) := hide (by unfold Tab.arm; rw [if_neg (by rw [HE.out]; decide), if_pos ⟨by show ¬ bits .and .i64 _ _ = 0; rw [HTH.out]; exact d1, d3⟩]; rw [show band (T.pres x.obj) x.cond = th from HTH.out])
      go_wp2
      go_ret3
      rw [hR.out]; exact ⟨rfl, (TI.out.alloc _).drewN (n := 1), .of_nil (((Only.refl [] w).alloc _).drew)⟩
    · have D3 := hide d3
      have d3' : (!x.keep) = false := by simpa using d3
      clear d3
      have hR : Hid (T.arm x = ((T.last + 1, th, 0), { T with last := T.last + 1, arms := T.arms ++ [{ x with id := T.last + 1 }] }) ∨ 200 ≤ T.arms.length) := hide (by
        by_cases d2 : 200 ≤ T.arms.length
        · exact .inr d2
        · left; unfold Tab.arm; rw [if_neg (by rw [HE.out]; decide), if_neg (by have := D3.out; simp [this]), if_neg d2]; rw [show band (T.pres x.obj) x.cond = th from HTH.out])
      by_cases d2 : 200 ≤ T.arms.length
      · clear hR
        have hR : Hid (T.arm x = ((0, 0, 18), T)) := hide (by unfold Tab.arm; rw [if_neg (by rw [HE.out]; decide), if_neg (by have := D3.out; simp [this]), if_pos d2])
        go_wp2
        go_ret3
        rw [hR.out]; exact ⟨rfl, (TI.out.alloc _).drewN (n := 1), .of_nil (((Only.refl [] w).alloc _).drew)⟩
      replace hR := hide (hR.out.resolve_right d2)
      go_wp2
      have hme := K.out.me.set 4 (I64 (T.last + 1))
      have hnm := K.out.map.ne K.out.me
      have hna := own_ne_blk K.out.arms K.out.me (by decide)
      have hnw := own_ne_blk K.out.wts K.out.me (by decide)
      have hset : Only [q] w (w.setCell ⟨q, 4, none⟩ (I64 (T.last + 1))) := (Only.refl [q] w).set (.inl (by simp)) _
      have H1 : TabAt base q b m { T with last := T.last + 1 } (.slice A T.arms.length c) vw (w.setCell ⟨q, 4, none⟩ (I64 (T.last + 1))) :=
        ⟨hme, K.out.map.set hnm _, own_setCell K.out.arms hna _, own_setCell K.out.wts hnw _, fun y hy => own_setCell (K.out.ins y hy) (own_ne_blk (K.out.ins y hy) K.out.me (by decide)) _, K.out.baseq, K.out.baseb⟩
      have hO1 : OnlyT tabTs base w (w.setCell ⟨q, 4, none⟩ (I64 (T.last + 1))) := .of_only hset (by
        intro k hk _
        obtain rfl : k = q := by simpa using hk
        exact ⟨K.out.baseq, K.out.me.hasT (by simp)⟩)
      have hnew : Blk ((w.setCell ⟨q, 4, none⟩ (I64 (T.last + 1))).alloc (Obj.cells #[I64 x.obj, I64 x.cond, I64 x.kind, I64 x.conn, I64 x.prio, I64 x.code, I64 x.val, .bool x.keep] 32)).drew w.heap.size 32 [I64 x.obj, I64 x.cond, I64 x.kind, I64 x.conn, I64 x.prio, I64 x.code, I64 x.val, .bool x.keep] :=
        (Blk.newA (c := #[I64 x.obj, I64 x.cond, I64 x.kind, I64 x.conn, I64 x.prio, I64 x.code, I64 x.val, .bool x.keep]) (by simp [World.setCell])).drew
      have hOn := ((Only.refl [] (w.setCell ⟨q, 4, none⟩ (I64 (T.last + 1)))).alloc (Obj.cells #[I64 x.obj, I64 x.cond, I64 x.kind, I64 x.conn, I64 x.prio, I64 x.code, I64 x.val, .bool x.keep] 32)).drew
      revert hnew hOn
      generalize ((w.setCell ⟨q, 4, none⟩ (I64 (T.last + 1))).alloc (Obj.cells #[I64 x.obj, I64 x.cond, I64 x.kind, I64 x.conn, I64 x.prio, I64 x.code, I64 x.val, .bool x.keep] 32)).drew = W
      intro hnew hOn
      obtain ⟨va', vw', H2⟩ := (show TabIs base q b m { T with last := T.last + 1 } (w.setCell ⟨q, 4, none⟩ (I64 (T.last + 1))) from ⟨_, _, H1⟩).only hOn
      have H2' : TabAt base q b m { T with last := T.last + 1 } (.slice A T.arms.length c) vw W := ⟨hOn.blk hme (by simp), H1.map.only hOn, own_nil H1.arms hOn, own_nil H1.wts hOn, fun y hy => own_nil (H1.ins y hy) hOn, H1.baseq, H1.baseb⟩
      have HN := hide hnew
      have HT := hide H2'
      have HO2 := hide (hO1.trans (.of_nil hOn))
      have c1' := H2'.me.cell (i := 1) rfl
      have c2' := H2'.me.cell (i := 2) rfl
      have c4' := H2'.me.cell (i := 4) rfl
      clear hme hnm hna hnw hset H1 hO1 hnew hOn H2 H2' c1 c2 c4 f4 HO TI
      refine wp_region_text 9 [] [] [] (fun _ => True) (by kernel_rfl) (by kernel_rfl) trivial ?_
      simp only [List.take_succ_cons, List.take_zero, List.drop_succ_cons, List.drop_zero]
      repeat (first | ((refine wpText_h rfl rfl ?_; apply Exists.intro; refine ⟨?_, ?_⟩; next => (go_simp; (try (go_bits; go_simp)); (first | done | with_reducible rfl | (rw [if_neg (by omega)]; (try (go_bits; go_simp)); (first | done | with_reducible rfl)) | (rw [if_pos (by omega)]; (try (go_bits; go_simp)); (first | done | with_reducible rfl))))); (try simp only [Act.put, List.setIfInBounds_toArray, List.set_cons_zero, List.set_cons_succ])) | ((refine wpText_p rfl rfl ?_; apply Exists.intro; refine ⟨?_, ?_⟩; next => (intro w'; go_simp; (try (go_bits; go_simp)); (first | done | with_reducible rfl | (rw [if_neg (by omega)]; (try (go_bits; go_simp)); (first | done | with_reducible rfl)) | (rw [if_pos (by omega)]; (try (go_bits; go_simp)); (first | done | with_reducible rfl))))); (try simp only [Act.put, List.setIfInBounds_toArray, List.set_cons_zero, List.set_cons_succ])) | ((refine wpText_y rfl rfl ?_; apply Exists.intro; refine ⟨?_, ?_⟩; next => (intro w' hS; (first | obtain ⟨_, rfl⟩ := hS | skip); go_simp; (try (go_bits; go_simp)); (first | done | with_reducible rfl | (rw [if_neg (by omega)]; (try (go_bits; go_simp)); (first | done | with_reducible rfl)) | (rw [if_pos (by omega)]; (try (go_bits; go_simp)); (first | done | with_reducible rfl))))); (try simp only [Act.put, List.setIfInBounds_toArray, List.set_cons_zero, List.set_cons_succ])) | (refine wpText_skip (by first | exact .inl rfl | exact .inr (.inl rfl) | exact .inr (.inr rfl)) rfl ?_; (try simp only [Act.put, List.setIfInBounds_toArray, List.set_cons_zero, List.set_cons_succ])))
      refine wpText_h rfl rfl ⟨armV x, ?_, ?_⟩
      · exact exec_load_cells 32 (.tmp 3) rfl w.heap.size 0 rfl [I64 x.obj, I64 x.cond, I64 x.kind, I64 x.conn, I64 x.prio, I64 x.code, I64 x.val, .bool x.keep] (d := _) (fun j v hv => by rw [Nat.zero_add]; exact HN.out.drew.cell hv) Try.underlying32 rfl (by kernel_rfl)
      try simp only [Act.put, List.setIfInBounds_toArray, List.set_cons_zero, List.set_cons_succ]
      repeat (first | ((refine wpText_h rfl rfl ?_; apply Exists.intro; refine ⟨?_, ?_⟩; next => (go_simp; (try (go_bits; go_simp)); (first | done | with_reducible rfl | (rw [if_neg (by omega)]; (try (go_bits; go_simp)); (first | done | with_reducible rfl)) | (rw [if_pos (by omega)]; (try (go_bits; go_simp)); (first | done | with_reducible rfl))))); (try simp only [Act.put, List.setIfInBounds_toArray, List.set_cons_zero, List.set_cons_succ])) | ((refine wpText_p rfl rfl ?_; apply Exists.intro; refine ⟨?_, ?_⟩; next => (intro w'; go_simp; (try (go_bits; go_simp)); (first | done | with_reducible rfl | (rw [if_neg (by omega)]; (try (go_bits; go_simp)); (first | done | with_reducible rfl)) | (rw [if_pos (by omega)]; (try (go_bits; go_simp)); (first | done | with_reducible rfl))))); (try simp only [Act.put, List.setIfInBounds_toArray, List.set_cons_zero, List.set_cons_succ])) | ((refine wpText_y rfl rfl ?_; apply Exists.intro; refine ⟨?_, ?_⟩; next => (intro w' hS; (first | obtain ⟨_, rfl⟩ := hS | skip); go_simp; (try (go_bits; go_simp)); (first | done | with_reducible rfl | (rw [if_neg (by omega)]; (try (go_bits; go_simp)); (first | done | with_reducible rfl)) | (rw [if_pos (by omega)]; (try (go_bits; go_simp)); (first | done | with_reducible rfl))))); (try simp only [Act.put, List.setIfInBounds_toArray, List.set_cons_zero, List.set_cons_succ])) | (refine wpText_skip (by first | exact .inl rfl | exact .inr (.inl rfl) | exact .inr (.inr rfl)) rfl ?_; (try simp only [Act.put, List.setIfInBounds_toArray, List.set_cons_zero, List.set_cons_succ])))
      refine wpText_nil ?_
      go_wp2_with (go_at_call 35; refine (addarmed_ok base q 2 T.arms.length { x with id := T.last + 1 } T.arms (.slice A T.arms.length c) _ W.drew (Nat.le_trans hbw HO2.out.size) HT.out.baseq HT.out.me.drew rfl HT.out.arms.drew rfl (by omega)).mono ?_; rintro e w1 ⟨rfl, v', k1, k2, k3⟩)
      have g4 := k1.cell (i := 4) rfl
      have HK : Hid (TabIs base q b m { T with last := T.last + 1, arms := T.arms ++ [{ x with id := T.last + 1 }] } w1 ∧ OnlyT tabTs base w w1) := hide (by
        refine ⟨⟨v', vw, k1, (show PMap W.drew b m T.pres from HT.out.map).onlyT k3, ?_, k3.own (show W.drew.ownsRow base 91 3 vw T.wts.length (T.wts.flatMap encwaiter) from HT.out.wts) (by decide), fun y hy => k3.own (show W.drew.ownsRow base 64 2 y.l y.ins.length (y.ins.flatMap encI) from HT.out.ins y hy) (by decide), HT.out.baseq, HT.out.baseb⟩, ?_⟩
        · have : T.arms.length + 1 = (T.arms ++ [{ x with id := T.last + 1 }]).length := by simp
          show w1.ownsRow base _ 9 v' (T.arms ++ [{ x with id := T.last + 1 }]).length ((T.arms ++ [{ x with id := T.last + 1 }]).flatMap encarmed)
          rw [← this, List.flatMap_append]
          simpa using k2
        · exact (HO2.out.trans (.of_nil ((Only.refl [] W).drew))).trans (k3.mono (by intro t ht; simp at ht ⊢; rcases ht with rfl | rfl <;> simp)))
      clear k1 k2 k3
      go_wp2
      refine NoX.normal ?_
      go_wp2
      go_ret3
      rw [hR.out]
      exact ⟨rfl, HK.out.1, HK.out.2⟩


end Go.Proofs.Ytacnmlifmjflfaa
