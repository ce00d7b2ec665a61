/- The reference's entry, where there are too many: the oldest is dropped. -/
import Derived.Test.YtlnejlhdkmneeaaResF
import Derived.Test.YtlnejlhdkmneeaaManyA
import Derived.Test.YtlnejlhdkmneeaaSched
import Derived.Deep.DeepCutAuto
import Derived.Deep.CutBlock
namespace Go.Proofs.Ytlnejlhdkmneeaa
open Go.RowKit

theorem off_base {w : World} {base b0 : Nat} {e : TypeId} {size n : Nat} {v : Value} {xs : List Value} (h : offRow w base e size v n xs) (hb : b0 ≤ base) : offRow w b0 e size v n xs := by
  refine ⟨h.1, ?_⟩
  rcases h.2 with h2 | ⟨g, o, cap, cs, h1, h2, h3⟩
  · exact .inl h2
  · exact .inr ⟨g, o, cap, cs, h1, by omega, h3⟩
theorem off_take {w : World} {base n c i size : Nat} {e : TypeId} {A : Option Addr} {xs : List Value} (h : offRow w base e size (.slice A n c) n xs) (hi : i ≤ n) : offRow w base e size (.slice A i c) i (xs.take (i * size)) := by
  have hx := h.1
  have hle := Nat.mul_le_mul_right size hi
  refine ⟨by rw [List.length_take]; omega, ?_⟩
  rcases h.2 with ⟨h1, h2⟩ | ⟨g, o, cap, cs, h1, hb, hB, hn, hm, hl, ht⟩
  · injection h1 with e1 e2 e3
    subst e1 e3
    obtain rfl : i = 0 := by omega
    exact .inl ⟨rfl, rfl⟩
  · injection h1 with e1 e2 e3
    subst e1 e3
    refine .inr ⟨g, o, _, cs, rfl, hb, hB, by omega, hm, hl, ?_⟩
    rw [← ht, List.take_take, Nat.min_eq_left hle]
theorem off_drop {w : World} {base n c k size g o : Nat} {e : TypeId} {xs : List Value} (h : offRow w base e size (.slice (some ⟨g, o, none⟩) n c) n xs) (hk : k ≤ n) : offRow w base e size (.slice (some ⟨g, o + k * size, none⟩) (n - k) (c - k)) (n - k) (xs.drop (k * size)) := by
  have hx := h.1
  refine ⟨by rw [List.length_drop, hx, Nat.sub_mul], ?_⟩
  rcases h.2 with ⟨h1, h2⟩ | ⟨g', o', cap, cs, h1, hb, hB, hn, hm, hl, ht⟩
  · cases h1
  · injection h1 with e1 e2 e3
    injection e1 with e1
    injection e1 with e1 e4
    subst e1 e3 e4
    refine .inr ⟨_, _, _, cs, rfl, hb, hB, by omega, by omega, ?_, ?_⟩
    · have := Nat.sub_mul c k size
      have := Nat.mul_le_mul_right size (Nat.le_trans hk hn)
      omega
    · rw [← ht, List.drop_take, List.drop_drop, Nat.sub_mul]
theorem off_zero {w : World} {base n c size g o : Nat} {e : TypeId} {xs : List Value} (h : offRow w base e size (.slice (some ⟨g, o, none⟩) n c) n xs) : offRow w base e size (.slice (some ⟨g, o, none⟩) 0 0) 0 [] := by
  refine ⟨by simp, ?_⟩
  rcases h.2 with ⟨h1, h2⟩ | ⟨g', o', cap, cs, h1, hb, hB, hn, hm, hl, ht⟩
  · cases h1
  · injection h1 with e1 e2 e3
    injection e1 with e1
    injection e1 with e1 e4
    subst e1 e3 e4
    exact .inr ⟨_, _, 0, cs, rfl, hb, hB, by omega, by omega, by omega, by simp⟩
theorem rcl_take (zs : List (Ent × Value)) : ∀ i, (zs.flatMap rcl).take (i * 5) = (zs.take i).flatMap rcl := by
  induction zs with
  | nil => intro i; simp
  | cons z r ih =>
    intro i
    cases i with
    | zero => simp
    | succ i =>
      rw [List.flatMap_cons, List.take_succ_cons, List.flatMap_cons, ← ih i, show (i + 1) * 5 = 5 + i * 5 by omega, List.take_append, rcl_len, List.take_of_length_le (by rw [rcl_len]; omega), show 5 + i * 5 - 5 = i * 5 by omega]
theorem rcl_drop (zs : List (Ent × Value)) : ∀ i, (zs.flatMap rcl).drop (i * 5) = (zs.drop i).flatMap rcl := by
  induction zs with
  | nil => intro i; simp
  | cons z r ih =>
    intro i
    cases i with
    | zero => simp
    | succ i =>
      rw [List.flatMap_cons, List.drop_succ_cons, ← ih i, show (i + 1) * 5 = 5 + i * 5 by omega, List.drop_append, rcl_len, List.drop_of_length_le (by rw [rcl_len]; omega), show 5 + i * 5 - 5 = i * 5 by omega, List.nil_append]
theorem rcl_one (zs : List (Ent × Value)) (h : ∀ z ∈ zs, z.2.oneCell' = true) : ∀ u ∈ zs.flatMap rcl, u.oneCell' = true := by
  intro u hu
  obtain ⟨q, hq1, hq⟩ := List.mem_flatMap.1 hu
  simp only [rcl, List.mem_cons, List.not_mem_nil, or_false] at hq
  rcases hq with rfl | rfl | rfl | rfl | rfl
  · rfl
  · rfl
  · rfl
  · exact h _ hq1
  · rfl
theorem off_one {w : World} {base n size : Nat} {e : TypeId} {v : Value} {xs : List Value} (h : offRow w base e size v n xs) : v.oneCell' = true := by
  obtain ⟨A, c, rfl⟩ := off_shape h; rfl

abbrev rcv (x : Ent) (v : Value) : Value := .agg #[.int .u32 x.a, .int .u64 x.hw, I64 x.ex, v, I64 x.si]
set_option maxHeartbeats 1000000 in
theorem rage_ok (x : Ent) (base : Nat) (v : Value) (xs : List Value) (w : World) (h : offRow w base rpktT 8 v x.wt.length xs) :
    Calls Try.prog 106 #[rcv x v] w fun e w' => e = .returned (I64 (age x)) ∧ Only [] w w' := by
  obtain ⟨n, hn⟩ : ∃ n, n = x.wt.length := ⟨_, rfl⟩
  rw [← hn] at h
  obtain ⟨A, c, rfl⟩ := off_shape h
  have HO := hide (show Only [] w (w.alloc (.cells #[.int .u32 x.a, .int .u64 x.hw, I64 x.ex, .slice A n c, I64 x.si] rentT)) from (Only.refl [] w).alloc _)
  by_cases h0 : 0 < n
  · have hR : Hid (age x = x.si) := hide (by unfold age; rw [if_neg]; rw [List.isEmpty_iff]; rintro h1; rw [h1] at hn; simp at hn; omega)
    clear h hn
    go_enter Try.func106, Try.ntmps106
    go_wp2
    go_ret
    rw [hR.out]; exact ⟨rfl, HO.out⟩
  · have hR : Hid (age x = x.ex) := hide (by unfold age; rw [if_pos]; rw [List.isEmpty_iff]; exact List.eq_nil_of_length_eq_zero (by omega))
    clear h hn
    go_enter Try.func106, Try.ntmps106
    go_wp2
    go_ret
    rw [hR.out]; exact ⟨rfl, HO.out⟩

theorem wp_store_cells {P : Program} {o : Oper} {a : Act} {w : World} {K : Act → World → Prop} {Q : Exit → Act → World → Prop} (ty : TypeId) (x y : Operand) (ho : o.op = .store ty x y)
    (b off : Nat) (hx : a.eval x = .pointer (some ⟨b, off, none⟩)) (vs : List Value) (hy : a.eval y = .agg vs.toArray) (t : TypeId) (cs : List Value) (hb : Blk w b t cs) (hl : off + vs.length ≤ cs.length)
    (hi : (P.info? ty).map (·.size) = some vs.length) (h1 : ∀ v ∈ vs, v.oneCell' = true)
    (h : ∀ w', StoredCells w b off t cs vs w' → K (a.put o.dst undef) w') : o.wp P a w K Q := by
  obtain ⟨w', hr, hs⟩ := run_storeVar_cells w b off ty t cs vs hb hl hi h1
  unfold Oper.wp execOp
  simp only [ho, hx, hy, Instr.storeAt, Instr.sureAddr, Sem.run_bind, Sem.run_pure, Result.andThen_ok, hr]
  exact h w' hs

def TwoBox (X Y : List Value) (w : World) (s8 s9 : Value) (wx : World) : Prop :=
  ∃ bx by', s8 = .pointer (some ⟨bx, 0, none⟩) ∧ s9 = .pointer (some ⟨by', 0, none⟩) ∧ Blk wx bx rentT X ∧ Blk wx by' rentT Y ∧ Only [] w wx

def EvS (y : Nat) (life clock : Int) (zs : List (Ent × Value)) (od : Nat) (w wx : World) : Prop :=
  ∃ v4, Blk wx y rresT [I64 life, v4, I64 clock] ∧ offRow wx w.heap.size rentT 5 v4 199 ((zs.eraseIdx od).flatMap rcl) ∧ Only [y] w wx

set_option maxRecDepth 100000 in
set_option maxHeartbeats 16000000 in
theorem rentry_full (base y : Nat) (life clock a : Int) (l : List Ent) (zs : List (Ent × Value)) (va : Value) (w : World) (hn : l.length = 200) (h : RResAt base y life clock l zs va w) (hbw : base ≤ w.heap.size)
    (hg : getE l a = none) :
    Calls Try.prog 86 #[.pointer (some ⟨y, 0, none⟩), .int .u32 a] w fun e w' => REntryS base y life clock a l va w e w' := by
  have hr := h.row
  rw [hn] at hr
  obtain ⟨A, c, rfl⟩ := off_shape hr
  have b0 := h.me.cell (i := 1) rfl
  have ltb := h.me.lt
  have HN := hide hn
  have H := hide h
  have HRW := hide hr
  have HBW := hide hbw
  have HG := hide hg
  clear hn hr h hbw hg
  go_enter Try.func86, Try.ntmps86
  go_wp2
  go_loopw [5] (fun i wr => ∃ k : Nat, k ≤ 200 ∧ i = .int .i64 k ∧ wr = w) (fun i _ => 200 - (Go.RowKit.intOf i).toNat)
  case atStart => exact ⟨0, Nat.zero_le _, rfl, rfl⟩
  case round =>
    obtain ⟨k, hk, rfl, rfl⟩ := hrel
    rcases Nat.lt_or_ge k 200 with hlt | hge
    · obtain ⟨x, hx⟩ : ∃ x, l[k]? = some x := ⟨_, List.getElem?_eq_getElem (by rw [HN.out]; exact hlt)⟩
      obtain ⟨v, hz⟩ := H.out.get hx
      obtain ⟨g, o, rfl, hc⟩ := H.out.cells rfl hz
      have y0 := hc 0 _ rfl
      rw [Nat.add_zero] at y0
      have h1' : (x.a == a) = false := by simpa using getE_none HG.out x (List.mem_of_getElem? hx)
      clear hx hz hc
      go_wp2
      go_roundw
      case rel => exact ⟨k + 1, by omega, by go_num, trivial⟩
      case measure => simp [Go.RowKit.intOf]; omega
    · obtain rfl : k = 200 := by omega
      rw [show ((200 : Nat) : Int) = (200 : Int) from rfl]
      go_wp2
      go_loopw [6, 7] (fun oo ii w2 => ∃ k : Nat, k < 200 ∧ ii = .int .i64 (k + 1 : Nat) ∧ oo = .int .i64 (oldTo l k : Nat) ∧ Hid (Only [] wr w2)) (fun _ ii _ => 200 - (Go.RowKit.intOf ii).toNat)
      case atStart => exact ⟨0, by omega, rfl, rfl, hide (Only.refl _ _)⟩
      case round =>
        obtain ⟨k, hk, rfl, rfl, HW⟩ := hrel
        obtain ⟨z, hok, hz0, -⟩ := oldTo_spec l (by intro hh; have := HN.out; rw [hh] at this; cases this) k (by rw [HN.out]; exact hk)
        obtain ⟨od, hod⟩ : ∃ od, od = oldTo l k := ⟨_, rfl⟩
        rw [← hod] at hok hz0 ⊢
        have HOD := hide hod
        have HW0 := hide (H.out.only HW.out)
        have b2 := HW0.out.me.cell (i := 1) rfl
        have lt2 := HW0.out.me.lt
        clear hod b0 ltb
        rcases Nat.lt_or_ge (k + 1) 200 with hlt | hge2
        · obtain ⟨x, hx⟩ : ∃ x, l[k + 1]? = some x := ⟨_, List.getElem?_eq_getElem (by rw [HN.out]; exact hlt)⟩
          obtain ⟨vx, hzx⟩ := HW0.out.get hx
          obtain ⟨g, o, rfl, hcx⟩ := HW0.out.cells rfl hzx
          obtain ⟨vz, hzz⟩ := HW0.out.get hz0
          obtain ⟨g', o', hgo, hcz⟩ := HW0.out.cells rfl hzz
          injection hgo with hgo
          injection hgo with hg1 ho1
          subst hg1 ho1
          obtain ⟨qx, hqx, -⟩ := HW0.out.wts _ (List.mem_of_getElem? hzx)
          obtain ⟨qz, hqz, -⟩ := HW0.out.wts _ (List.mem_of_getElem? hzz)
          have hv1 := off_one hqx
          have hv2 := off_one hqz
          simp only at hv1 hv2
          have x0 := hcx 0 _ rfl
          rw [Nat.add_zero] at x0
          have x1 := hcx 1 _ rfl
          have x2 := hcx 2 _ rfl
          have x3 := hcx 3 _ rfl
          have x4 := hcx 4 _ rfl
          have z0 := hcz 0 _ rfl
          rw [Nat.add_zero] at z0
          have z1 := hcz 1 _ rfl
          have z2 := hcz 2 _ rfl
          have z3 := hcz 3 _ rfl
          have z4 := hcz 4 _ rfl
          simp only at x0 x1 x2 x3 x4 z0 z1 z2 z3 z4
          have HXZ := hide (show l[k + 1]? = some x ∧ l[od]? = some z ∧ offRow wr base rpktT 8 vx x.wt.length (qx.flatMap Pkt.cells) ∧ offRow wr base rpktT 8 vz z.wt.length (qz.flatMap Pkt.cells) from ⟨hx, hz0, hqx, hqz⟩)
          clear hx hz0 hqx hqz hcx hcz hzx hzz
          obtain ⟨Ax, cx, rfl⟩ := off_shape HXZ.out.2.2.1
          obtain ⟨Az, cz, rfl⟩ := off_shape HXZ.out.2.2.2
          go_wp2
          go_cut [8, 9] (fun s8 s9 wx => TwoBox [.int .u32 x.a, .int .u64 x.hw, I64 x.ex, .slice Ax x.wt.length cx, I64 x.si] [.int .u32 z.a, .int .u64 z.hw, I64 z.ex, .slice Az z.wt.length cz, I64 z.si] wr s8 s9 wx)
          case first =>
            have hxx : ∀ (w' : World), Only [] wr w' → ∀ i v, wr.cell? ⟨g, i, none⟩ = some v → w'.cell? ⟨g, i, none⟩ = some v := fun w' ho i v hv => by
              rw [World.cell?_of_block (w := wr) (ho.block g (World.block_lt_of_cell? _ _ hv) (by simp))]; exact hv
            have HS := hide (show ∀ w' : World, Only [] wr w' → (fun w' => w'.cell? ⟨y, 1, none⟩ = some (.slice (some ⟨g, o, none⟩) 200 c) ∧ w'.cell? ⟨g, o + (k + 1) * 5, none⟩ = some (.int .u32 x.a) ∧ w'.cell? ⟨g, o + (k + 1) * 5 + 1, none⟩ = some (.int .u64 x.hw) ∧ w'.cell? ⟨g, o + (k + 1) * 5 + 2, none⟩ = some (I64 x.ex) ∧ w'.cell? ⟨g, o + (k + 1) * 5 + 3, none⟩ = some (.slice Ax x.wt.length cx) ∧ w'.cell? ⟨g, o + (k + 1) * 5 + 4, none⟩ = some (I64 x.si) ∧ w'.cell? ⟨g, o + od * 5, none⟩ = some (.int .u32 z.a) ∧ w'.cell? ⟨g, o + od * 5 + 1, none⟩ = some (.int .u64 z.hw) ∧ w'.cell? ⟨g, o + od * 5 + 2, none⟩ = some (I64 z.ex) ∧ w'.cell? ⟨g, o + od * 5 + 3, none⟩ = some (.slice Az z.wt.length cz) ∧ w'.cell? ⟨g, o + od * 5 + 4, none⟩ = some (I64 z.si)) w' from fun w' ho => ⟨(ho.blk HW0.out.me (by simp)).cell (i := 1) rfl, hxx w' ho _ _ x0, hxx w' ho _ _ x1, hxx w' ho _ _ x2, hxx w' ho _ _ x3, hxx w' ho _ _ x4, hxx w' ho _ _ z0, hxx w' ho _ _ z1, hxx w' ho _ _ z2, hxx w' ho _ _ z3, hxx w' ho _ _ z4⟩)
            have HO0 := hide (show Only [] wr wr.drew from (Only.refl [] wr).drew)
            clear hxx
            refine wp_region_sch 18 [14, 15, 16, 17] (fun w' => w'.cell? ⟨y, 1, none⟩ = some (.slice (some ⟨g, o, none⟩) 200 c) ∧ w'.cell? ⟨g, o + (k + 1) * 5, none⟩ = some (.int .u32 x.a) ∧ w'.cell? ⟨g, o + (k + 1) * 5 + 1, none⟩ = some (.int .u64 x.hw) ∧ w'.cell? ⟨g, o + (k + 1) * 5 + 2, none⟩ = some (I64 x.ex) ∧ w'.cell? ⟨g, o + (k + 1) * 5 + 3, none⟩ = some (.slice Ax x.wt.length cx) ∧ w'.cell? ⟨g, o + (k + 1) * 5 + 4, none⟩ = some (I64 x.si) ∧ w'.cell? ⟨g, o + od * 5, none⟩ = some (.int .u32 z.a) ∧ w'.cell? ⟨g, o + od * 5 + 1, none⟩ = some (.int .u64 z.hw) ∧ w'.cell? ⟨g, o + od * 5 + 2, none⟩ = some (I64 z.ex) ∧ w'.cell? ⟨g, o + od * 5 + 3, none⟩ = some (.slice Az z.wt.length cz) ∧ w'.cell? ⟨g, o + od * 5 + 4, none⟩ = some (I64 z.si)) (by kernel_rfl) (by kernel_rfl) (HS.out _ HO0.out) ?_
            repeat (first | ((refine sch_y rfl rfl rfl rfl ?_; apply Exists.intro; refine ⟨?_, ?_⟩; next => (intro w' hS; (first | obtain ⟨_, rfl⟩ := hS | skip); go_simp; (try (go_bits; go_simp)); (first | done | with_reducible rfl | (rw [if_neg (by omega)]; (try (go_bits; go_simp)); (first | done | with_reducible rfl)) | (rw [if_pos (by omega)]; (try (go_bits; go_simp)); (first | done | with_reducible rfl))))); (try simp only [Act.put, List.setIfInBounds_toArray, List.set_cons_zero, List.set_cons_succ])) | ((refine sch_skip rfl rfl rfl rfl ?_); (try simp only [Act.put, List.setIfInBounds_toArray, List.set_cons_zero, List.set_cons_succ])))
            refine sch_e2 rfl rfl rfl rfl rfl rfl ?_ ?_
            · refine ⟨rfl, fun K hK => ?_⟩
              go_wp2
              have HX1 := hide (show Blk (wr.drew.alloc (.cells #[.int .u32 0, .int .u64 0, I64 0, .slice none 0 0, I64 0] rentT)) (wr.heap.size) rentT [.int .u32 0, .int .u64 0, I64 0, .slice none 0 0, I64 0] from Blk.newA (by simp))
              have HO1 := hide (Only.trans HO0.out ((Only.refl [] _).alloc _) : Only [] _ (wr.drew.alloc (.cells #[.int .u32 0, .int .u64 0, I64 0, .slice none 0 0, I64 0] rentT)))
              have HL1 := hide (show wr.heap.size ≤ wr.heap.size from by have h := HO0.out.size; (try simp at h ⊢) <;> omega)
              refine hK _ _ (HS.out _ HO1.out) ?_
              clear hK K
              try simp only [Act.put, List.setIfInBounds_toArray, List.set_cons_zero, List.set_cons_succ]
              repeat (first | ((refine sch_y rfl rfl rfl rfl ?_; apply Exists.intro; refine ⟨?_, ?_⟩; next => (intro w' hS; (first | obtain ⟨_, rfl⟩ := hS | skip); go_simp; (try (go_bits; go_simp)); (first | done | with_reducible rfl | (rw [if_neg (by omega)]; (try (go_bits; go_simp)); (first | done | with_reducible rfl)) | (rw [if_pos (by omega)]; (try (go_bits; go_simp)); (first | done | with_reducible rfl))))); (try simp only [Act.put, List.setIfInBounds_toArray, List.set_cons_zero, List.set_cons_succ])) | ((refine sch_skip rfl rfl rfl rfl ?_); (try simp only [Act.put, List.setIfInBounds_toArray, List.set_cons_zero, List.set_cons_succ])))
              refine sch_e1 rfl rfl rfl rfl ?_
              · refine ⟨rfl, fun K hK => ?_⟩
                go_wp2
                have HX2 := hide (show Blk ((wr.drew.alloc (.cells #[.int .u32 0, .int .u64 0, I64 0, .slice none 0 0, I64 0] rentT)).alloc (.cells #[.int .u32 0, .int .u64 0, I64 0, .slice none 0 0, I64 0] rentT)) (wr.heap.size + 1) rentT [.int .u32 0, .int .u64 0, I64 0, .slice none 0 0, I64 0] from Blk.newA (by simp))
                have HO2 := hide (Only.trans HO1.out ((Only.refl [] _).alloc _) : Only [] _ ((wr.drew.alloc (.cells #[.int .u32 0, .int .u64 0, I64 0, .slice none 0 0, I64 0] rentT)).alloc (.cells #[.int .u32 0, .int .u64 0, I64 0, .slice none 0 0, I64 0] rentT)))
                have HL2 := hide (show wr.heap.size ≤ wr.heap.size + 1 from by have h := HO1.out.size; (try simp at h ⊢) <;> omega)
                have HB3 := hide (show Blk ((wr.drew.alloc (.cells #[.int .u32 0, .int .u64 0, I64 0, .slice none 0 0, I64 0] rentT)).alloc (.cells #[.int .u32 0, .int .u64 0, I64 0, .slice none 0 0, I64 0] rentT)) _ _ _ from HX1.out.alloc _)
                refine hK _ _ (HS.out _ HO2.out) ?_
                clear hK K
                try simp only [Act.put, List.setIfInBounds_toArray, List.set_cons_zero, List.set_cons_succ]
                repeat (first | ((refine sch_y rfl rfl rfl rfl ?_; apply Exists.intro; refine ⟨?_, ?_⟩; next => (intro w' hS; (first | obtain ⟨_, rfl⟩ := hS | skip); go_simp; (try (go_bits; go_simp)); (first | done | with_reducible rfl | (rw [if_neg (by omega)]; (try (go_bits; go_simp)); (first | done | with_reducible rfl)) | (rw [if_pos (by omega)]; (try (go_bits; go_simp)); (first | done | with_reducible rfl))))); (try simp only [Act.put, List.setIfInBounds_toArray, List.set_cons_zero, List.set_cons_succ])) | ((refine sch_skip rfl rfl rfl rfl ?_); (try simp only [Act.put, List.setIfInBounds_toArray, List.set_cons_zero, List.set_cons_succ])))
                refine sch_e1 rfl rfl rfl rfl ?_
                · refine ⟨rfl, fun K hK => ?_⟩
                  refine wp_store_cells rentT (.tmp 8) (.tmp 51) rfl (wr.heap.size) 0 rfl [.int .u32 x.a, .int .u64 x.hw, I64 x.ex, .slice Ax x.wt.length cx, I64 x.si] rfl rentT [.int .u32 0, .int .u64 0, I64 0, .slice none 0 0, I64 0] HB3.out (by simp) (by kernel_rfl) (by simp [Value.oneCell']) ?_
                  intro v4 hr
                  have HX4 := hide (show Blk v4 (wr.heap.size) rentT [.int .u32 x.a, .int .u64 x.hw, I64 x.ex, .slice Ax x.wt.length cx, I64 x.si] from hr.1)
                  have HO4 := hide (HO2.out.trans' hr.2.1 (by intro i hi hl; simp at hi; have := HL1.out; omega))
                  have HB5 := hide (hr.2.1.blk HX2.out (by simp; try omega))
                  clear hr
                  refine hK _ _ (HS.out _ HO4.out) ?_
                  clear hK K
                  try simp only [Act.put, List.setIfInBounds_toArray, List.set_cons_zero, List.set_cons_succ]
                  repeat (first | ((refine sch_y rfl rfl rfl rfl ?_; apply Exists.intro; refine ⟨?_, ?_⟩; next => (intro w' hS; (first | obtain ⟨_, rfl⟩ := hS | skip); go_simp; (try (go_bits; go_simp)); (first | done | with_reducible rfl | (rw [if_neg (by omega)]; (try (go_bits; go_simp)); (first | done | with_reducible rfl)) | (rw [if_pos (by omega)]; (try (go_bits; go_simp)); (first | done | with_reducible rfl))))); (try simp only [Act.put, List.setIfInBounds_toArray, List.set_cons_zero, List.set_cons_succ])) | ((refine sch_skip rfl rfl rfl rfl ?_); (try simp only [Act.put, List.setIfInBounds_toArray, List.set_cons_zero, List.set_cons_succ])))
                  refine sch_e1 rfl rfl rfl rfl ?_
                  · refine ⟨rfl, fun K hK => ?_⟩
                    refine wp_store_cells rentT (.tmp 9) (.tmp 58) rfl (wr.heap.size + 1) 0 rfl [.int .u32 z.a, .int .u64 z.hw, I64 z.ex, .slice Az z.wt.length cz, I64 z.si] rfl rentT [.int .u32 0, .int .u64 0, I64 0, .slice none 0 0, I64 0] HB5.out (by simp) (by kernel_rfl) (by simp [Value.oneCell']) ?_
                    intro v6 hr
                    have HX6 := hide (show Blk v6 (wr.heap.size + 1) rentT [.int .u32 z.a, .int .u64 z.hw, I64 z.ex, .slice Az z.wt.length cz, I64 z.si] from hr.1)
                    have HO6 := hide (HO4.out.trans' hr.2.1 (by intro i hi hl; simp at hi; have := HL2.out; omega))
                    have HB7 := hide (hr.2.1.blk HX4.out (by simp; try omega))
                    clear hr
                    refine hK _ _ (HS.out _ HO6.out) ?_
                    clear hK K
                    try simp only [Act.put, List.setIfInBounds_toArray, List.set_cons_zero, List.set_cons_succ]
                    repeat (first | ((refine sch_y rfl rfl rfl rfl ?_; apply Exists.intro; refine ⟨?_, ?_⟩; next => (intro w' hS; (first | obtain ⟨_, rfl⟩ := hS | skip); go_simp; (try (go_bits; go_simp)); (first | done | with_reducible rfl | (rw [if_neg (by omega)]; (try (go_bits; go_simp)); (first | done | with_reducible rfl)) | (rw [if_pos (by omega)]; (try (go_bits; go_simp)); (first | done | with_reducible rfl))))); (try simp only [Act.put, List.setIfInBounds_toArray, List.set_cons_zero, List.set_cons_succ])) | ((refine sch_skip rfl rfl rfl rfl ?_); (try simp only [Act.put, List.setIfInBounds_toArray, List.set_cons_zero, List.set_cons_succ])))
                    refine sch_nil ?_
                    go_wp2_with fail
                    go_meet
                    exact ⟨_, _, rfl, rfl, HB7.out, HX6.out, HO6.out⟩
            · refine ⟨rfl, fun K hK => ?_⟩
              go_wp2
              have HX8 := hide (show Blk (wr.drew.alloc (.cells #[.int .u32 0, .int .u64 0, I64 0, .slice none 0 0, I64 0] rentT)) (wr.heap.size) rentT [.int .u32 0, .int .u64 0, I64 0, .slice none 0 0, I64 0] from Blk.newA (by simp))
              have HO8 := hide (Only.trans HO0.out ((Only.refl [] _).alloc _) : Only [] _ (wr.drew.alloc (.cells #[.int .u32 0, .int .u64 0, I64 0, .slice none 0 0, I64 0] rentT)))
              have HL8 := hide (show wr.heap.size ≤ wr.heap.size from by have h := HO0.out.size; (try simp at h ⊢) <;> omega)
              refine hK _ _ (HS.out _ HO8.out) ?_
              clear hK K
              try simp only [Act.put, List.setIfInBounds_toArray, List.set_cons_zero, List.set_cons_succ]
              repeat (first | ((refine sch_y rfl rfl rfl rfl ?_; apply Exists.intro; refine ⟨?_, ?_⟩; next => (intro w' hS; (first | obtain ⟨_, rfl⟩ := hS | skip); go_simp; (try (go_bits; go_simp)); (first | done | with_reducible rfl | (rw [if_neg (by omega)]; (try (go_bits; go_simp)); (first | done | with_reducible rfl)) | (rw [if_pos (by omega)]; (try (go_bits; go_simp)); (first | done | with_reducible rfl))))); (try simp only [Act.put, List.setIfInBounds_toArray, List.set_cons_zero, List.set_cons_succ])) | ((refine sch_skip rfl rfl rfl rfl ?_); (try simp only [Act.put, List.setIfInBounds_toArray, List.set_cons_zero, List.set_cons_succ])))
              refine sch_e1 rfl rfl rfl rfl ?_
              · refine ⟨rfl, fun K hK => ?_⟩
                go_wp2
                have HX9 := hide (show Blk ((wr.drew.alloc (.cells #[.int .u32 0, .int .u64 0, I64 0, .slice none 0 0, I64 0] rentT)).alloc (.cells #[.int .u32 0, .int .u64 0, I64 0, .slice none 0 0, I64 0] rentT)) (wr.heap.size + 1) rentT [.int .u32 0, .int .u64 0, I64 0, .slice none 0 0, I64 0] from Blk.newA (by simp))
                have HO9 := hide (Only.trans HO8.out ((Only.refl [] _).alloc _) : Only [] _ ((wr.drew.alloc (.cells #[.int .u32 0, .int .u64 0, I64 0, .slice none 0 0, I64 0] rentT)).alloc (.cells #[.int .u32 0, .int .u64 0, I64 0, .slice none 0 0, I64 0] rentT)))
                have HL9 := hide (show wr.heap.size ≤ wr.heap.size + 1 from by have h := HO8.out.size; (try simp at h ⊢) <;> omega)
                have HB10 := hide (show Blk ((wr.drew.alloc (.cells #[.int .u32 0, .int .u64 0, I64 0, .slice none 0 0, I64 0] rentT)).alloc (.cells #[.int .u32 0, .int .u64 0, I64 0, .slice none 0 0, I64 0] rentT)) _ _ _ from HX8.out.alloc _)
                refine hK _ _ (HS.out _ HO9.out) ?_
                clear hK K
                try simp only [Act.put, List.setIfInBounds_toArray, List.set_cons_zero, List.set_cons_succ]
                repeat (first | ((refine sch_y rfl rfl rfl rfl ?_; apply Exists.intro; refine ⟨?_, ?_⟩; next => (intro w' hS; (first | obtain ⟨_, rfl⟩ := hS | skip); go_simp; (try (go_bits; go_simp)); (first | done | with_reducible rfl | (rw [if_neg (by omega)]; (try (go_bits; go_simp)); (first | done | with_reducible rfl)) | (rw [if_pos (by omega)]; (try (go_bits; go_simp)); (first | done | with_reducible rfl))))); (try simp only [Act.put, List.setIfInBounds_toArray, List.set_cons_zero, List.set_cons_succ])) | ((refine sch_skip rfl rfl rfl rfl ?_); (try simp only [Act.put, List.setIfInBounds_toArray, List.set_cons_zero, List.set_cons_succ])))
                refine sch_e1 rfl rfl rfl rfl ?_
                · refine ⟨rfl, fun K hK => ?_⟩
                  refine wp_store_cells rentT (.tmp 8) (.tmp 51) rfl (wr.heap.size + 1) 0 rfl [.int .u32 x.a, .int .u64 x.hw, I64 x.ex, .slice Ax x.wt.length cx, I64 x.si] rfl rentT [.int .u32 0, .int .u64 0, I64 0, .slice none 0 0, I64 0] HX9.out (by simp) (by kernel_rfl) (by simp [Value.oneCell']) ?_
                  intro v11 hr
                  have HX11 := hide (show Blk v11 (wr.heap.size + 1) rentT [.int .u32 x.a, .int .u64 x.hw, I64 x.ex, .slice Ax x.wt.length cx, I64 x.si] from hr.1)
                  have HO11 := hide (HO9.out.trans' hr.2.1 (by intro i hi hl; simp at hi; have := HL9.out; omega))
                  have HB12 := hide (hr.2.1.blk HB10.out (by simp; try omega))
                  clear hr
                  refine hK _ _ (HS.out _ HO11.out) ?_
                  clear hK K
                  try simp only [Act.put, List.setIfInBounds_toArray, List.set_cons_zero, List.set_cons_succ]
                  repeat (first | ((refine sch_y rfl rfl rfl rfl ?_; apply Exists.intro; refine ⟨?_, ?_⟩; next => (intro w' hS; (first | obtain ⟨_, rfl⟩ := hS | skip); go_simp; (try (go_bits; go_simp)); (first | done | with_reducible rfl | (rw [if_neg (by omega)]; (try (go_bits; go_simp)); (first | done | with_reducible rfl)) | (rw [if_pos (by omega)]; (try (go_bits; go_simp)); (first | done | with_reducible rfl))))); (try simp only [Act.put, List.setIfInBounds_toArray, List.set_cons_zero, List.set_cons_succ])) | ((refine sch_skip rfl rfl rfl rfl ?_); (try simp only [Act.put, List.setIfInBounds_toArray, List.set_cons_zero, List.set_cons_succ])))
                  refine sch_e1 rfl rfl rfl rfl ?_
                  · refine ⟨rfl, fun K hK => ?_⟩
                    refine wp_store_cells rentT (.tmp 9) (.tmp 58) rfl (wr.heap.size) 0 rfl [.int .u32 z.a, .int .u64 z.hw, I64 z.ex, .slice Az z.wt.length cz, I64 z.si] rfl rentT [.int .u32 0, .int .u64 0, I64 0, .slice none 0 0, I64 0] HB12.out (by simp) (by kernel_rfl) (by simp [Value.oneCell']) ?_
                    intro v13 hr
                    have HX13 := hide (show Blk v13 (wr.heap.size) rentT [.int .u32 z.a, .int .u64 z.hw, I64 z.ex, .slice Az z.wt.length cz, I64 z.si] from hr.1)
                    have HO13 := hide (HO11.out.trans' hr.2.1 (by intro i hi hl; simp at hi; have := HL8.out; omega))
                    have HB14 := hide (hr.2.1.blk HX11.out (by simp; try omega))
                    clear hr
                    refine hK _ _ (HS.out _ HO13.out) ?_
                    clear hK K
                    try simp only [Act.put, List.setIfInBounds_toArray, List.set_cons_zero, List.set_cons_succ]
                    repeat (first | ((refine sch_y rfl rfl rfl rfl ?_; apply Exists.intro; refine ⟨?_, ?_⟩; next => (intro w' hS; (first | obtain ⟨_, rfl⟩ := hS | skip); go_simp; (try (go_bits; go_simp)); (first | done | with_reducible rfl | (rw [if_neg (by omega)]; (try (go_bits; go_simp)); (first | done | with_reducible rfl)) | (rw [if_pos (by omega)]; (try (go_bits; go_simp)); (first | done | with_reducible rfl))))); (try simp only [Act.put, List.setIfInBounds_toArray, List.set_cons_zero, List.set_cons_succ])) | ((refine sch_skip rfl rfl rfl rfl ?_); (try simp only [Act.put, List.setIfInBounds_toArray, List.set_cons_zero, List.set_cons_succ])))
                    refine sch_nil ?_
                    go_wp2_with fail
                    go_meet
                    exact ⟨_, _, rfl, rfl, HB14.out, HX13.out, HO13.out⟩
          case rest =>
            obtain ⟨bx, bz, rfl, rfl, hbx, hbz, hO⟩ := hcut
            have lk := hide (show ∀ w', Only [] wc w' → (fun w' => w'.cell? ⟨bx, 0, none⟩ = some (.int .u32 x.a) ∧ w'.cell? ⟨bx, 1, none⟩ = some (.int .u64 x.hw) ∧ w'.cell? ⟨bx, 2, none⟩ = some (I64 x.ex) ∧ w'.cell? ⟨bx, 3, none⟩ = some (.slice Ax x.wt.length cx) ∧ w'.cell? ⟨bx, 4, none⟩ = some (I64 x.si) ∧ w'.cell? ⟨bz, 0, none⟩ = some (.int .u32 z.a) ∧ w'.cell? ⟨bz, 1, none⟩ = some (.int .u64 z.hw) ∧ w'.cell? ⟨bz, 2, none⟩ = some (I64 z.ex) ∧ w'.cell? ⟨bz, 3, none⟩ = some (.slice Az z.wt.length cz) ∧ w'.cell? ⟨bz, 4, none⟩ = some (I64 z.si)) w' from fun w' ho => ⟨(ho.blk hbx (by simp)).cell (i := 0) rfl, (ho.blk hbx (by simp)).cell (i := 1) rfl, (ho.blk hbx (by simp)).cell (i := 2) rfl, (ho.blk hbx (by simp)).cell (i := 3) rfl, (ho.blk hbx (by simp)).cell (i := 4) rfl, (ho.blk hbz (by simp)).cell (i := 0) rfl, (ho.blk hbz (by simp)).cell (i := 1) rfl, (ho.blk hbz (by simp)).cell (i := 2) rfl, (ho.blk hbz (by simp)).cell (i := 3) rfl, (ho.blk hbz (by simp)).cell (i := 4) rfl⟩)
            have HD := hide (show Only [] wc wc.drew from (Only.refl [] wc).drew)
            have HB := hide (show _ ∧ _ ∧ _ from ⟨hbx, hbz, hO⟩)
            have ltx := hbx.lt
            have ltz := hbz.lt
            have p0 := hbx.cell (i := 0) rfl
            have p1 := hbx.cell (i := 1) rfl
            have p2 := hbx.cell (i := 2) rfl
            have p3 := hbx.cell (i := 3) rfl
            have p4 := hbx.cell (i := 4) rfl
            have p5 := hbz.cell (i := 0) rfl
            have p6 := hbz.cell (i := 1) rfl
            have p7 := hbz.cell (i := 2) rfl
            have p8 := hbz.cell (i := 3) rfl
            have p9 := hbz.cell (i := 4) rfl
            clear hbx hbz hO x0 x1 x2 x3 x4 z0 z1 z2 z3 z4 hv1 hv2
            by_cases c1 : age x < age z
            · have d1 : (decide (age x < age z)) = true := decide_eq_true c1
              have HT := hide (show oldTo l (k + 1) = k + 1 from by
                unfold oldTo; rw [← HOD.out, HXZ.out.1, HXZ.out.2.1]; simp only; rw [if_pos (ltE_true.2 (by omega))])
              clear c1
              go_wp2
              refine wp_region_text 19 [1, 3, 7, 9] [] [2, 8] (fun w' => w'.cell? ⟨bx, 0, none⟩ = some (.int .u32 x.a) ∧ w'.cell? ⟨bx, 1, none⟩ = some (.int .u64 x.hw) ∧ w'.cell? ⟨bx, 2, none⟩ = some (I64 x.ex) ∧ w'.cell? ⟨bx, 3, none⟩ = some (.slice Ax x.wt.length cx) ∧ w'.cell? ⟨bx, 4, none⟩ = some (I64 x.si) ∧ w'.cell? ⟨bz, 0, none⟩ = some (.int .u32 z.a) ∧ w'.cell? ⟨bz, 1, none⟩ = some (.int .u64 z.hw) ∧ w'.cell? ⟨bz, 2, none⟩ = some (I64 z.ex) ∧ w'.cell? ⟨bz, 3, none⟩ = some (.slice Az z.wt.length cz) ∧ w'.cell? ⟨bz, 4, none⟩ = some (I64 z.si)) (by kernel_rfl) (by kernel_rfl) (lk.out _ HD.out) ?_
              simp only [List.take_succ_cons, List.take_zero, List.drop_succ_cons, List.drop_zero]
              repeat (first | ((refine wpText_h rfl rfl ?_; apply Exists.intro; refine ⟨?_, ?_⟩; next => (go_simp; (try (go_bits; go_simp)); (first | done | with_reducible rfl | (rw [if_neg (by omega)]; (try (go_bits; go_simp)); (first | done | with_reducible rfl)) | (rw [if_pos (by omega)]; (try (go_bits; go_simp)); (first | done | with_reducible rfl))))); (try simp only [Act.put, List.setIfInBounds_toArray, List.set_cons_zero, List.set_cons_succ])) | ((refine wpText_p rfl rfl ?_; apply Exists.intro; refine ⟨?_, ?_⟩; next => (intro w'; go_simp; (try (go_bits; go_simp)); (first | done | with_reducible rfl | (rw [if_neg (by omega)]; (try (go_bits; go_simp)); (first | done | with_reducible rfl)) | (rw [if_pos (by omega)]; (try (go_bits; go_simp)); (first | done | with_reducible rfl))))); (try simp only [Act.put, List.setIfInBounds_toArray, List.set_cons_zero, List.set_cons_succ])) | ((refine wpText_y rfl rfl ?_; apply Exists.intro; refine ⟨?_, ?_⟩; next => (intro w' hS; (first | obtain ⟨_, rfl⟩ := hS | skip); go_simp; (try (go_bits; go_simp)); (first | done | with_reducible rfl | (rw [if_neg (by omega)]; (try (go_bits; go_simp)); (first | done | with_reducible rfl)) | (rw [if_pos (by omega)]; (try (go_bits; go_simp)); (first | done | with_reducible rfl))))); (try simp only [Act.put, List.setIfInBounds_toArray, List.set_cons_zero, List.set_cons_succ])) | (refine wpText_skip (by first | exact .inl rfl | exact .inr (.inl rfl) | exact .inr (.inr rfl)) rfl ?_; (try simp only [Act.put, List.setIfInBounds_toArray, List.set_cons_zero, List.set_cons_succ])))
              refine wpText_e rfl rfl (fun K hK => ?_)
              go_wp2_with fail
              refine (rage_ok x base _ _ _ (off_keep HXZ.out.2.2.1 (Only.trans HB.out.2.2 HD.out))).mono ?_
              rintro e w11 ⟨rfl, ho11⟩
              have HA1 := hide (Only.trans HD.out ho11)
              clear ho11
              refine hK _ _ (lk.out _ HA1.out) ?_
              clear hK K
              have f1 := lk.out _ HA1.out
              repeat (first | ((refine wpText_h rfl rfl ?_; apply Exists.intro; refine ⟨?_, ?_⟩; next => (go_simp; (try (go_bits; go_simp)); (first | done | with_reducible rfl | (rw [if_neg (by omega)]; (try (go_bits; go_simp)); (first | done | with_reducible rfl)) | (rw [if_pos (by omega)]; (try (go_bits; go_simp)); (first | done | with_reducible rfl))))); (try simp only [Act.put, List.setIfInBounds_toArray, List.set_cons_zero, List.set_cons_succ])) | ((refine wpText_p rfl rfl ?_; apply Exists.intro; refine ⟨?_, ?_⟩; next => (intro w'; go_simp; (try (go_bits; go_simp)); (first | done | with_reducible rfl | (rw [if_neg (by omega)]; (try (go_bits; go_simp)); (first | done | with_reducible rfl)) | (rw [if_pos (by omega)]; (try (go_bits; go_simp)); (first | done | with_reducible rfl))))); (try simp only [Act.put, List.setIfInBounds_toArray, List.set_cons_zero, List.set_cons_succ])) | ((refine wpText_y rfl rfl ?_; apply Exists.intro; refine ⟨?_, ?_⟩; next => (intro w' hS; (first | obtain ⟨_, rfl⟩ := hS | skip); go_simp; (try (go_bits; go_simp)); (first | done | with_reducible rfl | (rw [if_neg (by omega)]; (try (go_bits; go_simp)); (first | done | with_reducible rfl)) | (rw [if_pos (by omega)]; (try (go_bits; go_simp)); (first | done | with_reducible rfl))))); (try simp only [Act.put, List.setIfInBounds_toArray, List.set_cons_zero, List.set_cons_succ])) | (refine wpText_skip (by first | exact .inl rfl | exact .inr (.inl rfl) | exact .inr (.inr rfl)) rfl ?_; (try simp only [Act.put, List.setIfInBounds_toArray, List.set_cons_zero, List.set_cons_succ])))
              refine wpText_e rfl rfl (fun K hK => ?_)
              go_wp2_with fail
              refine (rage_ok z base _ _ _ (off_keep HXZ.out.2.2.2 (Only.trans HB.out.2.2 HA1.out))).mono ?_
              rintro e w12 ⟨rfl, ho12⟩
              have HA2 := hide (Only.trans HA1.out ho12)
              clear ho12
              refine hK _ _ (lk.out _ HA2.out) ?_
              clear hK K
              have f2 := lk.out _ HA2.out
              repeat (first | ((refine wpText_h rfl rfl ?_; apply Exists.intro; refine ⟨?_, ?_⟩; next => (go_simp; (try (go_bits; go_simp)); (first | done | with_reducible rfl | (rw [if_neg (by omega)]; (try (go_bits; go_simp)); (first | done | with_reducible rfl)) | (rw [if_pos (by omega)]; (try (go_bits; go_simp)); (first | done | with_reducible rfl))))); (try simp only [Act.put, List.setIfInBounds_toArray, List.set_cons_zero, List.set_cons_succ])) | ((refine wpText_p rfl rfl ?_; apply Exists.intro; refine ⟨?_, ?_⟩; next => (intro w'; go_simp; (try (go_bits; go_simp)); (first | done | with_reducible rfl | (rw [if_neg (by omega)]; (try (go_bits; go_simp)); (first | done | with_reducible rfl)) | (rw [if_pos (by omega)]; (try (go_bits; go_simp)); (first | done | with_reducible rfl))))); (try simp only [Act.put, List.setIfInBounds_toArray, List.set_cons_zero, List.set_cons_succ])) | ((refine wpText_y rfl rfl ?_; apply Exists.intro; refine ⟨?_, ?_⟩; next => (intro w' hS; (first | obtain ⟨_, rfl⟩ := hS | skip); go_simp; (try (go_bits; go_simp)); (first | done | with_reducible rfl | (rw [if_neg (by omega)]; (try (go_bits; go_simp)); (first | done | with_reducible rfl)) | (rw [if_pos (by omega)]; (try (go_bits; go_simp)); (first | done | with_reducible rfl))))); (try simp only [Act.put, List.setIfInBounds_toArray, List.set_cons_zero, List.set_cons_succ])) | (refine wpText_skip (by first | exact .inl rfl | exact .inr (.inl rfl) | exact .inr (.inr rfl)) rfl ?_; (try simp only [Act.put, List.setIfInBounds_toArray, List.set_cons_zero, List.set_cons_succ])))
              refine wpText_eskip rfl rfl (lk.out _ HA2.out) ?_
              try simp only [Act.put, List.setIfInBounds_toArray, List.set_cons_zero, List.set_cons_succ]
              repeat (first | ((refine wpText_h rfl rfl ?_; apply Exists.intro; refine ⟨?_, ?_⟩; next => (go_simp; (try (go_bits; go_simp)); (first | done | with_reducible rfl | (rw [if_neg (by omega)]; (try (go_bits; go_simp)); (first | done | with_reducible rfl)) | (rw [if_pos (by omega)]; (try (go_bits; go_simp)); (first | done | with_reducible rfl))))); (try simp only [Act.put, List.setIfInBounds_toArray, List.set_cons_zero, List.set_cons_succ])) | ((refine wpText_p rfl rfl ?_; apply Exists.intro; refine ⟨?_, ?_⟩; next => (intro w'; go_simp; (try (go_bits; go_simp)); (first | done | with_reducible rfl | (rw [if_neg (by omega)]; (try (go_bits; go_simp)); (first | done | with_reducible rfl)) | (rw [if_pos (by omega)]; (try (go_bits; go_simp)); (first | done | with_reducible rfl))))); (try simp only [Act.put, List.setIfInBounds_toArray, List.set_cons_zero, List.set_cons_succ])) | ((refine wpText_y rfl rfl ?_; apply Exists.intro; refine ⟨?_, ?_⟩; next => (intro w' hS; (first | obtain ⟨_, rfl⟩ := hS | skip); go_simp; (try (go_bits; go_simp)); (first | done | with_reducible rfl | (rw [if_neg (by omega)]; (try (go_bits; go_simp)); (first | done | with_reducible rfl)) | (rw [if_pos (by omega)]; (try (go_bits; go_simp)); (first | done | with_reducible rfl))))); (try simp only [Act.put, List.setIfInBounds_toArray, List.set_cons_zero, List.set_cons_succ])) | (refine wpText_skip (by first | exact .inl rfl | exact .inr (.inl rfl) | exact .inr (.inr rfl)) rfl ?_; (try simp only [Act.put, List.setIfInBounds_toArray, List.set_cons_zero, List.set_cons_succ])))
              refine wpText_eskip rfl rfl (lk.out _ HA2.out) ?_
              try simp only [Act.put, List.setIfInBounds_toArray, List.set_cons_zero, List.set_cons_succ]
              repeat (first | ((refine wpText_h rfl rfl ?_; apply Exists.intro; refine ⟨?_, ?_⟩; next => (go_simp; (try (go_bits; go_simp)); (first | done | with_reducible rfl | (rw [if_neg (by omega)]; (try (go_bits; go_simp)); (first | done | with_reducible rfl)) | (rw [if_pos (by omega)]; (try (go_bits; go_simp)); (first | done | with_reducible rfl))))); (try simp only [Act.put, List.setIfInBounds_toArray, List.set_cons_zero, List.set_cons_succ])) | ((refine wpText_p rfl rfl ?_; apply Exists.intro; refine ⟨?_, ?_⟩; next => (intro w'; go_simp; (try (go_bits; go_simp)); (first | done | with_reducible rfl | (rw [if_neg (by omega)]; (try (go_bits; go_simp)); (first | done | with_reducible rfl)) | (rw [if_pos (by omega)]; (try (go_bits; go_simp)); (first | done | with_reducible rfl))))); (try simp only [Act.put, List.setIfInBounds_toArray, List.set_cons_zero, List.set_cons_succ])) | ((refine wpText_y rfl rfl ?_; apply Exists.intro; refine ⟨?_, ?_⟩; next => (intro w' hS; (first | obtain ⟨_, rfl⟩ := hS | skip); go_simp; (try (go_bits; go_simp)); (first | done | with_reducible rfl | (rw [if_neg (by omega)]; (try (go_bits; go_simp)); (first | done | with_reducible rfl)) | (rw [if_pos (by omega)]; (try (go_bits; go_simp)); (first | done | with_reducible rfl))))); (try simp only [Act.put, List.setIfInBounds_toArray, List.set_cons_zero, List.set_cons_succ])) | (refine wpText_skip (by first | exact .inl rfl | exact .inr (.inl rfl) | exact .inr (.inr rfl)) rfl ?_; (try simp only [Act.put, List.setIfInBounds_toArray, List.set_cons_zero, List.set_cons_succ])))
              refine wpText_nil ?_
              go_wp2
              refine NoX.normal ?_
              go_wp2
              go_roundw
              case rel => exact ⟨k + 1, by omega, by go_num, by (rw [HT.out]) <;> (first | rfl | go_num), hide (Only.trans HW.out (Only.trans HB.out.2.2 HA2.out))⟩
              case measure => simp [Go.RowKit.intOf]; omega

            · have d1 : (decide (age x < age z)) = false := decide_eq_false c1
              by_cases c2 : age x = age z
              · have d2 : (age x == age z) = true := by simpa using c2
                by_cases c3 : x.a < z.a
                · have d3 : (decide (x.a < z.a)) = true := decide_eq_true c3
                  have HT := hide (show oldTo l (k + 1) = k + 1 from by
                    unfold oldTo; rw [← HOD.out, HXZ.out.1, HXZ.out.2.1]; simp only; rw [if_pos (ltE_true.2 (by omega))])
                  clear c1 c2 c3
                  go_wp2
                  refine wp_region_text 19 [1, 3, 7, 9] [] [2, 8] (fun w' => w'.cell? ⟨bx, 0, none⟩ = some (.int .u32 x.a) ∧ w'.cell? ⟨bx, 1, none⟩ = some (.int .u64 x.hw) ∧ w'.cell? ⟨bx, 2, none⟩ = some (I64 x.ex) ∧ w'.cell? ⟨bx, 3, none⟩ = some (.slice Ax x.wt.length cx) ∧ w'.cell? ⟨bx, 4, none⟩ = some (I64 x.si) ∧ w'.cell? ⟨bz, 0, none⟩ = some (.int .u32 z.a) ∧ w'.cell? ⟨bz, 1, none⟩ = some (.int .u64 z.hw) ∧ w'.cell? ⟨bz, 2, none⟩ = some (I64 z.ex) ∧ w'.cell? ⟨bz, 3, none⟩ = some (.slice Az z.wt.length cz) ∧ w'.cell? ⟨bz, 4, none⟩ = some (I64 z.si)) (by kernel_rfl) (by kernel_rfl) (lk.out _ HD.out) ?_
                  simp only [List.take_succ_cons, List.take_zero, List.drop_succ_cons, List.drop_zero]
                  repeat (first | ((refine wpText_h rfl rfl ?_; apply Exists.intro; refine ⟨?_, ?_⟩; next => (go_simp; (try (go_bits; go_simp)); (first | done | with_reducible rfl | (rw [if_neg (by omega)]; (try (go_bits; go_simp)); (first | done | with_reducible rfl)) | (rw [if_pos (by omega)]; (try (go_bits; go_simp)); (first | done | with_reducible rfl))))); (try simp only [Act.put, List.setIfInBounds_toArray, List.set_cons_zero, List.set_cons_succ])) | ((refine wpText_p rfl rfl ?_; apply Exists.intro; refine ⟨?_, ?_⟩; next => (intro w'; go_simp; (try (go_bits; go_simp)); (first | done | with_reducible rfl | (rw [if_neg (by omega)]; (try (go_bits; go_simp)); (first | done | with_reducible rfl)) | (rw [if_pos (by omega)]; (try (go_bits; go_simp)); (first | done | with_reducible rfl))))); (try simp only [Act.put, List.setIfInBounds_toArray, List.set_cons_zero, List.set_cons_succ])) | ((refine wpText_y rfl rfl ?_; apply Exists.intro; refine ⟨?_, ?_⟩; next => (intro w' hS; (first | obtain ⟨_, rfl⟩ := hS | skip); go_simp; (try (go_bits; go_simp)); (first | done | with_reducible rfl | (rw [if_neg (by omega)]; (try (go_bits; go_simp)); (first | done | with_reducible rfl)) | (rw [if_pos (by omega)]; (try (go_bits; go_simp)); (first | done | with_reducible rfl))))); (try simp only [Act.put, List.setIfInBounds_toArray, List.set_cons_zero, List.set_cons_succ])) | (refine wpText_skip (by first | exact .inl rfl | exact .inr (.inl rfl) | exact .inr (.inr rfl)) rfl ?_; (try simp only [Act.put, List.setIfInBounds_toArray, List.set_cons_zero, List.set_cons_succ])))
                  refine wpText_e rfl rfl (fun K hK => ?_)
                  go_wp2_with fail
                  refine (rage_ok x base _ _ _ (off_keep HXZ.out.2.2.1 (Only.trans HB.out.2.2 HD.out))).mono ?_
                  rintro e w11 ⟨rfl, ho11⟩
                  have HA1 := hide (Only.trans HD.out ho11)
                  clear ho11
                  refine hK _ _ (lk.out _ HA1.out) ?_
                  clear hK K
                  have f1 := lk.out _ HA1.out
                  repeat (first | ((refine wpText_h rfl rfl ?_; apply Exists.intro; refine ⟨?_, ?_⟩; next => (go_simp; (try (go_bits; go_simp)); (first | done | with_reducible rfl | (rw [if_neg (by omega)]; (try (go_bits; go_simp)); (first | done | with_reducible rfl)) | (rw [if_pos (by omega)]; (try (go_bits; go_simp)); (first | done | with_reducible rfl))))); (try simp only [Act.put, List.setIfInBounds_toArray, List.set_cons_zero, List.set_cons_succ])) | ((refine wpText_p rfl rfl ?_; apply Exists.intro; refine ⟨?_, ?_⟩; next => (intro w'; go_simp; (try (go_bits; go_simp)); (first | done | with_reducible rfl | (rw [if_neg (by omega)]; (try (go_bits; go_simp)); (first | done | with_reducible rfl)) | (rw [if_pos (by omega)]; (try (go_bits; go_simp)); (first | done | with_reducible rfl))))); (try simp only [Act.put, List.setIfInBounds_toArray, List.set_cons_zero, List.set_cons_succ])) | ((refine wpText_y rfl rfl ?_; apply Exists.intro; refine ⟨?_, ?_⟩; next => (intro w' hS; (first | obtain ⟨_, rfl⟩ := hS | skip); go_simp; (try (go_bits; go_simp)); (first | done | with_reducible rfl | (rw [if_neg (by omega)]; (try (go_bits; go_simp)); (first | done | with_reducible rfl)) | (rw [if_pos (by omega)]; (try (go_bits; go_simp)); (first | done | with_reducible rfl))))); (try simp only [Act.put, List.setIfInBounds_toArray, List.set_cons_zero, List.set_cons_succ])) | (refine wpText_skip (by first | exact .inl rfl | exact .inr (.inl rfl) | exact .inr (.inr rfl)) rfl ?_; (try simp only [Act.put, List.setIfInBounds_toArray, List.set_cons_zero, List.set_cons_succ])))
                  refine wpText_e rfl rfl (fun K hK => ?_)
                  go_wp2_with fail
                  refine (rage_ok z base _ _ _ (off_keep HXZ.out.2.2.2 (Only.trans HB.out.2.2 HA1.out))).mono ?_
                  rintro e w12 ⟨rfl, ho12⟩
                  have HA2 := hide (Only.trans HA1.out ho12)
                  clear ho12
                  refine hK _ _ (lk.out _ HA2.out) ?_
                  clear hK K
                  have f2 := lk.out _ HA2.out
                  repeat (first | ((refine wpText_h rfl rfl ?_; apply Exists.intro; refine ⟨?_, ?_⟩; next => (go_simp; (try (go_bits; go_simp)); (first | done | with_reducible rfl | (rw [if_neg (by omega)]; (try (go_bits; go_simp)); (first | done | with_reducible rfl)) | (rw [if_pos (by omega)]; (try (go_bits; go_simp)); (first | done | with_reducible rfl))))); (try simp only [Act.put, List.setIfInBounds_toArray, List.set_cons_zero, List.set_cons_succ])) | ((refine wpText_p rfl rfl ?_; apply Exists.intro; refine ⟨?_, ?_⟩; next => (intro w'; go_simp; (try (go_bits; go_simp)); (first | done | with_reducible rfl | (rw [if_neg (by omega)]; (try (go_bits; go_simp)); (first | done | with_reducible rfl)) | (rw [if_pos (by omega)]; (try (go_bits; go_simp)); (first | done | with_reducible rfl))))); (try simp only [Act.put, List.setIfInBounds_toArray, List.set_cons_zero, List.set_cons_succ])) | ((refine wpText_y rfl rfl ?_; apply Exists.intro; refine ⟨?_, ?_⟩; next => (intro w' hS; (first | obtain ⟨_, rfl⟩ := hS | skip); go_simp; (try (go_bits; go_simp)); (first | done | with_reducible rfl | (rw [if_neg (by omega)]; (try (go_bits; go_simp)); (first | done | with_reducible rfl)) | (rw [if_pos (by omega)]; (try (go_bits; go_simp)); (first | done | with_reducible rfl))))); (try simp only [Act.put, List.setIfInBounds_toArray, List.set_cons_zero, List.set_cons_succ])) | (refine wpText_skip (by first | exact .inl rfl | exact .inr (.inl rfl) | exact .inr (.inr rfl)) rfl ?_; (try simp only [Act.put, List.setIfInBounds_toArray, List.set_cons_zero, List.set_cons_succ])))
                  refine wpText_e rfl rfl (fun K hK => ?_)
                  go_wp2_with fail
                  refine (rage_ok x base _ _ _ (off_keep HXZ.out.2.2.1 (Only.trans HB.out.2.2 HA2.out))).mono ?_
                  rintro e w13 ⟨rfl, ho13⟩
                  have HA3 := hide (Only.trans HA2.out ho13)
                  clear ho13
                  refine hK _ _ (lk.out _ HA3.out) ?_
                  clear hK K
                  have f3 := lk.out _ HA3.out
                  repeat (first | ((refine wpText_h rfl rfl ?_; apply Exists.intro; refine ⟨?_, ?_⟩; next => (go_simp; (try (go_bits; go_simp)); (first | done | with_reducible rfl | (rw [if_neg (by omega)]; (try (go_bits; go_simp)); (first | done | with_reducible rfl)) | (rw [if_pos (by omega)]; (try (go_bits; go_simp)); (first | done | with_reducible rfl))))); (try simp only [Act.put, List.setIfInBounds_toArray, List.set_cons_zero, List.set_cons_succ])) | ((refine wpText_p rfl rfl ?_; apply Exists.intro; refine ⟨?_, ?_⟩; next => (intro w'; go_simp; (try (go_bits; go_simp)); (first | done | with_reducible rfl | (rw [if_neg (by omega)]; (try (go_bits; go_simp)); (first | done | with_reducible rfl)) | (rw [if_pos (by omega)]; (try (go_bits; go_simp)); (first | done | with_reducible rfl))))); (try simp only [Act.put, List.setIfInBounds_toArray, List.set_cons_zero, List.set_cons_succ])) | ((refine wpText_y rfl rfl ?_; apply Exists.intro; refine ⟨?_, ?_⟩; next => (intro w' hS; (first | obtain ⟨_, rfl⟩ := hS | skip); go_simp; (try (go_bits; go_simp)); (first | done | with_reducible rfl | (rw [if_neg (by omega)]; (try (go_bits; go_simp)); (first | done | with_reducible rfl)) | (rw [if_pos (by omega)]; (try (go_bits; go_simp)); (first | done | with_reducible rfl))))); (try simp only [Act.put, List.setIfInBounds_toArray, List.set_cons_zero, List.set_cons_succ])) | (refine wpText_skip (by first | exact .inl rfl | exact .inr (.inl rfl) | exact .inr (.inr rfl)) rfl ?_; (try simp only [Act.put, List.setIfInBounds_toArray, List.set_cons_zero, List.set_cons_succ])))
                  refine wpText_e rfl rfl (fun K hK => ?_)
                  go_wp2_with fail
                  refine (rage_ok z base _ _ _ (off_keep HXZ.out.2.2.2 (Only.trans HB.out.2.2 HA3.out))).mono ?_
                  rintro e w14 ⟨rfl, ho14⟩
                  have HA4 := hide (Only.trans HA3.out ho14)
                  clear ho14
                  refine hK _ _ (lk.out _ HA4.out) ?_
                  clear hK K
                  have f4 := lk.out _ HA4.out
                  repeat (first | ((refine wpText_h rfl rfl ?_; apply Exists.intro; refine ⟨?_, ?_⟩; next => (go_simp; (try (go_bits; go_simp)); (first | done | with_reducible rfl | (rw [if_neg (by omega)]; (try (go_bits; go_simp)); (first | done | with_reducible rfl)) | (rw [if_pos (by omega)]; (try (go_bits; go_simp)); (first | done | with_reducible rfl))))); (try simp only [Act.put, List.setIfInBounds_toArray, List.set_cons_zero, List.set_cons_succ])) | ((refine wpText_p rfl rfl ?_; apply Exists.intro; refine ⟨?_, ?_⟩; next => (intro w'; go_simp; (try (go_bits; go_simp)); (first | done | with_reducible rfl | (rw [if_neg (by omega)]; (try (go_bits; go_simp)); (first | done | with_reducible rfl)) | (rw [if_pos (by omega)]; (try (go_bits; go_simp)); (first | done | with_reducible rfl))))); (try simp only [Act.put, List.setIfInBounds_toArray, List.set_cons_zero, List.set_cons_succ])) | ((refine wpText_y rfl rfl ?_; apply Exists.intro; refine ⟨?_, ?_⟩; next => (intro w' hS; (first | obtain ⟨_, rfl⟩ := hS | skip); go_simp; (try (go_bits; go_simp)); (first | done | with_reducible rfl | (rw [if_neg (by omega)]; (try (go_bits; go_simp)); (first | done | with_reducible rfl)) | (rw [if_pos (by omega)]; (try (go_bits; go_simp)); (first | done | with_reducible rfl))))); (try simp only [Act.put, List.setIfInBounds_toArray, List.set_cons_zero, List.set_cons_succ])) | (refine wpText_skip (by first | exact .inl rfl | exact .inr (.inl rfl) | exact .inr (.inr rfl)) rfl ?_; (try simp only [Act.put, List.setIfInBounds_toArray, List.set_cons_zero, List.set_cons_succ])))
                  refine wpText_nil ?_
                  go_wp2
                  refine NoX.normal ?_
                  go_wp2
                  go_roundw
                  case rel => exact ⟨k + 1, by omega, by go_num, by (rw [HT.out]) <;> (first | rfl | go_num), hide (Only.trans HW.out (Only.trans HB.out.2.2 HA4.out))⟩
                  case measure => simp [Go.RowKit.intOf]; omega

                · have d3 : (decide (x.a < z.a)) = false := decide_eq_false c3
                  have HT := hide (show oldTo l (k + 1) = od from by
                    unfold oldTo; rw [← HOD.out, HXZ.out.1, HXZ.out.2.1]; simp only; rw [if_neg (by rw [Bool.not_eq_true, ltE_false]; omega)])
                  clear c1 c2 c3
                  go_wp2
                  refine wp_region_text 19 [1, 3, 7, 9] [] [2, 8] (fun w' => w'.cell? ⟨bx, 0, none⟩ = some (.int .u32 x.a) ∧ w'.cell? ⟨bx, 1, none⟩ = some (.int .u64 x.hw) ∧ w'.cell? ⟨bx, 2, none⟩ = some (I64 x.ex) ∧ w'.cell? ⟨bx, 3, none⟩ = some (.slice Ax x.wt.length cx) ∧ w'.cell? ⟨bx, 4, none⟩ = some (I64 x.si) ∧ w'.cell? ⟨bz, 0, none⟩ = some (.int .u32 z.a) ∧ w'.cell? ⟨bz, 1, none⟩ = some (.int .u64 z.hw) ∧ w'.cell? ⟨bz, 2, none⟩ = some (I64 z.ex) ∧ w'.cell? ⟨bz, 3, none⟩ = some (.slice Az z.wt.length cz) ∧ w'.cell? ⟨bz, 4, none⟩ = some (I64 z.si)) (by kernel_rfl) (by kernel_rfl) (lk.out _ HD.out) ?_
                  simp only [List.take_succ_cons, List.take_zero, List.drop_succ_cons, List.drop_zero]
                  repeat (first | ((refine wpText_h rfl rfl ?_; apply Exists.intro; refine ⟨?_, ?_⟩; next => (go_simp; (try (go_bits; go_simp)); (first | done | with_reducible rfl | (rw [if_neg (by omega)]; (try (go_bits; go_simp)); (first | done | with_reducible rfl)) | (rw [if_pos (by omega)]; (try (go_bits; go_simp)); (first | done | with_reducible rfl))))); (try simp only [Act.put, List.setIfInBounds_toArray, List.set_cons_zero, List.set_cons_succ])) | ((refine wpText_p rfl rfl ?_; apply Exists.intro; refine ⟨?_, ?_⟩; next => (intro w'; go_simp; (try (go_bits; go_simp)); (first | done | with_reducible rfl | (rw [if_neg (by omega)]; (try (go_bits; go_simp)); (first | done | with_reducible rfl)) | (rw [if_pos (by omega)]; (try (go_bits; go_simp)); (first | done | with_reducible rfl))))); (try simp only [Act.put, List.setIfInBounds_toArray, List.set_cons_zero, List.set_cons_succ])) | ((refine wpText_y rfl rfl ?_; apply Exists.intro; refine ⟨?_, ?_⟩; next => (intro w' hS; (first | obtain ⟨_, rfl⟩ := hS | skip); go_simp; (try (go_bits; go_simp)); (first | done | with_reducible rfl | (rw [if_neg (by omega)]; (try (go_bits; go_simp)); (first | done | with_reducible rfl)) | (rw [if_pos (by omega)]; (try (go_bits; go_simp)); (first | done | with_reducible rfl))))); (try simp only [Act.put, List.setIfInBounds_toArray, List.set_cons_zero, List.set_cons_succ])) | (refine wpText_skip (by first | exact .inl rfl | exact .inr (.inl rfl) | exact .inr (.inr rfl)) rfl ?_; (try simp only [Act.put, List.setIfInBounds_toArray, List.set_cons_zero, List.set_cons_succ])))
                  refine wpText_e rfl rfl (fun K hK => ?_)
                  go_wp2_with fail
                  refine (rage_ok x base _ _ _ (off_keep HXZ.out.2.2.1 (Only.trans HB.out.2.2 HD.out))).mono ?_
                  rintro e w11 ⟨rfl, ho11⟩
                  have HA1 := hide (Only.trans HD.out ho11)
                  clear ho11
                  refine hK _ _ (lk.out _ HA1.out) ?_
                  clear hK K
                  have f1 := lk.out _ HA1.out
                  repeat (first | ((refine wpText_h rfl rfl ?_; apply Exists.intro; refine ⟨?_, ?_⟩; next => (go_simp; (try (go_bits; go_simp)); (first | done | with_reducible rfl | (rw [if_neg (by omega)]; (try (go_bits; go_simp)); (first | done | with_reducible rfl)) | (rw [if_pos (by omega)]; (try (go_bits; go_simp)); (first | done | with_reducible rfl))))); (try simp only [Act.put, List.setIfInBounds_toArray, List.set_cons_zero, List.set_cons_succ])) | ((refine wpText_p rfl rfl ?_; apply Exists.intro; refine ⟨?_, ?_⟩; next => (intro w'; go_simp; (try (go_bits; go_simp)); (first | done | with_reducible rfl | (rw [if_neg (by omega)]; (try (go_bits; go_simp)); (first | done | with_reducible rfl)) | (rw [if_pos (by omega)]; (try (go_bits; go_simp)); (first | done | with_reducible rfl))))); (try simp only [Act.put, List.setIfInBounds_toArray, List.set_cons_zero, List.set_cons_succ])) | ((refine wpText_y rfl rfl ?_; apply Exists.intro; refine ⟨?_, ?_⟩; next => (intro w' hS; (first | obtain ⟨_, rfl⟩ := hS | skip); go_simp; (try (go_bits; go_simp)); (first | done | with_reducible rfl | (rw [if_neg (by omega)]; (try (go_bits; go_simp)); (first | done | with_reducible rfl)) | (rw [if_pos (by omega)]; (try (go_bits; go_simp)); (first | done | with_reducible rfl))))); (try simp only [Act.put, List.setIfInBounds_toArray, List.set_cons_zero, List.set_cons_succ])) | (refine wpText_skip (by first | exact .inl rfl | exact .inr (.inl rfl) | exact .inr (.inr rfl)) rfl ?_; (try simp only [Act.put, List.setIfInBounds_toArray, List.set_cons_zero, List.set_cons_succ])))
                  refine wpText_e rfl rfl (fun K hK => ?_)
                  go_wp2_with fail
                  refine (rage_ok z base _ _ _ (off_keep HXZ.out.2.2.2 (Only.trans HB.out.2.2 HA1.out))).mono ?_
                  rintro e w12 ⟨rfl, ho12⟩
                  have HA2 := hide (Only.trans HA1.out ho12)
                  clear ho12
                  refine hK _ _ (lk.out _ HA2.out) ?_
                  clear hK K
                  have f2 := lk.out _ HA2.out
                  repeat (first | ((refine wpText_h rfl rfl ?_; apply Exists.intro; refine ⟨?_, ?_⟩; next => (go_simp; (try (go_bits; go_simp)); (first | done | with_reducible rfl | (rw [if_neg (by omega)]; (try (go_bits; go_simp)); (first | done | with_reducible rfl)) | (rw [if_pos (by omega)]; (try (go_bits; go_simp)); (first | done | with_reducible rfl))))); (try simp only [Act.put, List.setIfInBounds_toArray, List.set_cons_zero, List.set_cons_succ])) | ((refine wpText_p rfl rfl ?_; apply Exists.intro; refine ⟨?_, ?_⟩; next => (intro w'; go_simp; (try (go_bits; go_simp)); (first | done | with_reducible rfl | (rw [if_neg (by omega)]; (try (go_bits; go_simp)); (first | done | with_reducible rfl)) | (rw [if_pos (by omega)]; (try (go_bits; go_simp)); (first | done | with_reducible rfl))))); (try simp only [Act.put, List.setIfInBounds_toArray, List.set_cons_zero, List.set_cons_succ])) | ((refine wpText_y rfl rfl ?_; apply Exists.intro; refine ⟨?_, ?_⟩; next => (intro w' hS; (first | obtain ⟨_, rfl⟩ := hS | skip); go_simp; (try (go_bits; go_simp)); (first | done | with_reducible rfl | (rw [if_neg (by omega)]; (try (go_bits; go_simp)); (first | done | with_reducible rfl)) | (rw [if_pos (by omega)]; (try (go_bits; go_simp)); (first | done | with_reducible rfl))))); (try simp only [Act.put, List.setIfInBounds_toArray, List.set_cons_zero, List.set_cons_succ])) | (refine wpText_skip (by first | exact .inl rfl | exact .inr (.inl rfl) | exact .inr (.inr rfl)) rfl ?_; (try simp only [Act.put, List.setIfInBounds_toArray, List.set_cons_zero, List.set_cons_succ])))
                  refine wpText_e rfl rfl (fun K hK => ?_)
                  go_wp2_with fail
                  refine (rage_ok x base _ _ _ (off_keep HXZ.out.2.2.1 (Only.trans HB.out.2.2 HA2.out))).mono ?_
                  rintro e w13 ⟨rfl, ho13⟩
                  have HA3 := hide (Only.trans HA2.out ho13)
                  clear ho13
                  refine hK _ _ (lk.out _ HA3.out) ?_
                  clear hK K
                  have f3 := lk.out _ HA3.out
                  repeat (first | ((refine wpText_h rfl rfl ?_; apply Exists.intro; refine ⟨?_, ?_⟩; next => (go_simp; (try (go_bits; go_simp)); (first | done | with_reducible rfl | (rw [if_neg (by omega)]; (try (go_bits; go_simp)); (first | done | with_reducible rfl)) | (rw [if_pos (by omega)]; (try (go_bits; go_simp)); (first | done | with_reducible rfl))))); (try simp only [Act.put, List.setIfInBounds_toArray, List.set_cons_zero, List.set_cons_succ])) | ((refine wpText_p rfl rfl ?_; apply Exists.intro; refine ⟨?_, ?_⟩; next => (intro w'; go_simp; (try (go_bits; go_simp)); (first | done | with_reducible rfl | (rw [if_neg (by omega)]; (try (go_bits; go_simp)); (first | done | with_reducible rfl)) | (rw [if_pos (by omega)]; (try (go_bits; go_simp)); (first | done | with_reducible rfl))))); (try simp only [Act.put, List.setIfInBounds_toArray, List.set_cons_zero, List.set_cons_succ])) | ((refine wpText_y rfl rfl ?_; apply Exists.intro; refine ⟨?_, ?_⟩; next => (intro w' hS; (first | obtain ⟨_, rfl⟩ := hS | skip); go_simp; (try (go_bits; go_simp)); (first | done | with_reducible rfl | (rw [if_neg (by omega)]; (try (go_bits; go_simp)); (first | done | with_reducible rfl)) | (rw [if_pos (by omega)]; (try (go_bits; go_simp)); (first | done | with_reducible rfl))))); (try simp only [Act.put, List.setIfInBounds_toArray, List.set_cons_zero, List.set_cons_succ])) | (refine wpText_skip (by first | exact .inl rfl | exact .inr (.inl rfl) | exact .inr (.inr rfl)) rfl ?_; (try simp only [Act.put, List.setIfInBounds_toArray, List.set_cons_zero, List.set_cons_succ])))
                  refine wpText_e rfl rfl (fun K hK => ?_)
                  go_wp2_with fail
                  refine (rage_ok z base _ _ _ (off_keep HXZ.out.2.2.2 (Only.trans HB.out.2.2 HA3.out))).mono ?_
                  rintro e w14 ⟨rfl, ho14⟩
                  have HA4 := hide (Only.trans HA3.out ho14)
                  clear ho14
                  refine hK _ _ (lk.out _ HA4.out) ?_
                  clear hK K
                  have f4 := lk.out _ HA4.out
                  repeat (first | ((refine wpText_h rfl rfl ?_; apply Exists.intro; refine ⟨?_, ?_⟩; next => (go_simp; (try (go_bits; go_simp)); (first | done | with_reducible rfl | (rw [if_neg (by omega)]; (try (go_bits; go_simp)); (first | done | with_reducible rfl)) | (rw [if_pos (by omega)]; (try (go_bits; go_simp)); (first | done | with_reducible rfl))))); (try simp only [Act.put, List.setIfInBounds_toArray, List.set_cons_zero, List.set_cons_succ])) | ((refine wpText_p rfl rfl ?_; apply Exists.intro; refine ⟨?_, ?_⟩; next => (intro w'; go_simp; (try (go_bits; go_simp)); (first | done | with_reducible rfl | (rw [if_neg (by omega)]; (try (go_bits; go_simp)); (first | done | with_reducible rfl)) | (rw [if_pos (by omega)]; (try (go_bits; go_simp)); (first | done | with_reducible rfl))))); (try simp only [Act.put, List.setIfInBounds_toArray, List.set_cons_zero, List.set_cons_succ])) | ((refine wpText_y rfl rfl ?_; apply Exists.intro; refine ⟨?_, ?_⟩; next => (intro w' hS; (first | obtain ⟨_, rfl⟩ := hS | skip); go_simp; (try (go_bits; go_simp)); (first | done | with_reducible rfl | (rw [if_neg (by omega)]; (try (go_bits; go_simp)); (first | done | with_reducible rfl)) | (rw [if_pos (by omega)]; (try (go_bits; go_simp)); (first | done | with_reducible rfl))))); (try simp only [Act.put, List.setIfInBounds_toArray, List.set_cons_zero, List.set_cons_succ])) | (refine wpText_skip (by first | exact .inl rfl | exact .inr (.inl rfl) | exact .inr (.inr rfl)) rfl ?_; (try simp only [Act.put, List.setIfInBounds_toArray, List.set_cons_zero, List.set_cons_succ])))
                  refine wpText_nil ?_
                  go_wp2
                  refine NoX.normal ?_
                  go_wp2
                  go_roundw
                  case rel => exact ⟨k + 1, by omega, by go_num, by (rw [HT.out]) <;> (first | rfl | go_num), hide (Only.trans HW.out (Only.trans HB.out.2.2 HA4.out))⟩
                  case measure => simp [Go.RowKit.intOf]; omega

              · have d2 : (age x == age z) = false := by simpa using c2
                have HT := hide (show oldTo l (k + 1) = od from by
                  unfold oldTo; rw [← HOD.out, HXZ.out.1, HXZ.out.2.1]; simp only; rw [if_neg (by rw [Bool.not_eq_true, ltE_false]; omega)])
                clear c1 c2
                go_wp2
                refine wp_region_text 19 [1, 3, 7, 9] [] [2, 8] (fun w' => w'.cell? ⟨bx, 0, none⟩ = some (.int .u32 x.a) ∧ w'.cell? ⟨bx, 1, none⟩ = some (.int .u64 x.hw) ∧ w'.cell? ⟨bx, 2, none⟩ = some (I64 x.ex) ∧ w'.cell? ⟨bx, 3, none⟩ = some (.slice Ax x.wt.length cx) ∧ w'.cell? ⟨bx, 4, none⟩ = some (I64 x.si) ∧ w'.cell? ⟨bz, 0, none⟩ = some (.int .u32 z.a) ∧ w'.cell? ⟨bz, 1, none⟩ = some (.int .u64 z.hw) ∧ w'.cell? ⟨bz, 2, none⟩ = some (I64 z.ex) ∧ w'.cell? ⟨bz, 3, none⟩ = some (.slice Az z.wt.length cz) ∧ w'.cell? ⟨bz, 4, none⟩ = some (I64 z.si)) (by kernel_rfl) (by kernel_rfl) (lk.out _ HD.out) ?_
                simp only [List.take_succ_cons, List.take_zero, List.drop_succ_cons, List.drop_zero]
                repeat (first | ((refine wpText_h rfl rfl ?_; apply Exists.intro; refine ⟨?_, ?_⟩; next => (go_simp; (try (go_bits; go_simp)); (first | done | with_reducible rfl | (rw [if_neg (by omega)]; (try (go_bits; go_simp)); (first | done | with_reducible rfl)) | (rw [if_pos (by omega)]; (try (go_bits; go_simp)); (first | done | with_reducible rfl))))); (try simp only [Act.put, List.setIfInBounds_toArray, List.set_cons_zero, List.set_cons_succ])) | ((refine wpText_p rfl rfl ?_; apply Exists.intro; refine ⟨?_, ?_⟩; next => (intro w'; go_simp; (try (go_bits; go_simp)); (first | done | with_reducible rfl | (rw [if_neg (by omega)]; (try (go_bits; go_simp)); (first | done | with_reducible rfl)) | (rw [if_pos (by omega)]; (try (go_bits; go_simp)); (first | done | with_reducible rfl))))); (try simp only [Act.put, List.setIfInBounds_toArray, List.set_cons_zero, List.set_cons_succ])) | ((refine wpText_y rfl rfl ?_; apply Exists.intro; refine ⟨?_, ?_⟩; next => (intro w' hS; (first | obtain ⟨_, rfl⟩ := hS | skip); go_simp; (try (go_bits; go_simp)); (first | done | with_reducible rfl | (rw [if_neg (by omega)]; (try (go_bits; go_simp)); (first | done | with_reducible rfl)) | (rw [if_pos (by omega)]; (try (go_bits; go_simp)); (first | done | with_reducible rfl))))); (try simp only [Act.put, List.setIfInBounds_toArray, List.set_cons_zero, List.set_cons_succ])) | (refine wpText_skip (by first | exact .inl rfl | exact .inr (.inl rfl) | exact .inr (.inr rfl)) rfl ?_; (try simp only [Act.put, List.setIfInBounds_toArray, List.set_cons_zero, List.set_cons_succ])))
                refine wpText_e rfl rfl (fun K hK => ?_)
                go_wp2_with fail
                refine (rage_ok x base _ _ _ (off_keep HXZ.out.2.2.1 (Only.trans HB.out.2.2 HD.out))).mono ?_
                rintro e w11 ⟨rfl, ho11⟩
                have HA1 := hide (Only.trans HD.out ho11)
                clear ho11
                refine hK _ _ (lk.out _ HA1.out) ?_
                clear hK K
                have f1 := lk.out _ HA1.out
                repeat (first | ((refine wpText_h rfl rfl ?_; apply Exists.intro; refine ⟨?_, ?_⟩; next => (go_simp; (try (go_bits; go_simp)); (first | done | with_reducible rfl | (rw [if_neg (by omega)]; (try (go_bits; go_simp)); (first | done | with_reducible rfl)) | (rw [if_pos (by omega)]; (try (go_bits; go_simp)); (first | done | with_reducible rfl))))); (try simp only [Act.put, List.setIfInBounds_toArray, List.set_cons_zero, List.set_cons_succ])) | ((refine wpText_p rfl rfl ?_; apply Exists.intro; refine ⟨?_, ?_⟩; next => (intro w'; go_simp; (try (go_bits; go_simp)); (first | done | with_reducible rfl | (rw [if_neg (by omega)]; (try (go_bits; go_simp)); (first | done | with_reducible rfl)) | (rw [if_pos (by omega)]; (try (go_bits; go_simp)); (first | done | with_reducible rfl))))); (try simp only [Act.put, List.setIfInBounds_toArray, List.set_cons_zero, List.set_cons_succ])) | ((refine wpText_y rfl rfl ?_; apply Exists.intro; refine ⟨?_, ?_⟩; next => (intro w' hS; (first | obtain ⟨_, rfl⟩ := hS | skip); go_simp; (try (go_bits; go_simp)); (first | done | with_reducible rfl | (rw [if_neg (by omega)]; (try (go_bits; go_simp)); (first | done | with_reducible rfl)) | (rw [if_pos (by omega)]; (try (go_bits; go_simp)); (first | done | with_reducible rfl))))); (try simp only [Act.put, List.setIfInBounds_toArray, List.set_cons_zero, List.set_cons_succ])) | (refine wpText_skip (by first | exact .inl rfl | exact .inr (.inl rfl) | exact .inr (.inr rfl)) rfl ?_; (try simp only [Act.put, List.setIfInBounds_toArray, List.set_cons_zero, List.set_cons_succ])))
                refine wpText_e rfl rfl (fun K hK => ?_)
                go_wp2_with fail
                refine (rage_ok z base _ _ _ (off_keep HXZ.out.2.2.2 (Only.trans HB.out.2.2 HA1.out))).mono ?_
                rintro e w12 ⟨rfl, ho12⟩
                have HA2 := hide (Only.trans HA1.out ho12)
                clear ho12
                refine hK _ _ (lk.out _ HA2.out) ?_
                clear hK K
                have f2 := lk.out _ HA2.out
                repeat (first | ((refine wpText_h rfl rfl ?_; apply Exists.intro; refine ⟨?_, ?_⟩; next => (go_simp; (try (go_bits; go_simp)); (first | done | with_reducible rfl | (rw [if_neg (by omega)]; (try (go_bits; go_simp)); (first | done | with_reducible rfl)) | (rw [if_pos (by omega)]; (try (go_bits; go_simp)); (first | done | with_reducible rfl))))); (try simp only [Act.put, List.setIfInBounds_toArray, List.set_cons_zero, List.set_cons_succ])) | ((refine wpText_p rfl rfl ?_; apply Exists.intro; refine ⟨?_, ?_⟩; next => (intro w'; go_simp; (try (go_bits; go_simp)); (first | done | with_reducible rfl | (rw [if_neg (by omega)]; (try (go_bits; go_simp)); (first | done | with_reducible rfl)) | (rw [if_pos (by omega)]; (try (go_bits; go_simp)); (first | done | with_reducible rfl))))); (try simp only [Act.put, List.setIfInBounds_toArray, List.set_cons_zero, List.set_cons_succ])) | ((refine wpText_y rfl rfl ?_; apply Exists.intro; refine ⟨?_, ?_⟩; next => (intro w' hS; (first | obtain ⟨_, rfl⟩ := hS | skip); go_simp; (try (go_bits; go_simp)); (first | done | with_reducible rfl | (rw [if_neg (by omega)]; (try (go_bits; go_simp)); (first | done | with_reducible rfl)) | (rw [if_pos (by omega)]; (try (go_bits; go_simp)); (first | done | with_reducible rfl))))); (try simp only [Act.put, List.setIfInBounds_toArray, List.set_cons_zero, List.set_cons_succ])) | (refine wpText_skip (by first | exact .inl rfl | exact .inr (.inl rfl) | exact .inr (.inr rfl)) rfl ?_; (try simp only [Act.put, List.setIfInBounds_toArray, List.set_cons_zero, List.set_cons_succ])))
                refine wpText_e rfl rfl (fun K hK => ?_)
                go_wp2_with fail
                refine (rage_ok x base _ _ _ (off_keep HXZ.out.2.2.1 (Only.trans HB.out.2.2 HA2.out))).mono ?_
                rintro e w13 ⟨rfl, ho13⟩
                have HA3 := hide (Only.trans HA2.out ho13)
                clear ho13
                refine hK _ _ (lk.out _ HA3.out) ?_
                clear hK K
                have f3 := lk.out _ HA3.out
                repeat (first | ((refine wpText_h rfl rfl ?_; apply Exists.intro; refine ⟨?_, ?_⟩; next => (go_simp; (try (go_bits; go_simp)); (first | done | with_reducible rfl | (rw [if_neg (by omega)]; (try (go_bits; go_simp)); (first | done | with_reducible rfl)) | (rw [if_pos (by omega)]; (try (go_bits; go_simp)); (first | done | with_reducible rfl))))); (try simp only [Act.put, List.setIfInBounds_toArray, List.set_cons_zero, List.set_cons_succ])) | ((refine wpText_p rfl rfl ?_; apply Exists.intro; refine ⟨?_, ?_⟩; next => (intro w'; go_simp; (try (go_bits; go_simp)); (first | done | with_reducible rfl | (rw [if_neg (by omega)]; (try (go_bits; go_simp)); (first | done | with_reducible rfl)) | (rw [if_pos (by omega)]; (try (go_bits; go_simp)); (first | done | with_reducible rfl))))); (try simp only [Act.put, List.setIfInBounds_toArray, List.set_cons_zero, List.set_cons_succ])) | ((refine wpText_y rfl rfl ?_; apply Exists.intro; refine ⟨?_, ?_⟩; next => (intro w' hS; (first | obtain ⟨_, rfl⟩ := hS | skip); go_simp; (try (go_bits; go_simp)); (first | done | with_reducible rfl | (rw [if_neg (by omega)]; (try (go_bits; go_simp)); (first | done | with_reducible rfl)) | (rw [if_pos (by omega)]; (try (go_bits; go_simp)); (first | done | with_reducible rfl))))); (try simp only [Act.put, List.setIfInBounds_toArray, List.set_cons_zero, List.set_cons_succ])) | (refine wpText_skip (by first | exact .inl rfl | exact .inr (.inl rfl) | exact .inr (.inr rfl)) rfl ?_; (try simp only [Act.put, List.setIfInBounds_toArray, List.set_cons_zero, List.set_cons_succ])))
                refine wpText_e rfl rfl (fun K hK => ?_)
                go_wp2_with fail
                refine (rage_ok z base _ _ _ (off_keep HXZ.out.2.2.2 (Only.trans HB.out.2.2 HA3.out))).mono ?_
                rintro e w14 ⟨rfl, ho14⟩
                have HA4 := hide (Only.trans HA3.out ho14)
                clear ho14
                refine hK _ _ (lk.out _ HA4.out) ?_
                clear hK K
                have f4 := lk.out _ HA4.out
                repeat (first | ((refine wpText_h rfl rfl ?_; apply Exists.intro; refine ⟨?_, ?_⟩; next => (go_simp; (try (go_bits; go_simp)); (first | done | with_reducible rfl | (rw [if_neg (by omega)]; (try (go_bits; go_simp)); (first | done | with_reducible rfl)) | (rw [if_pos (by omega)]; (try (go_bits; go_simp)); (first | done | with_reducible rfl))))); (try simp only [Act.put, List.setIfInBounds_toArray, List.set_cons_zero, List.set_cons_succ])) | ((refine wpText_p rfl rfl ?_; apply Exists.intro; refine ⟨?_, ?_⟩; next => (intro w'; go_simp; (try (go_bits; go_simp)); (first | done | with_reducible rfl | (rw [if_neg (by omega)]; (try (go_bits; go_simp)); (first | done | with_reducible rfl)) | (rw [if_pos (by omega)]; (try (go_bits; go_simp)); (first | done | with_reducible rfl))))); (try simp only [Act.put, List.setIfInBounds_toArray, List.set_cons_zero, List.set_cons_succ])) | ((refine wpText_y rfl rfl ?_; apply Exists.intro; refine ⟨?_, ?_⟩; next => (intro w' hS; (first | obtain ⟨_, rfl⟩ := hS | skip); go_simp; (try (go_bits; go_simp)); (first | done | with_reducible rfl | (rw [if_neg (by omega)]; (try (go_bits; go_simp)); (first | done | with_reducible rfl)) | (rw [if_pos (by omega)]; (try (go_bits; go_simp)); (first | done | with_reducible rfl))))); (try simp only [Act.put, List.setIfInBounds_toArray, List.set_cons_zero, List.set_cons_succ])) | (refine wpText_skip (by first | exact .inl rfl | exact .inr (.inl rfl) | exact .inr (.inr rfl)) rfl ?_; (try simp only [Act.put, List.setIfInBounds_toArray, List.set_cons_zero, List.set_cons_succ])))
                refine wpText_nil ?_
                go_wp2
                refine NoX.normal ?_
                go_wp2
                go_roundw
                case rel => exact ⟨k + 1, by omega, by go_num, by (rw [HT.out]) <;> (first | rfl | go_num), hide (Only.trans HW.out (Only.trans HB.out.2.2 HA4.out))⟩
                case measure => simp [Go.RowKit.intOf]; omega

        · obtain rfl : k = 199 := by omega
          have hoi : od = oldI l := by rw [HOD.out]; unfold oldI; rw [HN.out]
          have hr2 := HW0.out.row
          rw [HN.out] at hr2
          obtain ⟨g, o, cap, cs, hva, hB, -, -⟩ := off_blk hr2 (by omega)
          injection hva with e1 e2 e3
          subst e1 e3
          have hc := off_cap hr2
          have HOI := hide hoi
          have HR2 := hide hr2
          have HZ0 := hide hz0
          have f2 := HW0.out.me.frozen 1
          have hbd := build_rent a
          obtain ⟨i0, hi0, hz0', hs0, hb0⟩ := info_parts rentry_info
          have hny := off_ne_blk hr2 HW0.out.me (by decide)
          have hgy : g ≠ y := by simpa [Value.ownBlock] using hny
          have hone := rcl_one zs (fun q hq => by obtain ⟨qs, h1, -⟩ := HW0.out.wts q hq; exact off_one h1)
          have HONE := hide hone
          have hT := off_take HR2.out (i := od) (by omega)
          rw [rcl_take] at hT
          have HTK := hide hT
          have hO1 := hide (((Only.refl [] wr).alloc (.cells #[] rentT)).drew)
          have hm1 := hide (off_of_own (own_nil (World.ownsRow_made (base := wr.heap.size) (e := rentT) (size := 5) wr #[] 0 (Nat.le_refl _) (by simp [maxLen]) rfl) ((Only.refl [] _).drew)))
          clear hoi hr2 hz0 hny hone hT hB
          have HONEZ := hide (show ∀ q ∈ zs, q.2.oneCell' = true from fun q hq => by obtain ⟨qs, h1, -⟩ := HW0.out.wts q hq; exact off_one h1)
          go_wp2
          go_cut [] (fun wx => EvS y life clock zs od wr wx)
          case first =>
            by_cases hc1 : c = od + 1
            · subst hc1
              refine wp_region_text 16 [1, 8] [0, 2, 3, 4, 6, 7, 9, 10, 11, 13, 14, 15] [5, 12] (fun w' => w'.cell? ⟨y, 1, none⟩ = some (.slice (some ⟨g, o, none⟩) 200 (od + 1))) (by kernel_rfl) (by kernel_rfl) (by go_simp) ?_
              simp only [List.take_succ_cons, List.take_zero, List.drop_succ_cons, List.drop_zero]
              repeat (first | ((refine wpText_h rfl rfl ?_; apply Exists.intro; refine ⟨?_, ?_⟩; next => (go_simp; (try (go_bits; go_simp)); (first | done | with_reducible rfl | (rw [if_neg (by omega)]; (try (go_bits; go_simp)); (first | done | with_reducible rfl)) | (rw [if_pos (by omega)]; (try (go_bits; go_simp)); (first | done | with_reducible rfl))))); (try simp only [Act.put, List.setIfInBounds_toArray, List.set_cons_zero, List.set_cons_succ])) | ((refine wpText_p rfl rfl ?_; apply Exists.intro; refine ⟨?_, ?_⟩; next => (intro w'; go_simp; (try (go_bits; go_simp)); (first | done | with_reducible rfl | (rw [if_neg (by omega)]; (try (go_bits; go_simp)); (first | done | with_reducible rfl)) | (rw [if_pos (by omega)]; (try (go_bits; go_simp)); (first | done | with_reducible rfl))))); (try simp only [Act.put, List.setIfInBounds_toArray, List.set_cons_zero, List.set_cons_succ])) | ((refine wpText_y rfl rfl ?_; apply Exists.intro; refine ⟨?_, ?_⟩; next => (intro w' hS; (first | obtain ⟨_, rfl⟩ := hS | skip); go_simp; (try (go_bits; go_simp)); (first | done | with_reducible rfl | (rw [if_neg (by omega)]; (try (go_bits; go_simp)); (first | done | with_reducible rfl)) | (rw [if_pos (by omega)]; (try (go_bits; go_simp)); (first | done | with_reducible rfl))))); (try simp only [Act.put, List.setIfInBounds_toArray, List.set_cons_zero, List.set_cons_succ])) | (refine wpText_skip (by first | exact .inl rfl | exact .inr (.inl rfl) | exact .inr (.inr rfl)) rfl ?_; (try simp only [Act.put, List.setIfInBounds_toArray, List.set_cons_zero, List.set_cons_succ])))
              refine wpText_e rfl rfl (fun K hK => ?_)
              go_wp2
              refine hK _ _ (by go_simp) ?_
              clear hK K
              try simp only [Act.put, List.setIfInBounds_toArray, List.set_cons_zero, List.set_cons_succ]
              repeat (first | ((refine wpText_h rfl rfl ?_; apply Exists.intro; refine ⟨?_, ?_⟩; next => (go_simp; (try (go_bits; go_simp)); (first | done | with_reducible rfl | (rw [if_neg (by omega)]; (try (go_bits; go_simp)); (first | done | with_reducible rfl)) | (rw [if_pos (by omega)]; (try (go_bits; go_simp)); (first | done | with_reducible rfl))))); (try simp only [Act.put, List.setIfInBounds_toArray, List.set_cons_zero, List.set_cons_succ])) | ((refine wpText_p rfl rfl ?_; apply Exists.intro; refine ⟨?_, ?_⟩; next => (intro w'; go_simp; (try (go_bits; go_simp)); (first | done | with_reducible rfl | (rw [if_neg (by omega)]; (try (go_bits; go_simp)); (first | done | with_reducible rfl)) | (rw [if_pos (by omega)]; (try (go_bits; go_simp)); (first | done | with_reducible rfl))))); (try simp only [Act.put, List.setIfInBounds_toArray, List.set_cons_zero, List.set_cons_succ])) | ((refine wpText_y rfl rfl ?_; apply Exists.intro; refine ⟨?_, ?_⟩; next => (intro w' hS; (first | obtain ⟨_, rfl⟩ := hS | skip); go_simp; (try (go_bits; go_simp)); (first | done | with_reducible rfl | (rw [if_neg (by omega)]; (try (go_bits; go_simp)); (first | done | with_reducible rfl)) | (rw [if_pos (by omega)]; (try (go_bits; go_simp)); (first | done | with_reducible rfl))))); (try simp only [Act.put, List.setIfInBounds_toArray, List.set_cons_zero, List.set_cons_succ])) | (refine wpText_skip (by first | exact .inl rfl | exact .inr (.inl rfl) | exact .inr (.inr rfl)) rfl ?_; (try simp only [Act.put, List.setIfInBounds_toArray, List.set_cons_zero, List.set_cons_succ])))
              refine wpText_e rfl rfl (fun K hK => ?_)
              refine wp_append_offs _ (.tmp 80) (.tmp 86) 165 rfl rentT i0 (.agg #[.int .u32 0, .int .u64 0, I64 0, .slice none 0 0, I64 0]) 5 56 Try.underlying165 hi0 hz0' hs0 hb0 rfl (by decide) wr.heap.size (.slice (some ⟨wr.heap.size, 0, none⟩) 0 0) 0 [] rfl hm1.out hO1.out.size base (.slice (some ⟨g, o, none⟩) od (od + 1)) od ((zs.take od).flatMap rcl) rfl (off_keep HTK.out hO1.out) (rcl_one (zs.take od) (fun q hq => HONEZ.out q (List.mem_of_mem_take hq))) (by simp only [maxLen]; omega) (by omega) ?_
              intro v3 w3 hr3 ho3 hv3
              rw [Nat.zero_add, List.nil_append] at hr3
              obtain ⟨A3, c3, rfl⟩ := off_shape hr3
              have hO3 : Only [] wr w3 := hO1.out.trans' ho3 (by intro i hi hl; simp [Value.ownBlock] at hi; omega)
              have me3 := hO3.blk HW0.out.me (by simp)
              have b3 := me3.cell (i := 1) rfl
              have l3 := me3.lt
              refine hK _ _ b3 ?_
              clear hK K
              have H3 := hide (show _ ∧ _ ∧ _ from ⟨hr3, hO3, me3⟩)
              clear hr3 ho3 hv3 hO3 me3
              repeat (first | ((refine wpText_h rfl rfl ?_; apply Exists.intro; refine ⟨?_, ?_⟩; next => (go_simp; (try (go_bits; go_simp)); (first | done | with_reducible rfl | (rw [if_neg (by omega)]; (try (go_bits; go_simp)); (first | done | with_reducible rfl)) | (rw [if_pos (by omega)]; (try (go_bits; go_simp)); (first | done | with_reducible rfl))))); (try simp only [Act.put, List.setIfInBounds_toArray, List.set_cons_zero, List.set_cons_succ])) | ((refine wpText_p rfl rfl ?_; apply Exists.intro; refine ⟨?_, ?_⟩; next => (intro w'; go_simp; (try (go_bits; go_simp)); (first | done | with_reducible rfl | (rw [if_neg (by omega)]; (try (go_bits; go_simp)); (first | done | with_reducible rfl)) | (rw [if_pos (by omega)]; (try (go_bits; go_simp)); (first | done | with_reducible rfl))))); (try simp only [Act.put, List.setIfInBounds_toArray, List.set_cons_zero, List.set_cons_succ])) | ((refine wpText_y rfl rfl ?_; apply Exists.intro; refine ⟨?_, ?_⟩; next => (intro w' hS; (first | obtain ⟨_, rfl⟩ := hS | skip); go_simp; (try (go_bits; go_simp)); (first | done | with_reducible rfl | (rw [if_neg (by omega)]; (try (go_bits; go_simp)); (first | done | with_reducible rfl)) | (rw [if_pos (by omega)]; (try (go_bits; go_simp)); (first | done | with_reducible rfl))))); (try simp only [Act.put, List.setIfInBounds_toArray, List.set_cons_zero, List.set_cons_succ])) | (refine wpText_skip (by first | exact .inl rfl | exact .inr (.inl rfl) | exact .inr (.inr rfl)) rfl ?_; (try simp only [Act.put, List.setIfInBounds_toArray, List.set_cons_zero, List.set_cons_succ])))
              refine wpText_nil ?_
              go_wp2_with (at_builtin; refine wpList_append_offs _ rfl (.tmp 87) (.tmp 94) 165 rfl rentT i0 (.agg #[.int .u32 0, .int .u64 0, I64 0, .slice none 0 0, I64 0]) 5 56 Try.underlying165 hi0 hz0' hs0 hb0 rfl (by decide) wr.heap.size (.slice A3 od c3) od ((zs.take od).flatMap rcl) rfl H3.out.1 H3.out.2.1.size base (.slice (some ⟨g, o, none⟩) 0 0) 0 ([] : List Value) rfl (off_keep (off_zero HR2.out) H3.out.2.1) (by simp) (by simp only [maxLen]; omega) (by omega) ?_)
              intro v4 w4 hr4 ho4 hv4
              have hO4 : Only [] wr w4 := H3.out.2.1.trans' ho4 (by intro i hi hl; have := (off_ge H3.out.1 i (mem_own.1 hi)).1; omega)
              have me4 := hO4.blk HW0.out.me (by simp)
              have f4 := me4.frozen 1
              have b4 := me4.cell (i := 1) rfl
              have l4 := me4.lt
              obtain ⟨A4, c4, rfl⟩ := off_shape hr4
              have H4 := hide (show _ ∧ _ ∧ _ from ⟨hr4, hO4, me4⟩)
              clear hr4 ho4 hv4 hO4 me4
              go_wp2
              refine NoX.normal ?_
              go_wp2
              go_meet
              refine ⟨_, H4.out.2.2.set 1 _, ?_, (H4.out.2.1.mono (S' := [y]) (by simp)).set (p := ⟨y, 1, none⟩) (.inl (by simp)) _⟩
              have h9 := off_set H4.out.1 (p := ⟨y, 1, none⟩) (off_ne_blk H4.out.1 H4.out.2.2 (by decide)) (.slice A4 (od + 0) c4)
              have h10 : (zs.eraseIdx od).flatMap rcl = (zs.take od).flatMap rcl ++ ([] : List Value) := by
                rw [List.eraseIdx_eq_take_drop_succ, List.flatMap_append]; rw [List.drop_of_length_le (by rw [H.out.len, HN.out]; omega)]; rfl
              rw [h10]
              simp only [List.append_nil, Nat.add_zero] at h9 ⊢
              have h11 : od = 199 := by omega
              rw [h11] at h9 ⊢
              exact h9

            · have hc2 : ¬ (od + 1 = c) := by omega
              have hD := off_drop HR2.out (k := od + 1) (by omega)
              rw [rcl_drop, show 200 - (od + 1) = 199 - od by omega] at hD
              have HSRC := hide hD
              clear hD
              refine wp_region_text 16 [1, 8] [0, 2, 3, 4, 6, 7, 9, 10, 11, 13, 14, 15] [5, 12] (fun w' => w'.cell? ⟨y, 1, none⟩ = some (.slice (some ⟨g, o, none⟩) 200 c)) (by kernel_rfl) (by kernel_rfl) (by go_simp) ?_
              simp only [List.take_succ_cons, List.take_zero, List.drop_succ_cons, List.drop_zero]
              repeat (first | ((refine wpText_h rfl rfl ?_; apply Exists.intro; refine ⟨?_, ?_⟩; next => (go_simp; (try (go_bits; go_simp)); (first | done | with_reducible rfl | (rw [if_neg (by omega)]; (try (go_bits; go_simp)); (first | done | with_reducible rfl)) | (rw [if_pos (by omega)]; (try (go_bits; go_simp)); (first | done | with_reducible rfl))))); (try simp only [Act.put, List.setIfInBounds_toArray, List.set_cons_zero, List.set_cons_succ])) | ((refine wpText_p rfl rfl ?_; apply Exists.intro; refine ⟨?_, ?_⟩; next => (intro w'; go_simp; (try (go_bits; go_simp)); (first | done | with_reducible rfl | (rw [if_neg (by omega)]; (try (go_bits; go_simp)); (first | done | with_reducible rfl)) | (rw [if_pos (by omega)]; (try (go_bits; go_simp)); (first | done | with_reducible rfl))))); (try simp only [Act.put, List.setIfInBounds_toArray, List.set_cons_zero, List.set_cons_succ])) | ((refine wpText_y rfl rfl ?_; apply Exists.intro; refine ⟨?_, ?_⟩; next => (intro w' hS; (first | obtain ⟨_, rfl⟩ := hS | skip); go_simp; (try (go_bits; go_simp)); (first | done | with_reducible rfl | (rw [if_neg (by omega)]; (try (go_bits; go_simp)); (first | done | with_reducible rfl)) | (rw [if_pos (by omega)]; (try (go_bits; go_simp)); (first | done | with_reducible rfl))))); (try simp only [Act.put, List.setIfInBounds_toArray, List.set_cons_zero, List.set_cons_succ])) | (refine wpText_skip (by first | exact .inl rfl | exact .inr (.inl rfl) | exact .inr (.inr rfl)) rfl ?_; (try simp only [Act.put, List.setIfInBounds_toArray, List.set_cons_zero, List.set_cons_succ])))
              refine wpText_e rfl rfl (fun K hK => ?_)
              go_wp2
              refine hK _ _ (by go_simp) ?_
              clear hK K
              try simp only [Act.put, List.setIfInBounds_toArray, List.set_cons_zero, List.set_cons_succ]
              repeat (first | ((refine wpText_h rfl rfl ?_; apply Exists.intro; refine ⟨?_, ?_⟩; next => (go_simp; (try (go_bits; go_simp)); (first | done | with_reducible rfl | (rw [if_neg (by omega)]; (try (go_bits; go_simp)); (first | done | with_reducible rfl)) | (rw [if_pos (by omega)]; (try (go_bits; go_simp)); (first | done | with_reducible rfl))))); (try simp only [Act.put, List.setIfInBounds_toArray, List.set_cons_zero, List.set_cons_succ])) | ((refine wpText_p rfl rfl ?_; apply Exists.intro; refine ⟨?_, ?_⟩; next => (intro w'; go_simp; (try (go_bits; go_simp)); (first | done | with_reducible rfl | (rw [if_neg (by omega)]; (try (go_bits; go_simp)); (first | done | with_reducible rfl)) | (rw [if_pos (by omega)]; (try (go_bits; go_simp)); (first | done | with_reducible rfl))))); (try simp only [Act.put, List.setIfInBounds_toArray, List.set_cons_zero, List.set_cons_succ])) | ((refine wpText_y rfl rfl ?_; apply Exists.intro; refine ⟨?_, ?_⟩; next => (intro w' hS; (first | obtain ⟨_, rfl⟩ := hS | skip); go_simp; (try (go_bits; go_simp)); (first | done | with_reducible rfl | (rw [if_neg (by omega)]; (try (go_bits; go_simp)); (first | done | with_reducible rfl)) | (rw [if_pos (by omega)]; (try (go_bits; go_simp)); (first | done | with_reducible rfl))))); (try simp only [Act.put, List.setIfInBounds_toArray, List.set_cons_zero, List.set_cons_succ])) | (refine wpText_skip (by first | exact .inl rfl | exact .inr (.inl rfl) | exact .inr (.inr rfl)) rfl ?_; (try simp only [Act.put, List.setIfInBounds_toArray, List.set_cons_zero, List.set_cons_succ])))
              refine wpText_e rfl rfl (fun K hK => ?_)
              refine wp_append_offs _ (.tmp 80) (.tmp 86) 165 rfl rentT i0 (.agg #[.int .u32 0, .int .u64 0, I64 0, .slice none 0 0, I64 0]) 5 56 Try.underlying165 hi0 hz0' hs0 hb0 rfl (by decide) wr.heap.size (.slice (some ⟨wr.heap.size, 0, none⟩) 0 0) 0 [] rfl hm1.out hO1.out.size base (.slice (some ⟨g, o, none⟩) od c) od ((zs.take od).flatMap rcl) rfl (off_keep HTK.out hO1.out) (rcl_one (zs.take od) (fun q hq => HONEZ.out q (List.mem_of_mem_take hq))) (by simp only [maxLen]; omega) (by omega) ?_
              intro v3 w3 hr3 ho3 hv3
              rw [Nat.zero_add, List.nil_append] at hr3
              obtain ⟨A3, c3, rfl⟩ := off_shape hr3
              have hO3 : Only [] wr w3 := hO1.out.trans' ho3 (by intro i hi hl; simp [Value.ownBlock] at hi; omega)
              have me3 := hO3.blk HW0.out.me (by simp)
              have b3 := me3.cell (i := 1) rfl
              have l3 := me3.lt
              refine hK _ _ b3 ?_
              clear hK K
              have H3 := hide (show _ ∧ _ ∧ _ from ⟨hr3, hO3, me3⟩)
              clear hr3 ho3 hv3 hO3 me3
              repeat (first | ((refine wpText_h rfl rfl ?_; apply Exists.intro; refine ⟨?_, ?_⟩; next => (go_simp; (try (go_bits; go_simp)); (first | done | with_reducible rfl | (rw [if_neg (by omega)]; (try (go_bits; go_simp)); (first | done | with_reducible rfl)) | (rw [if_pos (by omega)]; (try (go_bits; go_simp)); (first | done | with_reducible rfl))))); (try simp only [Act.put, List.setIfInBounds_toArray, List.set_cons_zero, List.set_cons_succ])) | ((refine wpText_p rfl rfl ?_; apply Exists.intro; refine ⟨?_, ?_⟩; next => (intro w'; go_simp; (try (go_bits; go_simp)); (first | done | with_reducible rfl | (rw [if_neg (by omega)]; (try (go_bits; go_simp)); (first | done | with_reducible rfl)) | (rw [if_pos (by omega)]; (try (go_bits; go_simp)); (first | done | with_reducible rfl))))); (try simp only [Act.put, List.setIfInBounds_toArray, List.set_cons_zero, List.set_cons_succ])) | ((refine wpText_y rfl rfl ?_; apply Exists.intro; refine ⟨?_, ?_⟩; next => (intro w' hS; (first | obtain ⟨_, rfl⟩ := hS | skip); go_simp; (try (go_bits; go_simp)); (first | done | with_reducible rfl | (rw [if_neg (by omega)]; (try (go_bits; go_simp)); (first | done | with_reducible rfl)) | (rw [if_pos (by omega)]; (try (go_bits; go_simp)); (first | done | with_reducible rfl))))); (try simp only [Act.put, List.setIfInBounds_toArray, List.set_cons_zero, List.set_cons_succ])) | (refine wpText_skip (by first | exact .inl rfl | exact .inr (.inl rfl) | exact .inr (.inr rfl)) rfl ?_; (try simp only [Act.put, List.setIfInBounds_toArray, List.set_cons_zero, List.set_cons_succ])))
              refine wpText_nil ?_
              go_wp2_with (at_builtin; refine wpList_append_offs _ rfl (.tmp 87) (.tmp 94) 165 rfl rentT i0 (.agg #[.int .u32 0, .int .u64 0, I64 0, .slice none 0 0, I64 0]) 5 56 Try.underlying165 hi0 hz0' hs0 hb0 rfl (by decide) wr.heap.size (.slice A3 od c3) od ((zs.take od).flatMap rcl) rfl H3.out.1 H3.out.2.1.size base (.slice (some ⟨g, o + (od + 1) * 5, none⟩) (199 - od) (c - (od + 1))) (199 - od) ((zs.drop (od + 1)).flatMap rcl) rfl (off_keep HSRC.out H3.out.2.1) (rcl_one (zs.drop (od + 1)) (fun q hq => HONEZ.out q (List.mem_of_mem_drop hq))) (by simp only [maxLen]; omega) (by omega) ?_)
              intro v4 w4 hr4 ho4 hv4
              have hO4 : Only [] wr w4 := H3.out.2.1.trans' ho4 (by intro i hi hl; have := (off_ge H3.out.1 i (mem_own.1 hi)).1; omega)
              have me4 := hO4.blk HW0.out.me (by simp)
              have f4 := me4.frozen 1
              have b4 := me4.cell (i := 1) rfl
              have l4 := me4.lt
              obtain ⟨A4, c4, rfl⟩ := off_shape hr4
              have H4 := hide (show _ ∧ _ ∧ _ from ⟨hr4, hO4, me4⟩)
              clear hr4 ho4 hv4 hO4 me4
              go_wp2
              refine NoX.normal ?_
              go_wp2
              go_meet
              refine ⟨_, H4.out.2.2.set 1 _, ?_, (H4.out.2.1.mono (S' := [y]) (by simp)).set (p := ⟨y, 1, none⟩) (.inl (by simp)) _⟩
              have h9 := off_set H4.out.1 (p := ⟨y, 1, none⟩) (off_ne_blk H4.out.1 H4.out.2.2 (by decide)) (.slice A4 (od + (199 - od)) c4)
              have h10 : (zs.eraseIdx od).flatMap rcl = (zs.take od).flatMap rcl ++ ((zs.drop (od + 1)).flatMap rcl) := by
                rw [List.eraseIdx_eq_take_drop_succ, List.flatMap_append]
              rw [h10]
              have h11 : od + (199 - od) = 199 := by omega
              rw [h11] at h9
              exact h9

          case rest =>
            obtain ⟨v4, hme, hrw, hO⟩ := hcut
            obtain ⟨A4, c4, rfl⟩ := off_shape hrw
            have b4 := hme.cell (i := 1) rfl
            have f4 := hme.frozen 1
            have l4 := hme.lt
            have hE : Hid (entL l a = rmOld l ++ [newE a] ∧ inE l a = newE a) := hide ⟨entL_full HG.out (by rw [HN.out]; omega), by unfold inE; rw [HG.out]; rfl⟩
            have HE4 := hide (show _ ∧ _ ∧ _ from ⟨hme, hrw, hO⟩)
            clear hme hrw hO b2 lt2 f2
            go_wp2_with (at_builtin; refine wpList_append_off _ rfl (.tmp 102) (.tmp 105) 165 rfl rentT i0 (.agg #[.int .u32 0, .int .u64 0, I64 0, .slice none 0 0, I64 0]) 5 56 Try.underlying165 hi0 hz0' hs0 hb0 rfl (by decide) wr.heap.size (.slice A4 199 c4) 199 ((zs.eraseIdx od).flatMap rcl) rfl (off_keep HE4.out.2.1 ((Only.refl [] wc).alloc _)) (Nat.le_trans HE4.out.2.2.size ((Only.refl [] wc).alloc _).size) ⟨wc.heap.size, 0, none⟩ 1 1 [.int .u32 a, .int .u64 0, I64 0, .slice none 0 0, I64 0] rfl rfl ?_ (by simp [Value.oneCell']) (by simp only [maxLen]; omega) (by omega) ?_)
            · intro j u hu
              rw [show (⟨wc.heap.size, 0, none⟩ : Addr).add j = ⟨wc.heap.size, j, none⟩ by unfold Addr.add; split <;> simp_all]
              exact ((Blk.newA (c := #[.int .u32 a, .int .u64 0, I64 0, .slice none 0 0, I64 0]) rfl)).cell hu
            intro v5 w5 hr5 ho5 hv5
            have hny := off_ne_blk HE4.out.2.1 HE4.out.1 (by decide)
            have hme5 := ho5.blk (HE4.out.1.alloc (.cells #[.int .u32 a, .int .u64 0, I64 0, .slice none 0 0, I64 0] 177)) (fun hh => hny (mem_own.1 hh))
            have b5 := hme5.cell (i := 1) rfl
            have f5 := hme5.frozen 1
            have l5 := hme5.lt
            have hS5 : Only [y] wr w5 := ((HE4.out.2.2.trans (((Only.refl [] wc).alloc (.cells #[.int .u32 a, .int .u64 0, I64 0, .slice none 0 0, I64 0] 177)).mono (by simp))).trans' ho5 (fun i hi hl => by have := (off_ge HE4.out.2.1 i (mem_own.1 hi)).1; omega))
            have hn5 := off_ne_blk hr5 hme5 (by decide)
            obtain ⟨A5, c5, rfl⟩ := off_shape hr5
            have H5 := hide (show _ ∧ _ ∧ _ ∧ _ from ⟨hr5, hme5, hS5, hn5⟩)
            clear hr5 hme5 hS5 hn5 ho5 hv5 hny b4 f4 l4
            go_wp2
            go_ret
            have hset : Only [y] wr (w5.setCell ⟨y, 1, none⟩ (.slice A5 200 c5)) := H5.out.2.2.1.set (p := ⟨y, 1, none⟩) (.inl (by simp)) _
            have hall : Only (y :: (Value.slice (some ⟨g, o, none⟩) 200 c).ownBlock.toList) _ (w5.setCell ⟨y, 1, none⟩ (.slice A5 200 c5)) := (HW.out.mono (by simp)).trans (hset.mono (by simp))
            have hrl : (rmOld l).length = 199 := by unfold rmOld; rw [List.length_eraseIdx, if_pos (by rw [← HOI.out, HN.out]; omega), HN.out]
            have hfe : (zs.eraseIdx od).map Prod.fst = rmOld l := by
              unfold rmOld
              rw [← HOI.out, List.eraseIdx_eq_take_drop_succ, List.eraseIdx_eq_take_drop_succ, List.map_append, List.map_take, List.map_drop, H.out.fst]
            refine ⟨199, zs.eraseIdx od ++ [(newE a, .slice none 0 0)], .slice A5 200 c5, rfl, ?_, ?_, hall, .inr ?_⟩
            · rw [hE.out.1]
              refine ⟨H5.out.2.1.set 1 _, ?_, by rw [List.map_append, hfe]; rfl, ?_, ?_, H.out.bq⟩
              · have h1 := off_set H5.out.1 (p := ⟨y, 1, none⟩) H5.out.2.2.2 (.slice A5 200 c5)
                have h2 : (zs.eraseIdx od ++ [(newE a, Value.slice none 0 0)]).flatMap rcl = (zs.eraseIdx od).flatMap rcl ++ [.int .u32 a, .int .u64 0, I64 0, .slice none 0 0, I64 0] := by rw [List.flatMap_append]; rfl
                rw [h2, List.length_append, hrl]
                exact off_base h1 (Nat.le_trans HBW.out HW.out.size)
              · intro q hq
                rcases List.mem_append.1 hq with hq | hq
                · refine wts_sameOn HW0.out.wts (fun i T cs hi hT => hset.block i hi.lt ?_) q ((List.eraseIdx_sublist zs od).subset hq)
                  intro hm
                  simp only [List.mem_cons, List.not_mem_nil, or_false] at hT hm
                  subst hm
                  rcases hT with rfl | rfl
                  · exact absurd rfl (hi.ne HW0.out.me (by decide))
                  · exact absurd rfl (hi.ne HW0.out.me (by decide))
                · obtain rfl : q = (newE a, .slice none 0 0) := by simpa using hq
                  exact ⟨[], off_nil _ _ _ _, PkLie.nil _⟩
              · have := entL_nodup H.out.nodup a
                rw [hE.out.1] at this
                exact this
            · rw [hE.out.1, hE.out.2, List.getElem?_append_right (by rw [hrl]; exact Nat.le_refl _), hrl]
              simp
            · intro i hi
              exact Nat.le_trans HW.out.size (off_ge H5.out.1 i hi).1

/-- The entry of an address. -/
theorem rentry_ok (base y : Nat) (life clock a : Int) (l : List Ent) (zs : List (Ent × Value)) (va : Value) (n : Nat) (w : World) (hn : l.length = n) (hm : n ≤ 1000000) (h : RResAt base y life clock l zs va w) (hbw : base ≤ w.heap.size)
    (hl : (getE l a).isSome = true ∨ n ≤ 200) :
    Calls Try.prog 86 #[.pointer (some ⟨y, 0, none⟩), .int .u32 a] w fun e w' => REntryS base y life clock a l va w e w' := by
  by_cases h1 : (getE l a).isSome = true
  · exact rentry_lt base y life clock a l zs va n w hn hm h hbw (.inl h1)
  · by_cases h2 : n < 200
    · exact rentry_lt base y life clock a l zs va n w hn hm h hbw (.inr h2)
    · have h3 : n = 200 := by
        rcases hl with hl | hl
        · exact absurd hl h1
        · omega
      exact rentry_full base y life clock a l zs va w (by omega) h hbw (by cases hg : getE l a with | none => rfl | some x => rw [hg] at h1; simp at h1)

end Go.Proofs.Ytlnejlhdkmneeaa
