/- route, the closure of PacketsRoutes, EqualFunc at routes that are the same. -/
import Derived.Test.YtlnejlhdkmneeaaRouG
import Derived.Test.YtlnejlhdkmneeaaDecB
namespace Go.Proofs.Ytlnejlhdkmneeaa
open Go.RowKit

theorem build_rrt (a b c d e : Int) : ∀ w : World, (Instr.build 104 #[(0, .int .u32 a), (1, I64 b), (2, .int .u32 c), (3, I64 d), (4, I64 e)]).run Try.prog w = .ok (.agg #[.int .u32 a, I64 b, .int .u32 c, I64 d, I64 e]) w := fun _ => by kernel_rfl

set_option maxHeartbeats 2000000 in
theorem route_ok (x : Rt) (w : World) : Calls Try.prog 50 #[x.V] w fun e w' => e = .returned x.V ∧ Only [] w w' := by
  have hbd := build_rrt x.addr x.bits x.gw x.ifc x.met
  show Calls Try.prog 50 #[.agg #[.int .u32 x.addr, I64 x.bits, .int .u32 x.gw, I64 x.ifc, I64 x.met]] w _
  go_enter Try.func50, Try.ntmps50
  go_wp2
  refine bodyPost_ret (results_cell1 rfl _ _ _ rfl (load_rrt x (Blk.newA (by simp)))) rfl ?_
  exact ⟨rfl, ((Only.refl _ _).alloc _).alloc _⟩

set_option maxRecDepth 100000 in
set_option maxHeartbeats 4000000 in
theorem rsame_ok (x : Rt) (w : World) : Calls Try.prog 59 #[x.V, x.V] w fun e w' => e = .returned (.bool true) ∧ Only [] w w' := by
  have h0 : Blk ((w.alloc (.cells #[.int .u32 x.addr, I64 x.bits, .int .u32 x.gw, I64 x.ifc, I64 x.met] 63)).alloc (.cells #[.int .u32 x.addr, I64 x.bits, .int .u32 x.gw, I64 x.ifc, I64 x.met] 104)) (w.heap.size + 1) 104 [.int .u32 x.addr, I64 x.bits, .int .u32 x.gw, I64 x.ifc, I64 x.met] := Blk.newA (by simp)
  have hO : Only [] w ((w.alloc (.cells #[.int .u32 x.addr, I64 x.bits, .int .u32 x.gw, I64 x.ifc, I64 x.met] 63)).alloc (.cells #[.int .u32 x.addr, I64 x.bits, .int .u32 x.gw, I64 x.ifc, I64 x.met] 104)) := ((Only.refl [] w).alloc _).alloc _
  have HB := hide (And.intro h0 hO)
  have e0 := h0.cell (i := 0) rfl
  have e1 := h0.cell (i := 1) rfl
  have e2 := h0.cell (i := 2) rfl
  have e3 := h0.cell (i := 3) rfl
  have e4 := h0.cell (i := 4) rfl
  have HE : ∀ W : World, (binOp .eql 104 (.agg #[.int .u32 x.addr, I64 x.bits, .int .u32 x.gw, I64 x.ifc, I64 x.met]) (.agg #[.int .u32 x.addr, I64 x.bits, .int .u32 x.gw, I64 x.ifc, I64 x.met])).run Try.prog W = .ok (.bool true) W := fun W => by
    rw [show Value.agg #[.int .u32 x.addr, I64 x.bits, .int .u32 x.gw, I64 x.ifc, I64 x.met] = x.V from rfl, eq_rrt]; simp
  show Calls Try.prog 59 #[.agg #[.int .u32 x.addr, I64 x.bits, .int .u32 x.gw, I64 x.ifc, I64 x.met], .agg #[.int .u32 x.addr, I64 x.bits, .int .u32 x.gw, I64 x.ifc, I64 x.met]] w _
  clear h0 hO
  go_enter Try.func59, Try.ntmps59
  go_wp2
  refine wp_region_text0 5 [1] [] [2] (fun w' => w'.cell? ⟨w.heap.size + 1, 0, none⟩ = some (.int .u32 x.addr) ∧ w'.cell? ⟨w.heap.size + 1, 1, none⟩ = some (I64 x.bits) ∧ w'.cell? ⟨w.heap.size + 1, 2, none⟩ = some (.int .u32 x.gw) ∧ w'.cell? ⟨w.heap.size + 1, 3, none⟩ = some (I64 x.ifc) ∧ w'.cell? ⟨w.heap.size + 1, 4, none⟩ = some (I64 x.met)) (by kernel_rfl) (by kernel_rfl) ⟨e0, e1, e2, e3, e4⟩ ?_
  repeat (first | ((refine wpText_h rfl rfl ?_; apply Exists.intro; refine ⟨?_, ?_⟩; next => (go_simp; (try (go_bits; go_simp)); (first | done | with_reducible rfl | (rw [if_neg (by omega)]; (try (go_bits; go_simp)); (first | done | with_reducible rfl)) | (rw [if_pos (by omega)]; (try (go_bits; go_simp)); (first | done | with_reducible rfl))))); (try simp only [Act.put, List.setIfInBounds_toArray, List.set_cons_zero, List.set_cons_succ])) | ((refine wpText_p rfl rfl ?_; apply Exists.intro; refine ⟨?_, ?_⟩; next => (intro w'; go_simp; (try (go_bits; go_simp)); (first | done | with_reducible rfl | (rw [if_neg (by omega)]; (try (go_bits; go_simp)); (first | done | with_reducible rfl)) | (rw [if_pos (by omega)]; (try (go_bits; go_simp)); (first | done | with_reducible rfl))))); (try simp only [Act.put, List.setIfInBounds_toArray, List.set_cons_zero, List.set_cons_succ])) | ((refine wpText_y rfl rfl ?_; apply Exists.intro; refine ⟨?_, ?_⟩; next => (intro w' hS; (first | obtain ⟨_, rfl⟩ := hS | skip); go_simp; (try (go_bits; go_simp)); (first | done | with_reducible rfl | (rw [if_neg (by omega)]; (try (go_bits; go_simp)); (first | done | with_reducible rfl)) | (rw [if_pos (by omega)]; (try (go_bits; go_simp)); (first | done | with_reducible rfl))))); (try simp only [Act.put, List.setIfInBounds_toArray, List.set_cons_zero, List.set_cons_succ])) | (refine wpText_skip (by first | exact .inl rfl | exact .inr (.inl rfl) | exact .inr (.inr rfl)) rfl ?_; (try simp only [Act.put, List.setIfInBounds_toArray, List.set_cons_zero, List.set_cons_succ])))
  refine wpText_e rfl rfl (fun K hK => ?_)
  go_wp2_with fail
  refine (route_ok x _).mono ?_
  rintro e w1 ⟨rfl, ho⟩
  have h1 := ho.blk HB.out.1.drew (by simp)
  refine hK _ _ ⟨h1.cell rfl, h1.cell rfl, h1.cell rfl, h1.cell rfl, h1.cell rfl⟩ ?_
  clear hK K
  have HF := hide (Only.trans HB.out.2.drew ho)
  clear ho h1 e0 e1 e2 e3 e4
  repeat (first | ((refine wpText_h rfl rfl ?_; apply Exists.intro; refine ⟨?_, ?_⟩; next => (go_simp; (try (go_bits; go_simp)); (first | done | with_reducible rfl | (rw [if_neg (by omega)]; (try (go_bits; go_simp)); (first | done | with_reducible rfl)) | (rw [if_pos (by omega)]; (try (go_bits; go_simp)); (first | done | with_reducible rfl))))); (try simp only [Act.put, List.setIfInBounds_toArray, List.set_cons_zero, List.set_cons_succ])) | ((refine wpText_p rfl rfl ?_; apply Exists.intro; refine ⟨?_, ?_⟩; next => (intro w'; go_simp; (try (go_bits; go_simp)); (first | done | with_reducible rfl | (rw [if_neg (by omega)]; (try (go_bits; go_simp)); (first | done | with_reducible rfl)) | (rw [if_pos (by omega)]; (try (go_bits; go_simp)); (first | done | with_reducible rfl))))); (try simp only [Act.put, List.setIfInBounds_toArray, List.set_cons_zero, List.set_cons_succ])) | ((refine wpText_y rfl rfl ?_; apply Exists.intro; refine ⟨?_, ?_⟩; next => (intro w' hS; (first | obtain ⟨_, rfl⟩ := hS | skip); go_simp; (try (go_bits; go_simp)); (first | done | with_reducible rfl | (rw [if_neg (by omega)]; (try (go_bits; go_simp)); (first | done | with_reducible rfl)) | (rw [if_pos (by omega)]; (try (go_bits; go_simp)); (first | done | with_reducible rfl))))); (try simp only [Act.put, List.setIfInBounds_toArray, List.set_cons_zero, List.set_cons_succ])) | (refine wpText_skip (by first | exact .inl rfl | exact .inr (.inl rfl) | exact .inr (.inr rfl)) rfl ?_; (try simp only [Act.put, List.setIfInBounds_toArray, List.set_cons_zero, List.set_cons_succ])))
  refine wpText_nil ?_
  clear HE
  go_wp2
  go_ret
  exact ⟨rfl, HF.out⟩

set_option maxRecDepth 100000 in
set_option maxHeartbeats 8000000 in
theorem req_ok (A B : Option Addr) (n c c' : Nat) (rs : List Rt) (w : World) (hn : rs.length = n) (hm : n ≤ 1000000) (hA : RtsIn w A rs) (hB : RtsIn w B rs) :
    Calls Try.prog 56 #[.slice A n c, .slice B n c', .func (.func 59) #[] #[]] w fun e w' => e = .returned (.bool true) ∧ Only [] w w' := by
  have HN := hide hn
  have HA := hide hA
  have HB := hide hB
  clear hn hA hB
  go_enter Try.func56, Try.ntmps56
  go_wp2
  go_loopw [17] (fun i wr => ∃ k : Nat, k ≤ n ∧ i = .int .i64 k ∧ Hid (Only [] w wr)) (fun i _ => n - (intOf i).toNat)
  case atStart => exact ⟨0, Nat.zero_le _, rfl, hide (Only.refl _ _)⟩
  case round =>
    obtain ⟨k, hk, rfl, HW⟩ := hrel
    rcases Nat.lt_or_ge k n with hlt | hge
    · obtain ⟨x, hx⟩ : ∃ x, rs[k]? = some x := ⟨_, List.getElem?_eq_getElem (by rw [HN.out]; exact hlt)⟩
      obtain ⟨g, o, rfl, hc1⟩ := HA.out.only HW.out k x hx
      obtain ⟨h, o', rfl, hc2⟩ := HB.out.only HW.out k x hx
      have y0 := hc1 0 _ rfl
      rw [Nat.add_zero] at y0
      have y1 := hc1 1 _ rfl
      have y2 := hc1 2 _ rfl
      have y3 := hc1 3 _ rfl
      have y4 := hc1 4 _ rfl
      have z0 := hc2 0 _ rfl
      rw [Nat.add_zero] at z0
      have z1 := hc2 1 _ rfl
      have z2 := hc2 2 _ rfl
      have z3 := hc2 3 _ rfl
      have z4 := hc2 4 _ rfl
      have lth : h < wr.heap.size := World.block_lt_of_cell? _ _ z0
      clear hx hc1 hc2
      go_wp2_with fail
      refine (rsame_ok x _).mono ?_
      rintro e w1 ⟨rfl, ho⟩
      have H4 := hide (Only.trans ((HW.out.alloc _).alloc _) ho)
      clear ho y0 y1 y2 y3 y4 z0 z1 z2 z3 z4
      go_wp2
      go_roundw
      case rel => exact ⟨k + 1, by omega, by go_num, H4⟩
      case measure => simp [intOf]; omega
    · obtain rfl : k = n := by omega
      go_wp2
      go_ret
      exact ⟨rfl, HW.out⟩

end Go.Proofs.Ytlnejlhdkmneeaa
