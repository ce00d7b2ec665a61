/- Routes: the small functions. -/
import Derived.Test.YtlnejlhdkmneeaaRefA
import Derived.Laws.StructEq
import Derived.Laws.Shifts
namespace Go.Proofs.Ytlnejlhdkmneeaa
open Go.RowKit

/-- The prefix of an address. -/
def pre (a b : Int) : Int := a / 2 ^ (32 - b).toNat * 2 ^ (32 - b).toNat
theorem pre_bd {a b : Int} (h : 0 ≤ a) (h2 : a < 4294967296) : 0 ≤ pre a b ∧ pre a b < 4294967296 := by
  unfold pre
  have h3 : (0 : Int) < 2 ^ (32 - b).toNat := Int.pow_pos (by decide)
  constructor
  · exact Int.mul_nonneg (Int.ediv_nonneg h (Int.le_of_lt h3)) (Int.le_of_lt h3)
  · have := Int.ediv_mul_le a (Int.ne_of_gt h3)
    omega

theorem load_pre {w : World} {b : Nat} {x y : Int} (h : Blk w b 138 [.int .u32 x, I64 y]) : (loadVar 138 ⟨b, 0, none⟩).run Try.prog w = .ok (.agg #[.int .u32 x, I64 y]) w :=
  run_loadVar_cells w b 0 _ [.int .u32 x, I64 y] (d := _) (fun j v hv => by rw [Nat.zero_add]; exact h.cell hv) Try.underlying138 rfl (by kernel_rfl)

set_option maxHeartbeats 1000000 in
theorem first_ok (a b : Int) (w : World) (ha : 0 ≤ a) (ha2 : a < 4294967296) (hb : 0 ≤ b) (hb2 : b ≤ 32) :
    Calls Try.prog 71 #[.int .u32 a, I64 b] w fun e w' => e = .returned (.agg #[.int .u32 (pre a b), I64 b]) ∧ Only [] w w' := by
  go_enter Try.func71, Try.ntmps71
  go_wp2
  have hp := pre_bd (b := b) ha ha2
  have he : IntKind.u64.wrap (a / 2 ^ (32 - b).toNat * 2 ^ (32 - b).toNat) % 4294967296 = pre a b := by
    show IntKind.u64.wrap (pre a b) % 4294967296 = pre a b
    simp [IntKind.wrap, IntKind.bits, IntKind.signed]; omega
  rw [he]
  refine bodyPost_ret (results_cell1 rfl _ _ _ rfl (load_pre (Blk.newA rfl))) rfl ?_
  exact ⟨rfl, (Only.refl _ _).alloc _⟩

/-- cmp.Compare. -/
def cmpI (x y : Int) : Int := if x < y then -1 else if y < x then 1 else 0
set_option maxHeartbeats 1000000 in
theorem cmp_ok (x y : Int) (w : World) : Calls Try.prog 73 #[I64 x, I64 y] w fun e w' => e = .returned (I64 (cmpI x y)) ∧ w' = w := by
  by_cases h1 : x < y
  · have hR : Hid (cmpI x y = -1) := hide (by unfold cmpI; rw [if_pos h1])
    go_enter Try.func73, Try.ntmps73
    go_wp2
    go_ret
    rw [hR.out]; exact ⟨rfl, rfl⟩
  · by_cases h2 : y < x
    · have hR : Hid (cmpI x y = 1) := hide (by unfold cmpI; rw [if_neg h1, if_pos h2])
      go_enter Try.func73, Try.ntmps73
      go_wp2
      go_ret
      rw [hR.out]; exact ⟨rfl, rfl⟩
    · have hR : Hid (cmpI x y = 0) := hide (by unfold cmpI; rw [if_neg h1, if_neg h2])
      go_enter Try.func73, Try.ntmps73
      go_wp2
      go_ret
      rw [hR.out]; exact ⟨rfl, rfl⟩

def orI (x y : Int) : Int := if x = 0 then y else x
set_option maxHeartbeats 1000000 in
theorem or_ok (b o c : Nat) (x y : Int) (w : World) (h0 : w.cell? ⟨b, o, none⟩ = some (I64 x)) (h1 : w.cell? ⟨b, o + 1, none⟩ = some (I64 y)) : Calls Try.prog 72 #[.slice (some ⟨b, o, none⟩) 2 c] w fun e w' => e = .returned (I64 (orI x y)) ∧ w' = w := by
  by_cases d0 : x = 0
  · have hR : Hid (orI x y = y) := hide (by unfold orI; rw [if_pos d0])
    subst d0
    by_cases d1 : y = 0
    · subst d1
      go_enter Try.func72, Try.ntmps72
      go_wp2
      refine wp_loop_rounds 3 ?_
      rw [rounds_succ]
      go_wp2
      rw [rounds_succ]
      go_wp2
      rw [rounds_succ]
      go_wp2
      go_ret
      rw [hR.out]; exact ⟨rfl, rfl⟩
    · have d1' : (y != 0) = true := by simp [d1]
      go_enter Try.func72, Try.ntmps72
      go_wp2
      refine wp_loop_rounds 3 ?_
      rw [rounds_succ]
      go_wp2
      rw [rounds_succ]
      go_wp2
      go_ret
      rw [hR.out]; exact ⟨rfl, rfl⟩
  · have hR : Hid (orI x y = x) := hide (by unfold orI; rw [if_neg d0])
    have d0' : (x != 0) = true := by simp [d0]
    go_enter Try.func72, Try.ntmps72
    go_wp2
    refine wp_loop_rounds 3 ?_
    rw [rounds_succ]
    go_wp2
    go_ret
    rw [hR.out]; exact ⟨rfl, rfl⟩

/-- A route. -/
abbrev rtT : TypeId := 63
structure Rt where
  addr : Int
  bits : Int
  gw : Int
  ifc : Int
  met : Int
deriving DecidableEq
def Rt.cells (r : Rt) : List Value := [.int .u32 r.addr, I64 r.bits, .int .u32 r.gw, I64 r.ifc, I64 r.met]
abbrev Rt.V (r : Rt) : Value := .agg #[.int .u32 r.addr, I64 r.bits, .int .u32 r.gw, I64 r.ifc, I64 r.met]
def Rt.far (r : Rt) : Prop := r.bits < 0 ∨ 32 < r.bits ∨ r.ifc < 0 ∨ 255 < r.ifc ∨ r.met < 0 ∨ 65535 < r.met
instance (r : Rt) : Decidable r.far := by unfold Rt.far; infer_instance
def Rt.code (r : Rt) : Int := if r.far then 34 else if pre r.addr r.bits = r.addr then 0 else 14
def Rt.Fit (r : Rt) : Prop := 0 ≤ r.addr ∧ r.addr < 4294967296

theorem eq_pre (a b c d : Int) (w : World) : (binOp .neq 138 (.agg #[.int .u32 a, I64 b]) (.agg #[.int .u32 c, I64 d])).run Try.prog w = .ok (.bool (!(a == c && b == d))) w := by
  go_simp
  by_cases h1 : a = c <;> by_cases h2 : b = d <;> simp [h1, h2]

theorem eq_rt (r s : Rt) (w : World) : (binOp .eql 63 r.V s.V).run Try.prog w = .ok (.bool (decide (r = s))) w := by
  obtain ⟨r1, r2, r3, r4, r5⟩ := r
  obtain ⟨s1, s2, s3, s4, s5⟩ := s
  go_simp
  by_cases h1 : r1 = s1 <;> by_cases h2 : r2 = s2 <;> by_cases h3 : r3 = s3 <;> by_cases h4 : r4 = s4 <;> by_cases h5 : r5 = s5 <;> simp [h1, h2, h3, h4, h5]

set_option maxRecDepth 100000 in
set_option maxHeartbeats 4000000 in
theorem check_ok (r : Rt) (w : World) (hf : r.Fit) : Calls Try.prog 69 #[r.V] w fun e w' => e = .returned (I64 r.code) ∧ Only [] w w' := by
  have hO : Only [] w (w.alloc (.cells #[.int .u32 r.addr, I64 r.bits, .int .u32 r.gw, I64 r.ifc, I64 r.met] 63)) := (Only.refl [] w).alloc _
  have hB : Blk (w.alloc (.cells #[.int .u32 r.addr, I64 r.bits, .int .u32 r.gw, I64 r.ifc, I64 r.met] 63)) w.heap.size 63 [.int .u32 r.addr, I64 r.bits, .int .u32 r.gw, I64 r.ifc, I64 r.met] := Blk.newA rfl
  have HO := hide (And.intro hO hB)
  clear hO hB
  show Calls Try.prog 69 #[.agg #[.int .u32 r.addr, I64 r.bits, .int .u32 r.gw, I64 r.ifc, I64 r.met]] w _
  by_cases hfar : r.far
  · have hR : Hid (r.code = 34) := hide (by unfold Rt.code; rw [if_pos hfar])
    have c1 : r.bits < 0 ∨ (¬ r.bits < 0 ∧ 32 < r.bits) ∨ (¬ r.bits < 0 ∧ ¬ 32 < r.bits ∧ r.ifc < 0) ∨ (¬ r.bits < 0 ∧ ¬ 32 < r.bits ∧ ¬ r.ifc < 0 ∧ 255 < r.ifc) ∨ (¬ r.bits < 0 ∧ ¬ 32 < r.bits ∧ ¬ r.ifc < 0 ∧ ¬ 255 < r.ifc ∧ r.met < 0) ∨ (¬ r.bits < 0 ∧ ¬ 32 < r.bits ∧ ¬ r.ifc < 0 ∧ ¬ 255 < r.ifc ∧ ¬ r.met < 0 ∧ 65535 < r.met) := by
      unfold Rt.far at hfar; omega
    clear hfar
    rcases c1 with h1 | ⟨h1, h2⟩ | ⟨h1, h2, h3⟩ | ⟨h1, h2, h3, h4⟩ | ⟨h1, h2, h3, h4, h5⟩ | ⟨h1, h2, h3, h4, h5, h6⟩
    all_goals
      go_enter Try.func69, Try.ntmps69
      go_wp2_with fail
      go_ret
      rw [hR.out]; exact ⟨rfl, HO.out.1⟩
  · have h1 : ¬ r.bits < 0 := by unfold Rt.far at hfar; omega
    have h2 : ¬ 32 < r.bits := by unfold Rt.far at hfar; omega
    have h3 : ¬ r.ifc < 0 := by unfold Rt.far at hfar; omega
    have h4 : ¬ 255 < r.ifc := by unfold Rt.far at hfar; omega
    have h5 : ¬ r.met < 0 := by unfold Rt.far at hfar; omega
    have h6 : ¬ 65535 < r.met := by unfold Rt.far at hfar; omega
    have HF := hide hf
    have HN := hide hfar
    clear hf hfar
    go_enter Try.func69, Try.ntmps69
    go_wp2_with fail
    have e0 := HO.out.2.cell (i := 0) rfl
    have e1 := HO.out.2.cell (i := 1) rfl
    have lt := HO.out.2.lt
    refine wp_region_text0 11 [4] [5, 7, 9] [6, 8] (fun w' => w'.cell? ⟨w.heap.size, 0, none⟩ = some (.int .u32 r.addr) ∧ w'.cell? ⟨w.heap.size, 1, none⟩ = some (I64 r.bits)) (by kernel_rfl) (by kernel_rfl) ⟨e0, e1⟩ ?_
    repeat (first | ((refine wpText_h rfl rfl ?_; apply Exists.intro; refine ⟨?_, ?_⟩; next => (go_simp; (try (go_bits; go_simp)); (first | done | with_reducible rfl | (rw [if_neg (by omega)]; (try (go_bits; go_simp)); (first | done | with_reducible rfl)) | (rw [if_pos (by omega)]; (try (go_bits; go_simp)); (first | done | with_reducible rfl))))); (try simp only [Act.put, List.setIfInBounds_toArray, List.set_cons_zero, List.set_cons_succ])) | ((refine wpText_p rfl rfl ?_; apply Exists.intro; refine ⟨?_, ?_⟩; next => (intro w'; go_simp; (try (go_bits; go_simp)); (first | done | with_reducible rfl | (rw [if_neg (by omega)]; (try (go_bits; go_simp)); (first | done | with_reducible rfl)) | (rw [if_pos (by omega)]; (try (go_bits; go_simp)); (first | done | with_reducible rfl))))); (try simp only [Act.put, List.setIfInBounds_toArray, List.set_cons_zero, List.set_cons_succ])) | ((refine wpText_y rfl rfl ?_; apply Exists.intro; refine ⟨?_, ?_⟩; next => (intro w' hS; (first | obtain ⟨_, rfl⟩ := hS | skip); go_simp; (try (go_bits; go_simp)); (first | done | with_reducible rfl | (rw [if_neg (by omega)]; (try (go_bits; go_simp)); (first | done | with_reducible rfl)) | (rw [if_pos (by omega)]; (try (go_bits; go_simp)); (first | done | with_reducible rfl))))); (try simp only [Act.put, List.setIfInBounds_toArray, List.set_cons_zero, List.set_cons_succ])) | (refine wpText_skip (by first | exact .inl rfl | exact .inr (.inl rfl) | exact .inr (.inr rfl)) rfl ?_; (try simp only [Act.put, List.setIfInBounds_toArray, List.set_cons_zero, List.set_cons_succ])))
    refine wpText_e rfl rfl (fun K hK => ?_)
    go_wp2_with fail
    refine (first_ok r.addr r.bits _ HF.out.1 HF.out.2 (by omega) (by omega)).mono ?_
    rintro e w1 ⟨rfl, ho⟩
    have hb1 := ho.blk HO.out.2.drew (by simp)
    refine hK _ _ ⟨hb1.cell rfl, hb1.cell rfl⟩ ?_
    clear hK K
    have HO1 := hide (Only.trans HO.out.1.drew ho)
    clear ho
    by_cases hp : pre r.addr r.bits = r.addr
    · have hR : Hid (r.code = 0) := hide (by unfold Rt.code; rw [if_neg HN.out, if_pos hp])
      have HE : ∀ W : World, (binOp .neq 138 (.agg #[.int .u32 (pre r.addr r.bits), I64 r.bits]) (.agg #[.int .u32 r.addr, I64 r.bits])).run Try.prog W = .ok (.bool false) W := fun W => by
        rw [eq_pre]; simp [hp]
      clear hp
      repeat (first | ((refine wpText_h rfl rfl ?_; apply Exists.intro; refine ⟨?_, ?_⟩; next => (go_simp; (try (go_bits; go_simp)); (first | done | with_reducible rfl | (rw [if_neg (by omega)]; (try (go_bits; go_simp)); (first | done | with_reducible rfl)) | (rw [if_pos (by omega)]; (try (go_bits; go_simp)); (first | done | with_reducible rfl))))); (try simp only [Act.put, List.setIfInBounds_toArray, List.set_cons_zero, List.set_cons_succ])) | ((refine wpText_p rfl rfl ?_; apply Exists.intro; refine ⟨?_, ?_⟩; next => (intro w'; go_simp; (try (go_bits; go_simp)); (first | done | with_reducible rfl | (rw [if_neg (by omega)]; (try (go_bits; go_simp)); (first | done | with_reducible rfl)) | (rw [if_pos (by omega)]; (try (go_bits; go_simp)); (first | done | with_reducible rfl))))); (try simp only [Act.put, List.setIfInBounds_toArray, List.set_cons_zero, List.set_cons_succ])) | ((refine wpText_y rfl rfl ?_; apply Exists.intro; refine ⟨?_, ?_⟩; next => (intro w' hS; (first | obtain ⟨_, rfl⟩ := hS | skip); go_simp; (try (go_bits; go_simp)); (first | done | with_reducible rfl | (rw [if_neg (by omega)]; (try (go_bits; go_simp)); (first | done | with_reducible rfl)) | (rw [if_pos (by omega)]; (try (go_bits; go_simp)); (first | done | with_reducible rfl))))); (try simp only [Act.put, List.setIfInBounds_toArray, List.set_cons_zero, List.set_cons_succ])) | (refine wpText_skip (by first | exact .inl rfl | exact .inr (.inl rfl) | exact .inr (.inr rfl)) rfl ?_; (try simp only [Act.put, List.setIfInBounds_toArray, List.set_cons_zero, List.set_cons_succ])))
      refine wpText_nil ?_
      clear HE
      go_wp2
      go_ret
      rw [hR.out]; exact ⟨rfl, HO1.out⟩
    · have hR : Hid (r.code = 14) := hide (by unfold Rt.code; rw [if_neg HN.out, if_neg hp])
      have HE : ∀ W : World, (binOp .neq 138 (.agg #[.int .u32 (pre r.addr r.bits), I64 r.bits]) (.agg #[.int .u32 r.addr, I64 r.bits])).run Try.prog W = .ok (.bool true) W := fun W => by
        rw [eq_pre]; simp [hp]
      clear hp
      repeat (first | ((refine wpText_h rfl rfl ?_; apply Exists.intro; refine ⟨?_, ?_⟩; next => (go_simp; (try (go_bits; go_simp)); (first | done | with_reducible rfl | (rw [if_neg (by omega)]; (try (go_bits; go_simp)); (first | done | with_reducible rfl)) | (rw [if_pos (by omega)]; (try (go_bits; go_simp)); (first | done | with_reducible rfl))))); (try simp only [Act.put, List.setIfInBounds_toArray, List.set_cons_zero, List.set_cons_succ])) | ((refine wpText_p rfl rfl ?_; apply Exists.intro; refine ⟨?_, ?_⟩; next => (intro w'; go_simp; (try (go_bits; go_simp)); (first | done | with_reducible rfl | (rw [if_neg (by omega)]; (try (go_bits; go_simp)); (first | done | with_reducible rfl)) | (rw [if_pos (by omega)]; (try (go_bits; go_simp)); (first | done | with_reducible rfl))))); (try simp only [Act.put, List.setIfInBounds_toArray, List.set_cons_zero, List.set_cons_succ])) | ((refine wpText_y rfl rfl ?_; apply Exists.intro; refine ⟨?_, ?_⟩; next => (intro w' hS; (first | obtain ⟨_, rfl⟩ := hS | skip); go_simp; (try (go_bits; go_simp)); (first | done | with_reducible rfl | (rw [if_neg (by omega)]; (try (go_bits; go_simp)); (first | done | with_reducible rfl)) | (rw [if_pos (by omega)]; (try (go_bits; go_simp)); (first | done | with_reducible rfl))))); (try simp only [Act.put, List.setIfInBounds_toArray, List.set_cons_zero, List.set_cons_succ])) | (refine wpText_skip (by first | exact .inl rfl | exact .inr (.inl rfl) | exact .inr (.inr rfl)) rfl ?_; (try simp only [Act.put, List.setIfInBounds_toArray, List.set_cons_zero, List.set_cons_succ])))
      refine wpText_nil ?_
      clear HE
      go_wp2
      go_ret
      rw [hR.out]; exact ⟨rfl, HO1.out⟩

/-- Routes that lie one behind the other. -/
def RtsIn (w : World) (A : Option Addr) (rs : List Rt) : Prop :=
  ∀ (k : Nat) (r : Rt), rs[k]? = some r → ∃ b o, A = some ⟨b, o, none⟩ ∧ ∀ (j : Nat) (v : Value), r.cells[j]? = some v → w.cell? ⟨b, o + k * 5 + j, none⟩ = some v
theorem RtsIn.only {w w' : World} {A : Option Addr} {rs : List Rt} (h : RtsIn w A rs) (ho : Only [] w w') : RtsIn w' A rs := by
  intro k r hr
  obtain ⟨b, o, hA, hc⟩ := h k r hr
  exact ⟨b, o, hA, fun j v hv => by rw [World.cell?_of_block (w := w) (ho.block b (World.block_lt_of_cell? _ _ (hc j v hv)) (by simp))]; exact hc j v hv⟩

def ixOf (rs : List Rt) (x : Rt) : Int := if x ∈ rs then (rs.idxOf x : Int) else -1
theorem ixOf_at {rs : List Rt} {x : Rt} {k : Nat} (h : ∀ j, j < k → rs[j]? ≠ some x) (hx : rs[k]? = some x) : ixOf rs x = (k : Int) := by
  have hm : x ∈ rs := List.mem_of_getElem? hx
  unfold ixOf
  rw [if_pos hm]
  have h1 : rs.idxOf x < rs.length := List.idxOf_lt_length_of_mem hm
  have h2 : rs[rs.idxOf x] = x := List.getElem_idxOf h1
  have h3 : rs.idxOf x ≤ k := by
    rcases Nat.lt_or_ge k (rs.idxOf x) with hlt | hge
    · exfalso
      have := List.not_of_lt_findIdx (p := (· == x)) (xs := rs) (by simpa [List.idxOf] using hlt)
      have hk := List.getElem?_eq_some_iff.1 hx
      obtain ⟨_, hk⟩ := hk
      rw [hk] at this
      simp at this
    · exact hge
  rcases Nat.lt_or_ge (rs.idxOf x) k with hlt | hge
  · exact absurd (by rw [List.getElem?_eq_getElem h1, h2]) (h _ hlt)
  · congr 1; omega
theorem ixOf_none {rs : List Rt} {x : Rt} (h : ∀ j, j < rs.length → rs[j]? ≠ some x) : ixOf rs x = -1 := by
  unfold ixOf
  rw [if_neg]
  intro hm
  obtain ⟨j, hj, e⟩ := List.getElem_of_mem hm
  exact h j hj (by rw [List.getElem?_eq_getElem hj, e])

set_option maxRecDepth 100000 in
set_option maxHeartbeats 4000000 in
theorem index_ok (A : Option Addr) (rs : List Rt) (n cap : Nat) (x : Rt) (w : World) (hn : rs.length = n) (hm : n ≤ 1000000) (hA : RtsIn w A rs) :
    Calls Try.prog 90 #[.slice A n cap, x.V] w fun e w' => e = .returned (I64 (ixOf rs x)) ∧ Only [] w w' := by
  have HN := hide hn
  have HA := hide hA
  have HB := hide (show Only [] w (w.alloc (.cells #[.int .u32 x.addr, I64 x.bits, .int .u32 x.gw, I64 x.ifc, I64 x.met] 63)) ∧ Blk (w.alloc (.cells #[.int .u32 x.addr, I64 x.bits, .int .u32 x.gw, I64 x.ifc, I64 x.met] 63)) w.heap.size 63 [.int .u32 x.addr, I64 x.bits, .int .u32 x.gw, I64 x.ifc, I64 x.met] from ⟨(Only.refl [] w).alloc _, Blk.newA rfl⟩)
  clear hn hA
  show Calls Try.prog 90 #[.slice A n cap, .agg #[.int .u32 x.addr, I64 x.bits, .int .u32 x.gw, I64 x.ifc, I64 x.met]] w _
  go_enter Try.func90, Try.ntmps90
  go_wp2
  go_loopw [8] (fun i wr => ∃ k : Nat, k ≤ n ∧ i = .int .i64 k ∧ Hid (∀ j, j < k → rs[j]? ≠ some x) ∧ Hid (Only [] w wr ∧ Blk wr w.heap.size 63 [.int .u32 x.addr, I64 x.bits, .int .u32 x.gw, I64 x.ifc, I64 x.met])) (fun i _ => n - (intOf i).toNat)
  case atStart => exact ⟨0, Nat.zero_le _, rfl, hide (by intro j hj; omega), HB⟩
  case round =>
    obtain ⟨k, hk, rfl, HJ, HW⟩ := hrel
    rcases Nat.lt_or_ge k n with hlt | hge
    · obtain ⟨y, hy⟩ : ∃ y, rs[k]? = some y := ⟨_, List.getElem?_eq_getElem (by rw [HN.out]; exact hlt)⟩
      obtain ⟨b, o, rfl, hc⟩ := HA.out.only HW.out.1 k y hy
      have HY := hide hy
      have y0 := hc 0 _ rfl
      rw [Nat.add_zero] at y0
      have y1 := hc 1 _ rfl
      have y2 := hc 2 _ rfl
      have y3 := hc 3 _ rfl
      have y4 := hc 4 _ rfl
      have x0 := HW.out.2.cell (i := 0) rfl
      have x1 := HW.out.2.cell (i := 1) rfl
      have x2 := HW.out.2.cell (i := 2) rfl
      have x3 := HW.out.2.cell (i := 3) rfl
      have x4 := HW.out.2.cell (i := 4) rfl
      clear hy hc
      by_cases hxy : x = y
      · have hR : Hid (ixOf rs x = (k : Int)) := hide (ixOf_at HJ.out (by rw [hxy]; exact HY.out))
        have HE : ∀ W : World, (binOp .eql 63 (.agg #[.int .u32 x.addr, I64 x.bits, .int .u32 x.gw, I64 x.ifc, I64 x.met]) (.agg #[.int .u32 y.addr, I64 y.bits, .int .u32 y.gw, I64 y.ifc, I64 y.met])).run Try.prog W = .ok (.bool true) W := fun W => by
          rw [show Value.agg #[.int .u32 x.addr, I64 x.bits, .int .u32 x.gw, I64 x.ifc, I64 x.met] = x.V from rfl, eq_rt, decide_eq_true hxy]
        clear hxy
        go_wp2
        refine wp_region_text0 6 [] [] [] (fun _ => True) (by kernel_rfl) (by kernel_rfl) trivial ?_
        repeat (first | ((refine wpText_h rfl rfl ?_; apply Exists.intro; refine ⟨?_, ?_⟩; next => (go_simp; (try (go_bits; go_simp)); (first | done | with_reducible rfl | (rw [if_neg (by omega)]; (try (go_bits; go_simp)); (first | done | with_reducible rfl)) | (rw [if_pos (by omega)]; (try (go_bits; go_simp)); (first | done | with_reducible rfl))))); (try simp only [Act.put, List.setIfInBounds_toArray, List.set_cons_zero, List.set_cons_succ])) | ((refine wpText_p rfl rfl ?_; apply Exists.intro; refine ⟨?_, ?_⟩; next => (intro w'; go_simp; (try (go_bits; go_simp)); (first | done | with_reducible rfl | (rw [if_neg (by omega)]; (try (go_bits; go_simp)); (first | done | with_reducible rfl)) | (rw [if_pos (by omega)]; (try (go_bits; go_simp)); (first | done | with_reducible rfl))))); (try simp only [Act.put, List.setIfInBounds_toArray, List.set_cons_zero, List.set_cons_succ])) | ((refine wpText_y rfl rfl ?_; apply Exists.intro; refine ⟨?_, ?_⟩; next => (intro w' hS; (first | obtain ⟨_, rfl⟩ := hS | skip); go_simp; (try (go_bits; go_simp)); (first | done | with_reducible rfl | (rw [if_neg (by omega)]; (try (go_bits; go_simp)); (first | done | with_reducible rfl)) | (rw [if_pos (by omega)]; (try (go_bits; go_simp)); (first | done | with_reducible rfl))))); (try simp only [Act.put, List.setIfInBounds_toArray, List.set_cons_zero, List.set_cons_succ])) | (refine wpText_skip (by first | exact .inl rfl | exact .inr (.inl rfl) | exact .inr (.inr rfl)) rfl ?_; (try simp only [Act.put, List.setIfInBounds_toArray, List.set_cons_zero, List.set_cons_succ])))
        refine wpText_nil ?_
        clear HE
        go_wp2
        go_ret
        rw [hR.out]; exact ⟨rfl, HW.out.1.drew⟩
      · have hR : Hid (∀ j, j < k + 1 → rs[j]? ≠ some x) := hide (fun j hj => by
          rcases Nat.lt_or_ge j k with h1 | h1
          · exact HJ.out j h1
          · obtain rfl : j = k := by omega
            rw [HY.out]; intro e; injection e with e; exact hxy e.symm)
        have HE : ∀ W : World, (binOp .eql 63 (.agg #[.int .u32 x.addr, I64 x.bits, .int .u32 x.gw, I64 x.ifc, I64 x.met]) (.agg #[.int .u32 y.addr, I64 y.bits, .int .u32 y.gw, I64 y.ifc, I64 y.met])).run Try.prog W = .ok (.bool false) W := fun W => by
          rw [show Value.agg #[.int .u32 x.addr, I64 x.bits, .int .u32 x.gw, I64 x.ifc, I64 x.met] = x.V from rfl, eq_rt, decide_eq_false hxy]
        clear hxy
        go_wp2
        refine wp_region_text0 6 [] [] [] (fun _ => True) (by kernel_rfl) (by kernel_rfl) trivial ?_
        repeat (first | ((refine wpText_h rfl rfl ?_; apply Exists.intro; refine ⟨?_, ?_⟩; next => (go_simp; (try (go_bits; go_simp)); (first | done | with_reducible rfl | (rw [if_neg (by omega)]; (try (go_bits; go_simp)); (first | done | with_reducible rfl)) | (rw [if_pos (by omega)]; (try (go_bits; go_simp)); (first | done | with_reducible rfl))))); (try simp only [Act.put, List.setIfInBounds_toArray, List.set_cons_zero, List.set_cons_succ])) | ((refine wpText_p rfl rfl ?_; apply Exists.intro; refine ⟨?_, ?_⟩; next => (intro w'; go_simp; (try (go_bits; go_simp)); (first | done | with_reducible rfl | (rw [if_neg (by omega)]; (try (go_bits; go_simp)); (first | done | with_reducible rfl)) | (rw [if_pos (by omega)]; (try (go_bits; go_simp)); (first | done | with_reducible rfl))))); (try simp only [Act.put, List.setIfInBounds_toArray, List.set_cons_zero, List.set_cons_succ])) | ((refine wpText_y rfl rfl ?_; apply Exists.intro; refine ⟨?_, ?_⟩; next => (intro w' hS; (first | obtain ⟨_, rfl⟩ := hS | skip); go_simp; (try (go_bits; go_simp)); (first | done | with_reducible rfl | (rw [if_neg (by omega)]; (try (go_bits; go_simp)); (first | done | with_reducible rfl)) | (rw [if_pos (by omega)]; (try (go_bits; go_simp)); (first | done | with_reducible rfl))))); (try simp only [Act.put, List.setIfInBounds_toArray, List.set_cons_zero, List.set_cons_succ])) | (refine wpText_skip (by first | exact .inl rfl | exact .inr (.inl rfl) | exact .inr (.inr rfl)) rfl ?_; (try simp only [Act.put, List.setIfInBounds_toArray, List.set_cons_zero, List.set_cons_succ])))
        refine wpText_nil ?_
        clear HE
        go_wp2
        go_roundw
        case rel => exact ⟨k + 1, by omega, by go_num, hR, hide ⟨HW.out.1.drew, HW.out.2.drew⟩⟩
        case measure => simp [intOf]; omega
    · obtain rfl : k = n := by omega
      have hR : Hid (ixOf rs x = -1) := hide (ixOf_none (by rw [HN.out]; exact HJ.out))
      go_wp2
      go_ret
      rw [hR.out]; exact ⟨rfl, HW.out.1⟩

theorem ixOf_ge (rs : List Rt) (x : Rt) : (0 ≤ ixOf rs x) ↔ x ∈ rs := by
  unfold ixOf
  split
  · rename_i h; exact ⟨fun _ => h, fun _ => by omega⟩
  · rename_i h; exact ⟨fun hh => by omega, fun hh => absurd hh h⟩

set_option maxRecDepth 100000 in
set_option maxHeartbeats 4000000 in
theorem contains_ok (A : Option Addr) (rs : List Rt) (n cap : Nat) (x : Rt) (w : World) (hn : rs.length = n) (hm : n ≤ 1000000) (hA : RtsIn w A rs) :
    Calls Try.prog 70 #[.slice A n cap, x.V] w fun e w' => e = .returned (.bool (decide (x ∈ rs))) ∧ Only [] w w' := by
  have HO := hide ((Only.refl [] w).alloc (.cells #[.int .u32 x.addr, I64 x.bits, .int .u32 x.gw, I64 x.ifc, I64 x.met] 63))
  have HC := hide (index_ok A rs n cap x _ hn hm (hA.only HO.out))
  have HI := hide (ixOf_ge rs x)
  clear hn hA
  show Calls Try.prog 70 #[.slice A n cap, .agg #[.int .u32 x.addr, I64 x.bits, .int .u32 x.gw, I64 x.ifc, I64 x.met]] w _
  by_cases hx : x ∈ rs
  · have h0 : 0 ≤ ixOf rs x := HI.out.2 hx
    rw [decide_eq_true hx]
    clear hx
    go_enter Try.func70, Try.ntmps70
    go_wp2_with fail
    refine HC.out.mono ?_
    rintro e w1 ⟨rfl, ho⟩
    go_wp2
    go_ret
    exact ⟨rfl, Only.trans HO.out ho⟩
  · have h0 : decide (0 ≤ ixOf rs x) = false := decide_eq_false fun h => hx (HI.out.1 h)
    rw [decide_eq_false hx]
    clear hx
    go_enter Try.func70, Try.ntmps70
    go_wp2_with fail
    refine HC.out.mono ?_
    rintro e w1 ⟨rfl, ho⟩
    go_wp2
    go_ret
    exact ⟨rfl, Only.trans HO.out ho⟩

end Go.Proofs.Ytlnejlhdkmneeaa
