/- The reference's routes: check, index, New, Belongs. -/
import Derived.Test.YtlnejlhdkmneeaaRouB
namespace Go.Proofs.Ytlnejlhdkmneeaa
open Go.RowKit

abbrev rrtT : TypeId := 104
theorem rrt_info : (Try.prog.info? 104).map (fun i => (i.zero, i.size, i.bytes)) = some (some (.agg #[.int .u32 0, I64 0, .int .u32 0, I64 0, I64 0]), 5, 40) := by kernel_rfl

/-- A list of routes in memory. -/
structure RRoutesAt (w : World) (b : Nat) (v : Value) (rs : List Rt) : Prop where
  me : Blk w b 179 [v]
  row : w.ownsRow 0 104 5 v rs.length (rs.flatMap Rt.cells)
theorem RRoutesAt.only {w w' : World} {b : Nat} {v : Value} {rs : List Rt} {S : List Nat} (h : RRoutesAt w b v rs) (ho : Only S w w') (h1 : b ∉ S) (h2 : ∀ k, v.ownBlock = some k → k ∉ S) : RRoutesAt w' b v rs :=
  ⟨ho.blk h.me h1, own_only h.row ho h2⟩
theorem RRoutesAt.rts {w : World} {b : Nat} {A : Option Addr} {c n : Nat} {rs : List Rt} (h : RRoutesAt w b (.slice A n c) rs) : RtsIn w A rs := by
  intro k r hr
  rcases h.row.2 with ⟨he, h0⟩ | ⟨g, cap, cur, he, h1⟩
  · have := (List.getElem?_eq_some_iff.1 hr).1; omega
  · injection he with he
    subst he
    refine ⟨g, 0, rfl, fun j v hv => ?_⟩
    have := h.row.cells (g := g) rfl (k * 5 + j) v (rflat_at rt_len rs k r j v hr hv)
    rw [show (⟨g, 0, none⟩ : Addr).add (k * 5 + j) = ⟨g, k * 5 + j, none⟩ by unfold Addr.add; split <;> simp_all] at this
    rw [Nat.zero_add]
    exact this

set_option maxHeartbeats 2000000 in
theorem refNewRoutes_ok (w : World) : Calls Try.prog 48 #[] w fun e w' => e = .returned (.pointer (some ⟨w.heap.size, 0, none⟩)) ∧ RRoutesAt w' w.heap.size (.slice none 0 0) [] ∧ Only [] w w' := by
  have hb : ∀ w : World, (Instr.build 179 #[]).run Try.prog w = .ok (.agg #[.slice none 0 0]) w := fun _ => by kernel_rfl
  go_enter Try.func48, Try.ntmps48
  go_wp2
  go_ret
  exact ⟨rfl, ⟨Blk.newA rfl, World.ownsRow_nil _ _ _ _⟩, (Only.refl [] w).alloc _⟩

theorem eq_rrt (r s : Rt) (w : World) : (binOp .eql 104 r.V s.V).run Try.prog w = .ok (.bool (decide (r = s))) w := by
  obtain ⟨r1, r2, r3, r4, r5⟩ := r
  obtain ⟨s1, s2, s3, s4, s5⟩ := s
  go_simp
  by_cases h1 : r1 = s1 <;> by_cases h2 : r2 = s2 <;> by_cases h3 : r3 = s3 <;> by_cases h4 : r4 = s4 <;> by_cases h5 : r5 = s5 <;> simp [h1, h2, h3, h4, h5]


theorem shl_pre {a b : Int} (ha : 0 ≤ a) (hb : 0 ≤ b) (hb2 : b < 32) : (a * 2 ^ b.toNat) % 4294967296 = 0 ↔ pre a b = a := by
  obtain ⟨n, rfl⟩ : ∃ n : Nat, b = n := ⟨b.toNat, by omega⟩
  obtain ⟨m, rfl⟩ : ∃ m : Nat, a = m := ⟨a.toNat, by omega⟩
  unfold pre
  rw [show (32 - (n : Int)).toNat = 32 - n by omega, Int.toNat_natCast]
  have h2 : ∀ k : Nat, (2 : Int) ^ k = ((2 ^ k : Nat) : Int) := fun k => by rw [Int.natCast_pow]; rfl
  have e : (4294967296 : Int) = ((2 ^ (32 - n) * 2 ^ n : Nat) : Int) := by rw [← Nat.pow_add, show 32 - n + n = 32 by omega]; rfl
  rw [e, h2, h2, ← Int.natCast_mul, ← Int.natCast_emod, ← Int.natCast_ediv, ← Int.natCast_mul, Nat.mul_mod_mul_right]
  generalize hj : 2 ^ (32 - n) = j
  have hp : 0 < 2 ^ n := Nat.pow_pos (by decide)
  have hd := Nat.div_add_mod m j
  rw [Nat.mul_comm] at hd
  constructor
  · intro h
    have h := Int.natCast_eq_zero.1 h
    rcases Nat.mul_eq_zero.1 h with h | h
    · rw [show m / j * j = m by omega]
    · omega
  · intro h
    have h := Int.natCast_inj.1 h
    rw [show m % j = 0 by omega]; simp

set_option maxRecDepth 100000 in
set_option maxHeartbeats 4000000 in
theorem refCheck_ok (r : Rt) (w : World) (hf : r.Fit) : Calls Try.prog 88 #[r.V] w fun e w' => e = .returned (I64 r.code) ∧ Only [] w w' := by
  have hO : Only [] w (w.alloc (.cells #[.int .u32 r.addr, I64 r.bits, .int .u32 r.gw, I64 r.ifc, I64 r.met] 104)) := (Only.refl [] w).alloc _
  have HO := hide hO
  clear hO
  show Calls Try.prog 88 #[.agg #[.int .u32 r.addr, I64 r.bits, .int .u32 r.gw, I64 r.ifc, I64 r.met]] w _
  by_cases hfar : r.far
  · have hR : Hid (r.code = 34) := hide (by unfold Rt.code; rw [if_pos hfar])
    have c1 : r.bits < 0 ∨ (¬ r.bits < 0 ∧ 32 < r.bits) ∨ (¬ r.bits < 0 ∧ ¬ 32 < r.bits ∧ r.ifc < 0) ∨ (¬ r.bits < 0 ∧ ¬ 32 < r.bits ∧ ¬ r.ifc < 0 ∧ 255 < r.ifc) ∨ (¬ r.bits < 0 ∧ ¬ 32 < r.bits ∧ ¬ r.ifc < 0 ∧ ¬ 255 < r.ifc ∧ r.met < 0) ∨ (¬ r.bits < 0 ∧ ¬ 32 < r.bits ∧ ¬ r.ifc < 0 ∧ ¬ 255 < r.ifc ∧ ¬ r.met < 0 ∧ 65535 < r.met) := by
      unfold Rt.far at hfar; omega
    clear hfar
    rcases c1 with h1 | ⟨h1, h2⟩ | ⟨h1, h2, h3⟩ | ⟨h1, h2, h3, h4⟩ | ⟨h1, h2, h3, h4, h5⟩ | ⟨h1, h2, h3, h4, h5, h6⟩
    all_goals
      go_enter Try.func88, Try.ntmps88
      go_wp2_with fail
      go_ret
      rw [hR.out]; exact ⟨rfl, HO.out⟩
  · have h1 : ¬ r.bits < 0 := by unfold Rt.far at hfar; omega
    have h2 : ¬ 32 < r.bits := by unfold Rt.far at hfar; omega
    have h3 : ¬ r.ifc < 0 := by unfold Rt.far at hfar; omega
    have h4 : ¬ 255 < r.ifc := by unfold Rt.far at hfar; omega
    have h5 : ¬ r.met < 0 := by unfold Rt.far at hfar; omega
    have h6 : ¬ 65535 < r.met := by unfold Rt.far at hfar; omega
    have HN := hide hfar
    have HF := hide hf
    clear hfar hf
    by_cases h32 : r.bits < 32
    · have hs := shl_pre (a := r.addr) (b := r.bits) HF.out.1 (by omega) h32
      by_cases hp : pre r.addr r.bits = r.addr
      · have hR : Hid (r.code = 0) := hide (by unfold Rt.code; rw [if_neg HN.out, if_pos hp])
        have hz : (r.addr * 2 ^ r.bits.toNat % 4294967296 != 0) = false := by simp [hs.2 hp]
        clear hs hp
        go_enter Try.func88, Try.ntmps88
        go_wp2_with fail
        go_ret
        rw [hR.out]; exact ⟨rfl, HO.out⟩
      · have hR : Hid (r.code = 14) := hide (by unfold Rt.code; rw [if_neg HN.out, if_neg hp])
        have hz : (r.addr * 2 ^ r.bits.toNat % 4294967296 != 0) = true := by simpa using fun h => hp (hs.1 h)
        clear hs hp
        go_enter Try.func88, Try.ntmps88
        go_wp2_with fail
        go_ret
        rw [hR.out]; exact ⟨rfl, HO.out⟩
    · have hR : Hid (r.code = 0) := hide (by unfold Rt.code; rw [if_neg HN.out, if_pos]; rw [show r.bits = 32 by omega]; unfold pre; simp)
      go_enter Try.func88, Try.ntmps88
      go_wp2_with fail
      go_ret
      rw [hR.out]; exact ⟨rfl, HO.out⟩

def belB (a addr bits : Int) : Bool := decide (pre a bits = addr)
set_option maxHeartbeats 2000000 in
theorem belongs_ok (a : Int) (x : Rt) (w : World) (ha : 0 ≤ a ∧ a < 4294967296) (hx : 0 ≤ x.addr ∧ x.addr < 4294967296) (hc : x.code = 0) : Calls Try.prog 92 #[.int .u32 a, .int .u32 x.addr, I64 x.bits] w fun e w' => e = .returned (.bool (decide (pre a x.bits = x.addr))) ∧ w' = w := by
  have hb : 0 ≤ x.bits ∧ x.bits ≤ 32 ∧ pre x.addr x.bits = x.addr := by
    unfold Rt.code at hc
    split at hc
    · omega
    · rename_i hf
      split at hc
      · rename_i hp; unfold Rt.far at hf; exact ⟨by omega, by omega, hp⟩
      · omega
  obtain ⟨h1, h2, h3⟩ := hb
  have hk : (pre a x.bits = x.addr) ↔ a / 2 ^ (32 - x.bits).toNat = x.addr / 2 ^ (32 - x.bits).toNat := by
    have hpos : (0 : Int) < 2 ^ (32 - x.bits).toNat := Int.pow_pos (by decide)
    constructor
    · intro h
      rw [← h]; unfold pre
      rw [Int.mul_ediv_cancel _ (Int.ne_of_gt hpos)]
    · intro h
      rw [← h3]; unfold pre; rw [h]
  have HK := hide hk
  have H3 := hide h3
  clear hk hc h3
  by_cases h0 : x.bits = 0
  · have hp : pre a x.bits = x.addr := by
      rw [HK.out, h0]
      have e1 : a / 2 ^ (32 - (0 : Int)).toNat = 0 := Int.ediv_eq_zero_of_lt ha.1 ha.2
      have e2 : x.addr / 2 ^ (32 - (0 : Int)).toNat = 0 := Int.ediv_eq_zero_of_lt hx.1 hx.2
      rw [e1, e2]
    rw [decide_eq_true hp]
    clear hp
    have h0' : (x.bits == 0) = true := by simp [h0]
    clear h0
    go_enter Try.func92, Try.ntmps92
    go_wp2_with fail
    go_ret
    exact ⟨rfl, rfl⟩
  · have h0' : (x.bits == 0) = false := by simp [h0]
    by_cases hd : a / 2 ^ (32 - x.bits).toNat = x.addr / 2 ^ (32 - x.bits).toNat
    · rw [decide_eq_true (HK.out.2 hd)]
      have hd' : (a / 2 ^ (32 - x.bits).toNat == x.addr / 2 ^ (32 - x.bits).toNat) = true := by simpa using hd
      clear hd
      go_enter Try.func92, Try.ntmps92
      go_wp2_with fail
      go_ret
      exact ⟨rfl, rfl⟩
    · rw [decide_eq_false (fun h => hd (HK.out.1 h))]
      have hd' : (a / 2 ^ (32 - x.bits).toNat == x.addr / 2 ^ (32 - x.bits).toNat) = false := by simpa using hd
      clear hd
      go_enter Try.func92, Try.ntmps92
      go_wp2_with fail
      go_ret
      exact ⟨rfl, rfl⟩

end Go.Proofs.Ytlnejlhdkmneeaa
