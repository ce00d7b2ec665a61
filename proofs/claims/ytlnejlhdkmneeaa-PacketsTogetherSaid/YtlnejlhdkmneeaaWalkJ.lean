/- get, large, and Decode where it refuses. -/
import Derived.Test.YtlnejlhdkmneeaaWalkI
namespace Go.Proofs.Ytlnejlhdkmneeaa
open Go.RowKit

theorem or32 {a b : Nat} (ha : a ≤ 255) (hb : b ≤ 255) : bits .or .u32 ((a : Int) * 256) (b : Int) = (a : Int) * 256 + (b : Int) := by
  have h := u32_or8 (b : Int) ((a : Int) * 256) (by omega) (by omega) (by omega) (by omega) (by omega)
  have hc : bits .or .u32 ((a : Int) * 256) (b : Int) = bits .or .u32 (b : Int) ((a : Int) * 256) := by
    show IntKind.u32.wrap ((BitVec.ofInt 32 ((a : Int) * 256) ||| BitVec.ofInt 32 (b : Int)).toNat : Int) = IntKind.u32.wrap ((BitVec.ofInt 32 (b : Int) ||| BitVec.ofInt 32 ((a : Int) * 256)).toNat : Int)
    rw [BitVec.or_comm]
  rw [hc, h]
  omega

set_option maxHeartbeats 2000000 in
theorem get2_ok (b o c x0 x1 : Nat) (w : World) (h0 : x0 ≤ 255) (h1 : x1 ≤ 255) (c0 : w.cell? ⟨b, o, none⟩ = some (.int .u8 (x0 : Int))) (c1 : w.cell? ⟨b, o + 1, none⟩ = some (.int .u8 (x1 : Int))) :
    Calls Try.prog 63 #[.slice (some ⟨b, o, none⟩) 2 c] w fun e w' => e = .returned (.int .u32 ((x0 : Int) * 256 + (x1 : Int))) ∧ w' = w := by
  have k0 := or32 (a := 0) (b := x0) (by omega) h0
  have k1 := or32 h0 h1
  have k2 : bits .or .u32 0 (x0 : Int) = (x0 : Int) := by simpa using k0
  have k3 : IntKind.u32.wrap ((x0 : Int) * 256) = (x0 : Int) * 256 := by rw [wrap32]; omega
  clear k0
  go_enter Try.func63, Try.ntmps63
  go_wp2
  refine wp_loop_rounds 3 ?_
  rw [rounds_succ]
  go_wp2
  rw [rounds_succ]
  go_wp2
  rw [rounds_succ]
  go_wp2
  go_ret
  exact ⟨rfl, rfl⟩

set_option maxHeartbeats 2000000 in
theorem large_ok (p : Pkt) (g : Nat) (w : World) (hl : p.data.length ≤ maxLen) (hB : Blk w g 30 p.cells) :
    Calls Try.prog 18 #[.slice (some ⟨g, 0, none⟩) 1 1] w fun e w' => e = .returned (.bool (decide (5000 < p.data.length))) ∧ Only [] w w' := by
  have e0 := hB.cell (i := 0) rfl
  have e1 := hB.cell (i := 1) rfl
  have e2 := hB.cell (i := 2) rfl
  have e3 := hB.cell (i := 3) rfl
  have e4 := hB.cell (i := 4) rfl
  have e5 := hB.cell (i := 5) rfl
  have e6 := hB.cell (i := 6) rfl
  have e7 := hB.cell (i := 7) rfl
  have lt := hB.lt
  have HL : Hid (p.data.length ≤ 9223372036854775807) := hide (by unfold maxLen at hl; omega)
  have wl : IntKind.i64.wrap (p.data.length : Int) = (p.data.length : Int) := by have := HL.out; simp [IntKind.wrap, IntKind.bits, IntKind.signed]; omega
  clear hB hl
  go_enter Try.func18, Try.ntmps18
  go_wp2
  refine wp_loop_rounds 2 ?_
  rw [rounds_succ]
  go_wp2
  rw [rounds_succ]
  go_wp2
  go_ret
  exact ⟨by simp; omega, (Only.refl _ _).alloc _⟩

theorem results_cell_tmp {fn : Func} {a u : Tmp} {t : TypeId} (h : fn.results = #[.cell a t, .tmp u]) (tmps : Array Value) (P : Program) (w : World) {ad : Addr} {v : Value} (ha : tmps.getD a undef = .pointer (some ad)) (hl : (loadVar t ad).run P w = .ok v w) :
    (results fn tmps).run P w = .ok (.tuple #[v, tmps.getD u undef]) w := by
  have ha' : tmps[a]?.getD undef = .pointer (some ad) := by simpa using ha
  simp [results, h, asAddr, ha', hl]

end Go.Proofs.Ytlnejlhdkmneeaa
