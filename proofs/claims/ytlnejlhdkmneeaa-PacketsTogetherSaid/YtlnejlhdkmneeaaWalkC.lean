/- put. -/
import Derived.Test.YtlnejlhdkmneeaaWalkB
namespace Go.Proofs.Ytlnejlhdkmneeaa
open Go.RowKit

abbrev U8 (n : Int) : Value := .int .u8 n

set_option maxRecDepth 100000 in
set_option maxHeartbeats 4000000 in
theorem put2_ok (b off c : Nat) (T : TypeId) (cs : List Value) (x : Int) (w : World) (hb : Blk w b T cs) (h0 : off + 1 < cs.length) (hx0 : 0 ≤ x) (hx1 : x < 4294967296) :
    Calls Try.prog 61 #[.slice (some ⟨b, off, none⟩) 2 c, .int .u32 x] w fun e w' => e = .returned (.tuple #[]) ∧
      Blk w' b T ((cs.set (off + 1) (U8 (x % 256))).set off (U8 (x / 256 % 256))) ∧ Only [b] w w' ∧ w'.heap.size = w.heap.size := by
  obtain ⟨v1, hv1⟩ : ∃ v, cs[off + 1]? = some v := ⟨_, List.getElem?_eq_getElem h0⟩
  obtain ⟨v0, hv0⟩ : ∃ v, cs[off]? = some v := ⟨_, List.getElem?_eq_getElem (by omega)⟩
  have e1 := hb.cell hv1
  have e0 := hb.cell hv0
  have f1 := hb.frozen (off + 1)
  have f0 := hb.frozen off
  have hlt := hb.lt
  have HB := hide hb
  clear hb hv1 hv0
  go_enter Try.func61, Try.ntmps61
  go_wp2
  refine wp_loop_rounds 3 ?_
  rw [rounds_succ]
  go_wp2
  rw [rounds_succ]
  go_wp2
  rw [rounds_succ]
  go_wp2
  go_end0
  exact ⟨rfl, (HB.out.set _ _).set _ _, ((Only.refl [b] w).set (.inl (by simp)) _).set (.inl (by simp)) _, by simp [World.setCell]⟩

set_option maxRecDepth 100000 in
set_option maxHeartbeats 4000000 in
theorem put4_ok (b off c : Nat) (T : TypeId) (cs : List Value) (x : Int) (w : World) (hb : Blk w b T cs) (h0 : off + 3 < cs.length) (hx0 : 0 ≤ x) (hx1 : x < 4294967296) :
    Calls Try.prog 61 #[.slice (some ⟨b, off, none⟩) 4 c, .int .u32 x] w fun e w' => e = .returned (.tuple #[]) ∧
      Blk w' b T ((((cs.set (off + 3) (U8 (x % 256))).set (off + 2) (U8 (x / 256 % 256))).set (off + 1) (U8 (x / 256 / 256 % 256))).set off (U8 (x / 256 / 256 / 256 % 256))) ∧ Only [b] w w' ∧ w'.heap.size = w.heap.size := by
  obtain ⟨v3, hv3⟩ : ∃ v, cs[off + 3]? = some v := ⟨_, List.getElem?_eq_getElem h0⟩
  obtain ⟨v2, hv2⟩ : ∃ v, cs[off + 2]? = some v := ⟨_, List.getElem?_eq_getElem (by omega)⟩
  obtain ⟨v1, hv1⟩ : ∃ v, cs[off + 1]? = some v := ⟨_, List.getElem?_eq_getElem (by omega)⟩
  obtain ⟨v0, hv0⟩ : ∃ v, cs[off]? = some v := ⟨_, List.getElem?_eq_getElem (by omega)⟩
  have e3 := hb.cell hv3
  have e2 := hb.cell hv2
  have e1 := hb.cell hv1
  have e0 := hb.cell hv0
  have f3 := hb.frozen (off + 3)
  have f2 := hb.frozen (off + 2)
  have f1 := hb.frozen (off + 1)
  have f0 := hb.frozen off
  have hlt := hb.lt
  have HB := hide hb
  clear hb hv3 hv2 hv1 hv0
  go_enter Try.func61, Try.ntmps61
  go_wp2
  refine wp_loop_rounds 5 ?_
  rw [rounds_succ]
  go_wp2
  rw [rounds_succ]
  go_wp2
  rw [rounds_succ]
  go_wp2
  rw [rounds_succ]
  go_wp2
  rw [rounds_succ]
  go_wp2
  go_end0
  refine ⟨rfl, ?_, ?_, ?_⟩
  · refine Blk.to ((((HB.out.set _ _).set _ _).set _ _).set _ _) ?_
    simp only [show x / 256 / 256 / 256 = x / 65536 / 256 by omega, show x / 256 / 256 = x / 65536 by omega, show x / 16777216 = x / 65536 / 256 by omega, show x / 65536 / 256 % 256 = x / 65536 / 256 by omega]
  · exact ((((Only.refl [b] w).set (.inl (by simp)) _).set (.inl (by simp)) _).set (.inl (by simp)) _).set (.inl (by simp)) _
  · simp [World.setCell]

end Go.Proofs.Ytlnejlhdkmneeaa
