/- A packet, a byte, as they come in. -/
import Derived.Test.YtlnejlhdkmneeaaRowt
import Derived.Test.YtlnejlhdkmneeaaWalkI
namespace Go.Proofs.Ytlnejlhdkmneeaa
open Go.ChangeShapes Go.WideShapes Go.ChangeAt Go.RowKit Go.Joins Go.Deep

theorem wf_u32_bounds {n : Int} (h : (Lit.int .u32 n).wf = true) : 0 ≤ n ∧ n < 4294967296 := by
  simp [Lit.wf, IntKind.min, IntKind.max, IntKind.signed, IntKind.bits] at h
  omega

/-- A row of bytes: what the walks ask. -/
theorem nums_of_u8 {w : World} {a : Option Addr} {len cap : Nat} {zs : List Int} (h : IsRow .u8 w a len cap zs) : ∃ gs : List Nat, gs.length = len ∧ (∀ x ∈ gs, x ≤ 255) ∧ NumsIn w .u8 a gs := by
  rcases h with ⟨rfl, rfl, rfl, rfl⟩ | ⟨x, rfl, hl, hm, hz, hcell, hwz⟩
  · exact ⟨[], rfl, by simp, fun k x hx => by simp at hx⟩
  · refine ⟨(zs.take len).map Int.toNat, by simp; omega, fun y hy => ?_, fun k y hy => ?_⟩
    · simp only [List.mem_map] at hy
      obtain ⟨z, hz1, rfl⟩ := hy
      have := wf_u8_bounds (hwz z (List.mem_of_mem_take hz1))
      omega
    · simp only [List.getElem?_map, Option.map_eq_some_iff] at hy
      obtain ⟨z, hz1, rfl⟩ := hy
      have hk : k < len := by
        have := (List.getElem?_eq_some_iff.1 hz1).1
        simp at this; omega
      rw [List.getElem?_take, if_pos hk] at hz1
      have hzw := wf_u8_bounds (hwz z (List.mem_of_getElem? hz1))
      have hc := hcell k (by omega)
      have hsp : x.spot = none := add_spot (hcell 0 (by omega))
      have e : zs.getD k 0 = z := by simp [hz1]
      rw [e] at hc
      obtain ⟨hlt, hc2⟩ := add_flat hsp hc
      exact ⟨x.block, x.off, by rw [← hsp], by rw [hc2, Int.toNat_of_nonneg hzw.1]⟩

set_option maxRecDepth 100000 in
theorem byte_of {H : Type} {enc : TypeId × Value → H} {W : World} {b0 : Nat} {v : Value} {d : DataW H} {p : List MemPlace} {base : Nat} {held : Bool} {r : Reach}
    (hv : Value.okWide Try.prog W r b0 5 v) (h : DataW.Trod enc Try.prog W base (fun _ => true) held 5 v d p) : ∃ a : Nat, v = .int .u8 (a : Int) ∧ a ≤ 255 := by
  obtain ⟨n, rfl, _, _, hn⟩ := open_int Try.underlying5 hv h
  have := wf_u8_bounds hn
  exact ⟨n.toNat, by rw [Int.toNat_of_nonneg this.1], by omega⟩

theorem cells_packet : Try.prog.cellsOf 30 = 8 := by kernel_rfl

set_option maxRecDepth 100000 in
theorem packet_of {H : Type} {enc : TypeId × Value → H} {W : World} {b0 : Nat} {v : Value} {d : DataW H} {p : List MemPlace} {base : Nat} {held : Bool} {r : Reach}
    (hv : Value.okWide Try.prog W r b0 30 v) (h : DataW.Trod enc Try.prog W base (fun _ => true) held 30 v d p) :
    ∃ pk : Pkt, v = pk.V ∧ pk.Fit ∧ pk.data.length ≤ maxLen ∧ NumsIn W .u8 pk.A pk.data ∧ (pk.A = none → pk.data.length = 0 ∧ pk.cap = 0) ∧ pk.data.length ≤ pk.cap := by
  obtain ⟨cs, k, rfl, hl, hf⟩ := open_agg_any Try.underlying30 hv h
  rw [cells_packet] at hl
  match cs, hl with
  | [a0, a1, a2, a3, a4, a5, a6, a7], _ =>
    obtain ⟨y0, t0⟩ : ∃ y, DataW.trod enc Try.prog W base (fun _ => true) held k 27 (([a0, a1, a2, a3, a4, a5, a6, a7].drop 0).take (Try.prog.cellsOf 27)) = some y := hf 0 _ rfl
    obtain ⟨y1, t1⟩ : ∃ y, DataW.trod enc Try.prog W base (fun _ => true) held k 27 (([a0, a1, a2, a3, a4, a5, a6, a7].drop 1).take (Try.prog.cellsOf 27)) = some y := hf 1 _ rfl
    obtain ⟨y2, t2⟩ : ∃ y, DataW.trod enc Try.prog W base (fun _ => true) held k 3 (([a0, a1, a2, a3, a4, a5, a6, a7].drop 2).take (Try.prog.cellsOf 3)) = some y := hf 2 _ rfl
    obtain ⟨y3, t3⟩ : ∃ y, DataW.trod enc Try.prog W base (fun _ => true) held k 3 (([a0, a1, a2, a3, a4, a5, a6, a7].drop 3).take (Try.prog.cellsOf 3)) = some y := hf 3 _ rfl
    obtain ⟨y4, t4⟩ : ∃ y, DataW.trod enc Try.prog W base (fun _ => true) held k 3 (([a0, a1, a2, a3, a4, a5, a6, a7].drop 4).take (Try.prog.cellsOf 3)) = some y := hf 4 _ rfl
    obtain ⟨y5, t5⟩ : ∃ y, DataW.trod enc Try.prog W base (fun _ => true) held k 3 (([a0, a1, a2, a3, a4, a5, a6, a7].drop 5).take (Try.prog.cellsOf 3)) = some y := hf 5 _ rfl
    obtain ⟨y6, t6⟩ : ∃ y, DataW.trod enc Try.prog W base (fun _ => true) held k 4 (([a0, a1, a2, a3, a4, a5, a6, a7].drop 6).take (Try.prog.cellsOf 4)) = some y := hf 6 _ rfl
    obtain ⟨y7, t7⟩ : ∃ y, DataW.trod enc Try.prog W base (fun _ => true) held k 28 (([a0, a1, a2, a3, a4, a5, a6, a7].drop 7).take (Try.prog.cellsOf 28)) = some y := hf 7 _ rfl
    have s1 : Try.prog.cellsOf 27 = 1 := by kernel_rfl
    have s2 : Try.prog.cellsOf 3 = 1 := by kernel_rfl
    have s5 : Try.prog.cellsOf 4 = 1 := by kernel_rfl
    have s6 : Try.prog.cellsOf 28 = 1 := by kernel_rfl
    simp only [s1, s2, s5, s6, List.drop_succ_cons, List.drop_zero, List.take_succ_cons, List.take_zero] at t0 t1 t2 t3 t4 t5 t6 t7
    obtain ⟨z0, q0, _, f0⟩ := DataW.trod_int Try.underlying27 t0
    obtain ⟨z1, q1, _, f1⟩ := DataW.trod_int Try.underlying27 t1
    obtain ⟨z2, q2, _, _⟩ := DataW.trod_int Try.underlying3 t2
    obtain ⟨z3, q3, _, _⟩ := DataW.trod_int Try.underlying3 t3
    obtain ⟨z4, q4, _, _⟩ := DataW.trod_int Try.underlying3 t4
    obtain ⟨z5, q5, _, _⟩ := DataW.trod_int Try.underlying3 t5
    obtain ⟨z6, q6, _⟩ := DataW.trod_bool Try.underlying4 t6
    have hsl : ∃ A l c zs, a7 = .slice A l c ∧ IsRow .u8 W A l c zs ∧ l ≤ maxLen := by
      rcases open_ints Try.underlying28 Try.underlying5 (by kernel_rfl) t7 with ⟨hcs, _⟩ | ⟨x, l, c, zs, hcs, _, hl, hm, hz, _, hcell, hwz⟩
      · simp at hcs
        exact ⟨none, 0, 0, [], hcs, .inl ⟨rfl, rfl, rfl, rfl⟩, by simp [maxLen]⟩
      · simp at hcs
        exact ⟨some x, l, c, zs, hcs, .inr ⟨_, rfl, hl, hm, by simpa using hz, hcell, hwz⟩, Nat.le_trans hl hm⟩
    obtain ⟨A, l, c, zs, rfl, hr, hm⟩ := hsl
    simp at q0 q1 q2 q3 q4 q5 q6
    subst q0 q1 q2 q3 q4 q5 q6
    obtain ⟨gs, hg, h8, hN⟩ := nums_of_u8 hr
    subst hg
    have g0 := wf_u32_bounds f0
    have g1 := wf_u32_bounds f1
    have hx : (A = none → gs.length = 0 ∧ c = 0) ∧ gs.length ≤ c := by
      rcases hr with ⟨_, h1, h2, _⟩ | ⟨x, h1, h2, _⟩
      · exact ⟨fun _ => ⟨h1, h2⟩, by omega⟩
      · exact ⟨fun h => (by rw [h1] at h; cases h), h2⟩
    exact ⟨⟨z0, z1, z2, z3, z4, z5, z6, A, c, gs⟩, rfl, ⟨g0.1, g0.2, g1.1, g1.2, h8⟩, hm, hN, hx.1, hx.2⟩

end Go.Proofs.Ytlnejlhdkmneeaa
