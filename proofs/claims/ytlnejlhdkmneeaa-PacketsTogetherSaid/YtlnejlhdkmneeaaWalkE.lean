/- Collect; the header's checksum. -/
import Derived.Test.YtlnejlhdkmneeaaWalkD
import Derived.RangeFuncWrites
namespace Go.Proofs.Ytlnejlhdkmneeaa
open Go.RowKit Go.Shelf

attribute [local go_sem] Oper.semAt_some

theorem u16_info : (Try.prog.info? 23).map (fun i => (i.zero, i.size, i.bytes)) = some (some (.int .u16 0), 1, 2) := by kernel_rfl

set_option maxRecDepth 100000 in
set_option maxHeartbeats 2000000 in
theorem appendSeq_in (F : Fence) (n : Nat) (hF : F.fn 107) (hro : F.round = none) (hn : 1 ≤ n) (gf : Nat) (lb : Array Value) (hgf : F.fn gf) (eg : ∀ args w, (callFunc gf args).run Try.prog w = .ok (.enter gf args) w)
    (ws : List Int) (hlen : ws.length ≤ 1000000) (w : World) (hseq : ∀ w', Below w.heap.size w w' → SeqStopsK F (n - 1) Try.prog gf lb (fun x : Int => #[Value.int .u16 x]) (Below w.heap.size) (fun ys => ys = ws) (fun _ => True) ws.length w') :
    CallsIn F n Try.prog 107 #[.slice none 0 0, .func (.func gf) #[] lb] w fun e W' => ∃ v, e = .returned v ∧ W'.ownsRow w.heap.size 23 1 v ws.length (ws.map (Value.int .u16)) ∧ Below w.heap.size w W' := by
  obtain ⟨i0, hi, hz0, hz1, hz2⟩ := info_parts u16_info
  refine callsIn_of_wp_marks Try.func107 rfl hF ?_ hro
  simp only [Try.ntmps107, List.size_toArray, List.length_cons, List.length_nil, Nat.reduceAdd, Nat.reduceSub, Array.replicate_succ, Array.replicate_zero, List.push_toArray, List.append_toArray, List.nil_append, List.cons_append]
  gi_wp2
  have bO := Boxed.new w 22 (.slice none 0 0)
  have hB0 : Below w.heap.size w (w.alloc (.cells #[.slice none 0 0] 22)) := (Below.refl _ w).alloc (Nat.le_refl _) _
  refine wpIn_rangeFunc_ownG hro hn (gf := gf) (lb := lb) rfl hgf eg (hseq _ hB0) belowK_t (belowK_b (by simp)) (Below.refl _ _) (fun _ => rfl)
    (fun pre W => (∃ v, Boxed W w.heap.size 22 v ∧ W.ownsRow w.heap.size 23 1 v pre.length (pre.map (Value.int .u16)) ∧ True) ∧ Below w.heap.size w W)
    (fun _ _ _ => False)
    (OwnFrom.and (Own.from (holdsRow_own w.heap.size w.heap.size 22 23 1 (fun (pre : List Int) => pre.length) (fun (pre : List Int) => pre.map (Value.int .u16)) (fun _ _ => True)) _) (ownFrom_below (Nat.le_refl _) (by simp)))
    (fun _ _ _ _ _ hs _ _ => hs)
    ⟨⟨_, bO, World.ownsRow_nil _ _ _ _, trivial⟩, hB0⟩
    (fun x => { tmps := #[.slice none 0 0, .func (.func gf) #[] lb, .pointer (some ⟨w.heap.size, 0, none⟩), undef, .slice none 0 0, .int .u16 x, .func (.func gf) #[] lb, .int .u16 x, undef, undef, undef, undef, undef], defers := [] }) ?assign ?body ?done ?stop
  case assign =>
    intro l x W K hK
    gi_wp2
    exact hK
  case body =>
    rintro l pre x W ⟨⟨v, hv, hrow, -⟩, hB⟩ hlt
    have hc := hv.cell
    gi_wp2_with (gi_at_builtin; refine wpListIn_append_own _ rfl _ _ 22 rfl w.heap.size 23 i0 (.int .u16 0) 1 2 Try.underlying22 hi hz0 hz1 hz2 rfl (by decide) _ _ _ rfl (hrow.alloc _) ⟨W.heap.size, 0, none⟩ 1 1 [.int .u16 x] rfl rfl (cell_one_new _ _ _) (by simp [Value.oneCell']) (by unfold maxLen; omega) (by omega) (by have := hB.size; simp; omega) ?_; intro v' w1 hown' hgrow _; obtain ⟨g', cap', rfl⟩ := ownsRow_succ hown'; obtain ⟨hv1, hv2, hr2, hk2, hb2⟩ := hv.appended (by decide) hrow hB.size (Nat.le_refl _) hown' hgrow; have hc1 := hv1.cell; have hf1 := hv1.frozen)
    exact ⟨hk2.from _, hb2, ⟨_, hv2, by simpa using hr2, trivial⟩, hB.trans hb2⟩
  case done =>
    rintro D ys W hD rfl ⟨⟨v, hv, hrow, -⟩, hB⟩ hK
    have hc := hv.cell
    gi_wp2
    refine ⟨by simp, .inl ⟨_, _, rfl, run_takeDeferred hK, ?_⟩⟩
    exact ⟨_, results_tmp rfl _ _ _, v, rfl, ownsRow_putObj hrow _ hK rfl, hB.trans (belowK_b (w := w) (Nat.le_refl _) W D _ _ (by simp at hD; omega) hK rfl rfl)⟩
  case stop =>
    rintro D c pre W _ _ h _
    exact h.elim

theorem words_ok (X : Array Value) (w : World) : Calls Try.prog 95 #[.agg X] w fun e w' => e = .returned (.func (.func 108) #[] #[.pointer (some ⟨w.heap.size, 0, none⟩)]) ∧ w' = w.alloc (.cells X 123) := by
  go_enter Try.func95, Try.ntmps95
  go_wp2
  go_ret
  exact ⟨rfl, rfl⟩

theorem hw16 {h : Nat → Nat} (h8 : ∀ k, h k ≤ 255) : ∀ x ∈ hwords h, x ≤ 65535 := by
  intro x hx
  simp only [hwords, List.mem_map] at hx
  obtain ⟨k, -, rfl⟩ := hx
  unfold hword
  split
  · omega
  · have := h8 (2 * k); have := h8 (2 * k + 1); omega

theorem collect_ok (h : Nat → Nat) (h8 : ∀ k, h k ≤ 255) (Bh : Nat) (w : World) (hb : Bh < w.heap.size) (hc : ∀ j, j < 20 → w.cell? ⟨Bh, j, none⟩ = some (.int .u8 (h j : Nat))) :
    Calls Try.prog 94 #[.func (.func 108) #[] #[.pointer (some ⟨Bh, 0, none⟩)]] w fun e w' => ∃ v, e = .returned v ∧ w'.ownsRow w.heap.size 23 1 v 10 (((hwords h).map (fun (x : Nat) => (x : Int))).map (Value.int .u16)) ∧ Below w.heap.size w w' := by
  have key := callsIn_wide.1 (appendSeq_in Fence.wide 3 trivial rfl (by omega) 108 #[.pointer (some ⟨Bh, 0, none⟩)] trivial (enters_of Try.func108 (by kernel_rfl) rfl)
    ((hwords h).map (fun (x : Nat) => (x : Int))) (by simp [hwords]) w (fun w' hw' => fun l J Jx W hW hJ hJx hY h0 =>
      words1_in Fence.wide 2 trivial rfl (by omega) l Bh w.heap.size h h8 hb J Jx (fun pre A B hA hg => hJ pre A B none hA hg (fun r e => by cases e))
        (fun pre x W1 h1 h2 => hY pre x W1 h1 (by simpa [hwords] using h2)) W
        (fun j hj => ((hW.mono hw'.size).cell (p := ⟨Bh, j, none⟩) hb).trans ((hw'.cell (p := ⟨Bh, j, none⟩) hb).trans (hc j hj))) h0))
  have hl : ((hwords h).map (fun (x : Nat) => (x : Int))).length = 10 := by simp [hwords]
  rw [hl] at key
  have HK := hide key
  clear key hl hc
  go_enter Try.func94, Try.ntmps94
  go_wp2_with fail
  refine HK.out.mono ?_
  rintro e w1 ⟨v, rfl, h1, h2⟩
  obtain ⟨A, c, rfl⟩ := own_shape h1
  have H := hide (And.intro h1 h2)
  clear h1 h2 HK
  go_wp2
  go_ret
  exact ⟨_, rfl, H.out.1, H.out.2⟩

theorem blk_of_row1 {w : World} {base g cap n sz : Nat} {T : TypeId} {ys : List Value} (h : w.ownsRow base T sz (.slice (some ⟨g, 0, none⟩) n cap) n ys) :
    base ≤ g ∧ n ≤ cap ∧ cap ≤ maxLen ∧ ∃ rest : List Value, Blk w g T (ys ++ rest) ∧ rest.length + n * sz = cap * sz := by
  obtain ⟨h1, h2⟩ := h
  rcases h2 with ⟨h2, _⟩ | ⟨g', cap', cur, e, hg, hh, hn, hc, hs, ht⟩
  · cases h2
  · injection e with e1 e2 e3
    injection e1 with e1
    injection e1 with e1
    subst e1 e3
    refine ⟨hg, hn, hc, cur.toList.drop (n * sz), ?_, ?_⟩
    · unfold Blk
      rw [hh, ← ht, List.take_append_drop]
    · have : n * sz ≤ cap * sz := Nat.mul_le_mul_right _ hn
      rw [List.length_drop, Array.length_toList, hs]
      omega

theorem nums_of_row {w : World} {base n c : Nat} {T : TypeId} {kd : IntKind} {A : Option Addr} {xs : List Nat} (h : w.ownsRow base T 1 (.slice A n c) n ((xs.map (fun (x : Nat) => (x : Int))).map (Value.int kd))) : NumsIn w kd A xs := by
  intro k x hx
  rcases h.2 with ⟨h2, h3⟩ | ⟨g, cap, cur, h2, -⟩
  · have := h.1
    simp [h3] at this
    subst this
    simp at hx
  · injection h2 with h2 _ _
    subst h2
    obtain ⟨-, -, -, rest, hB, -⟩ := blk_of_row1 h
    refine ⟨g, 0, rfl, ?_⟩
    rw [Nat.zero_add]
    refine hB.cell ?_
    have : ((xs.map (fun (x : Nat) => (x : Int))).map (Value.int kd))[k]? = some (.int kd (x : Int)) := by simp [hx]
    rw [List.getElem?_append_left (List.getElem?_eq_some_iff.1 this).1]
    exact this

/-- A header of 20 bytes. -/
def hcells (h : Nat → Nat) : List Value := (List.range 20).map fun j => Value.int .u8 (h j : Nat)
theorem hcells_at (h : Nat → Nat) {j : Nat} (hj : j < 20) : (hcells h)[j]? = some (.int .u8 (h j : Nat)) := by simp [hcells, hj]

theorem sum_ok (h : Nat → Nat) (h8 : ∀ k, h k ≤ 255) (w : World) : Calls Try.prog 62 #[.agg (hcells h).toArray] w fun e w' => e = .returned (.int .u16 (65535 - sumw (hwords h) : Nat)) ∧ Only [] w w' := by
  have hB : Blk (w.alloc (.cells (hcells h).toArray 123)) w.heap.size 123 (hcells h) := Blk.new w _ _
  have hlen : (hcells h).length = 20 := by simp [hcells]
  have HB := hide hB
  have HL := hide hlen
  clear hB hlen
  go_enter Try.func62, Try.ntmps62
  go_wp2_with (refine wpList_load_cells rfl 123 (.tmp 1) rfl w.heap.size 0 rfl (hcells h) (d := _) (fun j v hv => by rw [Nat.zero_add]; exact HB.out.cell hv) Try.underlying123 rfl (by rw [HL.out]; kernel_rfl) ?_)
  refine (words_ok _ _).mono ?_
  rintro e w1 ⟨rfl, rfl⟩
  go_wp2_with fail
  have hO2 : Only [] w ((w.alloc (.cells (hcells h).toArray 123)).alloc (.cells (hcells h).toArray 123)) := ((Only.refl [] w).alloc _).alloc _
  have hB2 : Blk ((w.alloc (.cells (hcells h).toArray 123)).alloc (.cells (hcells h).toArray 123)) (w.heap.size + 1) 123 (hcells h) := Blk.newA (by show w.heap.size + 1 = (w.heap.push _).size; rw [Array.size_push])
  refine (collect_ok h h8 (w.heap.size + 1) _ hB2.lt (fun j hj => hB2.cell (hcells_at h hj))).mono ?_
  rintro e w2 ⟨v, rfl, k1, k2⟩
  obtain ⟨A, c, rfl⟩ := own_shape k1
  have hO3 := Only.trans hO2 (Only.of_below k2 [])
  have HO := hide hO3
  have HC := hide (Checksum_ok A (hwords h) 10 c w2 (by simp [hwords]) (by omega) (hw16 h8) (nums_of_row k1))
  clear hO2 hB2 k1 k2 hO3 HB HL
  go_wp2_with fail
  refine HC.out.mono ?_
  rintro e w3 ⟨rfl, rfl⟩
  go_wp2
  go_ret
  exact ⟨rfl, HO.out⟩

end Go.Proofs.Ytlnejlhdkmneeaa
