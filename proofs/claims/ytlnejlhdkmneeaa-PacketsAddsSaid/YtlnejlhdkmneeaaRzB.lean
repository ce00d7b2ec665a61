/- The reference's reassembly: New, Collections, same, remove. -/
import Derived.Test.YtlnejlhdkmneeaaRzA
import Derived.Test.YtlnejlhdkmneeaaRowsG
import Derived.Test.YtlnejlhdkmneeaaSched
import Derived.Deep.DeepCutAuto
import Derived.Deep.CutBlock
namespace Go.Proofs.Ytlnejlhdkmneeaa
open Go.RowKit

abbrev zsC : List Value := [.int .u32 0, .int .u32 0, I64 0, I64 0, I64 0, I64 0, .bool false, .slice none 0 0, I64 0, .slice none 0 0, .slice none 0 0, I64 0, I64 0]
theorem rcol_info : (Try.prog.info? rcolT).map (fun i => (i.zero, i.size, i.bytes)) = some (some (.agg zsC.toArray), 13, 144) := by kernel_rfl
theorem build_rrz : ∀ w : World, (Instr.build rrasT #[]).run Try.prog w = .ok (.agg #[.slice none 0 0, I64 0]) w := fun _ => by kernel_rfl

set_option maxRecDepth 100000 in
set_option maxHeartbeats 4000000 in
theorem rnewRz_ok (w : World) : Calls Try.prog 35 #[] w fun e w' => ∃ r, e = .returned (.pointer (some ⟨r, 0, none⟩)) ∧ RrAt w.heap.size r w' 0 [] (.slice none 0 0) ∧ Only [] w w' := by
  have hb := build_rrz
  go_enter Try.func35, Try.ntmps35
  go_wp2
  go_ret
  exact ⟨_, rfl, ⟨Blk.newA rfl, off_nil _ _ _ _, by simp, Nat.le_refl _⟩, (Only.refl [] w).alloc _⟩

set_option maxRecDepth 100000 in
set_option maxHeartbeats 4000000 in
theorem rcollections_ok (base r : Nat) (last : Int) (l : List RP) (va : Value) (w : World) (h : RrAt base r w last l va) :
    Calls Try.prog 39 #[.pointer (some ⟨r, 0, none⟩)] w fun e w' => e = .returned (I64 (l.length : Nat)) ∧ w' = w := by
  obtain ⟨n, hn⟩ : ∃ n, n = l.length := ⟨_, rfl⟩
  have hr := h.row
  rw [← hn] at hr
  obtain ⟨A, c, rfl⟩ := off_shape hr
  have r0 := h.me.cell (i := 0) rfl
  have lt := h.me.lt
  rw [← hn]
  clear h hr hn
  go_enter Try.func39, Try.ntmps39
  go_wp2
  go_ret
  exact ⟨rfl, rfl⟩

set_option maxRecDepth 100000 in
set_option maxHeartbeats 8000000 in
theorem rsame_ok (a p : Pkt) (vp vq : Value) (w : World) (hp : vp.oneCell' = true) (hq : vq.oneCell' = true) :
    Calls Try.prog 81 #[.agg #[.int .u32 a.src, .int .u32 a.dst, I64 a.proto, I64 a.ttl, I64 a.id, I64 a.off, .bool a.more, vp], .agg #[.int .u32 p.src, .int .u32 p.dst, I64 p.proto, I64 p.ttl, I64 p.id, I64 p.off, .bool p.more, vq]] w fun e w' => e = .returned (.bool (keyB a p)) ∧ Only [] w w' := by
  have hO : Only [] w ((w.alloc (.cells #[.int .u32 a.src, .int .u32 a.dst, I64 a.proto, I64 a.ttl, I64 a.id, I64 a.off, .bool a.more, vp] rpktT)).alloc (.cells #[.int .u32 p.src, .int .u32 p.dst, I64 p.proto, I64 p.ttl, I64 p.id, I64 p.off, .bool p.more, vq] rpktT)) := ((Only.refl [] w).alloc _).alloc _
  have HO := hide hO
  clear hO
  by_cases h1 : a.src = p.src
  · by_cases h2 : a.dst = p.dst
    · by_cases h3 : a.proto = p.proto
      · by_cases h4 : a.id = p.id
        · have hR : Hid (keyB a p = true) := hide (by unfold keyB; rw [decide_eq_true_iff]; exact ⟨h1, h2, h3, h4⟩)
          have d1 : (a.src == p.src) = true := by simpa using h1
          have d2 : (a.dst == p.dst) = true := by simpa using h2
          have d3 : (a.proto == p.proto) = true := by simpa using h3
          have d4 : (a.id == p.id) = true := by simpa using h4
          clear h1 h2 h3 h4
          go_enter Try.func81, Try.ntmps81
          go_wp2
          go_ret
          rw [hR.out]; exact ⟨rfl, HO.out⟩
        · have hR : Hid (keyB a p = false) := hide (by unfold keyB; rw [decide_eq_false_iff_not]; exact fun h => h4 h.2.2.2)
          have d1 : (a.src == p.src) = true := by simpa using h1
          have d2 : (a.dst == p.dst) = true := by simpa using h2
          have d3 : (a.proto == p.proto) = true := by simpa using h3
          have d4 : (a.id == p.id) = false := by simpa using h4
          clear h1 h2 h3 h4
          go_enter Try.func81, Try.ntmps81
          go_wp2
          go_ret
          rw [hR.out]; exact ⟨rfl, HO.out⟩
      · have hR : Hid (keyB a p = false) := hide (by unfold keyB; rw [decide_eq_false_iff_not]; exact fun h => h3 h.2.2.1)
        have d1 : (a.src == p.src) = true := by simpa using h1
        have d2 : (a.dst == p.dst) = true := by simpa using h2
        have d3 : (a.proto == p.proto) = false := by simpa using h3
        clear h1 h2 h3
        go_enter Try.func81, Try.ntmps81
        go_wp2
        go_ret
        rw [hR.out]; exact ⟨rfl, HO.out⟩
    · have hR : Hid (keyB a p = false) := hide (by unfold keyB; rw [decide_eq_false_iff_not]; exact fun h => h2 h.2.1)
      have d1 : (a.src == p.src) = true := by simpa using h1
      have d2 : (a.dst == p.dst) = false := by simpa using h2
      clear h1 h2
      go_enter Try.func81, Try.ntmps81
      go_wp2
      go_ret
      rw [hR.out]; exact ⟨rfl, HO.out⟩
  · have hR : Hid (keyB a p = false) := hide (by unfold keyB; rw [decide_eq_false_iff_not]; exact fun h => h1 h.1)
    have d1 : (a.src == p.src) = false := by simpa using h1
    clear h1
    go_enter Try.func81, Try.ntmps81
    go_wp2
    go_ret
    rw [hR.out]; exact ⟨rfl, HO.out⟩

/-- What remove leaves. -/
def RRemS (base r : Nat) (last : Int) (l : List RP) (w : World) (e : Ending) (w' : World) : Prop :=
  ∃ v va', e = .returned v ∧ RrAt base r w' last l va' ∧ Only [r] w w' ∧ ∀ j, va'.ownBlock = some j → w.heap.size ≤ j
theorem rem_end {base r k n : Nat} {last : Int} {l : List RP} {va v4 : Value} {w w4 : World} (hn : l.length = n) (hk : k < n) (h : RrAt base r w last l va) (hbw : base ≤ w.heap.size) (hr : offRow w4 w.heap.size rcolT 13 v4 (n - 1) ((l.take k).flatMap rcc ++ (l.drop (k + 1)).flatMap rcc)) (ho : Only [] w w4) (hme : Blk w4 r rrasT [va, I64 last]) :
    RrAt base r (w4.setCell ⟨r, 0, none⟩ v4) last (l.eraseIdx k) v4 ∧ Only [r] w (w4.setCell ⟨r, 0, none⟩ v4) ∧ ∀ j, v4.ownBlock = some j → w.heap.size ≤ j := by
  have hs : Only [r] w (w4.setCell ⟨r, 0, none⟩ v4) := (ho.mono (S' := [r]) (by simp)).set (p := ⟨r, 0, none⟩) (.inl (by simp)) _
  refine ⟨h.to hs (fun k hk _ => by obtain rfl := List.mem_singleton.1 hk; exact ⟨_, _, h.me, by decide, by decide⟩) (hme.set 0 _) ?_ (fun z hz => List.mem_of_mem_eraseIdx hz), hs, fun j hj => (off_ge hr j hj).1⟩
  have h1 := off_base (off_set hr (p := ⟨r, 0, none⟩) (off_ne_blk hr hme (by decide)) v4) hbw
  rw [List.length_eraseIdx_of_lt (by omega), hn, List.eraseIdx_eq_take_drop_succ, List.flatMap_append]
  exact h1

set_option maxRecDepth 100000 in
set_option maxHeartbeats 8000000 in
theorem rremove_ok (base r k n : Nat) (last : Int) (l : List RP) (va : Value) (w : World) (hn : l.length = n) (hk : k < n) (hm : n ≤ 1000) (h : RrAt base r w last l va) (hbw : base ≤ w.heap.size) :
    Calls Try.prog 80 #[.pointer (some ⟨r, 0, none⟩), I64 k] w fun e w' => RRemS base r last (l.eraseIdx k) w e w' := by
  have hr := h.row
  rw [hn] at hr
  obtain ⟨g, o, c, cs, rfl, hB, -, -⟩ := off_blk hr (by omega)
  have hc := off_cap hr
  have b0 := h.me.cell (i := 0) rfl
  have f0 := h.me.frozen 0
  have ltb := h.me.lt
  obtain ⟨i0, hi0, hz0, hs0, hb0⟩ := info_parts rcol_info
  have hT := off_take hr (i := k) (by omega)
  rw [flatn_take rcc_len] at hT
  have HR := hide hr
  have HTK := hide hT
  have HONE := hide h.cols
  have hO1 := hide (((Only.refl [] w).alloc (.cells #[] rcolT)).drew)
  have hm1 := hide (off_of_own (own_nil (World.ownsRow_made (base := w.heap.size) (e := rcolT) (size := 13) w #[] 0 (Nat.le_refl _) (by simp [maxLen]) rfl) ((Only.refl [] _).drew)))
  have HH := hide (show _ ∧ _ ∧ _ from ⟨h, hn, hbw⟩)
  clear hT hr hB hn h hbw
  go_enter Try.func80, Try.ntmps80
  by_cases hc1 : c = k + 1
  · subst hc1
    obtain rfl : n = k + 1 := by omega
    refine wp_region_text 16 [1, 8] [0, 2, 3, 4, 6, 7, 9, 10, 11, 13, 14, 15] [5, 12] (fun w' => w'.cell? ⟨r, 0, none⟩ = some (.slice (some ⟨g, o, none⟩) (k + 1) (k + 1))) (by kernel_rfl) (by kernel_rfl) (by go_simp) ?_
    simp only [List.take_succ_cons, List.take_zero, List.drop_succ_cons, List.drop_zero]
    repeat (first | ((refine wpText_h rfl rfl ?_; apply Exists.intro; refine ⟨?_, ?_⟩; next => (go_simp; (try (go_bits; go_simp)); (first | done | with_reducible rfl | (rw [if_neg (by omega)]; (try (go_bits; go_simp)); (first | done | with_reducible rfl)) | (rw [if_pos (by omega)]; (try (go_bits; go_simp)); (first | done | with_reducible rfl))))); (try simp only [Act.put, List.setIfInBounds_toArray, List.set_cons_zero, List.set_cons_succ])) | ((refine wpText_p rfl rfl ?_; apply Exists.intro; refine ⟨?_, ?_⟩; next => (intro w'; go_simp; (try (go_bits; go_simp)); (first | done | with_reducible rfl | (rw [if_neg (by omega)]; (try (go_bits; go_simp)); (first | done | with_reducible rfl)) | (rw [if_pos (by omega)]; (try (go_bits; go_simp)); (first | done | with_reducible rfl))))); (try simp only [Act.put, List.setIfInBounds_toArray, List.set_cons_zero, List.set_cons_succ])) | ((refine wpText_y rfl rfl ?_; apply Exists.intro; refine ⟨?_, ?_⟩; next => (intro w' hS; (first | obtain ⟨_, rfl⟩ := hS | skip); go_simp; (try (go_bits; go_simp)); (first | done | with_reducible rfl | (rw [if_neg (by omega)]; (try (go_bits; go_simp)); (first | done | with_reducible rfl)) | (rw [if_pos (by omega)]; (try (go_bits; go_simp)); (first | done | with_reducible rfl))))); (try simp only [Act.put, List.setIfInBounds_toArray, List.set_cons_zero, List.set_cons_succ])) | (refine wpText_skip (by first | exact .inl rfl | exact .inr (.inl rfl) | exact .inr (.inr rfl)) rfl ?_; (try simp only [Act.put, List.setIfInBounds_toArray, List.set_cons_zero, List.set_cons_succ])))
    refine wpText_e rfl rfl (fun K hK => ?_)
    go_wp2
    refine hK _ _ (by go_simp) ?_
    clear hK K
    try simp only [Act.put, List.setIfInBounds_toArray, List.set_cons_zero, List.set_cons_succ]
    repeat (first | ((refine wpText_h rfl rfl ?_; apply Exists.intro; refine ⟨?_, ?_⟩; next => (go_simp; (try (go_bits; go_simp)); (first | done | with_reducible rfl | (rw [if_neg (by omega)]; (try (go_bits; go_simp)); (first | done | with_reducible rfl)) | (rw [if_pos (by omega)]; (try (go_bits; go_simp)); (first | done | with_reducible rfl))))); (try simp only [Act.put, List.setIfInBounds_toArray, List.set_cons_zero, List.set_cons_succ])) | ((refine wpText_p rfl rfl ?_; apply Exists.intro; refine ⟨?_, ?_⟩; next => (intro w'; go_simp; (try (go_bits; go_simp)); (first | done | with_reducible rfl | (rw [if_neg (by omega)]; (try (go_bits; go_simp)); (first | done | with_reducible rfl)) | (rw [if_pos (by omega)]; (try (go_bits; go_simp)); (first | done | with_reducible rfl))))); (try simp only [Act.put, List.setIfInBounds_toArray, List.set_cons_zero, List.set_cons_succ])) | ((refine wpText_y rfl rfl ?_; apply Exists.intro; refine ⟨?_, ?_⟩; next => (intro w' hS; (first | obtain ⟨_, rfl⟩ := hS | skip); go_simp; (try (go_bits; go_simp)); (first | done | with_reducible rfl | (rw [if_neg (by omega)]; (try (go_bits; go_simp)); (first | done | with_reducible rfl)) | (rw [if_pos (by omega)]; (try (go_bits; go_simp)); (first | done | with_reducible rfl))))); (try simp only [Act.put, List.setIfInBounds_toArray, List.set_cons_zero, List.set_cons_succ])) | (refine wpText_skip (by first | exact .inl rfl | exact .inr (.inl rfl) | exact .inr (.inr rfl)) rfl ?_; (try simp only [Act.put, List.setIfInBounds_toArray, List.set_cons_zero, List.set_cons_succ])))
    refine wpText_e rfl rfl (fun K hK => ?_)
    refine wp_append_offs _ (.tmp 5) (.tmp 11) 145 rfl rcolT i0 (.agg zsC.toArray) 13 144 Try.underlying145 hi0 hz0 hs0 hb0 rfl (by decide) w.heap.size (.slice (some ⟨w.heap.size, 0, none⟩) 0 0) 0 [] rfl hm1.out hO1.out.size base (.slice (some ⟨g, o, none⟩) k (k + 1)) k ((l.take k).flatMap rcc) rfl (off_keep HTK.out hO1.out) (rcc_one fun z hz => HONE.out z (List.mem_of_mem_take hz)) (by simp only [maxLen]; omega) (by omega) ?_
    intro v3 w3 hr3 ho3 hv3
    rw [Nat.zero_add, List.nil_append] at hr3
    obtain ⟨A3, c3, rfl⟩ := off_shape hr3
    have hO3 : Only [] w w3 := hO1.out.trans' ho3 (by intro i hi hl; simp [Value.ownBlock] at hi; omega)
    have me3 := hO3.blk HH.out.1.me (by simp)
    have b3 := me3.cell (i := 0) rfl
    have l3 := me3.lt
    refine hK _ _ b3 ?_
    clear hK K
    have H3 := hide (show _ ∧ _ ∧ _ from ⟨hr3, hO3, me3⟩)
    clear hr3 ho3 hv3 hO3 me3
    repeat (first | ((refine wpText_h rfl rfl ?_; apply Exists.intro; refine ⟨?_, ?_⟩; next => (go_simp; (try (go_bits; go_simp)); (first | done | with_reducible rfl | (rw [if_neg (by omega)]; (try (go_bits; go_simp)); (first | done | with_reducible rfl)) | (rw [if_pos (by omega)]; (try (go_bits; go_simp)); (first | done | with_reducible rfl))))); (try simp only [Act.put, List.setIfInBounds_toArray, List.set_cons_zero, List.set_cons_succ])) | ((refine wpText_p rfl rfl ?_; apply Exists.intro; refine ⟨?_, ?_⟩; next => (intro w'; go_simp; (try (go_bits; go_simp)); (first | done | with_reducible rfl | (rw [if_neg (by omega)]; (try (go_bits; go_simp)); (first | done | with_reducible rfl)) | (rw [if_pos (by omega)]; (try (go_bits; go_simp)); (first | done | with_reducible rfl))))); (try simp only [Act.put, List.setIfInBounds_toArray, List.set_cons_zero, List.set_cons_succ])) | ((refine wpText_y rfl rfl ?_; apply Exists.intro; refine ⟨?_, ?_⟩; next => (intro w' hS; (first | obtain ⟨_, rfl⟩ := hS | skip); go_simp; (try (go_bits; go_simp)); (first | done | with_reducible rfl | (rw [if_neg (by omega)]; (try (go_bits; go_simp)); (first | done | with_reducible rfl)) | (rw [if_pos (by omega)]; (try (go_bits; go_simp)); (first | done | with_reducible rfl))))); (try simp only [Act.put, List.setIfInBounds_toArray, List.set_cons_zero, List.set_cons_succ])) | (refine wpText_skip (by first | exact .inl rfl | exact .inr (.inl rfl) | exact .inr (.inr rfl)) rfl ?_; (try simp only [Act.put, List.setIfInBounds_toArray, List.set_cons_zero, List.set_cons_succ])))
    refine wpText_nil ?_
    go_wp2_with (at_builtin; refine wpList_append_offs _ rfl (.tmp 12) (.tmp 19) 145 rfl rcolT i0 (.agg zsC.toArray) 13 144 Try.underlying145 hi0 hz0 hs0 hb0 rfl (by decide) w.heap.size (.slice A3 k c3) k ((l.take k).flatMap rcc) rfl H3.out.1 H3.out.2.1.size base (.slice (some ⟨g, o, none⟩) 0 0) 0 ([] : List Value) rfl (off_keep (off_zero HR.out) H3.out.2.1) (by simp) (by simp only [maxLen]; omega) (by omega) ?_)
    intro v4 w4 hr4 ho4 hv4
    have hO4 : Only [] w w4 := H3.out.2.1.trans' ho4 (by intro i hi hl; have := (off_ge H3.out.1 i (mem_own.1 hi)).1; omega)
    have me4 := hO4.blk HH.out.1.me (by simp)
    have f4 := me4.frozen 0
    have b4 := me4.cell (i := 0) rfl
    have l4 := me4.lt
    obtain ⟨A4, c4, rfl⟩ := off_shape hr4
    have H4 := hide (show _ ∧ _ ∧ _ from ⟨hr4, hO4, me4⟩)
    clear hr4 ho4 hv4 hO4 me4
    go_wp2
    refine NoX.normal ?_
    go_wp2
    go_end0
    refine ⟨_, _, rfl, rem_end HH.out.2.1 (by omega) HH.out.1 HH.out.2.2 ?_ H4.out.2.1 H4.out.2.2⟩
    have h1 := H4.out.1
    have h10 : (l.drop (k + 1)).flatMap rcc = ([] : List Value) := by rw [List.drop_of_length_le (by rw [HH.out.2.1]; omega)]; rfl
    rw [h10]
    simpa using h1
  · have hc2 : ¬ (k + 1 = c) := by omega
    have hD := off_drop HR.out (k := k + 1) (by omega)
    rw [flatn_drop rcc_len] at hD
    have HSRC := hide hD
    clear hD
    refine wp_region_text 16 [1, 8] [0, 2, 3, 4, 6, 7, 9, 10, 11, 13, 14, 15] [5, 12] (fun w' => w'.cell? ⟨r, 0, none⟩ = some (.slice (some ⟨g, o, none⟩) n c)) (by kernel_rfl) (by kernel_rfl) (by go_simp) ?_
    simp only [List.take_succ_cons, List.take_zero, List.drop_succ_cons, List.drop_zero]
    repeat (first | ((refine wpText_h rfl rfl ?_; apply Exists.intro; refine ⟨?_, ?_⟩; next => (go_simp; (try (go_bits; go_simp)); (first | done | with_reducible rfl | (rw [if_neg (by omega)]; (try (go_bits; go_simp)); (first | done | with_reducible rfl)) | (rw [if_pos (by omega)]; (try (go_bits; go_simp)); (first | done | with_reducible rfl))))); (try simp only [Act.put, List.setIfInBounds_toArray, List.set_cons_zero, List.set_cons_succ])) | ((refine wpText_p rfl rfl ?_; apply Exists.intro; refine ⟨?_, ?_⟩; next => (intro w'; go_simp; (try (go_bits; go_simp)); (first | done | with_reducible rfl | (rw [if_neg (by omega)]; (try (go_bits; go_simp)); (first | done | with_reducible rfl)) | (rw [if_pos (by omega)]; (try (go_bits; go_simp)); (first | done | with_reducible rfl))))); (try simp only [Act.put, List.setIfInBounds_toArray, List.set_cons_zero, List.set_cons_succ])) | ((refine wpText_y rfl rfl ?_; apply Exists.intro; refine ⟨?_, ?_⟩; next => (intro w' hS; (first | obtain ⟨_, rfl⟩ := hS | skip); go_simp; (try (go_bits; go_simp)); (first | done | with_reducible rfl | (rw [if_neg (by omega)]; (try (go_bits; go_simp)); (first | done | with_reducible rfl)) | (rw [if_pos (by omega)]; (try (go_bits; go_simp)); (first | done | with_reducible rfl))))); (try simp only [Act.put, List.setIfInBounds_toArray, List.set_cons_zero, List.set_cons_succ])) | (refine wpText_skip (by first | exact .inl rfl | exact .inr (.inl rfl) | exact .inr (.inr rfl)) rfl ?_; (try simp only [Act.put, List.setIfInBounds_toArray, List.set_cons_zero, List.set_cons_succ])))
    refine wpText_e rfl rfl (fun K hK => ?_)
    go_wp2
    refine hK _ _ (by go_simp) ?_
    clear hK K
    try simp only [Act.put, List.setIfInBounds_toArray, List.set_cons_zero, List.set_cons_succ]
    repeat (first | ((refine wpText_h rfl rfl ?_; apply Exists.intro; refine ⟨?_, ?_⟩; next => (go_simp; (try (go_bits; go_simp)); (first | done | with_reducible rfl | (rw [if_neg (by omega)]; (try (go_bits; go_simp)); (first | done | with_reducible rfl)) | (rw [if_pos (by omega)]; (try (go_bits; go_simp)); (first | done | with_reducible rfl))))); (try simp only [Act.put, List.setIfInBounds_toArray, List.set_cons_zero, List.set_cons_succ])) | ((refine wpText_p rfl rfl ?_; apply Exists.intro; refine ⟨?_, ?_⟩; next => (intro w'; go_simp; (try (go_bits; go_simp)); (first | done | with_reducible rfl | (rw [if_neg (by omega)]; (try (go_bits; go_simp)); (first | done | with_reducible rfl)) | (rw [if_pos (by omega)]; (try (go_bits; go_simp)); (first | done | with_reducible rfl))))); (try simp only [Act.put, List.setIfInBounds_toArray, List.set_cons_zero, List.set_cons_succ])) | ((refine wpText_y rfl rfl ?_; apply Exists.intro; refine ⟨?_, ?_⟩; next => (intro w' hS; (first | obtain ⟨_, rfl⟩ := hS | skip); go_simp; (try (go_bits; go_simp)); (first | done | with_reducible rfl | (rw [if_neg (by omega)]; (try (go_bits; go_simp)); (first | done | with_reducible rfl)) | (rw [if_pos (by omega)]; (try (go_bits; go_simp)); (first | done | with_reducible rfl))))); (try simp only [Act.put, List.setIfInBounds_toArray, List.set_cons_zero, List.set_cons_succ])) | (refine wpText_skip (by first | exact .inl rfl | exact .inr (.inl rfl) | exact .inr (.inr rfl)) rfl ?_; (try simp only [Act.put, List.setIfInBounds_toArray, List.set_cons_zero, List.set_cons_succ])))
    refine wpText_e rfl rfl (fun K hK => ?_)
    refine wp_append_offs _ (.tmp 5) (.tmp 11) 145 rfl rcolT i0 (.agg zsC.toArray) 13 144 Try.underlying145 hi0 hz0 hs0 hb0 rfl (by decide) w.heap.size (.slice (some ⟨w.heap.size, 0, none⟩) 0 0) 0 [] rfl hm1.out hO1.out.size base (.slice (some ⟨g, o, none⟩) k c) k ((l.take k).flatMap rcc) rfl (off_keep HTK.out hO1.out) (rcc_one fun z hz => HONE.out z (List.mem_of_mem_take hz)) (by simp only [maxLen]; omega) (by omega) ?_
    intro v3 w3 hr3 ho3 hv3
    rw [Nat.zero_add, List.nil_append] at hr3
    obtain ⟨A3, c3, rfl⟩ := off_shape hr3
    have hO3 : Only [] w w3 := hO1.out.trans' ho3 (by intro i hi hl; simp [Value.ownBlock] at hi; omega)
    have me3 := hO3.blk HH.out.1.me (by simp)
    have b3 := me3.cell (i := 0) rfl
    have l3 := me3.lt
    refine hK _ _ b3 ?_
    clear hK K
    have H3 := hide (show _ ∧ _ ∧ _ from ⟨hr3, hO3, me3⟩)
    clear hr3 ho3 hv3 hO3 me3
    repeat (first | ((refine wpText_h rfl rfl ?_; apply Exists.intro; refine ⟨?_, ?_⟩; next => (go_simp; (try (go_bits; go_simp)); (first | done | with_reducible rfl | (rw [if_neg (by omega)]; (try (go_bits; go_simp)); (first | done | with_reducible rfl)) | (rw [if_pos (by omega)]; (try (go_bits; go_simp)); (first | done | with_reducible rfl))))); (try simp only [Act.put, List.setIfInBounds_toArray, List.set_cons_zero, List.set_cons_succ])) | ((refine wpText_p rfl rfl ?_; apply Exists.intro; refine ⟨?_, ?_⟩; next => (intro w'; go_simp; (try (go_bits; go_simp)); (first | done | with_reducible rfl | (rw [if_neg (by omega)]; (try (go_bits; go_simp)); (first | done | with_reducible rfl)) | (rw [if_pos (by omega)]; (try (go_bits; go_simp)); (first | done | with_reducible rfl))))); (try simp only [Act.put, List.setIfInBounds_toArray, List.set_cons_zero, List.set_cons_succ])) | ((refine wpText_y rfl rfl ?_; apply Exists.intro; refine ⟨?_, ?_⟩; next => (intro w' hS; (first | obtain ⟨_, rfl⟩ := hS | skip); go_simp; (try (go_bits; go_simp)); (first | done | with_reducible rfl | (rw [if_neg (by omega)]; (try (go_bits; go_simp)); (first | done | with_reducible rfl)) | (rw [if_pos (by omega)]; (try (go_bits; go_simp)); (first | done | with_reducible rfl))))); (try simp only [Act.put, List.setIfInBounds_toArray, List.set_cons_zero, List.set_cons_succ])) | (refine wpText_skip (by first | exact .inl rfl | exact .inr (.inl rfl) | exact .inr (.inr rfl)) rfl ?_; (try simp only [Act.put, List.setIfInBounds_toArray, List.set_cons_zero, List.set_cons_succ])))
    refine wpText_nil ?_
    go_wp2_with (at_builtin; refine wpList_append_offs _ rfl (.tmp 12) (.tmp 19) 145 rfl rcolT i0 (.agg zsC.toArray) 13 144 Try.underlying145 hi0 hz0 hs0 hb0 rfl (by decide) w.heap.size (.slice A3 k c3) k ((l.take k).flatMap rcc) rfl H3.out.1 H3.out.2.1.size base (.slice (some ⟨g, o + (k + 1) * 13, none⟩) (n - (k + 1)) (c - (k + 1))) (n - (k + 1)) ((l.drop (k + 1)).flatMap rcc) rfl (off_keep HSRC.out H3.out.2.1) (rcc_one fun z hz => HONE.out z (List.mem_of_mem_drop hz)) (by simp only [maxLen]; omega) (by omega) ?_)
    intro v4 w4 hr4 ho4 hv4
    have hO4 : Only [] w w4 := H3.out.2.1.trans' ho4 (by intro i hi hl; have := (off_ge H3.out.1 i (mem_own.1 hi)).1; omega)
    have me4 := hO4.blk HH.out.1.me (by simp)
    have f4 := me4.frozen 0
    have b4 := me4.cell (i := 0) rfl
    have l4 := me4.lt
    obtain ⟨A4, c4, rfl⟩ := off_shape hr4
    have H4 := hide (show _ ∧ _ ∧ _ from ⟨hr4, hO4, me4⟩)
    clear hr4 ho4 hv4 hO4 me4
    go_wp2
    refine NoX.normal ?_
    go_wp2
    go_end0
    refine ⟨_, _, rfl, rem_end HH.out.2.1 hk HH.out.1 HH.out.2.2 ?_ H4.out.2.1 H4.out.2.2⟩
    have h1 := H4.out.1
    rw [show k + (n - (k + 1)) = n - 1 by omega] at h1 ⊢
    exact h1

end Go.Proofs.Ytlnejlhdkmneeaa
