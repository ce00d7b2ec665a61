/- Forward of both, of a packet with no data. -/
import Derived.Test.YtlnejlhdkmneeaaRouH
import Derived.Test.YtlnejlhdkmneeaaLawDec
namespace Go.Proofs.Ytlnejlhdkmneeaa
open Go.RowKit

/-- The packet that the law forwards. -/
def fpk (a ttl : Int) : Pkt := ⟨0, a, 0, ttl, 0, 0, false, none, 0, []⟩
theorem fpk_bad (a ttl : Int) : (fpk a ttl).bad ↔ (ttl < 0 ∨ 255 < ttl) := by unfold Pkt.bad fpk; simp
/-- What Forward answers: next, interface, packet, code. -/
def fwd (rs : List Rt) (a ttl : Int) : Int × Int × Pkt × Int :=
  if (fpk a ttl).bad then (0, 0, zpk, 34) else if ttl ≤ 1 then (0, 0, zpk, 37) else match bestR rs a with
    | none => (0, 0, zpk, 39)
    | some y => (if y.gw = 0 then a else y.gw, y.ifc, fpk a (ttl - 1), 0)
def FwdS (rs : List Rt) (a ttl : Int) (w : World) (e : Ending) (w' : World) : Prop :=
  ∃ A c, e = .returned (.tuple #[.int .u32 (fwd rs a ttl).1, I64 (fwd rs a ttl).2.1, ((fwd rs a ttl).2.2.1.at A c).V, I64 (fwd rs a ttl).2.2.2]) ∧ Only [] w w'
theorem fwd_data (rs : List Rt) (a ttl : Int) : (fwd rs a ttl).2.2.1.data = [] := by
  unfold fwd; split
  · rfl
  · split
    · rfl
    · split <;> rfl
theorem results_fwd {fn : Func} {a b d u : Tmp} {t : TypeId} (h : fn.results = #[.tmp a, .tmp b, .cell d t, .tmp u]) (tmps : Array Value) (P : Program) (w : World) {ad : Addr} {v : Value} (ha : tmps.getD d undef = .pointer (some ad)) (hl : (loadVar t ad).run P w = .ok v w) :
    (results fn tmps).run P w = .ok (.tuple #[tmps.getD a undef, tmps.getD b undef, v, tmps.getD u undef]) w := by
  have ha' : tmps[d]?.getD undef = .pointer (some ad) := by simpa using ha
  simp [results, h, asAddr, ha', hl]

set_option maxRecDepth 100000 in
set_option maxHeartbeats 16000000 in
theorem forward_ok (b : Nat) (v : Value) (rs : List Rt) (n : Nat) (a ttl : Int) (w : World) (hn : rs.length = n) (hm : n ≤ 1000) (ha : 0 ≤ a ∧ a < 4294967296) (htt : -9223372036854775808 ≤ ttl) (hv : ∀ x ∈ rs, x.code = 0 ∧ x.Fit) (hr : RoutesAt w b v rs) :
    Calls Try.prog 54 #[.pointer (some ⟨b, 0, none⟩), (fpk a ttl).V] w fun e w' => FwdS rs a ttl w e w' := by
  obtain ⟨A, c, rfl⟩ : ∃ A c, v = .slice A n c := by
    obtain ⟨A, c, h⟩ := own_shape hr.row
    exact ⟨A, c, by rw [h, hn]⟩
  have hbz := build_zeroP
  have hO : Only [] w ((w.alloc (.cells #[.int .u32 0, .int .u32 a, I64 0, I64 ttl, I64 0, I64 0, .bool false, .slice none 0 0] 30)).alloc (.cells zeroP.toArray 30)) := ((Only.refl [] w).alloc _).alloc _
  have hB : Blk ((w.alloc (.cells #[.int .u32 0, .int .u32 a, I64 0, I64 ttl, I64 0, I64 0, .bool false, .slice none 0 0] 30)).alloc (.cells zeroP.toArray 30)) w.heap.size 30 [.int .u32 0, .int .u32 a, I64 0, I64 ttl, I64 0, I64 0, .bool false, .slice none 0 0] := (Blk.newA rfl).alloc _
  have hZ : Blk ((w.alloc (.cells #[.int .u32 0, .int .u32 a, I64 0, I64 ttl, I64 0, I64 0, .bool false, .slice none 0 0] 30)).alloc (.cells zeroP.toArray 30)) (w.heap.size + 1) 30 zeroP := Blk.newA (by simp)
  have H0 := hide (show _ ∧ _ ∧ _ ∧ _ from ⟨hO, hB, hZ, hr.only hO (by simp) (by simp)⟩)
  have HN := hide hn
  have HV := hide hv
  have HA := hide ha
  have e0 := hB.cell (i := 0) rfl
  have e1 := hB.cell (i := 1) rfl
  have e2 := hB.cell (i := 2) rfl
  have e3 := hB.cell (i := 3) rfl
  have e4 := hB.cell (i := 4) rfl
  have e5 := hB.cell (i := 5) rfl
  have e6 := hB.cell (i := 6) rfl
  have e7 := hB.cell (i := 7) rfl
  show Calls Try.prog 54 #[.pointer (some ⟨b, 0, none⟩), .agg #[.int .u32 0, .int .u32 a, I64 0, I64 ttl, I64 0, I64 0, .bool false, .slice none 0 0]] w _
  clear hO hB hZ hr hn hv ha
  by_cases hbad : (fpk a ttl).bad
  · have HF := hide (show fwd rs a ttl = (0, 0, zpk, 34) by unfold fwd; rw [if_pos hbad])
    have hvd := Pkt.valid_bad hbad
    have HVD := hide hvd
    clear hbad hvd
    go_enter Try.func54, Try.ntmps54
    go_wp2_with fail
    refine (Valid_ok (fpk a ttl) _ (by simp [fpk, maxLen])).mono ?_
    rintro e w1 ⟨rfl, ho⟩
    rw [HVD.out]
    have hz1 := ho.blk H0.out.2.2.1 (by simp)
    have HO1 := hide (Only.trans H0.out.1 ho)
    clear ho e0 e1 e2 e3 e4 e5 e6 e7
    go_wp2_with (refine wpList_store_cells rfl 30 (.tmp 6) (.tmp 17) rfl _ _ rfl zeroP rfl 30 zeroP hz1 (by decide) (by kernel_rfl) (by simp [Value.oneCell']) ?_; intro v1 hw3)
    have ho2 : Only [] w v1 := HO1.out.trans' hw3.2.1 (by intro i hi; simp at hi; omega)
    refine bodyPost_ret (results_fwd rfl _ _ _ rfl (load_zero (Blk.to hw3.1 (by rfl)))) rfl ?_
    exact ⟨none, 0, by rw [HF.out]; rfl, ho2⟩
  have h1 : ¬ ttl < 0 ∧ ¬ 255 < ttl := by rw [fpk_bad] at hbad; omega
  obtain ⟨h1, h2⟩ := h1
  have HBD := hide hbad
  have hvd := Pkt.valid_good hbad
  have HVD := hide hvd
  clear hbad hvd
  by_cases ht : ttl ≤ 1
  · have HF := hide (show fwd rs a ttl = (0, 0, zpk, 37) by unfold fwd; rw [if_neg HBD.out, if_pos ht])
    go_enter Try.func54, Try.ntmps54
    go_wp2_with fail
    refine (Valid_ok (fpk a ttl) _ (by simp [fpk, maxLen])).mono ?_
    rintro e w1 ⟨rfl, ho⟩
    rw [HVD.out]
    have hz1 := ho.blk H0.out.2.2.1 (by simp)
    have hb1 := ho.blk H0.out.2.1 (by simp)
    have HO1 := hide (Only.trans H0.out.1 ho)
    clear ho e0 e1 e2 e3 e4 e5 e6 e7
    have e3 := hb1.cell (i := 3) rfl
    have ltb := hb1.lt
    have HZ1 := hide hz1
    clear hb1 hz1
    go_wp2_with (refine wpList_store_cells rfl 30 (.tmp 6) (.tmp 22) rfl _ _ rfl zeroP rfl 30 zeroP HZ1.out (by decide) (by kernel_rfl) (by simp [Value.oneCell']) ?_; intro v1 hw3)
    have ho2 : Only [] w v1 := HO1.out.trans' hw3.2.1 (by intro i hi; simp at hi; omega)
    refine bodyPost_ret (results_fwd rfl _ _ _ rfl (load_zero (Blk.to hw3.1 (by rfl)))) rfl ?_
    exact ⟨none, 0, by rw [HF.out]; rfl, ho2⟩
  go_enter Try.func54, Try.ntmps54
  go_wp2_with fail
  refine (Valid_ok (fpk a ttl) _ (by simp [fpk, maxLen])).mono ?_
  rintro e w1 ⟨rfl, ho⟩
  rw [HVD.out]
  have hz1 := ho.blk H0.out.2.2.1 (by simp)
  have hb1 := ho.blk H0.out.2.1 (by simp)
  have H1 := hide (show _ ∧ _ ∧ _ ∧ _ from ⟨Only.trans H0.out.1 ho, hb1, hz1, H0.out.2.2.2.only ho (by simp) (by simp)⟩)
  clear ho e0 e1 e2 e3 e4 e5 e6 e7
  have e1 := hb1.cell (i := 1) rfl
  have e3 := hb1.cell (i := 3) rfl
  have ltb := hb1.lt
  clear hz1 hb1
  go_wp2_with fail
  refine (lookup_ok b A c rs n a _ HN.out hm HA.out (fun x hx => code_bits (HV.out x hx).1) H1.out.2.2.2).mono ?_
  rintro e w2 ⟨ho2, hres⟩
  have hz2 := ho2.blk H1.out.2.2.1 (by simp)
  have hb2 := ho2.blk H1.out.2.1 (by simp)
  have H2 := hide (show _ ∧ _ ∧ _ from ⟨Only.trans H1.out.1 ho2, hb2, hz2⟩)
  clear ho2 e1 e3 ltb
  rcases hres with ⟨hb0, rfl⟩ | ⟨y, hby, rfl⟩
  · have HF := hide (show fwd rs a ttl = (0, 0, zpk, 39) by unfold fwd; rw [if_neg HBD.out, if_neg (by omega), hb0])
    have HZ2 := hide (hz2.alloc (.cells #[.int .u32 0, I64 0, .int .u32 0, I64 0, I64 0] 63))
    clear hb0 hz2 hb2
    go_wp2_with (refine wpList_store_cells rfl 30 (.tmp 6) (.tmp 32) rfl _ _ rfl zeroP rfl 30 zeroP HZ2.out (by decide) (by kernel_rfl) (by simp [Value.oneCell']) ?_; intro v1 hw3)
    have ho2 : Only [] w v1 := (H2.out.1.alloc _).trans' hw3.2.1 (by intro i hi; simp at hi; omega)
    refine bodyPost_ret (results_fwd rfl _ _ _ rfl (load_zero (Blk.to hw3.1 (by rfl)))) rfl ?_
    exact ⟨none, 0, by rw [HF.out]; rfl, ho2⟩
  · have HF := hide (show fwd rs a ttl = (if y.gw = 0 then a else y.gw, y.ifc, fpk a (ttl - 1), 0) by unfold fwd; rw [if_neg HBD.out, if_neg (by omega), hby])
    clear hby
    have hy2 : Blk (w2.alloc (.cells #[.int .u32 y.addr, I64 y.bits, .int .u32 y.gw, I64 y.ifc, I64 y.met] 63)) w2.heap.size 63 [.int .u32 y.addr, I64 y.bits, .int .u32 y.gw, I64 y.ifc, I64 y.met] := Blk.newA rfl
    have HY := hide hy2
    have e0 := hb2.cell (i := 0) rfl
    have e1 := hb2.cell (i := 1) rfl
    have e2 := hb2.cell (i := 2) rfl
    have e3 := hb2.cell (i := 3) rfl
    have e4 := hb2.cell (i := 4) rfl
    have e5 := hb2.cell (i := 5) rfl
    have e6 := hb2.cell (i := 6) rfl
    have e7 := hb2.cell (i := 7) rfl
    have ltb := hb2.lt
    clear hz2 hb2 hy2
    go_wp2_with fail
    refine (pclone_ok (fpk a ttl) _ (by intro k x hx; simp [fpk] at hx) (by simp [fpk]) (by simp [fpk])).mono ?_
    rintro e w3 ⟨A3, c3, rfl, ho3, -⟩
    have hO3 : Only [] w w3 := Only.trans (H2.out.1.alloc _) ho3
    have hy3 := ho3.blk HY.out (by simp)
    have hb3 := ho3.blk (H2.out.2.1.alloc _) (by simp)
    have hz3 := ho3.blk (H2.out.2.2.alloc _) (by simp)
    have hne : w2.heap.size ≠ w.heap.size + 1 := by have := H2.out.2.2.lt; omega
    have H3 := hide (show _ ∧ _ ∧ _ ∧ _ from ⟨hO3, hy3, hb3, hz3⟩)
    clear ho3 hO3 hy3 hb3 hz3 e0 e1 e2 e3 e4 e5 e6 e7 ltb
    go_wp2_with (refine wpList_store_cells rfl 30 (.tmp 6) (.tmp 35) rfl _ _ rfl [.int .u32 0, .int .u32 a, I64 0, I64 ttl, I64 0, I64 0, .bool false, .slice A3 0 c3] rfl 30 zeroP H3.out.2.2.2 (by exact Nat.le_refl _) (by kernel_rfl) (by simp [Value.oneCell']) ?_)
    intro v1 hw3
    have hv : Blk v1 (w.heap.size + 1) 30 [.int .u32 0, .int .u32 a, I64 0, I64 ttl, I64 0, I64 0, .bool false, .slice A3 0 c3] := Blk.to hw3.1 (by rfl)
    have hy1 := hw3.2.1.blk H3.out.2.1 (by simpa using hne)
    have hb1 := hw3.2.1.blk H3.out.2.2.1 (by simp)
    have hO1 : Only [] w v1 := H3.out.1.trans' hw3.2.1 (by intro i hi; simp at hi; omega)
    have HE := hide (show Only [] w (v1.setCell ⟨w.heap.size + 1, 3, none⟩ (I64 (ttl - 1))) ∧ Blk (v1.setCell ⟨w.heap.size + 1, 3, none⟩ (I64 (ttl - 1))) (w.heap.size + 1) 30 [.int .u32 0, .int .u32 a, I64 0, I64 (ttl - 1), I64 0, I64 0, .bool false, .slice A3 0 c3] from ⟨hO1.set (.inr (by dsimp only; omega)) _, hv.set 3 _⟩)
    have k0 := hv.cell (i := 0) rfl
    have k1 := hv.cell (i := 1) rfl
    have k2 := hv.cell (i := 2) rfl
    have k3 := hv.cell (i := 3) rfl
    have k4 := hv.cell (i := 4) rfl
    have k5 := hv.cell (i := 5) rfl
    have k6 := hv.cell (i := 6) rfl
    have k7 := hv.cell (i := 7) rfl
    have f3 := hv.frozen 3
    have y2 := hy1.cell (i := 2) rfl
    have y3 := hy1.cell (i := 3) rfl
    have d1 := hb1.cell (i := 1) rfl
    have ltk := hv.lt
    clear hw3 hv hy1 hb1 hO1
    by_cases hg : y.gw = 0
    all_goals
      have HF2 := hide hg
      first
        | have hgb : (y.gw == 0) = true := by simp [HF2.out]
        | have hgb : (y.gw == 0) = false := by simpa using HF2.out
      clear hg
      go_wp2
      refine wp_region_text 6 [] [] [] (fun _ => True) (by kernel_rfl) (by kernel_rfl) trivial ?_
      simp only [List.take_succ_cons, List.take_zero, List.drop_succ_cons, List.drop_zero]
      repeat (first | ((refine wpText_h rfl rfl ?_; apply Exists.intro; refine ⟨?_, ?_⟩; next => (go_simp; (try (go_bits; go_simp)); (first | done | with_reducible rfl | (rw [if_neg (by omega)]; (try (go_bits; go_simp)); (first | done | with_reducible rfl)) | (rw [if_pos (by omega)]; (try (go_bits; go_simp)); (first | done | with_reducible rfl))))); (try simp only [Act.put, List.setIfInBounds_toArray, List.set_cons_zero, List.set_cons_succ])) | ((refine wpText_p rfl rfl ?_; apply Exists.intro; refine ⟨?_, ?_⟩; next => (intro w'; go_simp; (try (go_bits; go_simp)); (first | done | with_reducible rfl | (rw [if_neg (by omega)]; (try (go_bits; go_simp)); (first | done | with_reducible rfl)) | (rw [if_pos (by omega)]; (try (go_bits; go_simp)); (first | done | with_reducible rfl))))); (try simp only [Act.put, List.setIfInBounds_toArray, List.set_cons_zero, List.set_cons_succ])) | ((refine wpText_y rfl rfl ?_; apply Exists.intro; refine ⟨?_, ?_⟩; next => (intro w' hS; (first | obtain ⟨_, rfl⟩ := hS | skip); go_simp; (try (go_bits; go_simp)); (first | done | with_reducible rfl | (rw [if_neg (by omega)]; (try (go_bits; go_simp)); (first | done | with_reducible rfl)) | (rw [if_pos (by omega)]; (try (go_bits; go_simp)); (first | done | with_reducible rfl))))); (try simp only [Act.put, List.setIfInBounds_toArray, List.set_cons_zero, List.set_cons_succ])) | (refine wpText_skip (by first | exact .inl rfl | exact .inr (.inl rfl) | exact .inr (.inr rfl)) rfl ?_; (try simp only [Act.put, List.setIfInBounds_toArray, List.set_cons_zero, List.set_cons_succ])))
      refine wpText_nil ?_
      go_wp2_with (refine wpList_store_cells rfl 30 (.tmp 6) (.tmp 49) rfl _ _ rfl [.int .u32 0, .int .u32 a, I64 0, I64 (ttl - 1), I64 0, I64 0, .bool false, .slice A3 0 c3] rfl 30 [.int .u32 0, .int .u32 a, I64 0, I64 (ttl - 1), I64 0, I64 0, .bool false, .slice A3 0 c3] HE.out.2.drew (by exact Nat.le_refl _) (by kernel_rfl) (by simp [Value.oneCell']) ?_; intro v2 hw4)
      refine NoX.normal ?_
      go_wp2
      have ho2 : Only [] w v2 := HE.out.1.drew.trans' hw4.2.1 (by intro i hi; simp at hi; omega)
      refine bodyPost_ret (results_fwd rfl _ _ _ rfl (load_pkt (p := (fpk a (ttl - 1)).at A3 c3) (Blk.to hw4.1 (by rfl)))) rfl ?_
      exact ⟨A3, c3, by rw [HF.out]; (first | rw [if_pos HF2.out] | rw [if_neg HF2.out]); rfl, ho2⟩

set_option maxRecDepth 100000 in
set_option maxHeartbeats 16000000 in
theorem refForward_ok (b : Nat) (v : Value) (rs : List Rt) (n : Nat) (a ttl : Int) (w : World) (hn : rs.length = n) (hm : n ≤ 1000) (ha : 0 ≤ a ∧ a < 4294967296) (htt : -9223372036854775808 ≤ ttl) (hv : ∀ x ∈ rs, x.code = 0 ∧ x.Fit) (hr : RRoutesAt w b v rs) :
    Calls Try.prog 55 #[.pointer (some ⟨b, 0, none⟩), (fpk a ttl).V] w fun e w' => FwdS rs a ttl w e w' := by
  obtain ⟨A, c, rfl⟩ : ∃ A c, v = .slice A n c := by
    obtain ⟨A, c, h⟩ := own_shape hr.row
    exact ⟨A, c, by rw [h, hn]⟩
  have hbz := build_rzeroP
  have hO : Only [] w ((w.alloc (.cells #[.int .u32 0, .int .u32 a, I64 0, I64 ttl, I64 0, I64 0, .bool false, .slice none 0 0] 45)).alloc (.cells zeroP.toArray 45)) := ((Only.refl [] w).alloc _).alloc _
  have hB : Blk ((w.alloc (.cells #[.int .u32 0, .int .u32 a, I64 0, I64 ttl, I64 0, I64 0, .bool false, .slice none 0 0] 45)).alloc (.cells zeroP.toArray 45)) w.heap.size 45 [.int .u32 0, .int .u32 a, I64 0, I64 ttl, I64 0, I64 0, .bool false, .slice none 0 0] := (Blk.newA rfl).alloc _
  have hZ : Blk ((w.alloc (.cells #[.int .u32 0, .int .u32 a, I64 0, I64 ttl, I64 0, I64 0, .bool false, .slice none 0 0] 45)).alloc (.cells zeroP.toArray 45)) (w.heap.size + 1) 45 zeroP := Blk.newA (by simp)
  have H0 := hide (show _ ∧ _ ∧ _ ∧ _ from ⟨hO, hB, hZ, hr.only hO (by simp) (by simp)⟩)
  have HN := hide hn
  have HV := hide hv
  have HA := hide ha
  have e0 := hB.cell (i := 0) rfl
  have e1 := hB.cell (i := 1) rfl
  have e2 := hB.cell (i := 2) rfl
  have e3 := hB.cell (i := 3) rfl
  have e4 := hB.cell (i := 4) rfl
  have e5 := hB.cell (i := 5) rfl
  have e6 := hB.cell (i := 6) rfl
  have e7 := hB.cell (i := 7) rfl
  show Calls Try.prog 55 #[.pointer (some ⟨b, 0, none⟩), .agg #[.int .u32 0, .int .u32 a, I64 0, I64 ttl, I64 0, I64 0, .bool false, .slice none 0 0]] w _
  clear hO hB hZ hr hn hv ha
  by_cases hbad : (fpk a ttl).bad
  · have HF := hide (show fwd rs a ttl = (0, 0, zpk, 34) by unfold fwd; rw [if_pos hbad])
    have hvd := Pkt.valid_bad hbad
    have HVD := hide hvd
    clear hbad hvd
    go_enter Try.func55, Try.ntmps55
    go_wp2_with fail
    refine (refValid_ok (fpk a ttl) _ (by simp [fpk, maxLen])).mono ?_
    rintro e w1 ⟨rfl, ho⟩
    rw [HVD.out]
    have hz1 := ho.blk H0.out.2.2.1 (by simp)
    have HO1 := hide (Only.trans H0.out.1 ho)
    clear ho e0 e1 e2 e3 e4 e5 e6 e7
    go_wp2_with (refine wpList_store_cells rfl 45 (.tmp 6) (.tmp 15) rfl _ _ rfl zeroP rfl 45 zeroP hz1 (by decide) (by kernel_rfl) (by simp [Value.oneCell']) ?_; intro v1 hw3)
    have ho2 : Only [] w v1 := HO1.out.trans' hw3.2.1 (by intro i hi; simp at hi; omega)
    refine bodyPost_ret (results_fwd rfl _ _ _ rfl (rload_zero (Blk.to hw3.1 (by rfl)))) rfl ?_
    exact ⟨none, 0, by rw [HF.out]; rfl, ho2⟩
  have h1 : ¬ ttl < 0 ∧ ¬ 255 < ttl := by rw [fpk_bad] at hbad; omega
  obtain ⟨h1, h2⟩ := h1
  have HBD := hide hbad
  have hvd := Pkt.valid_good hbad
  have HVD := hide hvd
  clear hbad hvd
  by_cases ht : ttl ≤ 1
  · have HF := hide (show fwd rs a ttl = (0, 0, zpk, 37) by unfold fwd; rw [if_neg HBD.out, if_pos ht])
    go_enter Try.func55, Try.ntmps55
    go_wp2_with fail
    refine (refValid_ok (fpk a ttl) _ (by simp [fpk, maxLen])).mono ?_
    rintro e w1 ⟨rfl, ho⟩
    rw [HVD.out]
    have hz1 := ho.blk H0.out.2.2.1 (by simp)
    have hb1 := ho.blk H0.out.2.1 (by simp)
    have HO1 := hide (Only.trans H0.out.1 ho)
    clear ho e0 e1 e2 e3 e4 e5 e6 e7
    have e3 := hb1.cell (i := 3) rfl
    have ltb := hb1.lt
    have HZ1 := hide hz1
    clear hb1 hz1
    go_wp2_with (refine wpList_store_cells rfl 45 (.tmp 6) (.tmp 19) rfl _ _ rfl zeroP rfl 45 zeroP HZ1.out (by decide) (by kernel_rfl) (by simp [Value.oneCell']) ?_; intro v1 hw3)
    have ho2 : Only [] w v1 := HO1.out.trans' hw3.2.1 (by intro i hi; simp at hi; omega)
    refine bodyPost_ret (results_fwd rfl _ _ _ rfl (rload_zero (Blk.to hw3.1 (by rfl)))) rfl ?_
    exact ⟨none, 0, by rw [HF.out]; rfl, ho2⟩
  go_enter Try.func55, Try.ntmps55
  go_wp2_with fail
  refine (refValid_ok (fpk a ttl) _ (by simp [fpk, maxLen])).mono ?_
  rintro e w1 ⟨rfl, ho⟩
  rw [HVD.out]
  have hz1 := ho.blk H0.out.2.2.1 (by simp)
  have hb1 := ho.blk H0.out.2.1 (by simp)
  have H1 := hide (show _ ∧ _ ∧ _ ∧ _ from ⟨Only.trans H0.out.1 ho, hb1, hz1, H0.out.2.2.2.only ho (by simp) (by simp)⟩)
  clear ho e0 e1 e2 e3 e4 e5 e6 e7
  have e1 := hb1.cell (i := 1) rfl
  have e3 := hb1.cell (i := 3) rfl
  have ltb := hb1.lt
  clear hz1 hb1
  go_wp2_with fail
  refine (refLookup_ok b A c rs n a _ HN.out hm HA.out HV.out H1.out.2.2.2).mono ?_
  rintro e w2 ⟨ho2, hres⟩
  have hz2 := ho2.blk H1.out.2.2.1 (by simp)
  have hb2 := ho2.blk H1.out.2.1 (by simp)
  have H2 := hide (show _ ∧ _ ∧ _ from ⟨Only.trans H1.out.1 ho2, hb2, hz2⟩)
  clear ho2 e1 e3 ltb
  rcases hres with ⟨hb0, rfl⟩ | ⟨y, hby, rfl⟩
  · have HF := hide (show fwd rs a ttl = (0, 0, zpk, 39) by unfold fwd; rw [if_neg HBD.out, if_neg (by omega), hb0])
    have HZ2 := hide (hz2.alloc (.cells #[.int .u32 0, I64 0, .int .u32 0, I64 0, I64 0] 104))
    clear hb0 hz2 hb2
    go_wp2_with (refine wpList_store_cells rfl 45 (.tmp 6) (.tmp 29) rfl _ _ rfl zeroP rfl 45 zeroP HZ2.out (by decide) (by kernel_rfl) (by simp [Value.oneCell']) ?_; intro v1 hw3)
    have ho2 : Only [] w v1 := (H2.out.1.alloc _).trans' hw3.2.1 (by intro i hi; simp at hi; omega)
    refine bodyPost_ret (results_fwd rfl _ _ _ rfl (rload_zero (Blk.to hw3.1 (by rfl)))) rfl ?_
    exact ⟨none, 0, by rw [HF.out]; rfl, ho2⟩
  · have HF := hide (show fwd rs a ttl = (if y.gw = 0 then a else y.gw, y.ifc, fpk a (ttl - 1), 0) by unfold fwd; rw [if_neg HBD.out, if_neg (by omega), hby])
    clear hby
    have hy2 : Blk (w2.alloc (.cells #[.int .u32 y.addr, I64 y.bits, .int .u32 y.gw, I64 y.ifc, I64 y.met] 104)) w2.heap.size 104 [.int .u32 y.addr, I64 y.bits, .int .u32 y.gw, I64 y.ifc, I64 y.met] := Blk.newA rfl
    have HY := hide hy2
    have e0 := hb2.cell (i := 0) rfl
    have e1 := hb2.cell (i := 1) rfl
    have e2 := hb2.cell (i := 2) rfl
    have e3 := hb2.cell (i := 3) rfl
    have e4 := hb2.cell (i := 4) rfl
    have e5 := hb2.cell (i := 5) rfl
    have e6 := hb2.cell (i := 6) rfl
    have e7 := hb2.cell (i := 7) rfl
    have ltb := hb2.lt
    clear hz2 hb2 hy2
    have hz2 := H2.out.2.2
    have ltz := hz2.lt
    have hq1 : ¬ (w.heap.size = w2.heap.size + 1) := by omega
    have hq2 : ¬ (w.heap.size = w2.heap.size) := by omega
    have hq3 : ¬ (w.heap.size + 1 = w2.heap.size + 1) := by omega
    have hq4 : ¬ (w.heap.size + 1 = w2.heap.size) := by omega
    obtain ⟨i0, hi, hz0, hz1, hz2'⟩ := info_parts u8_info
    have hnil := hide (fun (W : World) (g : Nat) (ty : TypeId) => run_append_nothing (P := Try.prog) (ty := ty) W 28 28 5 i0 Try.underlying28 hi (some ⟨g, 0, none⟩) 0 0 (Nat.le_refl _) (.slice none 0 0) (Src.ofNil _ Try.underlying28 0))
    clear hz2
    have e7w : (((w2.alloc (.cells #[.int .u32 y.addr, I64 y.bits, .int .u32 y.gw, I64 y.ifc, I64 y.met] 104)).alloc (.cells #[.int .u32 0, .int .u32 a, I64 0, I64 (ttl - 1), I64 0, I64 0, .bool false, .slice none 0 0] 45)).alloc (.cells #[] 5)).cell? ⟨w.heap.size, 7, none⟩ = some (.slice none 0 0) := (((H2.out.2.1.alloc _).alloc _).alloc _).cell (i := 7) rfl
    have hq5 : ¬ (w.heap.size = w2.heap.size + 1 + 1) := by omega
    by_cases hg : y.gw = 0
    all_goals
      have HF2 := hide hg
      first
        | have hgb : (y.gw == 0) = true := by simp [HF2.out]
        | have hgb : (y.gw == 0) = false := by simpa using HF2.out
      clear hg
      go_wp2_with (at_builtin; refine wpList_append_eq rfl (.tmp 42) (.tmp 44) 28 rfl _ _ _ rfl rfl (hnil.out _ _) ?_)
    all_goals
      have hKB : Blk (((w2.alloc (.cells #[.int .u32 y.addr, I64 y.bits, .int .u32 y.gw, I64 y.ifc, I64 y.met] 104)).alloc (.cells #[.int .u32 0, .int .u32 a, I64 0, I64 (ttl - 1), I64 0, I64 0, .bool false, .slice (some ⟨w2.heap.size + 1 + 1, 0, none⟩) 0 0] 45)).alloc (.cells #[] 5)) (w2.heap.size + 1) 45 [.int .u32 0, .int .u32 a, I64 0, I64 (ttl - 1), I64 0, I64 0, .bool false, .slice (some ⟨w2.heap.size + 1 + 1, 0, none⟩) 0 0] := (Blk.newA (by simp)).alloc _
      have hYB : Blk (((w2.alloc (.cells #[.int .u32 y.addr, I64 y.bits, .int .u32 y.gw, I64 y.ifc, I64 y.met] 104)).alloc (.cells #[.int .u32 0, .int .u32 a, I64 0, I64 (ttl - 1), I64 0, I64 0, .bool false, .slice (some ⟨w2.heap.size + 1 + 1, 0, none⟩) 0 0] 45)).alloc (.cells #[] 5)) w2.heap.size 104 [.int .u32 y.addr, I64 y.bits, .int .u32 y.gw, I64 y.ifc, I64 y.met] := ((Blk.newA rfl).alloc _).alloc _
      have hZB : Blk (((w2.alloc (.cells #[.int .u32 y.addr, I64 y.bits, .int .u32 y.gw, I64 y.ifc, I64 y.met] 104)).alloc (.cells #[.int .u32 0, .int .u32 a, I64 0, I64 (ttl - 1), I64 0, I64 0, .bool false, .slice (some ⟨w2.heap.size + 1 + 1, 0, none⟩) 0 0] 45)).alloc (.cells #[] 5)) (w.heap.size + 1) 45 zeroP := ((H2.out.2.2.alloc _).alloc _).alloc _
      have hOW : Only [] w (((w2.alloc (.cells #[.int .u32 y.addr, I64 y.bits, .int .u32 y.gw, I64 y.ifc, I64 y.met] 104)).alloc (.cells #[.int .u32 0, .int .u32 a, I64 0, I64 (ttl - 1), I64 0, I64 0, .bool false, .slice (some ⟨w2.heap.size + 1 + 1, 0, none⟩) 0 0] 45)).alloc (.cells #[] 5)) := ((H2.out.1.alloc _).alloc _).alloc _
      have HE := hide (show _ ∧ _ from ⟨hOW, hZB⟩)
      have k0 := hKB.cell (i := 0) rfl
      have k1 := hKB.cell (i := 1) rfl
      have k2 := hKB.cell (i := 2) rfl
      have k3 := hKB.cell (i := 3) rfl
      have k4 := hKB.cell (i := 4) rfl
      have k5 := hKB.cell (i := 5) rfl
      have k6 := hKB.cell (i := 6) rfl
      have k7 := hKB.cell (i := 7) rfl
      have y3 := hYB.cell (i := 3) rfl
      clear hOW hZB hKB hYB
      refine wp_region_text 6 [] [] [] (fun _ => True) (by kernel_rfl) (by kernel_rfl) trivial ?_
      simp only [List.take_succ_cons, List.take_zero, List.drop_succ_cons, List.drop_zero]
      repeat (first | ((refine wpText_h rfl rfl ?_; apply Exists.intro; refine ⟨?_, ?_⟩; next => (go_simp; (try (go_bits; go_simp)); (first | done | with_reducible rfl | (rw [if_neg (by omega)]; (try (go_bits; go_simp)); (first | done | with_reducible rfl)) | (rw [if_pos (by omega)]; (try (go_bits; go_simp)); (first | done | with_reducible rfl))))); (try simp only [Act.put, List.setIfInBounds_toArray, List.set_cons_zero, List.set_cons_succ])) | ((refine wpText_p rfl rfl ?_; apply Exists.intro; refine ⟨?_, ?_⟩; next => (intro w'; go_simp; (try (go_bits; go_simp)); (first | done | with_reducible rfl | (rw [if_neg (by omega)]; (try (go_bits; go_simp)); (first | done | with_reducible rfl)) | (rw [if_pos (by omega)]; (try (go_bits; go_simp)); (first | done | with_reducible rfl))))); (try simp only [Act.put, List.setIfInBounds_toArray, List.set_cons_zero, List.set_cons_succ])) | ((refine wpText_y rfl rfl ?_; apply Exists.intro; refine ⟨?_, ?_⟩; next => (intro w' hS; (first | obtain ⟨_, rfl⟩ := hS | skip); go_simp; (try (go_bits; go_simp)); (first | done | with_reducible rfl | (rw [if_neg (by omega)]; (try (go_bits; go_simp)); (first | done | with_reducible rfl)) | (rw [if_pos (by omega)]; (try (go_bits; go_simp)); (first | done | with_reducible rfl))))); (try simp only [Act.put, List.setIfInBounds_toArray, List.set_cons_zero, List.set_cons_succ])) | (refine wpText_skip (by first | exact .inl rfl | exact .inr (.inl rfl) | exact .inr (.inr rfl)) rfl ?_; (try simp only [Act.put, List.setIfInBounds_toArray, List.set_cons_zero, List.set_cons_succ])))
      refine wpText_nil ?_
      go_wp2_with (refine wpList_store_cells rfl 45 (.tmp 6) (.tmp 50) rfl _ _ rfl [.int .u32 0, .int .u32 a, I64 0, I64 (ttl - 1), I64 0, I64 0, .bool false, .slice (some ⟨w2.heap.size + 1 + 1, 0, none⟩) 0 0] rfl 45 zeroP HE.out.2.drew (by exact Nat.le_refl _) (by kernel_rfl) (by simp [Value.oneCell']) ?_)
      intro v2 hw4
      go_wp2
      refine NoX.normal ?_
      go_wp2
      have ho2 : Only [] w v2 := HE.out.1.drew.trans' hw4.2.1 (by intro i hi; simp at hi; omega)
      refine bodyPost_ret (results_fwd rfl _ _ _ rfl (load_ref (p := (fpk a (ttl - 1)).at (some ⟨w2.heap.size + 1 + 1, 0, none⟩) 0) (Blk.to hw4.1 (by rfl)))) rfl ?_
      exact ⟨some ⟨w2.heap.size + 1 + 1, 0, none⟩, 0, by rw [HF.out]; (first | rw [if_pos HF2.out] | rw [if_neg HF2.out]); rfl, ho2⟩

end Go.Proofs.Ytlnejlhdkmneeaa
