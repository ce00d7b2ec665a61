/- PacketsEncode answers true. -/
import Derived.Test.YtlnejlhdkmneeaaEncD
namespace Go.Proofs.Ytlnejlhdkmneeaa
open Go.RowKit

set_option maxRecDepth 100000 in
set_option maxHeartbeats 8000000 in
theorem lawenc_big (p : Pkt) (w : World) (hl : p.data.length ≤ maxLen) (hbig : 5000 < p.data.length) (hA : NumsIn w .u8 p.A p.data) :
    Calls Try.prog 6 #[p.V] w fun e w' => e = .returned (.bool true) ∧ Only [] w w' := by
  have hO : Only [] w (w.alloc (.cells #[.int .u32 p.src, .int .u32 p.dst, I64 p.proto, I64 p.ttl, I64 p.id, I64 p.off, .bool p.more, .slice p.A p.data.length p.cap] 30)) := (Only.refl [] w).alloc _
  have hB : Blk (w.alloc (.cells #[.int .u32 p.src, .int .u32 p.dst, I64 p.proto, I64 p.ttl, I64 p.id, I64 p.off, .bool p.more, .slice p.A p.data.length p.cap] 30)) w.heap.size 30 [.int .u32 p.src, .int .u32 p.dst, I64 p.proto, I64 p.ttl, I64 p.id, I64 p.off, .bool p.more, .slice p.A p.data.length p.cap] := Blk.newA rfl
  show Calls Try.prog 6 #[.agg #[.int .u32 p.src, .int .u32 p.dst, I64 p.proto, I64 p.ttl, I64 p.id, I64 p.off, .bool p.more, .slice p.A p.data.length p.cap]] w _
  have HA := hide hA
  have HO := hide (And.intro hO hB)
  clear hO hB hA
  go_enter Try.func6, Try.ntmps6
  go_wp2_with fail
  refine (large_ok p (w.heap.size + 1) _ hl (Blk.newA (by simp))).mono ?_
  rintro e w2 ⟨rfl, ho⟩
  have h2 := ho.blk (HO.out.2.alloc _) (by simp)
  have e0 := h2.cell (i := 0) rfl
  have e1 := h2.cell (i := 1) rfl
  have e2 := h2.cell (i := 2) rfl
  have e3 := h2.cell (i := 3) rfl
  have e4 := h2.cell (i := 4) rfl
  have e5 := h2.cell (i := 5) rfl
  have e6 := h2.cell (i := 6) rfl
  have e7 := h2.cell (i := 7) rfl
  have lt1 := h2.lt
  have H2 := hide (show _ ∧ _ from ⟨Only.trans (HO.out.1.alloc _) ho, h2⟩)
  clear HO h2 ho
  rw [decide_eq_true hbig]
  go_wp2_with fail
  refine (awake_ok _).mono ?_
  rintro e w3 ⟨rfl, ho⟩
  have H3 := hide (Only.trans H2.out.1 ho)
  clear ho
  go_wp2
  go_ret
  exact ⟨rfl, H3.out⟩

set_option maxRecDepth 100000 in
set_option maxHeartbeats 16000000 in
theorem lawenc_small (p : Pkt) (w : World) (hf : p.Fit) (hl : p.data.length ≤ maxLen) (hbig : ¬ 5000 < p.data.length) (hA : NumsIn w .u8 p.A p.data) (hA0 : p.A = none → p.data.length = 0 ∧ p.cap = 0) :
    Calls Try.prog 6 #[p.V] w fun e w' => e = .returned (.bool true) ∧ Only [] w w' := by
  have HF := hide hf
  have H0 := hide hA0
  clear hf hA0
  have hO : Only [] w (w.alloc (.cells #[.int .u32 p.src, .int .u32 p.dst, I64 p.proto, I64 p.ttl, I64 p.id, I64 p.off, .bool p.more, .slice p.A p.data.length p.cap] 30)) := (Only.refl [] w).alloc _
  have hB : Blk (w.alloc (.cells #[.int .u32 p.src, .int .u32 p.dst, I64 p.proto, I64 p.ttl, I64 p.id, I64 p.off, .bool p.more, .slice p.A p.data.length p.cap] 30)) w.heap.size 30 [.int .u32 p.src, .int .u32 p.dst, I64 p.proto, I64 p.ttl, I64 p.id, I64 p.off, .bool p.more, .slice p.A p.data.length p.cap] := Blk.newA rfl
  show Calls Try.prog 6 #[.agg #[.int .u32 p.src, .int .u32 p.dst, I64 p.proto, I64 p.ttl, I64 p.id, I64 p.off, .bool p.more, .slice p.A p.data.length p.cap]] w _
  have HA := hide hA
  have HO := hide (And.intro hO hB)
  clear hO hB hA
  go_enter Try.func6, Try.ntmps6
  go_wp2_with fail
  refine (large_ok p (w.heap.size + 1) _ hl (Blk.newA (by simp))).mono ?_
  rintro e w2 ⟨rfl, ho⟩
  have h2 := ho.blk (HO.out.2.alloc _) (by simp)
  have e0 := h2.cell (i := 0) rfl
  have e1 := h2.cell (i := 1) rfl
  have e2 := h2.cell (i := 2) rfl
  have e3 := h2.cell (i := 3) rfl
  have e4 := h2.cell (i := 4) rfl
  have e5 := h2.cell (i := 5) rfl
  have e6 := h2.cell (i := 6) rfl
  have e7 := h2.cell (i := 7) rfl
  have lt1 := h2.lt
  have H2 := hide (show _ ∧ _ from ⟨Only.trans (HO.out.1.alloc _) ho, h2⟩)
  clear HO h2 ho
  rw [decide_eq_false hbig]
  obtain ⟨q, hq⟩ : ∃ q, q = w.heap.size := ⟨_, rfl⟩
  rw [← hq] at H2 lt1 e0 e1 e2 e3 e4 e5 e6 e7
  rw [← hq]
  clear hq
  go_wp2_with fail
  refine (Encode_ok p _ HF.out hl (HA.out.only H2.out.1)).mono ?_
  rintro e w3 ⟨⟨v, rfl, hv⟩, ho⟩
  have h3 := ho.blk H2.out.2 (by simp)
  have H3 := hide (show _ ∧ _ from ⟨Only.trans H2.out.1 ho, h3⟩)
  have HV := hide hv
  clear e0 e1 e2 e3 e4 e5 e6 e7
  have e0 := h3.cell (i := 0) rfl
  have e1 := h3.cell (i := 1) rfl
  have e2 := h3.cell (i := 2) rfl
  have e3 := h3.cell (i := 3) rfl
  have e4 := h3.cell (i := 4) rfl
  have e5 := h3.cell (i := 5) rfl
  have e6 := h3.cell (i := 6) rfl
  have e7 := h3.cell (i := 7) rfl
  have lt3 := h3.lt
  clear h3 ho hv H2 lt1
  go_wp2_with fail
  refine (ref_ok p _).mono ?_
  rintro e w4 ⟨rfl, ho⟩
  have h4 := ho.blk H3.out.2 (by simp)
  have H4 := hide (show _ ∧ _ ∧ _ from ⟨Only.trans H3.out.1 ho, h4, ho⟩)
  clear e0 e1 e2 e3 e4 e5 e6 e7 lt3
  clear ho h4
  by_cases hb : p.bad
  · rw [if_pos hb] at HV
    obtain rfl := HV.out
    rw [Pkt.valid_bad hb]
    have HBD := hide hb
    clear hb
    go_wp2_with fail
    refine (refEncode_bad p _ HBD.out hl).mono ?_
    rintro e w5 ⟨rfl, ho⟩
    have h5 := ho.blk H4.out.2.1 (by simp)
    have H5 := hide (show _ ∧ _ from ⟨Only.trans H4.out.1 ho, h5⟩)
    have e0 := h5.cell (i := 0) rfl
    have e1 := h5.cell (i := 1) rfl
    have e2 := h5.cell (i := 2) rfl
    have e3 := h5.cell (i := 3) rfl
    have e4 := h5.cell (i := 4) rfl
    have e5 := h5.cell (i := 5) rfl
    have e6 := h5.cell (i := 6) rfl
    have e7 := h5.cell (i := 7) rfl
    have lt5 := h5.lt
    clear ho h5 H4 H3
    go_wp2_with fail
    refine wp_region_text 14 [5, 7, 8] [] [6] (fun w' => w'.cell? ⟨q, 0, none⟩ = some (.int .u32 p.src) ∧ w'.cell? ⟨q, 1, none⟩ = some (.int .u32 p.dst) ∧ w'.cell? ⟨q, 2, none⟩ = some (I64 p.proto) ∧ w'.cell? ⟨q, 3, none⟩ = some (I64 p.ttl) ∧ w'.cell? ⟨q, 4, none⟩ = some (I64 p.id) ∧ w'.cell? ⟨q, 5, none⟩ = some (I64 p.off) ∧ w'.cell? ⟨q, 6, none⟩ = some (.bool p.more) ∧ w'.cell? ⟨q, 7, none⟩ = some (.slice p.A p.data.length p.cap)) (by kernel_rfl) (by kernel_rfl) ⟨e0, e1, e2, e3, e4, e5, e6, e7⟩ ?_
    simp only [List.take_succ_cons, List.take_zero, List.drop_succ_cons, List.drop_zero]
    repeat (first | ((refine wpText_h rfl rfl ?_; apply Exists.intro; refine ⟨?_, ?_⟩; next => (go_simp; (try (go_bits; go_simp)); (first | done | with_reducible rfl | (rw [if_neg (by omega)]; (try (go_bits; go_simp)); (first | done | with_reducible rfl)) | (rw [if_pos (by omega)]; (try (go_bits; go_simp)); (first | done | with_reducible rfl))))); (try simp only [Act.put, List.setIfInBounds_toArray, List.set_cons_zero, List.set_cons_succ])) | ((refine wpText_p rfl rfl ?_; apply Exists.intro; refine ⟨?_, ?_⟩; next => (intro w'; go_simp; (try (go_bits; go_simp)); (first | done | with_reducible rfl | (rw [if_neg (by omega)]; (try (go_bits; go_simp)); (first | done | with_reducible rfl)) | (rw [if_pos (by omega)]; (try (go_bits; go_simp)); (first | done | with_reducible rfl))))); (try simp only [Act.put, List.setIfInBounds_toArray, List.set_cons_zero, List.set_cons_succ])) | ((refine wpText_y rfl rfl ?_; apply Exists.intro; refine ⟨?_, ?_⟩; next => (intro w' hS; (first | obtain ⟨_, rfl⟩ := hS | skip); go_simp; (try (go_bits; go_simp)); (first | done | with_reducible rfl | (rw [if_neg (by omega)]; (try (go_bits; go_simp)); (first | done | with_reducible rfl)) | (rw [if_pos (by omega)]; (try (go_bits; go_simp)); (first | done | with_reducible rfl))))); (try simp only [Act.put, List.setIfInBounds_toArray, List.set_cons_zero, List.set_cons_succ])) | (refine wpText_skip (by first | exact .inl rfl | exact .inr (.inl rfl) | exact .inr (.inr rfl)) rfl ?_; (try simp only [Act.put, List.setIfInBounds_toArray, List.set_cons_zero, List.set_cons_succ])))
    refine wpText_e rfl rfl (fun K hK => ?_)
    go_wp2_with fail
    refine (Valid_ok p _ hl).mono ?_
    rintro e w6 ⟨rfl, ho6⟩
    have h6 := ho6.blk H5.out.2.drew (by simp)
    refine hK _ _ ⟨h6.cell (i := 0) rfl, h6.cell (i := 1) rfl, h6.cell (i := 2) rfl, h6.cell (i := 3) rfl, h6.cell (i := 4) rfl, h6.cell (i := 5) rfl, h6.cell (i := 6) rfl, h6.cell (i := 7) rfl⟩ ?_
    clear hK K
    have H6 := hide (show _ ∧ _ from ⟨Only.trans ((Only.refl [] w5).drew) ho6, h6⟩)
    clear ho6 h6 e0 e1 e2 e3 e4 e5 e6 e7 lt5
    rw [Pkt.valid_bad HBD.out]
    repeat (first | ((refine wpText_h rfl rfl ?_; apply Exists.intro; refine ⟨?_, ?_⟩; next => (go_simp; (try (go_bits; go_simp)); (first | done | with_reducible rfl | (rw [if_neg (by omega)]; (try (go_bits; go_simp)); (first | done | with_reducible rfl)) | (rw [if_pos (by omega)]; (try (go_bits; go_simp)); (first | done | with_reducible rfl))))); (try simp only [Act.put, List.setIfInBounds_toArray, List.set_cons_zero, List.set_cons_succ])) | ((refine wpText_p rfl rfl ?_; apply Exists.intro; refine ⟨?_, ?_⟩; next => (intro w'; go_simp; (try (go_bits; go_simp)); (first | done | with_reducible rfl | (rw [if_neg (by omega)]; (try (go_bits; go_simp)); (first | done | with_reducible rfl)) | (rw [if_pos (by omega)]; (try (go_bits; go_simp)); (first | done | with_reducible rfl))))); (try simp only [Act.put, List.setIfInBounds_toArray, List.set_cons_zero, List.set_cons_succ])) | ((refine wpText_y rfl rfl ?_; apply Exists.intro; refine ⟨?_, ?_⟩; next => (intro w' hS; (first | obtain ⟨_, rfl⟩ := hS | skip); go_simp; (try (go_bits; go_simp)); (first | done | with_reducible rfl | (rw [if_neg (by omega)]; (try (go_bits; go_simp)); (first | done | with_reducible rfl)) | (rw [if_pos (by omega)]; (try (go_bits; go_simp)); (first | done | with_reducible rfl))))); (try simp only [Act.put, List.setIfInBounds_toArray, List.set_cons_zero, List.set_cons_succ])) | (refine wpText_skip (by first | exact .inl rfl | exact .inr (.inl rfl) | exact .inr (.inr rfl)) rfl ?_; (try simp only [Act.put, List.setIfInBounds_toArray, List.set_cons_zero, List.set_cons_succ])))
    refine wpText_e rfl rfl (fun K hK => ?_)
    go_wp2_with fail
    refine (ref_ok p _).mono ?_
    rintro e w7 ⟨rfl, ho7⟩
    have h7 := ho7.blk H6.out.2 (by simp)
    refine hK _ _ ⟨h7.cell (i := 0) rfl, h7.cell (i := 1) rfl, h7.cell (i := 2) rfl, h7.cell (i := 3) rfl, h7.cell (i := 4) rfl, h7.cell (i := 5) rfl, h7.cell (i := 6) rfl, h7.cell (i := 7) rfl⟩ ?_
    clear hK K
    have H7 := hide (show _ ∧ _ from ⟨Only.trans H6.out.1 ho7, h7⟩)
    clear ho7 h7 H6
    repeat (first | ((refine wpText_h rfl rfl ?_; apply Exists.intro; refine ⟨?_, ?_⟩; next => (go_simp; (try (go_bits; go_simp)); (first | done | with_reducible rfl | (rw [if_neg (by omega)]; (try (go_bits; go_simp)); (first | done | with_reducible rfl)) | (rw [if_pos (by omega)]; (try (go_bits; go_simp)); (first | done | with_reducible rfl))))); (try simp only [Act.put, List.setIfInBounds_toArray, List.set_cons_zero, List.set_cons_succ])) | ((refine wpText_p rfl rfl ?_; apply Exists.intro; refine ⟨?_, ?_⟩; next => (intro w'; go_simp; (try (go_bits; go_simp)); (first | done | with_reducible rfl | (rw [if_neg (by omega)]; (try (go_bits; go_simp)); (first | done | with_reducible rfl)) | (rw [if_pos (by omega)]; (try (go_bits; go_simp)); (first | done | with_reducible rfl))))); (try simp only [Act.put, List.setIfInBounds_toArray, List.set_cons_zero, List.set_cons_succ])) | ((refine wpText_y rfl rfl ?_; apply Exists.intro; refine ⟨?_, ?_⟩; next => (intro w' hS; (first | obtain ⟨_, rfl⟩ := hS | skip); go_simp; (try (go_bits; go_simp)); (first | done | with_reducible rfl | (rw [if_neg (by omega)]; (try (go_bits; go_simp)); (first | done | with_reducible rfl)) | (rw [if_pos (by omega)]; (try (go_bits; go_simp)); (first | done | with_reducible rfl))))); (try simp only [Act.put, List.setIfInBounds_toArray, List.set_cons_zero, List.set_cons_succ])) | (refine wpText_skip (by first | exact .inl rfl | exact .inr (.inl rfl) | exact .inr (.inr rfl)) rfl ?_; (try simp only [Act.put, List.setIfInBounds_toArray, List.set_cons_zero, List.set_cons_succ])))
    refine wpText_e rfl rfl (fun K hK => ?_)
    go_wp2_with fail
    refine (refValid_ok p _ hl).mono ?_
    rintro e w8 ⟨rfl, ho8⟩
    have h8 := ho8.blk H7.out.2 (by simp)
    refine hK _ _ ⟨h8.cell (i := 0) rfl, h8.cell (i := 1) rfl, h8.cell (i := 2) rfl, h8.cell (i := 3) rfl, h8.cell (i := 4) rfl, h8.cell (i := 5) rfl, h8.cell (i := 6) rfl, h8.cell (i := 7) rfl⟩ ?_
    clear hK K
    have H8 := hide (show _ ∧ _ from ⟨Only.trans H7.out.1 ho8, h8⟩)
    clear ho8 h8 H7
    rw [Pkt.valid_bad HBD.out]
    repeat (first | ((refine wpText_h rfl rfl ?_; apply Exists.intro; refine ⟨?_, ?_⟩; next => (go_simp; (try (go_bits; go_simp)); (first | done | with_reducible rfl | (rw [if_neg (by omega)]; (try (go_bits; go_simp)); (first | done | with_reducible rfl)) | (rw [if_pos (by omega)]; (try (go_bits; go_simp)); (first | done | with_reducible rfl))))); (try simp only [Act.put, List.setIfInBounds_toArray, List.set_cons_zero, List.set_cons_succ])) | ((refine wpText_p rfl rfl ?_; apply Exists.intro; refine ⟨?_, ?_⟩; next => (intro w'; go_simp; (try (go_bits; go_simp)); (first | done | with_reducible rfl | (rw [if_neg (by omega)]; (try (go_bits; go_simp)); (first | done | with_reducible rfl)) | (rw [if_pos (by omega)]; (try (go_bits; go_simp)); (first | done | with_reducible rfl))))); (try simp only [Act.put, List.setIfInBounds_toArray, List.set_cons_zero, List.set_cons_succ])) | ((refine wpText_y rfl rfl ?_; apply Exists.intro; refine ⟨?_, ?_⟩; next => (intro w' hS; (first | obtain ⟨_, rfl⟩ := hS | skip); go_simp; (try (go_bits; go_simp)); (first | done | with_reducible rfl | (rw [if_neg (by omega)]; (try (go_bits; go_simp)); (first | done | with_reducible rfl)) | (rw [if_pos (by omega)]; (try (go_bits; go_simp)); (first | done | with_reducible rfl))))); (try simp only [Act.put, List.setIfInBounds_toArray, List.set_cons_zero, List.set_cons_succ])) | (refine wpText_skip (by first | exact .inl rfl | exact .inr (.inl rfl) | exact .inr (.inr rfl)) rfl ?_; (try simp only [Act.put, List.setIfInBounds_toArray, List.set_cons_zero, List.set_cons_succ])))
    refine wpText_nil ?_
    go_wp2_with fail
    refine (equal_true none none [] 0 0 0 _ rfl (by intro k x hx; simp at hx) (by intro k x hx; simp at hx) (by simp [maxLen])).mono ?_
    rintro e w9 ⟨rfl, ho9⟩
    have h9 := ho9.blk H8.out.2 (by simp)
    have H9 := hide (show _ ∧ _ ∧ _ from ⟨Only.trans H5.out.1 (Only.trans H8.out.1 ho9), h9, Only.trans H8.out.1 ho9⟩)
    clear ho9 h9 H8
    go_wp2
    refine NoX.normal ?_
    go_wp2_with fail
    refine (awake_ok _).mono ?_
    rintro e wa ⟨rfl, ho⟩
    have HZ := hide (Only.trans H9.out.1 ho)
    clear ho
    go_wp2
    go_ret
    exact ⟨rfl, HZ.out⟩
  · rw [if_neg hb] at HV
    obtain ⟨A, c, rfl, hN, hnc⟩ := HV.out
    rw [Pkt.valid_good hb]
    have HBD := hide hb
    have HN := hide hN
    clear hb hN
    go_wp2_with fail
    refine (refEncode_good p _ HF.out HBD.out (by omega) (HA.out.only H4.out.1) H0.out).mono ?_
    rintro e w5 ⟨A2, c2, rfl, hN2, ho⟩
    have h5 := ho.blk H4.out.2.1 (by simp)
    have H5 := hide (show _ ∧ _ ∧ _ ∧ _ from ⟨Only.trans H4.out.1 ho, h5, HN.out.only (Only.trans H4.out.2.2 ho), hN2⟩)
    have e0 := h5.cell (i := 0) rfl
    have e1 := h5.cell (i := 1) rfl
    have e2 := h5.cell (i := 2) rfl
    have e3 := h5.cell (i := 3) rfl
    have e4 := h5.cell (i := 4) rfl
    have e5 := h5.cell (i := 5) rfl
    have e6 := h5.cell (i := 6) rfl
    have e7 := h5.cell (i := 7) rfl
    have lt5 := h5.lt
    clear ho h5 H4 H3 hN2 HN
    go_wp2_with fail
    refine wp_region_text 14 [5, 7, 8] [] [6] (fun w' => w'.cell? ⟨q, 0, none⟩ = some (.int .u32 p.src) ∧ w'.cell? ⟨q, 1, none⟩ = some (.int .u32 p.dst) ∧ w'.cell? ⟨q, 2, none⟩ = some (I64 p.proto) ∧ w'.cell? ⟨q, 3, none⟩ = some (I64 p.ttl) ∧ w'.cell? ⟨q, 4, none⟩ = some (I64 p.id) ∧ w'.cell? ⟨q, 5, none⟩ = some (I64 p.off) ∧ w'.cell? ⟨q, 6, none⟩ = some (.bool p.more) ∧ w'.cell? ⟨q, 7, none⟩ = some (.slice p.A p.data.length p.cap)) (by kernel_rfl) (by kernel_rfl) ⟨e0, e1, e2, e3, e4, e5, e6, e7⟩ ?_
    simp only [List.take_succ_cons, List.take_zero, List.drop_succ_cons, List.drop_zero]
    repeat (first | ((refine wpText_h rfl rfl ?_; apply Exists.intro; refine ⟨?_, ?_⟩; next => (go_simp; (try (go_bits; go_simp)); (first | done | with_reducible rfl | (rw [if_neg (by omega)]; (try (go_bits; go_simp)); (first | done | with_reducible rfl)) | (rw [if_pos (by omega)]; (try (go_bits; go_simp)); (first | done | with_reducible rfl))))); (try simp only [Act.put, List.setIfInBounds_toArray, List.set_cons_zero, List.set_cons_succ])) | ((refine wpText_p rfl rfl ?_; apply Exists.intro; refine ⟨?_, ?_⟩; next => (intro w'; go_simp; (try (go_bits; go_simp)); (first | done | with_reducible rfl | (rw [if_neg (by omega)]; (try (go_bits; go_simp)); (first | done | with_reducible rfl)) | (rw [if_pos (by omega)]; (try (go_bits; go_simp)); (first | done | with_reducible rfl))))); (try simp only [Act.put, List.setIfInBounds_toArray, List.set_cons_zero, List.set_cons_succ])) | ((refine wpText_y rfl rfl ?_; apply Exists.intro; refine ⟨?_, ?_⟩; next => (intro w' hS; (first | obtain ⟨_, rfl⟩ := hS | skip); go_simp; (try (go_bits; go_simp)); (first | done | with_reducible rfl | (rw [if_neg (by omega)]; (try (go_bits; go_simp)); (first | done | with_reducible rfl)) | (rw [if_pos (by omega)]; (try (go_bits; go_simp)); (first | done | with_reducible rfl))))); (try simp only [Act.put, List.setIfInBounds_toArray, List.set_cons_zero, List.set_cons_succ])) | (refine wpText_skip (by first | exact .inl rfl | exact .inr (.inl rfl) | exact .inr (.inr rfl)) rfl ?_; (try simp only [Act.put, List.setIfInBounds_toArray, List.set_cons_zero, List.set_cons_succ])))
    refine wpText_e rfl rfl (fun K hK => ?_)
    go_wp2_with fail
    refine (Valid_ok p _ hl).mono ?_
    rintro e w6 ⟨rfl, ho6⟩
    have h6 := ho6.blk H5.out.2.1.drew (by simp)
    refine hK _ _ ⟨h6.cell (i := 0) rfl, h6.cell (i := 1) rfl, h6.cell (i := 2) rfl, h6.cell (i := 3) rfl, h6.cell (i := 4) rfl, h6.cell (i := 5) rfl, h6.cell (i := 6) rfl, h6.cell (i := 7) rfl⟩ ?_
    clear hK K
    have H6 := hide (show _ ∧ _ from ⟨Only.trans ((Only.refl [] w5).drew) ho6, h6⟩)
    clear ho6 h6 e0 e1 e2 e3 e4 e5 e6 e7 lt5
    rw [Pkt.valid_good HBD.out]
    repeat (first | ((refine wpText_h rfl rfl ?_; apply Exists.intro; refine ⟨?_, ?_⟩; next => (go_simp; (try (go_bits; go_simp)); (first | done | with_reducible rfl | (rw [if_neg (by omega)]; (try (go_bits; go_simp)); (first | done | with_reducible rfl)) | (rw [if_pos (by omega)]; (try (go_bits; go_simp)); (first | done | with_reducible rfl))))); (try simp only [Act.put, List.setIfInBounds_toArray, List.set_cons_zero, List.set_cons_succ])) | ((refine wpText_p rfl rfl ?_; apply Exists.intro; refine ⟨?_, ?_⟩; next => (intro w'; go_simp; (try (go_bits; go_simp)); (first | done | with_reducible rfl | (rw [if_neg (by omega)]; (try (go_bits; go_simp)); (first | done | with_reducible rfl)) | (rw [if_pos (by omega)]; (try (go_bits; go_simp)); (first | done | with_reducible rfl))))); (try simp only [Act.put, List.setIfInBounds_toArray, List.set_cons_zero, List.set_cons_succ])) | ((refine wpText_y rfl rfl ?_; apply Exists.intro; refine ⟨?_, ?_⟩; next => (intro w' hS; (first | obtain ⟨_, rfl⟩ := hS | skip); go_simp; (try (go_bits; go_simp)); (first | done | with_reducible rfl | (rw [if_neg (by omega)]; (try (go_bits; go_simp)); (first | done | with_reducible rfl)) | (rw [if_pos (by omega)]; (try (go_bits; go_simp)); (first | done | with_reducible rfl))))); (try simp only [Act.put, List.setIfInBounds_toArray, List.set_cons_zero, List.set_cons_succ])) | (refine wpText_skip (by first | exact .inl rfl | exact .inr (.inl rfl) | exact .inr (.inr rfl)) rfl ?_; (try simp only [Act.put, List.setIfInBounds_toArray, List.set_cons_zero, List.set_cons_succ])))
    refine wpText_e rfl rfl (fun K hK => ?_)
    go_wp2_with fail
    refine (ref_ok p _).mono ?_
    rintro e w7 ⟨rfl, ho7⟩
    have h7 := ho7.blk H6.out.2 (by simp)
    refine hK _ _ ⟨h7.cell (i := 0) rfl, h7.cell (i := 1) rfl, h7.cell (i := 2) rfl, h7.cell (i := 3) rfl, h7.cell (i := 4) rfl, h7.cell (i := 5) rfl, h7.cell (i := 6) rfl, h7.cell (i := 7) rfl⟩ ?_
    clear hK K
    have H7 := hide (show _ ∧ _ from ⟨Only.trans H6.out.1 ho7, h7⟩)
    clear ho7 h7 H6
    repeat (first | ((refine wpText_h rfl rfl ?_; apply Exists.intro; refine ⟨?_, ?_⟩; next => (go_simp; (try (go_bits; go_simp)); (first | done | with_reducible rfl | (rw [if_neg (by omega)]; (try (go_bits; go_simp)); (first | done | with_reducible rfl)) | (rw [if_pos (by omega)]; (try (go_bits; go_simp)); (first | done | with_reducible rfl))))); (try simp only [Act.put, List.setIfInBounds_toArray, List.set_cons_zero, List.set_cons_succ])) | ((refine wpText_p rfl rfl ?_; apply Exists.intro; refine ⟨?_, ?_⟩; next => (intro w'; go_simp; (try (go_bits; go_simp)); (first | done | with_reducible rfl | (rw [if_neg (by omega)]; (try (go_bits; go_simp)); (first | done | with_reducible rfl)) | (rw [if_pos (by omega)]; (try (go_bits; go_simp)); (first | done | with_reducible rfl))))); (try simp only [Act.put, List.setIfInBounds_toArray, List.set_cons_zero, List.set_cons_succ])) | ((refine wpText_y rfl rfl ?_; apply Exists.intro; refine ⟨?_, ?_⟩; next => (intro w' hS; (first | obtain ⟨_, rfl⟩ := hS | skip); go_simp; (try (go_bits; go_simp)); (first | done | with_reducible rfl | (rw [if_neg (by omega)]; (try (go_bits; go_simp)); (first | done | with_reducible rfl)) | (rw [if_pos (by omega)]; (try (go_bits; go_simp)); (first | done | with_reducible rfl))))); (try simp only [Act.put, List.setIfInBounds_toArray, List.set_cons_zero, List.set_cons_succ])) | (refine wpText_skip (by first | exact .inl rfl | exact .inr (.inl rfl) | exact .inr (.inr rfl)) rfl ?_; (try simp only [Act.put, List.setIfInBounds_toArray, List.set_cons_zero, List.set_cons_succ])))
    refine wpText_e rfl rfl (fun K hK => ?_)
    go_wp2_with fail
    refine (refValid_ok p _ hl).mono ?_
    rintro e w8 ⟨rfl, ho8⟩
    have h8 := ho8.blk H7.out.2 (by simp)
    refine hK _ _ ⟨h8.cell (i := 0) rfl, h8.cell (i := 1) rfl, h8.cell (i := 2) rfl, h8.cell (i := 3) rfl, h8.cell (i := 4) rfl, h8.cell (i := 5) rfl, h8.cell (i := 6) rfl, h8.cell (i := 7) rfl⟩ ?_
    clear hK K
    have H8 := hide (show _ ∧ _ from ⟨Only.trans H7.out.1 ho8, h8⟩)
    clear ho8 h8 H7
    rw [Pkt.valid_good HBD.out]
    repeat (first | ((refine wpText_h rfl rfl ?_; apply Exists.intro; refine ⟨?_, ?_⟩; next => (go_simp; (try (go_bits; go_simp)); (first | done | with_reducible rfl | (rw [if_neg (by omega)]; (try (go_bits; go_simp)); (first | done | with_reducible rfl)) | (rw [if_pos (by omega)]; (try (go_bits; go_simp)); (first | done | with_reducible rfl))))); (try simp only [Act.put, List.setIfInBounds_toArray, List.set_cons_zero, List.set_cons_succ])) | ((refine wpText_p rfl rfl ?_; apply Exists.intro; refine ⟨?_, ?_⟩; next => (intro w'; go_simp; (try (go_bits; go_simp)); (first | done | with_reducible rfl | (rw [if_neg (by omega)]; (try (go_bits; go_simp)); (first | done | with_reducible rfl)) | (rw [if_pos (by omega)]; (try (go_bits; go_simp)); (first | done | with_reducible rfl))))); (try simp only [Act.put, List.setIfInBounds_toArray, List.set_cons_zero, List.set_cons_succ])) | ((refine wpText_y rfl rfl ?_; apply Exists.intro; refine ⟨?_, ?_⟩; next => (intro w' hS; (first | obtain ⟨_, rfl⟩ := hS | skip); go_simp; (try (go_bits; go_simp)); (first | done | with_reducible rfl | (rw [if_neg (by omega)]; (try (go_bits; go_simp)); (first | done | with_reducible rfl)) | (rw [if_pos (by omega)]; (try (go_bits; go_simp)); (first | done | with_reducible rfl))))); (try simp only [Act.put, List.setIfInBounds_toArray, List.set_cons_zero, List.set_cons_succ])) | (refine wpText_skip (by first | exact .inl rfl | exact .inr (.inl rfl) | exact .inr (.inr rfl)) rfl ?_; (try simp only [Act.put, List.setIfInBounds_toArray, List.set_cons_zero, List.set_cons_succ])))
    refine wpText_nil ?_
    go_wp2_with fail
    refine (equal_true A A2 p.bytes p.bytes.length c c2 _ rfl (H5.out.2.2.1.only H8.out.1) (H5.out.2.2.2.only H8.out.1) (by rw [p.bytes_len]; unfold maxLen; omega)).mono ?_
    rintro e w9 ⟨rfl, ho9⟩
    have h9 := ho9.blk H8.out.2 (by simp)
    have H9 := hide (show _ ∧ _ ∧ _ from ⟨Only.trans H5.out.1 (Only.trans H8.out.1 ho9), h9, Only.trans H8.out.1 ho9⟩)
    clear ho9 h9 H8
    go_wp2
    refine NoX.normal ?_
    obtain ⟨b, o, rfl, _⟩ := H5.out.2.2.1 0 4 (by rw [p.bytes_at (by omega)]; rfl)
    have HDA := hide (decode_accept b o c p.bytes.length p.bytes w9 rfl (by rw [p.bytes_len]; omega) (by rw [p.bytes_len]; omega) hnc (Pkt.bytes_le HF.out HBD.out) (H5.out.2.2.1.only H9.out.2.2) (bytes_head p (by omega)))
    go_wp2_with fail
    refine HDA.out.mono ?_
    rintro e w10 ⟨ho10, hres⟩
    obtain ⟨A3, c3, rfl, hN3⟩ : ∃ A c, e = .returned (.tuple #[(p.at A c).V, I64 0]) ∧ NumsIn w10 .u8 A p.data := by
      rcases hres with ⟨h1, _⟩ | ⟨_, A, c, h2, h3⟩
      · rw [decP_bytes p HF.out HBD.out] at h1
        exact absurd h1 HBD.out
      · rw [decP_bytes p HF.out HBD.out] at h2
        have hd' : p.bytes.drop 20 = p.data := by unfold Pkt.bytes; rw [List.drop_append_of_le_length (by simp), List.drop_of_length_le (by simp)]; rfl
        rw [hd'] at h3
        exact ⟨A, c, h2, h3⟩
    have h10 := ho10.blk H9.out.2.1 (by simp)
    have hal : Only [] w10 (w10.alloc (.cells #[.int .u32 p.src, .int .u32 p.dst, I64 p.proto, I64 p.ttl, I64 p.id, I64 p.off, .bool p.more, .slice A3 p.data.length c3] 30)) := (Only.refl [] w10).alloc _
    have H10 := hide (show _ ∧ _ ∧ _ ∧ Blk _ w10.heap.size 30 [.int .u32 p.src, .int .u32 p.dst, I64 p.proto, I64 p.ttl, I64 p.id, I64 p.off, .bool p.more, .slice A3 p.data.length c3] from ⟨Only.trans (Only.trans H9.out.1 ho10) hal, hal.blk h10 (by simp), hN3.only hal, Blk.newA rfl⟩)
    have HK10 := hide h10
    clear h10 hal hres ho10 hN3 HDA
    go_wp2_with fail
    have k0 := HK10.out.cell (i := 0) rfl
    have k1 := HK10.out.cell (i := 1) rfl
    have k2 := HK10.out.cell (i := 2) rfl
    have k3 := HK10.out.cell (i := 3) rfl
    have k4 := HK10.out.cell (i := 4) rfl
    have k5 := HK10.out.cell (i := 5) rfl
    have k6 := HK10.out.cell (i := 6) rfl
    have k7 := HK10.out.cell (i := 7) rfl
    have ltq := HK10.out.lt
    have d0 := H10.out.2.2.2.cell (i := 0) rfl
    have d1 := H10.out.2.2.2.cell (i := 1) rfl
    have d2 := H10.out.2.2.2.cell (i := 2) rfl
    have d3 := H10.out.2.2.2.cell (i := 3) rfl
    have d4 := H10.out.2.2.2.cell (i := 4) rfl
    have d5 := H10.out.2.2.2.cell (i := 5) rfl
    have d6 := H10.out.2.2.2.cell (i := 6) rfl
    have d7 := H10.out.2.2.2.cell (i := 7) rfl
    have ltd := H10.out.2.2.2.lt
    refine wp_region_text 6 [5] [] [3] (fun w' => w'.cell? ⟨w10.heap.size, 0, none⟩ = some (.int .u32 p.src) ∧ w'.cell? ⟨w10.heap.size, 1, none⟩ = some (.int .u32 p.dst) ∧ w'.cell? ⟨w10.heap.size, 2, none⟩ = some (I64 p.proto) ∧ w'.cell? ⟨w10.heap.size, 3, none⟩ = some (I64 p.ttl) ∧ w'.cell? ⟨w10.heap.size, 4, none⟩ = some (I64 p.id) ∧ w'.cell? ⟨w10.heap.size, 5, none⟩ = some (I64 p.off) ∧ w'.cell? ⟨w10.heap.size, 6, none⟩ = some (.bool p.more) ∧ w'.cell? ⟨w10.heap.size, 7, none⟩ = some (.slice A3 p.data.length c3)) (by kernel_rfl) (by kernel_rfl) ⟨d0, d1, d2, d3, d4, d5, d6, d7⟩ ?_
    simp only [List.take_succ_cons, List.take_zero, List.drop_succ_cons, List.drop_zero]
    repeat (first | ((refine wpText_h rfl rfl ?_; apply Exists.intro; refine ⟨?_, ?_⟩; next => (go_simp; (try (go_bits; go_simp)); (first | done | with_reducible rfl | (rw [if_neg (by omega)]; (try (go_bits; go_simp)); (first | done | with_reducible rfl)) | (rw [if_pos (by omega)]; (try (go_bits; go_simp)); (first | done | with_reducible rfl))))); (try simp only [Act.put, List.setIfInBounds_toArray, List.set_cons_zero, List.set_cons_succ])) | ((refine wpText_p rfl rfl ?_; apply Exists.intro; refine ⟨?_, ?_⟩; next => (intro w'; go_simp; (try (go_bits; go_simp)); (first | done | with_reducible rfl | (rw [if_neg (by omega)]; (try (go_bits; go_simp)); (first | done | with_reducible rfl)) | (rw [if_pos (by omega)]; (try (go_bits; go_simp)); (first | done | with_reducible rfl))))); (try simp only [Act.put, List.setIfInBounds_toArray, List.set_cons_zero, List.set_cons_succ])) | ((refine wpText_y rfl rfl ?_; apply Exists.intro; refine ⟨?_, ?_⟩; next => (intro w' hS; (first | obtain ⟨_, rfl⟩ := hS | skip); go_simp; (try (go_bits; go_simp)); (first | done | with_reducible rfl | (rw [if_neg (by omega)]; (try (go_bits; go_simp)); (first | done | with_reducible rfl)) | (rw [if_pos (by omega)]; (try (go_bits; go_simp)); (first | done | with_reducible rfl))))); (try simp only [Act.put, List.setIfInBounds_toArray, List.set_cons_zero, List.set_cons_succ])) | (refine wpText_skip (by first | exact .inl rfl | exact .inr (.inl rfl) | exact .inr (.inr rfl)) rfl ?_; (try simp only [Act.put, List.setIfInBounds_toArray, List.set_cons_zero, List.set_cons_succ])))
    refine wpText_e rfl rfl (fun K hK => ?_)
    go_wp2_with fail
    refine (ref_ok p _).mono ?_
    rintro e w11 ⟨rfl, ho11⟩
    have h11 := ho11.blk H10.out.2.2.2.drew (by simp)
    refine hK _ _ ⟨h11.cell (i := 0) rfl, h11.cell (i := 1) rfl, h11.cell (i := 2) rfl, h11.cell (i := 3) rfl, h11.cell (i := 4) rfl, h11.cell (i := 5) rfl, h11.cell (i := 6) rfl, h11.cell (i := 7) rfl⟩ ?_
    clear hK K
    have H11 := hide (show _ ∧ _ from ⟨Only.trans H10.out.1.drew ho11, H10.out.2.2.1.only (Only.trans ((Only.refl [] _).drew) ho11)⟩)
    clear h11 ho11 d0 d1 d2 d3 d4 d5 d6 d7 k0 k1 k2 k3 k4 k5 k6 k7 ltq ltd
    repeat (first | ((refine wpText_h rfl rfl ?_; apply Exists.intro; refine ⟨?_, ?_⟩; next => (go_simp; (try (go_bits; go_simp)); (first | done | with_reducible rfl | (rw [if_neg (by omega)]; (try (go_bits; go_simp)); (first | done | with_reducible rfl)) | (rw [if_pos (by omega)]; (try (go_bits; go_simp)); (first | done | with_reducible rfl))))); (try simp only [Act.put, List.setIfInBounds_toArray, List.set_cons_zero, List.set_cons_succ])) | ((refine wpText_p rfl rfl ?_; apply Exists.intro; refine ⟨?_, ?_⟩; next => (intro w'; go_simp; (try (go_bits; go_simp)); (first | done | with_reducible rfl | (rw [if_neg (by omega)]; (try (go_bits; go_simp)); (first | done | with_reducible rfl)) | (rw [if_pos (by omega)]; (try (go_bits; go_simp)); (first | done | with_reducible rfl))))); (try simp only [Act.put, List.setIfInBounds_toArray, List.set_cons_zero, List.set_cons_succ])) | ((refine wpText_y rfl rfl ?_; apply Exists.intro; refine ⟨?_, ?_⟩; next => (intro w' hS; (first | obtain ⟨_, rfl⟩ := hS | skip); go_simp; (try (go_bits; go_simp)); (first | done | with_reducible rfl | (rw [if_neg (by omega)]; (try (go_bits; go_simp)); (first | done | with_reducible rfl)) | (rw [if_pos (by omega)]; (try (go_bits; go_simp)); (first | done | with_reducible rfl))))); (try simp only [Act.put, List.setIfInBounds_toArray, List.set_cons_zero, List.set_cons_succ])) | (refine wpText_skip (by first | exact .inl rfl | exact .inr (.inl rfl) | exact .inr (.inr rfl)) rfl ?_; (try simp only [Act.put, List.setIfInBounds_toArray, List.set_cons_zero, List.set_cons_succ])))
    refine wpText_nil ?_
    go_wp2_with fail
    refine (same_true (p.at A3 c3) p.A p.cap _ hl H11.out.2 (HA.out.only H11.out.1)).mono ?_
    rintro e w12 ⟨rfl, ho12⟩
    have H12 := hide (Only.trans H11.out.1 ho12)
    clear ho12
    go_wp2_with fail
    refine (awake_ok _).mono ?_
    rintro e w13 ⟨rfl, ho13⟩
    have H13 := hide (Only.trans H12.out ho13)
    clear ho13
    go_wp2
    refine NoX.normal ?_
    go_wp2
    go_ret
    exact ⟨rfl, H13.out⟩

end Go.Proofs.Ytlnejlhdkmneeaa
