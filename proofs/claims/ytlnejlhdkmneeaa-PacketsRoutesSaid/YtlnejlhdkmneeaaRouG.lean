/- Routes: Remove and List of both. -/
import Derived.Test.YtlnejlhdkmneeaaRouE
import Derived.Test.YtlnejlhdkmneeaaRouF
namespace Go.Proofs.Ytlnejlhdkmneeaa
open Go.RowKit

theorem idx_of_mem {rs : List Rt} {x : Rt} (h : x ∈ rs) : ixOf rs x = (rs.idxOf x : Int) ∧ rs.idxOf x < rs.length := by
  unfold ixOf
  rw [if_pos h]
  exact ⟨rfl, List.idxOf_lt_length_of_mem h⟩
theorem own_none {w : World} {base n sz : Nat} {T : TypeId} {A : Option Addr} {c : Nat} {xs : List Value} (h : w.ownsRow base T sz (.slice A n c) n xs) : (A = none → n = 0 ∧ c = 0) ∧ n ≤ c ∧ ∀ a, A = some a → ∃ g, a = ⟨g, 0, none⟩ := by
  rcases h.2 with ⟨he, h0⟩ | ⟨g, cap, cur, he, _, _, h2, _⟩
  · injection he with e1 e2 e3
    subst e1 e3
    exact ⟨fun _ => ⟨h0, rfl⟩, by omega, (fun a ha => by cases ha)⟩
  · injection he with e1 _ e3
    subst e1 e3
    refine ⟨(fun ha => by cases ha), h2, fun a ha => ⟨g, by injection ha with ha; exact ha.symm⟩⟩

theorem wp_append_row {P : Program} (w : World) {o : Oper} {a : Act} {K : Act → World → Prop} {Q : Exit → Act → World → Prop} (s x : Operand) (t : TypeId)
    (ho : o.op = .call { callee := .builtin .append, args := #[s, x], argTypes := #[t, t] })
    (e : TypeId) (i : TypeInfo) (z : Value) (size bytes : Nat) (ht : P.underlying t = some (.slice e)) (hi : P.info? e = some i) (hz : i.zero = some z)
    (hsize : i.size = size) (hby : i.bytes = bytes) (hzs : z.cells.size = size) (hsz : 0 < size)
    (v : Value) (n : Nat) (xs : List Value) (hs : a.eval s = v) (hown : w.ownsRow 0 e size v n xs)
    (ad : Addr) (m c : Nat) (news : List Value) (hx : a.eval x = .slice (some ad) m c) (hl : news.length = m * size) (hnews : ∀ j u, news[j]? = some u → w.cell? (ad.add j) = some u) (h1 : ∀ u ∈ news, u.oneCell' = true)
    (h63 : n + m ≤ maxLen) (hbytes : (n + m) * bytes ≤ 140737488355328)
    (h : ∀ v' w', w'.ownsRow 0 e size v' (n + m) (xs ++ news) → Only v.ownBlock.toList w w' → (v'.ownBlock = v.ownBlock ∨ v'.ownBlock = some w.heap.size) → K (a.put o.dst v') w') : o.wp P a w K Q := by
  obtain ⟨v', w', hr, h2, h3, h4⟩ := run_append_row (P := P) w t o.type e i z size bytes ht hi hz hsize hby hzs hsz v n xs hown ad m c news hl hnews h1 h63 hbytes
  unfold Oper.wp execOp
  simp only [ho, resolve, invoke, builtin, Sem.run_bind, Sem.run_pure, Result.andThen_ok, List.map_toArray, List.map_cons, List.map_nil, hs, hx, hr]
  exact h v' w' h2 h3 h4

set_option maxHeartbeats 2000000 in
theorem list_ok (b : Nat) (v : Value) (rs : List Rt) (n : Nat) (w : World) (hn : rs.length = n) (hm : n ≤ 1000) (hr : RoutesAt w b v rs) :
    Calls Try.prog 57 #[.pointer (some ⟨b, 0, none⟩)] w fun e w' => ListS 63 rs n w e w' := by
  obtain ⟨A, c, rfl⟩ : ∃ A c, v = .slice A n c := by
    obtain ⟨A, c, h⟩ := own_shape hr.row
    exact ⟨A, c, by rw [h, hn]⟩
  have b0 := hr.me.cell (i := 0) rfl
  have ltb := hr.me.lt
  have hrow := hr.row
  rw [hn] at hrow
  have HC := hide (rclone_ok A rs n c w hn hm hr.rts (own_none hrow).1)
  clear hrow hr hn
  go_enter Try.func57, Try.ntmps57
  go_wp2_with fail
  refine HC.out.mono ?_
  rintro e w1 ⟨A1, c1, rfl, h1, h2⟩
  have H := hide (And.intro h1 h2)
  clear h1 h2
  go_wp2
  go_ret
  exact ⟨A1, c1, rfl, H.out.1, H.out.2⟩

set_option maxRecDepth 100000 in
set_option maxHeartbeats 4000000 in
theorem refList_ok (b : Nat) (v : Value) (rs : List Rt) (n : Nat) (w : World) (hn : rs.length = n) (hm : n ≤ 1000) (hr : RRoutesAt w b v rs) :
    Calls Try.prog 58 #[.pointer (some ⟨b, 0, none⟩)] w fun e w' => ListS 104 rs n w e w' := by
  obtain ⟨i0, hi0, hz0, hs0, hb0⟩ := info_parts rrt_info
  obtain ⟨A, c, rfl⟩ : ∃ A c, v = .slice A n c := by
    obtain ⟨A, c, h⟩ := own_shape hr.row
    exact ⟨A, c, by rw [h, hn]⟩
  have b0 := hr.me.cell (i := 0) rfl
  have ltb := hr.me.lt
  have hrow := hr.row
  rw [hn] at hrow
  obtain ⟨hA0, hnc, hA1⟩ := own_none hrow
  have h0 := hide (World.ownsRow_made (base := 0) (e := 104) (size := 5) w #[] 0 (Nat.zero_le _) (by simp [maxLen]) rfl)
  have hO := hide ((Only.refl [] w).alloc (.cells #[] 104))
  have HN := hide hn
  have HRT := hide hr.rts
  clear hrow hr hn
  cases A with
  | none =>
    obtain ⟨rfl, rfl⟩ := hA0 rfl
    have hnil := hide (fun ty => run_append_nothing (P := Try.prog) (ty := ty) (w.alloc (.cells #[] 104)) 113 113 104 i0 Try.underlying113 hi0 (some ⟨w.heap.size, 0, none⟩) 0 0 (Nat.le_refl _) (.slice none 0 0) (Src.ofNil _ Try.underlying113 0))
    clear hA0 hA1
    go_enter Try.func58, Try.ntmps58
    go_wp2_with (at_builtin; refine wpList_append_eq rfl (.tmp 3) (.tmp 7) 113 rfl _ _ _ rfl rfl hnil.out ?_)
    go_ret
    exact ⟨_, 0, rfl, by rw [List.length_eq_zero_iff.1 HN.out]; intro k x hx; simp at hx, hO.out⟩
  | some a =>
    obtain ⟨g, rfl⟩ := hA1 a rfl
    clear hA0 hA1
    go_enter Try.func58, Try.ntmps58
    go_wp2_with (at_builtin; refine wpList_append_row _ rfl (.tmp 3) (.tmp 7) 113 rfl 104 i0 (.agg #[.int .u32 0, I64 0, .int .u32 0, I64 0, I64 0]) 5 40 Try.underlying113 hi0 hz0 hs0 hb0 rfl (by decide) (.slice (some ⟨w.heap.size, 0, none⟩) 0 0) 0 [] rfl h0.out ⟨g, 0, none⟩ n c (rs.flatMap Rt.cells) rfl (by rw [rflat_len, HN.out]) (rts_cells (HRT.out.only hO.out)) (rt_one _) (by unfold maxLen; omega) (by omega) ?_; intro v3 w3 hown3 ho3 hbk3)
    rw [Nat.zero_add, List.nil_append] at hown3
    obtain ⟨A3, c3, rfl⟩ := own_shape hown3
    have HF := hide (show RtsIn w3 A3 rs ∧ Only [] w w3 from ⟨rts_of_own HN.out hown3, hO.out.trans' ho3 (by intro i hi hl; simp [Value.ownBlock] at hi; omega)⟩)
    clear hown3 ho3 hbk3
    go_wp2
    go_ret
    exact ⟨A3, c3, rfl, HF.out.1, HF.out.2⟩

theorem rts_take {w : World} {A : Option Addr} {rs : List Rt} (i : Nat) (h : RtsIn w A rs) : RtsIn w A (rs.take i) := by
  intro k r hr
  rw [List.getElem?_take] at hr
  split at hr
  · exact h k r hr
  · cases hr
theorem rts_drop {w : World} {b o : Nat} {rs : List Rt} (i : Nat) (h : RtsIn w (some ⟨b, o, none⟩) rs) : RtsIn w (some ⟨b, o + i * 5, none⟩) (rs.drop i) := by
  intro k r hr
  rw [List.getElem?_drop] at hr
  obtain ⟨b', o', he, hc⟩ := h _ r hr
  injection he with he
  injection he with h1 h2
  subst h1 h2
  exact ⟨b, o + i * 5, rfl, fun j v hv => by rw [show o + i * 5 + k * 5 + j = o + (i + k) * 5 + j by omega]; exact hc j v hv⟩

/-- What Remove answers: of a list that lies in memory as R says. -/
def RemS (R : World → Value → List Rt → Prop) (x : Rt) (rs : List Rt) (b : Nat) (v : Value) (w : World) (e : Ending) (w' : World) : Prop :=
  (e = .returned (I64 x.code) ∧ x.code ≠ 0 ∧ Only [] w w') ∨ (x.code = 0 ∧ x ∉ rs ∧ e = .returned (I64 22) ∧ Only [] w w') ∨
    (x.code = 0 ∧ x ∈ rs ∧ e = .returned (I64 0) ∧ ∃ v', R w' v' (remR rs x) ∧ Only (b :: v.ownBlock.toList) w w' ∧ (v'.ownBlock = v.ownBlock ∨ ∃ g, v'.ownBlock = some g ∧ w.heap.size ≤ g))

set_option maxRecDepth 100000 in
set_option maxHeartbeats 8000000 in
theorem remove_ok (b : Nat) (v : Value) (rs : List Rt) (n : Nat) (x : Rt) (w : World) (hn : rs.length = n) (hm : n ≤ 1000) (hf : x.Fit) (hr : RoutesAt w b v rs) :
    Calls Try.prog 51 #[.pointer (some ⟨b, 0, none⟩), x.V] w fun e w' => RemS (fun w v rs => RoutesAt w b v rs) x rs b v w e w' := by
  obtain ⟨i0, hi0, hz0, hs0, hb0⟩ := info_parts rt_info
  obtain ⟨A, c, rfl⟩ : ∃ A c, v = .slice A n c := by
    obtain ⟨A, c, h⟩ := own_shape hr.row
    exact ⟨A, c, by rw [h, hn]⟩
  have ho : Only [] w (w.alloc (.cells #[.int .u32 x.addr, I64 x.bits, .int .u32 x.gw, I64 x.ifc, I64 x.met] 63)) := (Only.refl [] w).alloc _
  have hx : Blk (w.alloc (.cells #[.int .u32 x.addr, I64 x.bits, .int .u32 x.gw, I64 x.ifc, I64 x.met] 63)) w.heap.size 63 [.int .u32 x.addr, I64 x.bits, .int .u32 x.gw, I64 x.ifc, I64 x.met] := Blk.newA rfl
  have H0 := hide (show _ ∧ _ ∧ _ from ⟨ho, hx, hr.only ho (by simp) (by simp)⟩)
  have HF := hide hf
  have HN := hide hn
  clear ho hx hr hf hn
  show Calls Try.prog 51 #[.pointer (some ⟨b, 0, none⟩), .agg #[.int .u32 x.addr, I64 x.bits, .int .u32 x.gw, I64 x.ifc, I64 x.met]] w _
  go_enter Try.func51, Try.ntmps51
  go_wp2_with fail
  refine (check_ok x _ HF.out).mono ?_
  rintro e w1 ⟨rfl, ho⟩
  have H1 := hide (show _ ∧ _ ∧ _ from ⟨Only.trans H0.out.1 ho, ho.blk H0.out.2.1 (by simp), H0.out.2.2.only ho (by simp) (by simp)⟩)
  clear ho H0
  by_cases hc : x.code = 0
  · have HC := hide hc
    rw [hc]
    clear hc
    have x0 := H1.out.2.1.cell (i := 0) rfl
    have x1 := H1.out.2.1.cell (i := 1) rfl
    have x2 := H1.out.2.1.cell (i := 2) rfl
    have x3 := H1.out.2.1.cell (i := 3) rfl
    have x4 := H1.out.2.1.cell (i := 4) rfl
    have ltx := H1.out.2.1.lt
    have b0 := H1.out.2.2.me.cell (i := 0) rfl
    have ltb := H1.out.2.2.me.lt
    go_wp2_with fail
    refine wp_region_text 5 [] [] [] (fun _ => True) (by kernel_rfl) (by kernel_rfl) trivial ?_
    simp only [List.take_succ_cons, List.take_zero, List.drop_succ_cons, List.drop_zero]
    repeat (first | ((refine wpText_h rfl rfl ?_; apply Exists.intro; refine ⟨?_, ?_⟩; next => (go_simp; (try (go_bits; go_simp)); (first | done | with_reducible rfl | (rw [if_neg (by omega)]; (try (go_bits; go_simp)); (first | done | with_reducible rfl)) | (rw [if_pos (by omega)]; (try (go_bits; go_simp)); (first | done | with_reducible rfl))))); (try simp only [Act.put, List.setIfInBounds_toArray, List.set_cons_zero, List.set_cons_succ])) | ((refine wpText_p rfl rfl ?_; apply Exists.intro; refine ⟨?_, ?_⟩; next => (intro w'; go_simp; (try (go_bits; go_simp)); (first | done | with_reducible rfl | (rw [if_neg (by omega)]; (try (go_bits; go_simp)); (first | done | with_reducible rfl)) | (rw [if_pos (by omega)]; (try (go_bits; go_simp)); (first | done | with_reducible rfl))))); (try simp only [Act.put, List.setIfInBounds_toArray, List.set_cons_zero, List.set_cons_succ])) | ((refine wpText_y rfl rfl ?_; apply Exists.intro; refine ⟨?_, ?_⟩; next => (intro w' hS; (first | obtain ⟨_, rfl⟩ := hS | skip); go_simp; (try (go_bits; go_simp)); (first | done | with_reducible rfl | (rw [if_neg (by omega)]; (try (go_bits; go_simp)); (first | done | with_reducible rfl)) | (rw [if_pos (by omega)]; (try (go_bits; go_simp)); (first | done | with_reducible rfl))))); (try simp only [Act.put, List.setIfInBounds_toArray, List.set_cons_zero, List.set_cons_succ])) | (refine wpText_skip (by first | exact .inl rfl | exact .inr (.inl rfl) | exact .inr (.inr rfl)) rfl ?_; (try simp only [Act.put, List.setIfInBounds_toArray, List.set_cons_zero, List.set_cons_succ])))
    refine wpText_nil ?_
    go_wp2_with fail
    refine (index_ok A rs n c x _ HN.out (by omega) (H1.out.2.2.rts.only ((Only.refl [] w1).drew))).mono ?_
    rintro e w2 ⟨rfl, ho⟩
    have ho := Only.trans ((Only.refl [] w1).drew) ho
    have H2 := hide (show _ ∧ _ from ⟨Only.trans H1.out.1 ho, H1.out.2.2.only ho (by simp) (by simp)⟩)
    clear ho x0 x1 x2 x3 x4 ltx b0 ltb H1
    have b0 := H2.out.2.me.cell (i := 0) rfl
    have ltb := H2.out.2.me.lt
    by_cases hin : x ∈ rs
    · obtain ⟨hix, hil⟩ := idx_of_mem hin
      have HI := hide hin
      rw [hix]
      obtain ⟨i, hi⟩ : ∃ i, i = rs.idxOf x := ⟨_, rfl⟩
      have HII := hide hi
      rw [← hi]
      rw [← hi, HN.out] at hil
      clear hin hix hi
      have hrow := hide (show w2.ownsRow 0 63 5 (.slice A n c) n (rs.flatMap Rt.cells) by have h := H2.out.2.row; rw [HN.out] at h; exact h)
      obtain ⟨hA0, hnc, hA1⟩ := own_none hrow.out
      obtain ⟨g, rfl⟩ : ∃ g, A = some ⟨g, 0, none⟩ := by
        cases A with
        | none => have := (hA0 rfl).1; omega
        | some a => obtain ⟨g, rfl⟩ := hA1 a rfl; exact ⟨g, rfl⟩
      clear hA0 hA1
      have hgb : g ≠ b := fun h => own_ne_blk hrow.out H2.out.2.me (by decide) (by rw [h]; rfl)
      go_wp2
      refine NoX.normal ?_
      go_wp2_with fail
      refine (delete_ok rs g n c i _ HN.out hm hil hrow.out).mono ?_
      rintro e w3 ⟨rfl, h3, ho3⟩
      have me3 := ho3.blk H2.out.2.me (by simpa using hgb.symm)
      have f3 := me3.frozen 0
      have d3 := me3.cell (i := 0) rfl
      have l3 := me3.lt
      have H3 := hide (show _ ∧ _ ∧ _ from ⟨h3, me3, ho3⟩)
      clear h3 me3 ho3 b0 ltb
      go_wp2
      go_ret
      refine .inr (.inr ⟨HC.out, HI.out, rfl, _, ⟨H3.out.2.1.set 0 _, ?_⟩, ?_, .inl rfl⟩)
      · unfold remR
        rw [← HII.out, List.length_eraseIdx, if_pos (by rw [HN.out]; exact hil), HN.out]
        exact own_setCell H3.out.1 (by simp [Value.ownBlock]; exact hgb) _
      · exact ((H2.out.1.mono (S' := b :: (Value.slice (some ⟨g, 0, none⟩) n c).ownBlock.toList) (by simp)).trans' H3.out.2.2 (by intro k hk _; simp at hk; subst hk; simp [Value.ownBlock])).set (.inl (by simp)) _
    · have hng : ¬ 0 ≤ ixOf rs x := fun h => hin ((ixOf_ge rs x).1 h)
      have hng' : ixOf rs x < 0 := by omega
      have HI := hide hin
      clear hin hng
      go_wp2
      refine NoX.normal ?_
      go_wp2
      go_ret
      exact .inr (.inl ⟨HC.out, HI.out, rfl, H2.out.1⟩)
  · have HC := hide hc
    have hc' : (x.code != 0) = true := by simp [hc]
    clear hc
    go_wp2
    go_ret
    exact .inl ⟨rfl, HC.out, H1.out.1⟩

set_option maxRecDepth 100000 in
set_option maxHeartbeats 8000000 in
theorem refRemove_ok (b : Nat) (v : Value) (rs : List Rt) (n : Nat) (x : Rt) (w : World) (hn : rs.length = n) (hm : n ≤ 1000) (hf : x.Fit) (hr : RRoutesAt w b v rs) :
    Calls Try.prog 52 #[.pointer (some ⟨b, 0, none⟩), x.V] w fun e w' => RemS (fun w v rs => RRoutesAt w b v rs) x rs b v w e w' := by
  obtain ⟨i0, hi0, hz0, hs0, hb0⟩ := info_parts rrt_info
  obtain ⟨A, c, rfl⟩ : ∃ A c, v = .slice A n c := by
    obtain ⟨A, c, h⟩ := own_shape hr.row
    exact ⟨A, c, by rw [h, hn]⟩
  have ho : Only [] w (w.alloc (.cells #[.int .u32 x.addr, I64 x.bits, .int .u32 x.gw, I64 x.ifc, I64 x.met] 104)) := (Only.refl [] w).alloc _
  have hx : Blk (w.alloc (.cells #[.int .u32 x.addr, I64 x.bits, .int .u32 x.gw, I64 x.ifc, I64 x.met] 104)) w.heap.size 104 [.int .u32 x.addr, I64 x.bits, .int .u32 x.gw, I64 x.ifc, I64 x.met] := Blk.newA rfl
  have H0 := hide (show _ ∧ _ ∧ _ from ⟨ho, hx, hr.only ho (by simp) (by simp)⟩)
  have HF := hide hf
  have HN := hide hn
  clear ho hx hr hf hn
  show Calls Try.prog 52 #[.pointer (some ⟨b, 0, none⟩), .agg #[.int .u32 x.addr, I64 x.bits, .int .u32 x.gw, I64 x.ifc, I64 x.met]] w _
  go_enter Try.func52, Try.ntmps52
  go_wp2_with fail
  refine (refCheck_ok x _ HF.out).mono ?_
  rintro e w1 ⟨rfl, ho⟩
  have H1 := hide (show _ ∧ _ ∧ _ from ⟨Only.trans H0.out.1 ho, ho.blk H0.out.2.1 (by simp), H0.out.2.2.only ho (by simp) (by simp)⟩)
  clear ho H0
  by_cases hc : x.code = 0
  · have HC := hide hc
    rw [hc]
    clear hc
    have x0 := H1.out.2.1.cell (i := 0) rfl
    have x1 := H1.out.2.1.cell (i := 1) rfl
    have x2 := H1.out.2.1.cell (i := 2) rfl
    have x3 := H1.out.2.1.cell (i := 3) rfl
    have x4 := H1.out.2.1.cell (i := 4) rfl
    have ltx := H1.out.2.1.lt
    have b0 := H1.out.2.2.me.cell (i := 0) rfl
    have ltb := H1.out.2.2.me.lt
    go_wp2_with fail
    refine (refIndex_ok b A rs n c x _ HN.out (by omega) H1.out.2.2).mono ?_
    rintro e w2 ⟨rfl, ho⟩
    have H2 := hide (show _ ∧ _ from ⟨Only.trans H1.out.1 ho, H1.out.2.2.only ho (by simp) (by simp)⟩)
    clear ho x0 x1 x2 x3 x4 ltx b0 ltb H1
    have b0 := H2.out.2.me.cell (i := 0) rfl
    have ltb := H2.out.2.me.lt
    by_cases hin : x ∈ rs
    · obtain ⟨hix, hil⟩ := idx_of_mem hin
      have HI := hide hin
      rw [hix]
      obtain ⟨i, hi⟩ : ∃ i, i = rs.idxOf x := ⟨_, rfl⟩
      have HII := hide hi
      rw [← hi]
      rw [← hi, HN.out] at hil
      clear hin hix hi
      have hrow := hide (show w2.ownsRow 0 104 5 (.slice A n c) n (rs.flatMap Rt.cells) by have h := H2.out.2.row; rw [HN.out] at h; exact h)
      obtain ⟨hA0, hnc, hA1⟩ := own_none hrow.out
      obtain ⟨g, rfl⟩ : ∃ g, A = some ⟨g, 0, none⟩ := by
        cases A with
        | none => have := (hA0 rfl).1; omega
        | some a => obtain ⟨g, rfl⟩ := hA1 a rfl; exact ⟨g, rfl⟩
      clear hA0 hA1
      have hgb : g ≠ b := fun h => own_ne_blk hrow.out H2.out.2.me (by decide) (by rw [h]; rfl)
      have hO1 := hide (((Only.refl [] w2).alloc (.cells #[] 104)).drew)
      have hm1 := hide (own_nil (World.ownsRow_made (base := 0) (e := 104) (size := 5) w2 #[] 0 (Nat.zero_le _) (by simp [maxLen]) rfl) ((Only.refl [] _).drew))
      have HRT := hide H2.out.2.rts
      have HT := hide (show (rs.take i).length = i by rw [List.length_take, HN.out]; omega)
      have HD := hide (show (rs.drop (i + 1)).length = n - (i + 1) by rw [List.length_drop, HN.out])
      have HTK := hide (rts_take i HRT.out)
      have HDR := hide (rts_drop (i + 1) HRT.out)
      by_cases hc1 : c = i + 1
      · have hn1 : n = i + 1 := by omega
        subst hc1
        subst hn1
        go_wp2
        refine wp_region_text 16 [1, 8] [0, 2, 3, 4, 6, 7, 9, 10, 11, 13, 14, 15] [5, 12] (fun w' => w'.cell? ⟨b, 0, none⟩ = some (.slice (some ⟨g, 0, none⟩) (i + 1) (i + 1))) (by kernel_rfl) (by kernel_rfl) (by go_simp) ?_
        simp only [List.take_succ_cons, List.take_zero, List.drop_succ_cons, List.drop_zero]
        repeat (first | ((refine wpText_h rfl rfl ?_; apply Exists.intro; refine ⟨?_, ?_⟩; next => (go_simp; (try (go_bits; go_simp)); (first | done | with_reducible rfl | (rw [if_neg (by omega)]; (try (go_bits; go_simp)); (first | done | with_reducible rfl)) | (rw [if_pos (by omega)]; (try (go_bits; go_simp)); (first | done | with_reducible rfl))))); (try simp only [Act.put, List.setIfInBounds_toArray, List.set_cons_zero, List.set_cons_succ])) | ((refine wpText_p rfl rfl ?_; apply Exists.intro; refine ⟨?_, ?_⟩; next => (intro w'; go_simp; (try (go_bits; go_simp)); (first | done | with_reducible rfl | (rw [if_neg (by omega)]; (try (go_bits; go_simp)); (first | done | with_reducible rfl)) | (rw [if_pos (by omega)]; (try (go_bits; go_simp)); (first | done | with_reducible rfl))))); (try simp only [Act.put, List.setIfInBounds_toArray, List.set_cons_zero, List.set_cons_succ])) | ((refine wpText_y rfl rfl ?_; apply Exists.intro; refine ⟨?_, ?_⟩; next => (intro w' hS; (first | obtain ⟨_, rfl⟩ := hS | skip); go_simp; (try (go_bits; go_simp)); (first | done | with_reducible rfl | (rw [if_neg (by omega)]; (try (go_bits; go_simp)); (first | done | with_reducible rfl)) | (rw [if_pos (by omega)]; (try (go_bits; go_simp)); (first | done | with_reducible rfl))))); (try simp only [Act.put, List.setIfInBounds_toArray, List.set_cons_zero, List.set_cons_succ])) | (refine wpText_skip (by first | exact .inl rfl | exact .inr (.inl rfl) | exact .inr (.inr rfl)) rfl ?_; (try simp only [Act.put, List.setIfInBounds_toArray, List.set_cons_zero, List.set_cons_succ])))
        refine wpText_e rfl rfl (fun K hK => ?_)
        go_wp2
        refine hK _ _ (by go_simp) ?_
        clear hK K
        try simp only [Act.put, List.setIfInBounds_toArray, List.set_cons_zero, List.set_cons_succ]
        repeat (first | ((refine wpText_h rfl rfl ?_; apply Exists.intro; refine ⟨?_, ?_⟩; next => (go_simp; (try (go_bits; go_simp)); (first | done | with_reducible rfl | (rw [if_neg (by omega)]; (try (go_bits; go_simp)); (first | done | with_reducible rfl)) | (rw [if_pos (by omega)]; (try (go_bits; go_simp)); (first | done | with_reducible rfl))))); (try simp only [Act.put, List.setIfInBounds_toArray, List.set_cons_zero, List.set_cons_succ])) | ((refine wpText_p rfl rfl ?_; apply Exists.intro; refine ⟨?_, ?_⟩; next => (intro w'; go_simp; (try (go_bits; go_simp)); (first | done | with_reducible rfl | (rw [if_neg (by omega)]; (try (go_bits; go_simp)); (first | done | with_reducible rfl)) | (rw [if_pos (by omega)]; (try (go_bits; go_simp)); (first | done | with_reducible rfl))))); (try simp only [Act.put, List.setIfInBounds_toArray, List.set_cons_zero, List.set_cons_succ])) | ((refine wpText_y rfl rfl ?_; apply Exists.intro; refine ⟨?_, ?_⟩; next => (intro w' hS; (first | obtain ⟨_, rfl⟩ := hS | skip); go_simp; (try (go_bits; go_simp)); (first | done | with_reducible rfl | (rw [if_neg (by omega)]; (try (go_bits; go_simp)); (first | done | with_reducible rfl)) | (rw [if_pos (by omega)]; (try (go_bits; go_simp)); (first | done | with_reducible rfl))))); (try simp only [Act.put, List.setIfInBounds_toArray, List.set_cons_zero, List.set_cons_succ])) | (refine wpText_skip (by first | exact .inl rfl | exact .inr (.inl rfl) | exact .inr (.inr rfl)) rfl ?_; (try simp only [Act.put, List.setIfInBounds_toArray, List.set_cons_zero, List.set_cons_succ])))
        refine wpText_e rfl rfl (fun K hK => ?_)
        refine wp_append_row _ (.tmp 18) (.tmp 24) 113 rfl 104 i0 (.agg #[.int .u32 0, I64 0, .int .u32 0, I64 0, I64 0]) 5 40 Try.underlying113 hi0 hz0 hs0 hb0 rfl (by decide) (.slice (some ⟨w2.heap.size, 0, none⟩) 0 0) 0 [] rfl hm1.out ⟨g, 0, none⟩ i (i + 1) ((rs.take i).flatMap Rt.cells) rfl (by rw [rflat_len, HT.out]) (rts_cells (HTK.out.only hO1.out)) (rt_one _) (by unfold maxLen; omega) (by omega) ?_
        intro v3 w3 hown3 ho3 hbk3
        rw [Nat.zero_add, List.nil_append] at hown3
        obtain ⟨A3, c3, rfl⟩ := own_shape hown3
        have hO3 : Only [] w2 w3 := hO1.out.trans' ho3 (by intro k hk hl; simp [Value.ownBlock] at hk; omega)
        have me3 := hO3.blk H2.out.2.me (by simp)
        have hn3 := own_ne_blk hown3 me3 (by decide)
        have hb3 : ∃ k, (Value.slice A3 i c3).ownBlock = some k ∧ w2.heap.size ≤ k := by
          rcases hbk3 with h | h
          · exact ⟨_, h, Nat.le_refl _⟩
          · exact ⟨_, h, by simp [World.drew]⟩
        have b3 := me3.cell (i := 0) rfl
        have lt3 := me3.lt
        refine hK _ _ b3 ?_
        clear hK K
        have H3 := hide (show _ ∧ _ ∧ _ ∧ _ from ⟨hown3, hO3, me3, hn3⟩)
        have HB3 := hide hb3
        clear hown3 ho3 hbk3 hO3 me3 hn3 hb3
        repeat (first | ((refine wpText_h rfl rfl ?_; apply Exists.intro; refine ⟨?_, ?_⟩; next => (go_simp; (try (go_bits; go_simp)); (first | done | with_reducible rfl | (rw [if_neg (by omega)]; (try (go_bits; go_simp)); (first | done | with_reducible rfl)) | (rw [if_pos (by omega)]; (try (go_bits; go_simp)); (first | done | with_reducible rfl))))); (try simp only [Act.put, List.setIfInBounds_toArray, List.set_cons_zero, List.set_cons_succ])) | ((refine wpText_p rfl rfl ?_; apply Exists.intro; refine ⟨?_, ?_⟩; next => (intro w'; go_simp; (try (go_bits; go_simp)); (first | done | with_reducible rfl | (rw [if_neg (by omega)]; (try (go_bits; go_simp)); (first | done | with_reducible rfl)) | (rw [if_pos (by omega)]; (try (go_bits; go_simp)); (first | done | with_reducible rfl))))); (try simp only [Act.put, List.setIfInBounds_toArray, List.set_cons_zero, List.set_cons_succ])) | ((refine wpText_y rfl rfl ?_; apply Exists.intro; refine ⟨?_, ?_⟩; next => (intro w' hS; (first | obtain ⟨_, rfl⟩ := hS | skip); go_simp; (try (go_bits; go_simp)); (first | done | with_reducible rfl | (rw [if_neg (by omega)]; (try (go_bits; go_simp)); (first | done | with_reducible rfl)) | (rw [if_pos (by omega)]; (try (go_bits; go_simp)); (first | done | with_reducible rfl))))); (try simp only [Act.put, List.setIfInBounds_toArray, List.set_cons_zero, List.set_cons_succ])) | (refine wpText_skip (by first | exact .inl rfl | exact .inr (.inl rfl) | exact .inr (.inr rfl)) rfl ?_; (try simp only [Act.put, List.setIfInBounds_toArray, List.set_cons_zero, List.set_cons_succ])))
        refine wpText_nil ?_
        go_wp2_with (at_builtin; refine wpList_append_row _ rfl (.tmp 25) (.tmp 32) 113 rfl 104 i0 (.agg #[.int .u32 0, I64 0, .int .u32 0, I64 0, I64 0]) 5 40 Try.underlying113 hi0 hz0 hs0 hb0 rfl (by decide) (.slice A3 i c3) i ((rs.take i).flatMap Rt.cells) rfl H3.out.1 ⟨g, 0, none⟩ 0 0 ((rs.drop (i + 1)).flatMap Rt.cells) rfl (by rw [rflat_len, HD.out]; omega) (by intro j u hu; have h0 := (List.getElem?_eq_some_iff.1 hu).1; rw [rflat_len, HD.out] at h0; omega) (rt_one _) (by unfold maxLen; omega) (by omega) ?_)
        intro v4 w4 hown4 ho4 hbk4
        obtain ⟨A4, c4, rfl⟩ := own_shape hown4
        have me4 := ho4.blk H3.out.2.2.1 (by simpa [Option.mem_toList] using H3.out.2.2.2)
        have hn4 := own_ne_blk hown4 me4 (by decide)
        have f4 := me4.frozen 0
        have d4 := me4.cell (i := 0) rfl
        have l4 := me4.lt
        have HB4 := hide (show ∃ k, (Value.slice A4 _ c4).ownBlock = some k ∧ w.heap.size ≤ k by
          obtain ⟨k, hk, hk2⟩ := HB3.out
          have := H2.out.1.size
          have := H3.out.2.1.size
          rcases hbk4 with h | h
          · exact ⟨k, by rw [h, hk], by omega⟩
          · exact ⟨_, h, by omega⟩)
        have HO4 := hide (show Only [] w w4 from (Only.trans H2.out.1 H3.out.2.1).trans' ho4 (by
          intro k hk hl
          obtain ⟨k', hk', hk2⟩ := HB3.out
          rw [hk'] at hk
          simp at hk
          have := H2.out.1.size; omega))
        have H4 := hide (show _ ∧ _ ∧ _ from ⟨hown4, me4, hn4⟩)
        clear hown4 ho4 hbk4 me4 hn4
        go_wp2
        refine NoX.normal ?_
        go_wp2
        go_ret
        refine .inr (.inr ⟨HC.out, HI.out, rfl, _, ⟨H4.out.2.1.set 0 _, ?_⟩, (HO4.out.mono (S' := b :: (Value.slice (some ⟨g, 0, none⟩) (i + 1) (i + 1)).ownBlock.toList) (by simp)).set (.inl (by simp)) _, .inr HB4.out⟩)
        have hfl := eraseIdx_flat rs i
        have hel : (rs.eraseIdx i).length = i + 0 := by rw [List.length_eraseIdx, if_pos (by rw [HN.out]; omega), HN.out]; omega
        unfold remR
        rw [← HII.out, hfl, hel]
        exact own_setCell H4.out.1 H4.out.2.2 _
      · have hc2 : ¬ (i + 1 = c) := by omega
        go_wp2
        refine wp_region_text 16 [1, 8] [0, 2, 3, 4, 6, 7, 9, 10, 11, 13, 14, 15] [5, 12] (fun w' => w'.cell? ⟨b, 0, none⟩ = some (.slice (some ⟨g, 0, none⟩) n c)) (by kernel_rfl) (by kernel_rfl) (by go_simp) ?_
        simp only [List.take_succ_cons, List.take_zero, List.drop_succ_cons, List.drop_zero]
        repeat (first | ((refine wpText_h rfl rfl ?_; apply Exists.intro; refine ⟨?_, ?_⟩; next => (go_simp; (try (go_bits; go_simp)); (first | done | with_reducible rfl | (rw [if_neg (by omega)]; (try (go_bits; go_simp)); (first | done | with_reducible rfl)) | (rw [if_pos (by omega)]; (try (go_bits; go_simp)); (first | done | with_reducible rfl))))); (try simp only [Act.put, List.setIfInBounds_toArray, List.set_cons_zero, List.set_cons_succ])) | ((refine wpText_p rfl rfl ?_; apply Exists.intro; refine ⟨?_, ?_⟩; next => (intro w'; go_simp; (try (go_bits; go_simp)); (first | done | with_reducible rfl | (rw [if_neg (by omega)]; (try (go_bits; go_simp)); (first | done | with_reducible rfl)) | (rw [if_pos (by omega)]; (try (go_bits; go_simp)); (first | done | with_reducible rfl))))); (try simp only [Act.put, List.setIfInBounds_toArray, List.set_cons_zero, List.set_cons_succ])) | ((refine wpText_y rfl rfl ?_; apply Exists.intro; refine ⟨?_, ?_⟩; next => (intro w' hS; (first | obtain ⟨_, rfl⟩ := hS | skip); go_simp; (try (go_bits; go_simp)); (first | done | with_reducible rfl | (rw [if_neg (by omega)]; (try (go_bits; go_simp)); (first | done | with_reducible rfl)) | (rw [if_pos (by omega)]; (try (go_bits; go_simp)); (first | done | with_reducible rfl))))); (try simp only [Act.put, List.setIfInBounds_toArray, List.set_cons_zero, List.set_cons_succ])) | (refine wpText_skip (by first | exact .inl rfl | exact .inr (.inl rfl) | exact .inr (.inr rfl)) rfl ?_; (try simp only [Act.put, List.setIfInBounds_toArray, List.set_cons_zero, List.set_cons_succ])))
        refine wpText_e rfl rfl (fun K hK => ?_)
        go_wp2
        refine hK _ _ (by go_simp) ?_
        clear hK K
        try simp only [Act.put, List.setIfInBounds_toArray, List.set_cons_zero, List.set_cons_succ]
        repeat (first | ((refine wpText_h rfl rfl ?_; apply Exists.intro; refine ⟨?_, ?_⟩; next => (go_simp; (try (go_bits; go_simp)); (first | done | with_reducible rfl | (rw [if_neg (by omega)]; (try (go_bits; go_simp)); (first | done | with_reducible rfl)) | (rw [if_pos (by omega)]; (try (go_bits; go_simp)); (first | done | with_reducible rfl))))); (try simp only [Act.put, List.setIfInBounds_toArray, List.set_cons_zero, List.set_cons_succ])) | ((refine wpText_p rfl rfl ?_; apply Exists.intro; refine ⟨?_, ?_⟩; next => (intro w'; go_simp; (try (go_bits; go_simp)); (first | done | with_reducible rfl | (rw [if_neg (by omega)]; (try (go_bits; go_simp)); (first | done | with_reducible rfl)) | (rw [if_pos (by omega)]; (try (go_bits; go_simp)); (first | done | with_reducible rfl))))); (try simp only [Act.put, List.setIfInBounds_toArray, List.set_cons_zero, List.set_cons_succ])) | ((refine wpText_y rfl rfl ?_; apply Exists.intro; refine ⟨?_, ?_⟩; next => (intro w' hS; (first | obtain ⟨_, rfl⟩ := hS | skip); go_simp; (try (go_bits; go_simp)); (first | done | with_reducible rfl | (rw [if_neg (by omega)]; (try (go_bits; go_simp)); (first | done | with_reducible rfl)) | (rw [if_pos (by omega)]; (try (go_bits; go_simp)); (first | done | with_reducible rfl))))); (try simp only [Act.put, List.setIfInBounds_toArray, List.set_cons_zero, List.set_cons_succ])) | (refine wpText_skip (by first | exact .inl rfl | exact .inr (.inl rfl) | exact .inr (.inr rfl)) rfl ?_; (try simp only [Act.put, List.setIfInBounds_toArray, List.set_cons_zero, List.set_cons_succ])))
        refine wpText_e rfl rfl (fun K hK => ?_)
        refine wp_append_row _ (.tmp 18) (.tmp 24) 113 rfl 104 i0 (.agg #[.int .u32 0, I64 0, .int .u32 0, I64 0, I64 0]) 5 40 Try.underlying113 hi0 hz0 hs0 hb0 rfl (by decide) (.slice (some ⟨w2.heap.size, 0, none⟩) 0 0) 0 [] rfl hm1.out ⟨g, 0, none⟩ i c ((rs.take i).flatMap Rt.cells) rfl (by rw [rflat_len, HT.out]) (rts_cells (HTK.out.only hO1.out)) (rt_one _) (by unfold maxLen; omega) (by omega) ?_
        intro v3 w3 hown3 ho3 hbk3
        rw [Nat.zero_add, List.nil_append] at hown3
        obtain ⟨A3, c3, rfl⟩ := own_shape hown3
        have hO3 : Only [] w2 w3 := hO1.out.trans' ho3 (by intro k hk hl; simp [Value.ownBlock] at hk; omega)
        have me3 := hO3.blk H2.out.2.me (by simp)
        have hn3 := own_ne_blk hown3 me3 (by decide)
        have hb3 : ∃ k, (Value.slice A3 i c3).ownBlock = some k ∧ w2.heap.size ≤ k := by
          rcases hbk3 with h | h
          · exact ⟨_, h, Nat.le_refl _⟩
          · exact ⟨_, h, by simp [World.drew]⟩
        have b3 := me3.cell (i := 0) rfl
        have lt3 := me3.lt
        refine hK _ _ b3 ?_
        clear hK K
        have H3 := hide (show _ ∧ _ ∧ _ ∧ _ from ⟨hown3, hO3, me3, hn3⟩)
        have HB3 := hide hb3
        clear hown3 ho3 hbk3 hO3 me3 hn3 hb3
        repeat (first | ((refine wpText_h rfl rfl ?_; apply Exists.intro; refine ⟨?_, ?_⟩; next => (go_simp; (try (go_bits; go_simp)); (first | done | with_reducible rfl | (rw [if_neg (by omega)]; (try (go_bits; go_simp)); (first | done | with_reducible rfl)) | (rw [if_pos (by omega)]; (try (go_bits; go_simp)); (first | done | with_reducible rfl))))); (try simp only [Act.put, List.setIfInBounds_toArray, List.set_cons_zero, List.set_cons_succ])) | ((refine wpText_p rfl rfl ?_; apply Exists.intro; refine ⟨?_, ?_⟩; next => (intro w'; go_simp; (try (go_bits; go_simp)); (first | done | with_reducible rfl | (rw [if_neg (by omega)]; (try (go_bits; go_simp)); (first | done | with_reducible rfl)) | (rw [if_pos (by omega)]; (try (go_bits; go_simp)); (first | done | with_reducible rfl))))); (try simp only [Act.put, List.setIfInBounds_toArray, List.set_cons_zero, List.set_cons_succ])) | ((refine wpText_y rfl rfl ?_; apply Exists.intro; refine ⟨?_, ?_⟩; next => (intro w' hS; (first | obtain ⟨_, rfl⟩ := hS | skip); go_simp; (try (go_bits; go_simp)); (first | done | with_reducible rfl | (rw [if_neg (by omega)]; (try (go_bits; go_simp)); (first | done | with_reducible rfl)) | (rw [if_pos (by omega)]; (try (go_bits; go_simp)); (first | done | with_reducible rfl))))); (try simp only [Act.put, List.setIfInBounds_toArray, List.set_cons_zero, List.set_cons_succ])) | (refine wpText_skip (by first | exact .inl rfl | exact .inr (.inl rfl) | exact .inr (.inr rfl)) rfl ?_; (try simp only [Act.put, List.setIfInBounds_toArray, List.set_cons_zero, List.set_cons_succ])))
        refine wpText_nil ?_
        go_wp2_with (at_builtin; refine wpList_append_row _ rfl (.tmp 25) (.tmp 32) 113 rfl 104 i0 (.agg #[.int .u32 0, I64 0, .int .u32 0, I64 0, I64 0]) 5 40 Try.underlying113 hi0 hz0 hs0 hb0 rfl (by decide) (.slice A3 i c3) i ((rs.take i).flatMap Rt.cells) rfl H3.out.1 ⟨g, (i + 1) * 5, none⟩ (n - (i + 1)) (c - (i + 1)) ((rs.drop (i + 1)).flatMap Rt.cells) rfl (by rw [rflat_len, HD.out]) (rts_cells (by have h := HDR.out.only H3.out.2.1; rw [Nat.zero_add] at h; exact h)) (rt_one _) (by unfold maxLen; omega) (by omega) ?_)
        intro v4 w4 hown4 ho4 hbk4
        obtain ⟨A4, c4, rfl⟩ := own_shape hown4
        have me4 := ho4.blk H3.out.2.2.1 (by simpa [Option.mem_toList] using H3.out.2.2.2)
        have hn4 := own_ne_blk hown4 me4 (by decide)
        have f4 := me4.frozen 0
        have d4 := me4.cell (i := 0) rfl
        have l4 := me4.lt
        have HB4 := hide (show ∃ k, (Value.slice A4 _ c4).ownBlock = some k ∧ w.heap.size ≤ k by
          obtain ⟨k, hk, hk2⟩ := HB3.out
          have := H2.out.1.size
          have := H3.out.2.1.size
          rcases hbk4 with h | h
          · exact ⟨k, by rw [h, hk], by omega⟩
          · exact ⟨_, h, by omega⟩)
        have HO4 := hide (show Only [] w w4 from (Only.trans H2.out.1 H3.out.2.1).trans' ho4 (by
          intro k hk hl
          obtain ⟨k', hk', hk2⟩ := HB3.out
          rw [hk'] at hk
          simp at hk
          have := H2.out.1.size; omega))
        have H4 := hide (show _ ∧ _ ∧ _ from ⟨hown4, me4, hn4⟩)
        clear hown4 ho4 hbk4 me4 hn4
        go_wp2
        refine NoX.normal ?_
        go_wp2
        go_ret
        refine .inr (.inr ⟨HC.out, HI.out, rfl, _, ⟨H4.out.2.1.set 0 _, ?_⟩, (HO4.out.mono (S' := b :: (Value.slice (some ⟨g, 0, none⟩) n c).ownBlock.toList) (by simp)).set (.inl (by simp)) _, .inr HB4.out⟩)
        have hfl := eraseIdx_flat rs i
        have hel : (rs.eraseIdx i).length = i + (n - (i + 1)) := by rw [List.length_eraseIdx, if_pos (by rw [HN.out]; omega), HN.out]; omega
        unfold remR
        rw [← HII.out, hfl, hel]
        exact own_setCell H4.out.1 H4.out.2.2 _
    · have hng : ¬ 0 ≤ ixOf rs x := fun h => hin ((ixOf_ge rs x).1 h)
      have hng' : ixOf rs x < 0 := by omega
      have HI := hide hin
      clear hin hng
      go_wp2
      go_ret
      exact .inr (.inl ⟨HC.out, HI.out, rfl, H2.out.1⟩)
  · have HC := hide hc
    have hc' : (x.code != 0) = true := by simp [hc]
    clear hc
    go_wp2
    go_ret
    exact .inl ⟨rfl, HC.out, H1.out.1⟩

end Go.Proofs.Ytlnejlhdkmneeaa
