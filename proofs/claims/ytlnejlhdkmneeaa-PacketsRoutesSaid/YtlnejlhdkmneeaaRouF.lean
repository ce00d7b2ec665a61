/- Routes: slices.Delete, slices.Clone at routes; Remove, List. -/
import Derived.Test.YtlnejlhdkmneeaaRouB
import Derived.Test.YtlnejlhdkmneeaaClear
namespace Go.Proofs.Ytlnejlhdkmneeaa
open Go.RowKit

def remR (rs : List Rt) (x : Rt) : List Rt := rs.eraseIdx (rs.idxOf x)
theorem eraseIdx_flat (rs : List Rt) (i : Nat) : (rs.eraseIdx i).flatMap Rt.cells = (rs.take i).flatMap Rt.cells ++ (rs.drop (i + 1)).flatMap Rt.cells := by
  rw [List.eraseIdx_eq_take_drop_succ, List.flatMap_append]
theorem rflat_len (rs : List Rt) : (rs.flatMap Rt.cells).length = rs.length * 5 := by
  induction rs with
  | nil => simp
  | cons r rs ih => rw [List.flatMap_cons, List.length_append, ih, rt_len, List.length_cons]; omega
theorem rt_one (rs : List Rt) : ∀ u ∈ rs.flatMap Rt.cells, u.oneCell' = true := by
  intro u hu
  simp only [List.mem_flatMap, Rt.cells] at hu
  obtain ⟨r, _, hu⟩ := hu
  simp at hu
  rcases hu with rfl | rfl | rfl | rfl | rfl <;> rfl
theorem flat_split (rs : List Rt) (i : Nat) (hi : i < rs.length) : rs.flatMap Rt.cells = (rs.take i).flatMap Rt.cells ++ ((rs.drop i).take 1).flatMap Rt.cells ++ (rs.drop (i + 1)).flatMap Rt.cells := by
  rw [← List.flatMap_append, ← List.flatMap_append]
  congr 1
  rw [List.append_assoc]
  have : (rs.drop i).take 1 ++ rs.drop (i + 1) = rs.drop i := by
    rw [show rs.drop (i + 1) = (rs.drop i).drop 1 by rw [List.drop_drop]]
    exact List.take_append_drop 1 _
  rw [this, List.take_append_drop]

/-- What Delete leaves. -/
def DelS (rs : List Rt) (g n cap i : Nat) (T : TypeId) (w : World) (e : Ending) (w' : World) : Prop :=
  e = .returned (.slice (some ⟨g, 0, none⟩) (n - 1) cap) ∧ w'.ownsRow 0 T 5 (.slice (some ⟨g, 0, none⟩) (n - 1) cap) (n - 1) ((rs.eraseIdx i).flatMap Rt.cells) ∧ Only [g] w w'

set_option maxRecDepth 100000 in
set_option maxHeartbeats 8000000 in
theorem delete_ok (rs : List Rt) (g n cap i : Nat) (w : World) (hn : rs.length = n) (hm : n ≤ 1000) (hi : i < n) (hr : w.ownsRow 0 63 5 (.slice (some ⟨g, 0, none⟩) n cap) n (rs.flatMap Rt.cells)) :
    Calls Try.prog 91 #[.slice (some ⟨g, 0, none⟩) n cap, I64 i, I64 (i + 1)] w fun e w' => DelS rs g n cap i 63 w e w' := by
  obtain ⟨i0, hi0, hz0, hs0, hb0⟩ := info_parts rt_info
  -- the row's block
  obtain ⟨cur, hB, hnc, hcm, hcs, htake⟩ : ∃ cur : List Value, Blk w g 63 cur ∧ n ≤ cap ∧ cap ≤ maxLen ∧ cur.length = cap * 5 ∧ cur.take (n * 5) = rs.flatMap Rt.cells := by
    rcases hr.2 with ⟨h, _⟩ | ⟨g', cap', cur, h, _, h1, h2, h3, h4, h5⟩
    · cases h
    · injection h with h6 _ h7
      injection h6 with h6
      injection h6 with h6 _
      subst h6 h7
      exact ⟨cur.toList, h1, h2, h3, by simpa using h4, h5⟩
  have hlen : ((rs.drop (i + 1)).flatMap Rt.cells).length = (n - i - 1) * 5 := by rw [rflat_len, List.length_drop, hn]; congr 1
  -- the cells behind i
  have hnews : ∀ j u, ((rs.drop (i + 1)).flatMap Rt.cells)[j]? = some u → w.cell? ⟨g, (i + 1) * 5 + j, none⟩ = some u := by
    intro j u hu
    refine hB.cell ?_
    have hj := (List.getElem?_eq_some_iff.1 hu).1
    rw [hlen] at hj
    have e1 : cur[(i + 1) * 5 + j]? = (cur.take (n * 5))[(i + 1) * 5 + j]? := by rw [List.getElem?_take, if_pos (by omega)]
    rw [e1, htake, flat_split rs i (by omega), List.getElem?_append_right]
    · rw [List.length_append, rflat_len, rflat_len, List.length_take, List.length_take, List.length_drop, hn]
      rw [show (i + 1) * 5 + j - (min i n * 5 + min 1 (n - i) * 5) = j by omega]
      exact hu
    · rw [List.length_append, rflat_len, rflat_len, List.length_take, List.length_take, List.length_drop, hn]; omega
  have hroom : ∀ (W : World) (o cc m k : Nat), W = w.drew → m = n - i - 1 → k = n - 1 → (i + 1 < n → o = (i + 1) * 5) → (∀ ty, (Builtin.append_ #[58, 58] ty #[.slice (some ⟨g, 0, none⟩) i cap, .slice (some ⟨g, o, none⟩) m cc]).run Try.prog W =
      .ok (.slice (some ⟨g, 0, none⟩) k cap) (W.setRow g (cur.take (i * 5) ++ (rs.drop (i + 1)).flatMap Rt.cells ++ cur.drop (i * 5 + (n - i - 1) * 5)).toArray)) := by
    intro W o cc m k hW hm hk ho ty
    subst hW hm hk
    have h := run_append_room (P := Try.prog) w.drew 58 ty 63 i0 Try.underlying58 hi0 g i cap cur.toArray hB ⟨g, o, none⟩ (n - i - 1) cc ((rs.drop (i + 1)).flatMap Rt.cells) (by rw [hlen, hs0]) (fun j u hu => by
      have hj := (List.getElem?_eq_some_iff.1 hu).1
      rw [hlen] at hj
      rw [ho (by omega), show (⟨g, (i + 1) * 5, none⟩ : Addr).add j = ⟨g, (i + 1) * 5 + j, none⟩ by unfold Addr.add; split <;> simp_all]
      exact hnews j u hu) (rt_one _) (by omega) (by rw [hlen, hs0]; simp; omega)
    rw [show i + (n - i - 1) = n - 1 by omega, hlen, hs0] at h
    simpa using h
  obtain ⟨W1, hW1⟩ : ∃ W1, W1 = (w.drew).setRow g (cur.take (i * 5) ++ (rs.drop (i + 1)).flatMap Rt.cells ++ cur.drop (i * 5 + (n - i - 1) * 5)).toArray := ⟨_, rfl⟩
  have hB1 : Blk W1 g 63 (cur.take (i * 5) ++ (rs.drop (i + 1)).flatMap Rt.cells ++ cur.drop (i * 5 + (n - i - 1) * 5)) := by
    rw [hW1]
    have := setRow_heap w.drew g cur.toArray (cur.take (i * 5) ++ (rs.drop (i + 1)).flatMap Rt.cells ++ cur.drop (i * 5 + (n - i - 1) * 5)).toArray 63 (0, 0) hB
    simpa [Blk] using this
  have hO1 : Only [g] w W1 := by
    rw [hW1]
    exact ⟨rfl, rfl, rfl, by simp, fun k hk hn => setRow_other w.drew g k _ (by simpa using hn)⟩
  obtain ⟨W2, hcl, vs, hvs, hst⟩ := run_clear_cells (P := Try.prog) W1 g ((n - 1) * 5) 1 (cap - (n - 1)) 58 63 63 (.agg #[.int .u32 0, I64 0, .int .u32 0, I64 0, I64 0]) 5 _ hB1 Try.underlying58 (fun _ => by kernel_rfl) rfl (by simp [List.length_append, hlen, hcs]; omega) (by simp [Value.cells, Value.oneCell'])
  have hfin : Hid (W2.ownsRow 0 63 5 (.slice (some ⟨g, 0, none⟩) (n - 1) cap) (n - 1) ((rs.eraseIdx i).flatMap Rt.cells) ∧ Only [g] w W2) := by
    refine ⟨⟨by rw [rflat_len, List.length_eraseIdx, if_pos (by omega), hn], .inr ⟨g, cap, _, rfl, Nat.zero_le _, hst.1, by omega, hcm, ?_, ?_⟩⟩, hO1.trans hst.2.1⟩
    · simp [hlen, hcs, hvs]; omega
    · have e1 : cur.take (i * 5) = (rs.take i).flatMap Rt.cells := by
        have : cur.take (i * 5) = (cur.take (n * 5)).take (i * 5) := by rw [List.take_take]; congr 1; omega
        rw [this, htake, flat_split rs i (by omega), List.append_assoc, List.take_append_of_le_length (by rw [rflat_len, List.length_take, hn]; omega), List.take_of_length_le (by rw [rflat_len, List.length_take, hn]; omega)]
      simp only [List.toList_toArray]
      rw [e1, ← eraseIdx_flat]
      have hel : ((rs.eraseIdx i).flatMap Rt.cells).length = (n - 1) * 5 := by rw [rflat_len, List.length_eraseIdx, if_pos (by omega), hn]
      rw [List.append_assoc, List.take_append_of_le_length (by rw [List.length_take, List.length_append, hel]; omega), List.take_take, Nat.min_self, List.take_append_of_le_length (by omega), List.take_of_length_le (by omega)]
  have HR := hide hroom
  have HCL := hide hcl
  have HW := hide hW1
  have hij : ((i : Int) == (i : Int) + 1) = false := by simp; omega
  have hii : ¬ (i + 1 < n) → Hid (i + 1 = n) := fun h => hide (by omega)
  have HN := hide hn
  have hO1' := hide hO1
  clear hr hB hcs htake hlen hnews hroom hB1 hO1 hcl hst hvs hW1 hn
  by_cases hcap : cap = i + 1
  · obtain rfl : n = i + 1 := by omega
    subst hcap
    go_enter Try.func91, Try.ntmps91
    go_wp2
    refine wp_region_text 6 [] [] [] (fun _ => True) (by kernel_rfl) (by kernel_rfl) trivial ?_
    simp only [List.take_succ_cons, List.take_zero, List.drop_succ_cons, List.drop_zero]
    repeat (first | ((refine wpText_h rfl rfl ?_; apply Exists.intro; refine ⟨?_, ?_⟩; next => (go_simp; (try (go_bits; go_simp)); (first | done | with_reducible rfl | (rw [if_neg (by omega)]; (try (go_bits; go_simp)); (first | done | with_reducible rfl)) | (rw [if_pos (by omega)]; (try (go_bits; go_simp)); (first | done | with_reducible rfl))))); (try simp only [Act.put, List.setIfInBounds_toArray, List.set_cons_zero, List.set_cons_succ])) | ((refine wpText_p rfl rfl ?_; apply Exists.intro; refine ⟨?_, ?_⟩; next => (intro w'; go_simp; (try (go_bits; go_simp)); (first | done | with_reducible rfl | (rw [if_neg (by omega)]; (try (go_bits; go_simp)); (first | done | with_reducible rfl)) | (rw [if_pos (by omega)]; (try (go_bits; go_simp)); (first | done | with_reducible rfl))))); (try simp only [Act.put, List.setIfInBounds_toArray, List.set_cons_zero, List.set_cons_succ])) | ((refine wpText_y rfl rfl ?_; apply Exists.intro; refine ⟨?_, ?_⟩; next => (intro w' hS; (first | obtain ⟨_, rfl⟩ := hS | skip); go_simp; (try (go_bits; go_simp)); (first | done | with_reducible rfl | (rw [if_neg (by omega)]; (try (go_bits; go_simp)); (first | done | with_reducible rfl)) | (rw [if_pos (by omega)]; (try (go_bits; go_simp)); (first | done | with_reducible rfl))))); (try simp only [Act.put, List.setIfInBounds_toArray, List.set_cons_zero, List.set_cons_succ])) | (refine wpText_skip (by first | exact .inl rfl | exact .inr (.inl rfl) | exact .inr (.inr rfl)) rfl ?_; (try simp only [Act.put, List.setIfInBounds_toArray, List.set_cons_zero, List.set_cons_succ])))
    refine wpText_nil ?_
    have HR1 := hide (HR.out w.drew 0 0 0 i rfl (by omega) (by omega) (by omega))
    rw [← HW.out] at HR1
    have HCL1 := hide HCL.out
    go_wp2_with (at_builtin; refine wpList_append_eq rfl (.tmp 22) (.tmp 25) 58 rfl _ _ _ rfl rfl HR1.out ?_)
    have hcl1 : ∀ ty, (Builtin.clear_ #[58] ty #[.slice (some ⟨g, i * 5, none⟩) 1 1]).run Try.prog W1 = .ok (.tuple #[]) W2 := fun ty => by
      have h := HCL.out ty
      rw [show i + 1 - 1 = i by omega, show i + 1 - i = 1 by omega] at h; exact h
    refine NoX.normal ?_
    go_wp2
    go_ret
    exact ⟨rfl, hfin.out.1, hfin.out.2⟩
  · have hij1 : ¬ (i + 1 = cap) := by omega
    go_enter Try.func91, Try.ntmps91
    go_wp2
    refine wp_region_text 6 [] [] [] (fun _ => True) (by kernel_rfl) (by kernel_rfl) trivial ?_
    simp only [List.take_succ_cons, List.take_zero, List.drop_succ_cons, List.drop_zero]
    repeat (first | ((refine wpText_h rfl rfl ?_; apply Exists.intro; refine ⟨?_, ?_⟩; next => (go_simp; (try (go_bits; go_simp)); (first | done | with_reducible rfl | (rw [if_neg (by omega)]; (try (go_bits; go_simp)); (first | done | with_reducible rfl)) | (rw [if_pos (by omega)]; (try (go_bits; go_simp)); (first | done | with_reducible rfl))))); (try simp only [Act.put, List.setIfInBounds_toArray, List.set_cons_zero, List.set_cons_succ])) | ((refine wpText_p rfl rfl ?_; apply Exists.intro; refine ⟨?_, ?_⟩; next => (intro w'; go_simp; (try (go_bits; go_simp)); (first | done | with_reducible rfl | (rw [if_neg (by omega)]; (try (go_bits; go_simp)); (first | done | with_reducible rfl)) | (rw [if_pos (by omega)]; (try (go_bits; go_simp)); (first | done | with_reducible rfl))))); (try simp only [Act.put, List.setIfInBounds_toArray, List.set_cons_zero, List.set_cons_succ])) | ((refine wpText_y rfl rfl ?_; apply Exists.intro; refine ⟨?_, ?_⟩; next => (intro w' hS; (first | obtain ⟨_, rfl⟩ := hS | skip); go_simp; (try (go_bits; go_simp)); (first | done | with_reducible rfl | (rw [if_neg (by omega)]; (try (go_bits; go_simp)); (first | done | with_reducible rfl)) | (rw [if_pos (by omega)]; (try (go_bits; go_simp)); (first | done | with_reducible rfl))))); (try simp only [Act.put, List.setIfInBounds_toArray, List.set_cons_zero, List.set_cons_succ])) | (refine wpText_skip (by first | exact .inl rfl | exact .inr (.inl rfl) | exact .inr (.inr rfl)) rfl ?_; (try simp only [Act.put, List.setIfInBounds_toArray, List.set_cons_zero, List.set_cons_succ])))
    refine wpText_nil ?_
    have HR1 := hide (HR.out w.drew ((i + 1) * 5) (cap - (i + 1)) (n - (i + 1)) (n - 1) rfl (by omega) rfl (by omega))
    rw [← HW.out] at HR1
    go_wp2_with (at_builtin; refine wpList_append_eq rfl (.tmp 22) (.tmp 25) 58 rfl _ _ _ rfl rfl HR1.out ?_)
    have hcl1 : ∀ ty, (Builtin.clear_ #[58] ty #[.slice (some ⟨g, (n - 1) * 5, none⟩) 1 (cap - (n - 1))]).run Try.prog W1 = .ok (.tuple #[]) W2 := HCL.out
    have hcl2 : ∀ ty, (Builtin.clear_ #[58] ty #[.slice (some ⟨g, (n - 1) * 5, none⟩) (n - (n - 1)) (cap - (n - 1))]).run Try.prog W1 = .ok (.tuple #[]) W2 := by
      rw [show n - (n - 1) = 1 by omega]; exact hcl1
    refine NoX.normal ?_
    go_wp2
    go_ret
    exact ⟨rfl, hfin.out.1, hfin.out.2⟩

/-- What a list of routes answers. -/
def ListS (T : TypeId) (rs : List Rt) (n : Nat) (w : World) (e : Ending) (w' : World) : Prop := ∃ A c, e = .returned (.slice A n c) ∧ RtsIn w' A rs ∧ Only [] w w'
theorem rts_of_own {w : World} {base : Nat} {T : TypeId} {A : Option Addr} {c n : Nat} {rs : List Rt} (hn : rs.length = n) (h : w.ownsRow base T 5 (.slice A n c) n (rs.flatMap Rt.cells)) : RtsIn w A rs := by
  intro k r hr
  rcases h.2 with ⟨he, h0⟩ | ⟨g, cap, cur, he, h1⟩
  · have := (List.getElem?_eq_some_iff.1 hr).1; omega
  · injection he with he
    subst he
    refine ⟨g, 0, rfl, fun j v hv => ?_⟩
    have := h.cells (g := g) rfl (k * 5 + j) v (rflat_at rt_len rs k r j v hr hv)
    rw [show (⟨g, 0, none⟩ : Addr).add (k * 5 + j) = ⟨g, k * 5 + j, none⟩ by unfold Addr.add; split <;> simp_all] at this
    rw [Nat.zero_add]
    exact this
/-- Cells of routes that lie at an address. -/
theorem rts_cells {w : World} {b o : Nat} {rs : List Rt} (h : RtsIn w (some ⟨b, o, none⟩) rs) : ∀ j u, (rs.flatMap Rt.cells)[j]? = some u → w.cell? ((⟨b, o, none⟩ : Addr).add j) = some u := by
  intro j u hu
  have hj := (List.getElem?_eq_some_iff.1 hu).1
  rw [rflat_len] at hj
  have hk : j / 5 < rs.length := by omega
  have hr := List.getElem?_eq_getElem hk
  obtain ⟨b', o', he, hc⟩ := h _ _ hr
  injection he with he
  injection he with h1 h2
  subst h1 h2
  have hm : j % 5 < (rs[j / 5]).cells.length := by rw [rt_len]; omega
  have hv := List.getElem?_eq_getElem hm
  have e := rflat_at rt_len rs (j / 5) _ (j % 5) _ hr hv
  rw [show j / 5 * 5 + j % 5 = j by omega, hu] at e
  injection e with e
  rw [show (⟨b, o, none⟩ : Addr).add j = ⟨b, o + j, none⟩ by unfold Addr.add; split <;> simp_all, show o + j = o + j / 5 * 5 + j % 5 by omega, e]
  exact hc _ _ hv

set_option maxRecDepth 100000 in
set_option maxHeartbeats 4000000 in
theorem rclone_ok (A : Option Addr) (rs : List Rt) (n c : Nat) (w : World) (hn : rs.length = n) (hm : n ≤ 1000) (hA : RtsIn w A rs) (hA0 : A = none → n = 0 ∧ c = 0) :
    Calls Try.prog 93 #[.slice A n c] w fun e w' => ListS 63 rs n w e w' := by
  obtain ⟨i0, hi0, hz0, hs0, hb0⟩ := info_parts rt_info
  cases A with
  | none =>
    obtain ⟨rfl, rfl⟩ := hA0 rfl
    have HN := hide hn
    clear hn hA hA0
    have heq : ∀ W : World, (binOp BinOp.eql 58 (.slice none 0 0) (.slice none 0 0)).run Try.prog W = .ok (.bool true) W := fun _ => by kernel_rfl
    go_enter Try.func93, Try.ntmps93
    go_wp2
    go_ret
    exact ⟨none, 0, rfl, by rw [List.length_eq_zero_iff.1 HN.out]; intro k x hx; simp at hx, Only.refl _ _⟩
  | some a =>
    have heq : ∀ W : World, (binOp BinOp.eql 58 (.slice (some a) n c) (.slice none 0 0)).run Try.prog W = .ok (.bool false) W := fun _ => by kernel_rfl
    have HN := hide hn
    have HA := hide hA
    clear hn hA hA0
    have h0 := hide (World.ownsRow_made (base := 0) (e := 63) (size := 5) w #[] 0 (Nat.zero_le _) (by simp [maxLen]) rfl)
    have hsp : ∀ (W : World) (hW : Only [] w W) (j : Nat) (u : Value), (rs.flatMap Rt.cells)[j]? = some u → W.cell? (a.add j) = some u := fun W hW j u hu => by
      have hj := (List.getElem?_eq_some_iff.1 hu).1
      rw [rflat_len] at hj
      have hr := List.getElem?_eq_getElem (show 0 < rs.length by omega)
      obtain ⟨b, o, he, _⟩ := HA.out 0 _ hr
      injection he with he
      subst he
      exact rts_cells (HA.out.only hW) j u hu
    have HSP := hide hsp
    have hO := hide ((Only.refl [] w).alloc (.cells #[] 63))
    clear hsp
    go_enter Try.func93, Try.ntmps93
    go_wp2_with (at_builtin; refine wpList_append_row _ rfl (.tmp 5) (.tmp 6) 58 rfl 63 i0 (.agg #[.int .u32 0, I64 0, .int .u32 0, I64 0, I64 0]) 5 40 Try.underlying58 hi0 hz0 hs0 hb0 rfl (by decide) (.slice (some ⟨w.heap.size, 0, none⟩) 0 0) 0 [] rfl h0.out a n c (rs.flatMap Rt.cells) rfl (by rw [rflat_len, HN.out]) (HSP.out _ hO.out) (rt_one _) (by unfold maxLen; omega) (by omega) ?_; intro v3 w3 hown3 ho3 hbk3)
    rw [Nat.zero_add, List.nil_append] at hown3
    obtain ⟨A3, c3, rfl⟩ := own_shape hown3
    have HF := hide (show RtsIn w3 A3 rs ∧ Only [] w w3 from ⟨rts_of_own HN.out hown3, hO.out.trans' ho3 (by intro i hi hl; simp [Value.ownBlock] at hi; omega)⟩)
    clear hown3 ho3 hbk3
    go_wp2
    go_ret
    exact ⟨A3, c3, rfl, HF.out.1, HF.out.2⟩

end Go.Proofs.Ytlnejlhdkmneeaa
