/- slices.Delete at requests. -/
import Derived.Test.YtabdahojgmbgdaaQueE
namespace Go.Proofs.Ytabdahojgmbgdaa
open Go.RowKit

/-- An append whose run is known. -/
theorem wpList_append_eq {P : Program} {ops : Array Oper} {rest : List Oper} {o : Oper} {a : Act} {w w' : World} {Q : Exit → Act → World → Prop} (hgd : o.guard = none) (s x : Operand) (t : TypeId)
    (ho : o.op = .call { callee := .builtin .append, args := #[s, x], argTypes := #[t, t] }) (v1 v2 r : Value) (hs : a.eval s = v1) (hx : a.eval x = v2)
    (hr : ∀ ty, (Builtin.append_ #[t, t] ty #[v1, v2]).run P w = .ok r w') (h : wpList P ops Q rest (a.put o.dst r) w') : wpList P ops Q (o :: rest) a w :=
  wpList_plain hgd fun _ hK => by
    unfold Oper.wp execOp
    simp only [ho, resolve, invoke, builtin, Sem.run_bind, Sem.run_pure, Result.andThen_ok, List.map_toArray, List.map_cons, List.map_nil, hs, hx, hr]
    exact hK _ _ h

theorem eraseIdx_flat (rs : List Rq) (i : Nat) : (rs.eraseIdx i).flatMap Rq.cells = (rs.take i).flatMap Rq.cells ++ (rs.drop (i + 1)).flatMap Rq.cells := by
  rw [List.eraseIdx_eq_take_drop_succ, List.flatMap_append]
theorem flat_split (rs : List Rq) (i : Nat) (hi : i < rs.length) : rs.flatMap Rq.cells = (rs.take i).flatMap Rq.cells ++ ((rs.drop i).take 1).flatMap Rq.cells ++ (rs.drop (i + 1)).flatMap Rq.cells := by
  rw [← List.flatMap_append, ← List.flatMap_append]
  congr 1
  rw [List.append_assoc]
  have : (rs.drop i).take 1 ++ rs.drop (i + 1) = rs.drop i := by
    rw [show rs.drop (i + 1) = (rs.drop i).drop 1 by rw [List.drop_drop]]
    exact List.take_append_drop 1 _
  rw [this, List.take_append_drop]

/-- What Delete leaves. -/
def DelS (rs : List Rq) (g n cap i : Nat) (T : TypeId) (w : World) (e : Ending) (w' : World) : Prop :=
  e = .returned (.slice (some ⟨g, 0, none⟩) (n - 1) cap) ∧ w'.ownsRow 0 T 3 (.slice (some ⟨g, 0, none⟩) (n - 1) cap) (n - 1) ((rs.eraseIdx i).flatMap Rq.cells) ∧ Only [g] w w'

set_option maxRecDepth 100000 in
set_option maxHeartbeats 8000000 in
theorem delete_ok (rs : List Rq) (g n cap i : Nat) (w : World) (hn : rs.length = n) (hm : n ≤ 1000) (hi : i < n) (hr : w.ownsRow 0 rqT 3 (.slice (some ⟨g, 0, none⟩) n cap) n (rs.flatMap Rq.cells)) :
    Calls Try.prog 45 #[.slice (some ⟨g, 0, none⟩) n cap, I64 i, I64 (i + 1)] w fun e w' => DelS rs g n cap i rqT w e w' := by
  obtain ⟨i0, hi0, hz0, hs0, hb0⟩ := info_parts rq_info
  -- the row's block
  obtain ⟨cur, hB, hnc, hcm, hcs, htake⟩ : ∃ cur : List Value, Blk w g rqT cur ∧ n ≤ cap ∧ cap ≤ maxLen ∧ cur.length = cap * 3 ∧ cur.take (n * 3) = rs.flatMap Rq.cells := by
    rcases hr.2 with ⟨h, _⟩ | ⟨g', cap', cur, h, _, h1, h2, h3, h4, h5⟩
    · cases h
    · injection h with h6 _ h7
      injection h6 with h6
      injection h6 with h6 _
      subst h6 h7
      exact ⟨cur.toList, h1, h2, h3, by simpa using h4, h5⟩
  have hlen : ((rs.drop (i + 1)).flatMap Rq.cells).length = (n - i - 1) * 3 := by rw [rqflat_len, List.length_drop, hn]; congr 1
  -- the cells behind i
  have hnews : ∀ j u, ((rs.drop (i + 1)).flatMap Rq.cells)[j]? = some u → w.cell? ⟨g, (i + 1) * 3 + j, none⟩ = some u := by
    intro j u hu
    refine hB.cell ?_
    have hj := (List.getElem?_eq_some_iff.1 hu).1
    rw [hlen] at hj
    have e1 : cur[(i + 1) * 3 + j]? = (cur.take (n * 3))[(i + 1) * 3 + j]? := by rw [List.getElem?_take, if_pos (by omega)]
    rw [e1, htake, flat_split rs i (by omega), List.getElem?_append_right]
    · rw [List.length_append, rqflat_len, rqflat_len, List.length_take, List.length_take, List.length_drop, hn]
      rw [show (i + 1) * 3 + j - (min i n * 3 + min 1 (n - i) * 3) = j by omega]
      exact hu
    · rw [List.length_append, rqflat_len, rqflat_len, List.length_take, List.length_take, List.length_drop, hn]; omega
  have hroom : ∀ (W : World) (o cc m k : Nat), W = w.drew → m = n - i - 1 → k = n - 1 → (i + 1 < n → o = (i + 1) * 3) → (∀ ty, (Builtin.append_ #[68, 68] ty #[.slice (some ⟨g, 0, none⟩) i cap, .slice (some ⟨g, o, none⟩) m cc]).run Try.prog W =
      .ok (.slice (some ⟨g, 0, none⟩) k cap) (W.setRow g (cur.take (i * 3) ++ (rs.drop (i + 1)).flatMap Rq.cells ++ cur.drop (i * 3 + (n - i - 1) * 3)).toArray)) := by
    intro W o cc m k hW hm hk ho ty
    subst hW hm hk
    have h := run_append_room (P := Try.prog) w.drew 68 ty rqT i0 Try.underlying68 hi0 g i cap cur.toArray hB ⟨g, o, none⟩ (n - i - 1) cc ((rs.drop (i + 1)).flatMap Rq.cells) (by rw [hlen, hs0]) (fun j u hu => by
      have hj := (List.getElem?_eq_some_iff.1 hu).1
      rw [hlen] at hj
      rw [ho (by omega), show (⟨g, (i + 1) * 3, none⟩ : Addr).add j = ⟨g, (i + 1) * 3 + j, none⟩ by unfold Addr.add; split <;> simp_all]
      exact hnews j u hu) (rq_one _) (by omega) (by rw [hlen, hs0]; simp; omega)
    rw [show i + (n - i - 1) = n - 1 by omega, hlen, hs0] at h
    simpa using h
  obtain ⟨W1, hW1⟩ : ∃ W1, W1 = (w.drew).setRow g (cur.take (i * 3) ++ (rs.drop (i + 1)).flatMap Rq.cells ++ cur.drop (i * 3 + (n - i - 1) * 3)).toArray := ⟨_, rfl⟩
  have hB1 : Blk W1 g rqT (cur.take (i * 3) ++ (rs.drop (i + 1)).flatMap Rq.cells ++ cur.drop (i * 3 + (n - i - 1) * 3)) := by
    rw [hW1]
    have := setRow_heap w.drew g cur.toArray (cur.take (i * 3) ++ (rs.drop (i + 1)).flatMap Rq.cells ++ cur.drop (i * 3 + (n - i - 1) * 3)).toArray rqT (0, 0) hB
    simpa [Blk] using this
  have hO1 : Only [g] w W1 := by
    rw [hW1]
    exact ⟨rfl, rfl, rfl, by simp, fun k hk hn => setRow_other w.drew g k _ (by simpa using hn)⟩
  obtain ⟨W2, hcl, vs, hvs, hst⟩ := run_clear_cells (P := Try.prog) W1 g ((n - 1) * 3) 1 (cap - (n - 1)) 68 rqT rqT (.agg #[I64 0, I64 0, I64 0]) 3 _ hB1 Try.underlying68 (fun _ => by kernel_rfl) rfl (by simp [List.length_append, hlen, hcs]; omega) (by simp [Value.cells, Value.oneCell'])
  have hfin : Hid (W2.ownsRow 0 rqT 3 (.slice (some ⟨g, 0, none⟩) (n - 1) cap) (n - 1) ((rs.eraseIdx i).flatMap Rq.cells) ∧ Only [g] w W2) := by
    refine ⟨⟨by rw [rqflat_len, List.length_eraseIdx, if_pos (by omega), hn], .inr ⟨g, cap, _, rfl, Nat.zero_le _, hst.1, by omega, hcm, ?_, ?_⟩⟩, hO1.trans hst.2.1⟩
    · simp [hlen, hcs, hvs]; omega
    · have e1 : cur.take (i * 3) = (rs.take i).flatMap Rq.cells := by
        have : cur.take (i * 3) = (cur.take (n * 3)).take (i * 3) := by rw [List.take_take]; congr 1; omega
        rw [this, htake, flat_split rs i (by omega), List.append_assoc, List.take_append_of_le_length (by rw [rqflat_len, List.length_take, hn]; omega), List.take_of_length_le (by rw [rqflat_len, List.length_take, hn]; omega)]
      simp only [List.toList_toArray]
      rw [e1, ← eraseIdx_flat]
      have hel : ((rs.eraseIdx i).flatMap Rq.cells).length = (n - 1) * 3 := by rw [rqflat_len, List.length_eraseIdx, if_pos (by omega), hn]
      rw [List.append_assoc, List.take_append_of_le_length (by rw [List.length_take, List.length_append, hel]; omega), List.take_take, Nat.min_self, List.take_append_of_le_length (by omega), List.take_of_length_le (by omega)]
  have HR := hide hroom
  have HCL := hide hcl
  have HW := hide hW1
  have hij : ((i : Int) == (i : Int) + 1) = false := by simp; omega
  have hii : ¬ (i + 1 < n) → Hid (i + 1 = n) := fun h => hide (by omega)
  have HN := hide hn
  have hO1' := hide hO1
  clear hr hB hcs htake hlen hnews hroom hB1 hO1 hcl hst hvs hW1 hn
  by_cases hcap : cap = i + 1
  · obtain rfl : n = i + 1 := by omega
    subst hcap
    go_enter Try.func45, Try.ntmps45
    go_wp2
    refine wp_region_text 6 [] [] [] (fun _ => True) (by kernel_rfl) (by kernel_rfl) trivial ?_
    simp only [List.take_succ_cons, List.take_zero, List.drop_succ_cons, List.drop_zero]
    repeat (first | ((refine wpText_h rfl rfl ?_; apply Exists.intro; refine ⟨?_, ?_⟩; next => (go_simp; (try (go_bits; go_simp)); (first | done | with_reducible rfl | (rw [if_neg (by omega)]; (try (go_bits; go_simp)); (first | done | with_reducible rfl)) | (rw [if_pos (by omega)]; (try (go_bits; go_simp)); (first | done | with_reducible rfl))))); (try simp only [Act.put, List.setIfInBounds_toArray, List.set_cons_zero, List.set_cons_succ])) | ((refine wpText_p rfl rfl ?_; apply Exists.intro; refine ⟨?_, ?_⟩; next => (intro w'; go_simp; (try (go_bits; go_simp)); (first | done | with_reducible rfl | (rw [if_neg (by omega)]; (try (go_bits; go_simp)); (first | done | with_reducible rfl)) | (rw [if_pos (by omega)]; (try (go_bits; go_simp)); (first | done | with_reducible rfl))))); (try simp only [Act.put, List.setIfInBounds_toArray, List.set_cons_zero, List.set_cons_succ])) | ((refine wpText_y rfl rfl ?_; apply Exists.intro; refine ⟨?_, ?_⟩; next => (intro w' hS; (first | obtain ⟨_, rfl⟩ := hS | skip); go_simp; (try (go_bits; go_simp)); (first | done | with_reducible rfl | (rw [if_neg (by omega)]; (try (go_bits; go_simp)); (first | done | with_reducible rfl)) | (rw [if_pos (by omega)]; (try (go_bits; go_simp)); (first | done | with_reducible rfl))))); (try simp only [Act.put, List.setIfInBounds_toArray, List.set_cons_zero, List.set_cons_succ])) | (refine wpText_skip (by first | exact .inl rfl | exact .inr (.inl rfl) | exact .inr (.inr rfl)) rfl ?_; (try simp only [Act.put, List.setIfInBounds_toArray, List.set_cons_zero, List.set_cons_succ])))
    refine wpText_nil ?_
    have HR1 := hide (HR.out w.drew 0 0 0 i rfl (by omega) (by omega) (by omega))
    rw [← HW.out] at HR1
    have HCL1 := hide HCL.out
    go_wp2_with (at_builtin; refine wpList_append_eq rfl (.tmp 22) (.tmp 25) 68 rfl _ _ _ rfl rfl HR1.out ?_)
    have hcl1 : ∀ ty, (Builtin.clear_ #[68] ty #[.slice (some ⟨g, i * 3, none⟩) 1 1]).run Try.prog W1 = .ok (.tuple #[]) W2 := fun ty => by
      have h := HCL.out ty
      rw [show i + 1 - 1 = i by omega, show i + 1 - i = 1 by omega] at h; exact h
    refine NoX.normal ?_
    go_wp2
    go_ret
    exact ⟨rfl, hfin.out.1, hfin.out.2⟩
  · have hij1 : ¬ (i + 1 = cap) := by omega
    go_enter Try.func45, Try.ntmps45
    go_wp2
    refine wp_region_text 6 [] [] [] (fun _ => True) (by kernel_rfl) (by kernel_rfl) trivial ?_
    simp only [List.take_succ_cons, List.take_zero, List.drop_succ_cons, List.drop_zero]
    repeat (first | ((refine wpText_h rfl rfl ?_; apply Exists.intro; refine ⟨?_, ?_⟩; next => (go_simp; (try (go_bits; go_simp)); (first | done | with_reducible rfl | (rw [if_neg (by omega)]; (try (go_bits; go_simp)); (first | done | with_reducible rfl)) | (rw [if_pos (by omega)]; (try (go_bits; go_simp)); (first | done | with_reducible rfl))))); (try simp only [Act.put, List.setIfInBounds_toArray, List.set_cons_zero, List.set_cons_succ])) | ((refine wpText_p rfl rfl ?_; apply Exists.intro; refine ⟨?_, ?_⟩; next => (intro w'; go_simp; (try (go_bits; go_simp)); (first | done | with_reducible rfl | (rw [if_neg (by omega)]; (try (go_bits; go_simp)); (first | done | with_reducible rfl)) | (rw [if_pos (by omega)]; (try (go_bits; go_simp)); (first | done | with_reducible rfl))))); (try simp only [Act.put, List.setIfInBounds_toArray, List.set_cons_zero, List.set_cons_succ])) | ((refine wpText_y rfl rfl ?_; apply Exists.intro; refine ⟨?_, ?_⟩; next => (intro w' hS; (first | obtain ⟨_, rfl⟩ := hS | skip); go_simp; (try (go_bits; go_simp)); (first | done | with_reducible rfl | (rw [if_neg (by omega)]; (try (go_bits; go_simp)); (first | done | with_reducible rfl)) | (rw [if_pos (by omega)]; (try (go_bits; go_simp)); (first | done | with_reducible rfl))))); (try simp only [Act.put, List.setIfInBounds_toArray, List.set_cons_zero, List.set_cons_succ])) | (refine wpText_skip (by first | exact .inl rfl | exact .inr (.inl rfl) | exact .inr (.inr rfl)) rfl ?_; (try simp only [Act.put, List.setIfInBounds_toArray, List.set_cons_zero, List.set_cons_succ])))
    refine wpText_nil ?_
    have HR1 := hide (HR.out w.drew ((i + 1) * 3) (cap - (i + 1)) (n - (i + 1)) (n - 1) rfl (by omega) rfl (by omega))
    rw [← HW.out] at HR1
    go_wp2_with (at_builtin; refine wpList_append_eq rfl (.tmp 22) (.tmp 25) 68 rfl _ _ _ rfl rfl HR1.out ?_)
    have hcl1 : ∀ ty, (Builtin.clear_ #[68] ty #[.slice (some ⟨g, (n - 1) * 3, none⟩) 1 (cap - (n - 1))]).run Try.prog W1 = .ok (.tuple #[]) W2 := HCL.out
    have hcl2 : ∀ ty, (Builtin.clear_ #[68] ty #[.slice (some ⟨g, (n - 1) * 3, none⟩) (n - (n - 1)) (cap - (n - 1))]).run Try.prog W1 = .ok (.tuple #[]) W2 := by
      rw [show n - (n - 1) = 1 by omega]; exact hcl1
    refine NoX.normal ?_
    go_wp2
    go_ret
    exact ⟨rfl, hfin.out.1, hfin.out.2⟩

end Go.Proofs.Ytabdahojgmbgdaa
