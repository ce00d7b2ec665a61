/- The reference's server: end. -/
import Derived.Test.YtdjkgbkckmjfiaaRefA
namespace Go.Proofs.Ytdjkgbkckmjfiaa
open Go.RowKit

section
variable {w : World} {base : Nat} {e : TypeId} {size n : Nat} {v : Value} {xs : List Value}
theorem own_drewN (h : w.ownsRow base e size v n xs) (k : Nat) : (w.drewN k).ownsRow base e size v n xs := h
theorem own_setCell' {p : Addr} {u : Value} (hp : v.ownBlock ≠ some p.block) (h : w.ownsRow base e size v n xs) : (w.setCell p u).ownsRow base e size v n xs := own_setCell h hp u
end

set_option maxHeartbeats 1000000 in
theorem rend_room (base rb : Nat) (s : Srv) (w : World) (hs : RefIs w base rb s) (hf : s.Fit) (hn : s.list.length < s.p.N) (hb : base ≤ w.heap.size) :
    Calls Try.prog 35 #[.pointer (some ⟨rb, 0, none⟩)] w
      fun e w' => e = .returned (.tuple #[]) ∧ RefIs w' base rb s.endc ∧ RefStep base rb w w' := by
  obtain ⟨i0, hi0, hz0, hs0, hb0⟩ := info_parts rrep_info
  obtain ⟨v, me, own, ge⟩ := hs
  obtain ⟨A, cap, rfl⟩ := own_shape own
  obtain ⟨hp1, hp2, hp3, hp4, hp5, hp6, hp7, hp8⟩ := hf.prm
  have hfl := hf.lastb
  have hff := hf.firstb
  have c1 := me.cell (i := 1) rfl
  have c2 := me.cell (i := 2) rfl
  have c5 := me.cell (i := 5) rfl
  have c6 := me.cell (i := 6) rfl
  have c7 := me.cell (i := 7) rfl
  have c8 := me.cell (i := 8) rfl
  have f5 := me.frozen 5
  have f6 := me.frozen 6
  have hlt := me.lt
  have hob := own.lt
  have hon := own_ne_blk own me (by decide)
  have hE : s.endc = { ({ s with run := false } : Srv) with list := s.list ++ [s.item] } := by unfold Srv.endc; rw [if_neg (by omega)]
  have HE := hide hE
  have HO := hide own
  clear hE own
  have heq : decide ((s.list.length : Int) < (s.p.N : Int)) = true := by simp; omega
  have heq' : decide (s.list.length < s.p.N) = true := by simp; omega
  go_enter Try.func35, Try.ntmps35
  go_wp2
  refine wp_region_text 23 [22] [0, 1, 2, 4, 5, 6, 7, 8, 10, 11, 12, 13, 15, 16, 17, 19, 20, 21] [3, 9, 14, 18] (fun w' => w'.cell? ⟨rb, 8, none⟩ = some (I64 s.last) ∧ w'.cell? ⟨rb, 1, none⟩ = some (I64 s.p.P) ∧ w'.cell? ⟨rb, 7, none⟩ = some (I64 s.first)) (by kernel_rfl) (by kernel_rfl) ⟨c8, c1, c7⟩ ?_
  simp only [List.take_succ_cons, List.take_zero, List.drop_succ_cons, List.drop_zero]
  repeat (first | ((refine wpText_h rfl rfl ?_; apply Exists.intro; refine ⟨?_, ?_⟩; next => (go_simp; (try (go_bits; go_simp)); (first | done | with_reducible rfl | (rw [if_neg (by omega)]; (try (go_bits; go_simp)); (first | done | with_reducible rfl)) | (rw [if_pos (by omega)]; (try (go_bits; go_simp)); (first | done | with_reducible rfl))))); (try simp only [Act.put, List.setIfInBounds_toArray, List.set_cons_zero, List.set_cons_succ])) | ((refine wpText_p rfl rfl ?_; apply Exists.intro; refine ⟨?_, ?_⟩; next => (intro w'; go_simp; (try (go_bits; go_simp)); (first | done | with_reducible rfl | (rw [if_neg (by omega)]; (try (go_bits; go_simp)); (first | done | with_reducible rfl)) | (rw [if_pos (by omega)]; (try (go_bits; go_simp)); (first | done | with_reducible rfl))))); (try simp only [Act.put, List.setIfInBounds_toArray, List.set_cons_zero, List.set_cons_succ])) | ((refine wpText_y rfl rfl ?_; apply Exists.intro; refine ⟨?_, ?_⟩; next => (intro w' hS; (first | obtain ⟨_, rfl⟩ := hS | skip); go_simp; (try (go_bits; go_simp)); (first | done | with_reducible rfl | (rw [if_neg (by omega)]; (try (go_bits; go_simp)); (first | done | with_reducible rfl)) | (rw [if_pos (by omega)]; (try (go_bits; go_simp)); (first | done | with_reducible rfl))))); (try simp only [Act.put, List.setIfInBounds_toArray, List.set_cons_zero, List.set_cons_succ])) | (refine wpText_skip (by first | exact .inl rfl | exact .inr (.inl rfl) | exact .inr (.inr rfl)) rfl ?_; (try simp only [Act.put, List.setIfInBounds_toArray, List.set_cons_zero, List.set_cons_succ])))
  refine wpText_e rfl rfl (fun K hK => ?_)
  go_wp2
  refine hK _ _ ⟨by go_simp, by go_simp, by go_simp⟩ ?_
  clear hK K
  (try simp only [Act.put, List.setIfInBounds_toArray, List.set_cons_zero, List.set_cons_succ])
  repeat (first | ((refine wpText_h rfl rfl ?_; apply Exists.intro; refine ⟨?_, ?_⟩; next => (go_simp; (try (go_bits; go_simp)); (first | done | with_reducible rfl | (rw [if_neg (by omega)]; (try (go_bits; go_simp)); (first | done | with_reducible rfl)) | (rw [if_pos (by omega)]; (try (go_bits; go_simp)); (first | done | with_reducible rfl))))); (try simp only [Act.put, List.setIfInBounds_toArray, List.set_cons_zero, List.set_cons_succ])) | ((refine wpText_p rfl rfl ?_; apply Exists.intro; refine ⟨?_, ?_⟩; next => (intro w'; go_simp; (try (go_bits; go_simp)); (first | done | with_reducible rfl | (rw [if_neg (by omega)]; (try (go_bits; go_simp)); (first | done | with_reducible rfl)) | (rw [if_pos (by omega)]; (try (go_bits; go_simp)); (first | done | with_reducible rfl))))); (try simp only [Act.put, List.setIfInBounds_toArray, List.set_cons_zero, List.set_cons_succ])) | ((refine wpText_y rfl rfl ?_; apply Exists.intro; refine ⟨?_, ?_⟩; next => (intro w' hS; (first | obtain ⟨_, rfl⟩ := hS | skip); go_simp; (try (go_bits; go_simp)); (first | done | with_reducible rfl | (rw [if_neg (by omega)]; (try (go_bits; go_simp)); (first | done | with_reducible rfl)) | (rw [if_pos (by omega)]; (try (go_bits; go_simp)); (first | done | with_reducible rfl))))); (try simp only [Act.put, List.setIfInBounds_toArray, List.set_cons_zero, List.set_cons_succ])) | (refine wpText_skip (by first | exact .inl rfl | exact .inr (.inl rfl) | exact .inr (.inr rfl)) rfl ?_; (try simp only [Act.put, List.setIfInBounds_toArray, List.set_cons_zero, List.set_cons_succ])))
  refine wpText_nil ?_
  go_wp2
  refine NoX.normal ?_
  go_wp2
  refine wp_region_text 7 [6] [0, 1, 2, 3] [4] (fun w' => w'.cell? ⟨rb, 5, none⟩ = some (.slice A s.list.length cap)) (by kernel_rfl) (by kernel_rfl) (by go_simp) ?_
  simp only [List.take_succ_cons, List.take_zero, List.drop_succ_cons, List.drop_zero]
  repeat (first | ((refine wpText_h rfl rfl ?_; apply Exists.intro; refine ⟨?_, ?_⟩; next => (go_simp; (try (go_bits; go_simp)); (first | done | with_reducible rfl | (rw [if_neg (by omega)]; (try (go_bits; go_simp)); (first | done | with_reducible rfl)) | (rw [if_pos (by omega)]; (try (go_bits; go_simp)); (first | done | with_reducible rfl))))); (try simp only [Act.put, List.setIfInBounds_toArray, List.set_cons_zero, List.set_cons_succ])) | ((refine wpText_p rfl rfl ?_; apply Exists.intro; refine ⟨?_, ?_⟩; next => (intro w'; go_simp; (try (go_bits; go_simp)); (first | done | with_reducible rfl | (rw [if_neg (by omega)]; (try (go_bits; go_simp)); (first | done | with_reducible rfl)) | (rw [if_pos (by omega)]; (try (go_bits; go_simp)); (first | done | with_reducible rfl))))); (try simp only [Act.put, List.setIfInBounds_toArray, List.set_cons_zero, List.set_cons_succ])) | ((refine wpText_y rfl rfl ?_; apply Exists.intro; refine ⟨?_, ?_⟩; next => (intro w' hS; (first | obtain ⟨_, rfl⟩ := hS | skip); go_simp; (try (go_bits; go_simp)); (first | done | with_reducible rfl | (rw [if_neg (by omega)]; (try (go_bits; go_simp)); (first | done | with_reducible rfl)) | (rw [if_pos (by omega)]; (try (go_bits; go_simp)); (first | done | with_reducible rfl))))); (try simp only [Act.put, List.setIfInBounds_toArray, List.set_cons_zero, List.set_cons_succ])) | (refine wpText_skip (by first | exact .inl rfl | exact .inr (.inl rfl) | exact .inr (.inr rfl)) rfl ?_; (try simp only [Act.put, List.setIfInBounds_toArray, List.set_cons_zero, List.set_cons_succ])))
  refine wpText_e rfl rfl (fun K hK => ?_)
  go_wp2
  refine hK _ _ (by go_simp) ?_
  clear hK K
  (try simp only [Act.put, List.setIfInBounds_toArray, List.set_cons_zero, List.set_cons_succ])
  repeat (first | ((refine wpText_h rfl rfl ?_; apply Exists.intro; refine ⟨?_, ?_⟩; next => (go_simp; (try (go_bits; go_simp)); (first | done | with_reducible rfl | (rw [if_neg (by omega)]; (try (go_bits; go_simp)); (first | done | with_reducible rfl)) | (rw [if_pos (by omega)]; (try (go_bits; go_simp)); (first | done | with_reducible rfl))))); (try simp only [Act.put, List.setIfInBounds_toArray, List.set_cons_zero, List.set_cons_succ])) | ((refine wpText_p rfl rfl ?_; apply Exists.intro; refine ⟨?_, ?_⟩; next => (intro w'; go_simp; (try (go_bits; go_simp)); (first | done | with_reducible rfl | (rw [if_neg (by omega)]; (try (go_bits; go_simp)); (first | done | with_reducible rfl)) | (rw [if_pos (by omega)]; (try (go_bits; go_simp)); (first | done | with_reducible rfl))))); (try simp only [Act.put, List.setIfInBounds_toArray, List.set_cons_zero, List.set_cons_succ])) | ((refine wpText_y rfl rfl ?_; apply Exists.intro; refine ⟨?_, ?_⟩; next => (intro w' hS; (first | obtain ⟨_, rfl⟩ := hS | skip); go_simp; (try (go_bits; go_simp)); (first | done | with_reducible rfl | (rw [if_neg (by omega)]; (try (go_bits; go_simp)); (first | done | with_reducible rfl)) | (rw [if_pos (by omega)]; (try (go_bits; go_simp)); (first | done | with_reducible rfl))))); (try simp only [Act.put, List.setIfInBounds_toArray, List.set_cons_zero, List.set_cons_succ])) | (refine wpText_skip (by first | exact .inl rfl | exact .inr (.inl rfl) | exact .inr (.inr rfl)) rfl ?_; (try simp only [Act.put, List.setIfInBounds_toArray, List.set_cons_zero, List.set_cons_succ])))
  refine wpText_nil ?_
  have hbc : bufCells (s.list ++ [s.item]) = bufCells s.list ++ [I64 (s.last + 1 + s.p.P), I64 (s.last - s.first + 1)] := by rw [bufCells_append]; rfl
  have hll := hf.len
  obtain ⟨W, hW⟩ : ∃ W, W = (((w.setCell ⟨rb, 6, none⟩ (.bool false)).alloc (.cells #[I64 (s.last + 1 + s.p.P), I64 (s.last - s.first + 1)] 73)).alloc (.cells #[I64 (s.last + 1 + s.p.P), I64 (s.last - s.first + 1)] 73)).drew.drew := ⟨_, rfl⟩
  have hWs : W.heap.size = w.heap.size + 2 := by subst hW; simp [World.setCell]
  have ownW : W.ownsRow base 73 2 (.slice A s.list.length cap) s.list.length (bufCells s.list) := by
    subst hW; exact ((((own_setCell HO.out (p := ⟨rb, 6, none⟩) hon _).alloc _).alloc _).drew).drew
  have meW : Blk W rb 72 (refCells { s with run := false } (.slice A s.list.length cap)) := by
    subst hW; exact ((((me.set 6 (.bool false)).alloc _).alloc _).drew).drew
  have onlyW : Only [rb] w W := by
    subst hW; exact ((((Only.refl _ _).set (.inl (by simp)) _).alloc _).alloc _).drew.drew
  have newW : ∀ j u, [I64 (s.last + 1 + s.p.P), I64 (s.last - s.first + 1)][j]? = some u → W.cell? ((⟨w.heap.size + 1, 0, none⟩ : Addr).add j) = some u := by
    intro j u hu; subst hW
    exact cells_new ((w.setCell ⟨rb, 6, none⟩ (.bool false)).alloc (.cells #[I64 (s.last + 1 + s.p.P), I64 (s.last - s.first + 1)] 73)) [I64 (s.last + 1 + s.p.P), I64 (s.last - s.first + 1)] _ (by simp [World.setCell]) j u hu
  rw [← hW]
  clear hW c1 c2 c5 c6 c7 c8 f5 f6 me HO
  go_wp2_with (at_builtin; refine wpList_append_own _ rfl (.tmp 45) (.tmp 47) 56 rfl base 73 i0 (.agg #[.int .i64 0, .int .i64 0]) 2 16 Try.underlying56 hi0 hz0 hs0 hb0 rfl (by decide) _ _ _ rfl ownW ⟨w.heap.size + 1, 0, none⟩ 1 1 [I64 (s.last + 1 + s.p.P), I64 (s.last - s.first + 1)] rfl rfl newW (by simp [Value.oneCell']) (by unfold maxLen; omega) (by omega) (by omega) ?_)
  intro v3 w3 hown3 hgrow _
  obtain ⟨A3, c3, rfl⟩ := own_shape hown3
  have me3 := meW.grown hgrow hon
  have d5 := me3.cell (i := 5) rfl
  have e5 := me3.frozen 5
  have hon3 := own_ne_blk hown3 me3 (by decide)
  have st3 : RefStep base rb w w3 := (RefStep.of_only onlyW).trans (RefStep.grown ownW hgrow)
  clear ownW meW onlyW newW hgrow
  go_wp2
  refine NoX.normal ?_
  go_wp2
  refine bodyPost_ret (results_none rfl _ _ _) rfl ?_
  rw [HE.out]
  refine ⟨rfl, ⟨.slice A3 (s.list.length + 1) c3, ?_, ?_, ge⟩, st3.trans (RefStep.of_only ((Only.refl _ _).set (.inl (by simp)) _))⟩
  · exact me3.set 5 _
  · refine own_setCell ?_ hon3 _
    show World.ownsRow _ _ _ _ _ (s.list ++ [s.item]).length (bufCells (s.list ++ [s.item]))
    rw [hbc, List.length_append]
    exact hown3

theorem set_same (l : List Value) (i : Nat) (v : Value) (h : l[i]? = some v) : l.set i v = l := by
  obtain ⟨hi, e⟩ := List.getElem?_eq_some_iff.1 h
  rw [← e]; exact List.set_getElem_self hi

theorem dropLast_set (l : List (Int × Int)) (m : Nat) (h : l.length = m + 1) (x : Int × Int) : l.dropLast ++ [x] = l.set m x := by
  induction l generalizing m with
  | nil => simp at h
  | cons y l ih =>
    cases l with
    | nil => simp at h; subst h; rfl
    | cons z l =>
      cases m with
      | zero => simp at h
      | succ m =>
        have := ih m (by simpa using h)
        simp only [List.dropLast_cons_cons, List.cons_append, List.set_cons_succ, this]

set_option maxHeartbeats 1000000 in
theorem rend_full (base rb : Nat) (s : Srv) (w : World) (hs : RefIs w base rb s) (hf : s.Fit) (hn : s.list.length = s.p.N) (hb : base ≤ w.heap.size) :
    Calls Try.prog 35 #[.pointer (some ⟨rb, 0, none⟩)] w
      fun e w' => e = .returned (.tuple #[]) ∧ RefIs w' base rb s.endc ∧ RefStep base rb w w' := by
  obtain ⟨v, me, own, ge⟩ := hs
  obtain ⟨hp1, hp2, hp3, hp4, hp5, hp6, hp7, hp8⟩ := hf.prm
  obtain ⟨m, hm⟩ : ∃ m, s.list.length = m + 1 := ⟨s.list.length - 1, by omega⟩
  have hon := own_ne_blk own me (by decide)
  obtain ⟨g, cap, rfl, hlc, hcm⟩ : ∃ g cap, v = .slice (some ⟨g, 0, none⟩) (m + 1) cap ∧ m + 1 ≤ cap ∧ cap ≤ maxLen := by
    rcases own.2 with ⟨_, h⟩ | ⟨g, cap, cur, rfl, _, _, h1, h2, _⟩
    · omega
    · exact ⟨g, cap, by rw [hm], by omega, h2⟩
  have hgr : g ≠ rb := fun h => hon (by rw [h]; rfl)
  have hgr' : rb ≠ g := hgr.symm
  have hglt := (own.lt g rfl).2
  rw [hm] at own
  have hpos : 0 < s.list.length := by omega
  have hy := lastOf_at s.list hpos
  rw [show s.list.length - 1 = m from by omega] at hy
  have hmem : lastOf s.list ∈ s.list := List.mem_of_getElem? hy
  have ha0 := hf.amt _ hmem
  have ha1 := sumA_ge _ hf.amt _ hmem
  have ha2 := hf.sum
  have ha3 := hf.left
  have hfl := hf.lastb
  have hff := hf.firstb
  have hE : s.endc = { s with run := false, list := s.list.set m (merge (lastOf s.list) s.item) } := by unfold Srv.endc; rw [if_pos hn, dropLast_set _ m hm]
  generalize hL : lastOf s.list = L at *
  have g0 := own.cellAt (m * 2) (by omega)
  have g1 := own.cellAt (m * 2 + 1) (by omega)
  rw [(bufCells_at _ m L hy).1] at g0
  rw [(bufCells_at _ m L hy).2] at g1
  have fg := own.frozenAt
  have c1 := me.cell (i := 1) rfl
  have c2 := me.cell (i := 2) rfl
  have c5 := me.cell (i := 5) rfl
  have c6 := me.cell (i := 6) rfl
  have c7 := me.cell (i := 7) rfl
  have c8 := me.cell (i := 8) rfl
  have f6 := me.frozen 6
  have hlt := me.lt
  have hN : s.p.N = m + 1 := by omega
  have hm32 : m ≤ 31 := by omega
  rw [hN] at c2
  have HE := hide hE
  have HO := hide own
  have HM := hide hm
  have HY := hide hy
  have HMe := hide me
  clear hE own hm hL hy hmem hn hN me hon
  have heq : decide (((m + 1 : Nat) : Int) < ((m + 1 : Nat) : Int)) = false := by simp
  by_cases hc : L.1 < s.last + 1 + s.p.P
  all_goals
    have hmg := hide (show merge L s.item = (if L.1 < s.last + 1 + s.p.P then s.last + 1 + s.p.P else L.1, L.2 + (s.last - s.first + 1)) from rfl)
    go_enter Try.func35, Try.ntmps35
    go_wp2
    refine wp_region_text 23 [22] [0, 1, 2, 4, 5, 6, 7, 8, 10, 11, 12, 13, 15, 16, 17, 19, 20, 21] [3, 9, 14, 18] (fun w' => w'.cell? ⟨rb, 8, none⟩ = some (I64 s.last) ∧ w'.cell? ⟨rb, 1, none⟩ = some (I64 s.p.P) ∧ w'.cell? ⟨rb, 7, none⟩ = some (I64 s.first)) (by kernel_rfl) (by kernel_rfl) ⟨c8, c1, c7⟩ ?_
    simp only [List.take_succ_cons, List.take_zero, List.drop_succ_cons, List.drop_zero]
    repeat (first | ((refine wpText_h rfl rfl ?_; apply Exists.intro; refine ⟨?_, ?_⟩; next => (go_simp; (try (go_bits; go_simp)); (first | done | with_reducible rfl | (rw [if_neg (by omega)]; (try (go_bits; go_simp)); (first | done | with_reducible rfl)) | (rw [if_pos (by omega)]; (try (go_bits; go_simp)); (first | done | with_reducible rfl))))); (try simp only [Act.put, List.setIfInBounds_toArray, List.set_cons_zero, List.set_cons_succ])) | ((refine wpText_p rfl rfl ?_; apply Exists.intro; refine ⟨?_, ?_⟩; next => (intro w'; go_simp; (try (go_bits; go_simp)); (first | done | with_reducible rfl | (rw [if_neg (by omega)]; (try (go_bits; go_simp)); (first | done | with_reducible rfl)) | (rw [if_pos (by omega)]; (try (go_bits; go_simp)); (first | done | with_reducible rfl))))); (try simp only [Act.put, List.setIfInBounds_toArray, List.set_cons_zero, List.set_cons_succ])) | ((refine wpText_y rfl rfl ?_; apply Exists.intro; refine ⟨?_, ?_⟩; next => (intro w' hS; (first | obtain ⟨_, rfl⟩ := hS | skip); go_simp; (try (go_bits; go_simp)); (first | done | with_reducible rfl | (rw [if_neg (by omega)]; (try (go_bits; go_simp)); (first | done | with_reducible rfl)) | (rw [if_pos (by omega)]; (try (go_bits; go_simp)); (first | done | with_reducible rfl))))); (try simp only [Act.put, List.setIfInBounds_toArray, List.set_cons_zero, List.set_cons_succ])) | (refine wpText_skip (by first | exact .inl rfl | exact .inr (.inl rfl) | exact .inr (.inr rfl)) rfl ?_; (try simp only [Act.put, List.setIfInBounds_toArray, List.set_cons_zero, List.set_cons_succ])))
    refine wpText_e rfl rfl (fun K hK => ?_)
    go_wp2
    refine hK _ _ ⟨by go_simp, by go_simp, by go_simp⟩ ?_
    clear hK K
    (try simp only [Act.put, List.setIfInBounds_toArray, List.set_cons_zero, List.set_cons_succ])
    repeat (first | ((refine wpText_h rfl rfl ?_; apply Exists.intro; refine ⟨?_, ?_⟩; next => (go_simp; (try (go_bits; go_simp)); (first | done | with_reducible rfl | (rw [if_neg (by omega)]; (try (go_bits; go_simp)); (first | done | with_reducible rfl)) | (rw [if_pos (by omega)]; (try (go_bits; go_simp)); (first | done | with_reducible rfl))))); (try simp only [Act.put, List.setIfInBounds_toArray, List.set_cons_zero, List.set_cons_succ])) | ((refine wpText_p rfl rfl ?_; apply Exists.intro; refine ⟨?_, ?_⟩; next => (intro w'; go_simp; (try (go_bits; go_simp)); (first | done | with_reducible rfl | (rw [if_neg (by omega)]; (try (go_bits; go_simp)); (first | done | with_reducible rfl)) | (rw [if_pos (by omega)]; (try (go_bits; go_simp)); (first | done | with_reducible rfl))))); (try simp only [Act.put, List.setIfInBounds_toArray, List.set_cons_zero, List.set_cons_succ])) | ((refine wpText_y rfl rfl ?_; apply Exists.intro; refine ⟨?_, ?_⟩; next => (intro w' hS; (first | obtain ⟨_, rfl⟩ := hS | skip); go_simp; (try (go_bits; go_simp)); (first | done | with_reducible rfl | (rw [if_neg (by omega)]; (try (go_bits; go_simp)); (first | done | with_reducible rfl)) | (rw [if_pos (by omega)]; (try (go_bits; go_simp)); (first | done | with_reducible rfl))))); (try simp only [Act.put, List.setIfInBounds_toArray, List.set_cons_zero, List.set_cons_succ])) | (refine wpText_skip (by first | exact .inl rfl | exact .inr (.inl rfl) | exact .inr (.inr rfl)) rfl ?_; (try simp only [Act.put, List.setIfInBounds_toArray, List.set_cons_zero, List.set_cons_succ])))
    refine wpText_nil ?_
    go_wp2
    refine NoX.normal ?_
    go_wp2
    refine wp_region_text 14 [] [] [] (fun _ => True) (by kernel_rfl) (by kernel_rfl) trivial ?_
    simp only [List.take_succ_cons, List.take_zero, List.drop_succ_cons, List.drop_zero]
    repeat (first | ((refine wpText_h rfl rfl ?_; apply Exists.intro; refine ⟨?_, ?_⟩; next => (go_simp; (try (go_bits; go_simp)); (first | done | with_reducible rfl | (rw [if_neg (by omega)]; (try (go_bits; go_simp)); (first | done | with_reducible rfl)) | (rw [if_pos (by omega)]; (try (go_bits; go_simp)); (first | done | with_reducible rfl))))); (try simp only [Act.put, List.setIfInBounds_toArray, List.set_cons_zero, List.set_cons_succ])) | ((refine wpText_p rfl rfl ?_; apply Exists.intro; refine ⟨?_, ?_⟩; next => (intro w'; go_simp; (try (go_bits; go_simp)); (first | done | with_reducible rfl | (rw [if_neg (by omega)]; (try (go_bits; go_simp)); (first | done | with_reducible rfl)) | (rw [if_pos (by omega)]; (try (go_bits; go_simp)); (first | done | with_reducible rfl))))); (try simp only [Act.put, List.setIfInBounds_toArray, List.set_cons_zero, List.set_cons_succ])) | ((refine wpText_y rfl rfl ?_; apply Exists.intro; refine ⟨?_, ?_⟩; next => (intro w' hS; (first | obtain ⟨_, rfl⟩ := hS | skip); go_simp; (try (go_bits; go_simp)); (first | done | with_reducible rfl | (rw [if_neg (by omega)]; (try (go_bits; go_simp)); (first | done | with_reducible rfl)) | (rw [if_pos (by omega)]; (try (go_bits; go_simp)); (first | done | with_reducible rfl))))); (try simp only [Act.put, List.setIfInBounds_toArray, List.set_cons_zero, List.set_cons_succ])) | (refine wpText_skip (by first | exact .inl rfl | exact .inr (.inl rfl) | exact .inr (.inr rfl)) rfl ?_; (try simp only [Act.put, List.setIfInBounds_toArray, List.set_cons_zero, List.set_cons_succ])))
    refine wpText_nil ?_
    go_wp2
    refine NoX.normal ?_
    go_wp2
    refine wp_region_text0 12 [] [] [] (fun _ => True) (by kernel_rfl) (by kernel_rfl) trivial ?_
    repeat (first | ((refine wpText_h rfl rfl ?_; apply Exists.intro; refine ⟨?_, ?_⟩; next => (go_simp; (try (go_bits; go_simp)); (first | done | with_reducible rfl | (rw [if_neg (by omega)]; (try (go_bits; go_simp)); (first | done | with_reducible rfl)) | (rw [if_pos (by omega)]; (try (go_bits; go_simp)); (first | done | with_reducible rfl))))); (try simp only [Act.put, List.setIfInBounds_toArray, List.set_cons_zero, List.set_cons_succ])) | ((refine wpText_p rfl rfl ?_; apply Exists.intro; refine ⟨?_, ?_⟩; next => (intro w'; go_simp; (try (go_bits; go_simp)); (first | done | with_reducible rfl | (rw [if_neg (by omega)]; (try (go_bits; go_simp)); (first | done | with_reducible rfl)) | (rw [if_pos (by omega)]; (try (go_bits; go_simp)); (first | done | with_reducible rfl))))); (try simp only [Act.put, List.setIfInBounds_toArray, List.set_cons_zero, List.set_cons_succ])) | ((refine wpText_y rfl rfl ?_; apply Exists.intro; refine ⟨?_, ?_⟩; next => (intro w' hS; (first | obtain ⟨_, rfl⟩ := hS | skip); go_simp; (try (go_bits; go_simp)); (first | done | with_reducible rfl | (rw [if_neg (by omega)]; (try (go_bits; go_simp)); (first | done | with_reducible rfl)) | (rw [if_pos (by omega)]; (try (go_bits; go_simp)); (first | done | with_reducible rfl))))); (try simp only [Act.put, List.setIfInBounds_toArray, List.set_cons_zero, List.set_cons_succ])) | (refine wpText_skip (by first | exact .inl rfl | exact .inr (.inl rfl) | exact .inr (.inr rfl)) rfl ?_; (try simp only [Act.put, List.setIfInBounds_toArray, List.set_cons_zero, List.set_cons_succ])))
    refine wpText_nil ?_
    go_wp2
    have hon' : (Value.slice (some ⟨g, 0, none⟩) (m + 1) cap).ownBlock ≠ some rb := by simpa [Value.ownBlock] using hgr
    have o1 := own_setCell HO.out (p := ⟨rb, 6, none⟩) hon' (.bool false)
    have t1 : RefStep base rb w (w.setCell ⟨rb, 6, none⟩ (.bool false)) := RefStep.of_only ((Only.refl _ _).set (.inl (by simp)) _)
    have o2 := o1.stored (m * 2 + 1) (I64 (L.2 + (s.last - s.first + 1)))
    have t2 := t1.trans (RefStep.grown o1 o2.2)
    have me2 := (HMe.out.set 6 (.bool false)).far (p := ⟨g, m * 2 + 1, none⟩) hgr' (I64 (L.2 + (s.last - s.first + 1)))
  · have o4 := o2.1.stored (m * 2) (I64 (s.last + 1 + s.p.P))
    have t4 := t2.trans (RefStep.grown o2.1 o4.2)
    have me4 := me2.far (p := ⟨g, m * 2, none⟩) hgr' (I64 (s.last + 1 + s.p.P))
    refine wp_region_text 10 [] [] [] (fun _ => True) (by kernel_rfl) (by kernel_rfl) trivial ?_
    simp only [List.take_succ_cons, List.take_zero, List.drop_succ_cons, List.drop_zero]
    repeat (first | ((refine wpText_h rfl rfl ?_; apply Exists.intro; refine ⟨?_, ?_⟩; next => (go_simp; (try (go_bits; go_simp)); (first | done | with_reducible rfl | (rw [if_neg (by omega)]; (try (go_bits; go_simp)); (first | done | with_reducible rfl)) | (rw [if_pos (by omega)]; (try (go_bits; go_simp)); (first | done | with_reducible rfl))))); (try simp only [Act.put, List.setIfInBounds_toArray, List.set_cons_zero, List.set_cons_succ])) | ((refine wpText_p rfl rfl ?_; apply Exists.intro; refine ⟨?_, ?_⟩; next => (intro w'; go_simp; (try (go_bits; go_simp)); (first | done | with_reducible rfl | (rw [if_neg (by omega)]; (try (go_bits; go_simp)); (first | done | with_reducible rfl)) | (rw [if_pos (by omega)]; (try (go_bits; go_simp)); (first | done | with_reducible rfl))))); (try simp only [Act.put, List.setIfInBounds_toArray, List.set_cons_zero, List.set_cons_succ])) | ((refine wpText_y rfl rfl ?_; apply Exists.intro; refine ⟨?_, ?_⟩; next => (intro w' hS; (first | obtain ⟨_, rfl⟩ := hS | skip); go_simp; (try (go_bits; go_simp)); (first | done | with_reducible rfl | (rw [if_neg (by omega)]; (try (go_bits; go_simp)); (first | done | with_reducible rfl)) | (rw [if_pos (by omega)]; (try (go_bits; go_simp)); (first | done | with_reducible rfl))))); (try simp only [Act.put, List.setIfInBounds_toArray, List.set_cons_zero, List.set_cons_succ])) | (refine wpText_skip (by first | exact .inl rfl | exact .inr (.inl rfl) | exact .inr (.inr rfl)) rfl ?_; (try simp only [Act.put, List.setIfInBounds_toArray, List.set_cons_zero, List.set_cons_succ])))
    refine wpText_nil ?_
    go_wp2
    refine NoX.normal ?_
    go_wp2
    go_end0
    rw [HE.out, hmg.out, if_pos hc]
    refine ⟨rfl, ⟨.slice (some ⟨g, 0, none⟩) (m + 1) cap, ?_, ?_, ge⟩, ?_⟩
    · exact ((((me4.alloc _).drew).drew).drew).drew
    · have o5 := ((((o4.1.alloc (.cells #[I64 (s.last + 1 + s.p.P), I64 (s.last - s.first + 1)] 73)).drew).drew).drew).drew
      rw [List.set_comm _ _ (by omega), bufCells_set s.list m (s.last + 1 + s.p.P, L.2 + (s.last - s.first + 1))] at o5
      show World.ownsRow _ _ _ _ _ (s.list.set m _).length _
      rw [List.length_set, HM.out]
      exact o5
    · exact t4.trans (RefStep.of_only ((((((Only.refl [rb] _).alloc _).drew).drew).drew).drew))
  · go_end0
    rw [HE.out, hmg.out, if_neg (show ¬ L.1 < s.last + 1 + s.p.P by omega)]
    refine ⟨rfl, ⟨.slice (some ⟨g, 0, none⟩) (m + 1) cap, ?_, ?_, ge⟩, ?_⟩
    · exact (((me2.alloc _).drew).drew).drew
    · have o5 := (((o2.1.alloc (.cells #[I64 (s.last + 1 + s.p.P), I64 (s.last - s.first + 1)] 73)).drew).drew).drew
      have hs0 : (bufCells s.list).set (m * 2) (I64 L.1) = bufCells s.list := set_same _ _ _ (bufCells_at _ m L HY.out).1
      rw [← hs0, bufCells_set s.list m (L.1, L.2 + (s.last - s.first + 1))] at o5
      show World.ownsRow _ _ _ _ _ (s.list.set m _).length _
      rw [List.length_set, HM.out]
      exact o5
    · exact t2.trans (RefStep.of_only (((((Only.refl [rb] _).alloc _).drew).drew).drew))

theorem rend_ok (base rb : Nat) (s : Srv) (w : World) (hs : RefIs w base rb s) (hf : s.Fit) (hb : base ≤ w.heap.size) :
    Calls Try.prog 35 #[.pointer (some ⟨rb, 0, none⟩)] w
      fun e w' => e = .returned (.tuple #[]) ∧ RefIs w' base rb s.endc ∧ RefStep base rb w w' := by
  rcases Nat.lt_or_ge s.list.length s.p.N with h | h
  · exact rend_room base rb s w hs hf h hb
  · exact rend_full base rb s w hs hf (by have := hf.len; omega) hb

end Go.Proofs.Ytdjkgbkckmjfiaa
