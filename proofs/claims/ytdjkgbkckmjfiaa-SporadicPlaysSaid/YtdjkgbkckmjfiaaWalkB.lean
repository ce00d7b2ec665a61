/- The program's sporadic server: end, take, tell. -/
import Derived.Test.YtdjkgbkckmjfiaaWalkA
namespace Go.Proofs.Ytdjkgbkckmjfiaa
open Go.RowKit

theorem lastOf_at (l : List (Int × Int)) (h : 0 < l.length) : l[l.length - 1]? = some (lastOf l) := by
  cases l with
  | nil => simp at h
  | cons x l => simp [lastOf, List.getLastD, List.getLast_eq_getElem]

theorem sumA_ge (l : List (Int × Int)) (h : ∀ x ∈ l, 0 ≤ x.2) : ∀ x ∈ l, x.2 ≤ sumA l := by
  induction l with
  | nil => simp
  | cons y l ih =>
    intro x hx
    have h0 := sumA_nonneg l fun z hz => h z (by simp [hz])
    have hy := h y (by simp)
    rcases List.mem_cons.1 hx with rfl | hx
    · simp; omega
    · have := ih (fun z hz => h z (by simp [hz])) x hx
      simp; omega

set_option maxHeartbeats 400000 in
theorem end_full (b g bs : Nat) (s : Srv) (w : World) (hs : SrvIs w b g bs s) (hf : s.Fit) (hn : s.list.length = s.p.N) :
    Calls Try.prog 26 #[.pointer (some ⟨b, 0, none⟩)] w
      fun e w' => e = .returned (.tuple #[]) ∧ SrvIs w' b g bs s.endc ∧ Only [b, g] w w' := by
  obtain ⟨fr, buf, me, bufb, box, ring⟩ := hs
  obtain ⟨hp1, hp2, hp3, hp4, hp5, hp6, hp7, hp8⟩ := hf.prm
  have hfl := hf.lastb
  have hff := hf.firstb
  have c1 := me.cell (i := 1) rfl
  have c2 := me.cell (i := 2) rfl
  have c5 := me.cell (i := 5) rfl
  have c6 := me.cell (i := 6) rfl
  have c7 := me.cell (i := 7) rfl
  have c8 := me.cell (i := 8) rfl
  have c9 := me.cell (i := 9) rfl
  have c10 := me.cell (i := 10) rfl
  have f10 := me.frozen 10
  have hlt := me.lt
  have hgl := bufb.lt
  have hne : b ≠ g := me.ne bufb (by decide)
  have hne' : g ≠ b := hne.symm
  have hfr := ring.from_
  have hpos : 0 < s.list.length := by omega
  have hy := ring.at_ (s.list.length - 1) (by omega)
  rw [lastOf_at _ hpos] at hy
  have hm := lastOf_at s.list hpos
  have hmem : lastOf s.list ∈ s.list := List.mem_of_getElem? hm
  have ha0 := hf.amt _ hmem
  have ha1 := sumA_ge _ hf.amt _ hmem
  have ha2 := hf.sum
  have ha3 := hf.left
  generalize hL : lastOf s.list = L at *
  have g0 := bufb.cell (bufCells_at buf _ L hy).1
  have g1 := bufb.cell (bufCells_at buf _ L hy).2
  have fg := bufb.frozen
  have heq : ((s.list.length : Int) == (s.p.N : Int)) = true := by simp; omega
  have HL := hide hL
  have HY := hide hy
  have HM := hide hm
  have HN := hide hn
  clear hL hy hm hmem
  obtain ⟨M, hM⟩ : ∃ M, (if L.1 < s.last + 1 + s.p.P then s.last + 1 + s.p.P else L.1) = M := ⟨_, rfl⟩
  rw [hn] at c7 g0 g1 hpos
  clear hn
  go_enter Try.func26, Try.ntmps26
  go_wp2
  refine wp_region_text 23 [22] [0, 1, 2, 4, 5, 6, 7, 8, 10, 11, 12, 13, 15, 16, 17, 19, 20, 21] [3, 9, 14, 18] (fun w' => w'.cell? ⟨b, 9, none⟩ = some (I64 s.last) ∧ w'.cell? ⟨b, 1, none⟩ = some (I64 s.p.P) ∧ w'.cell? ⟨b, 8, none⟩ = some (I64 s.first)) (by kernel_rfl) (by kernel_rfl) ⟨c9, c1, c8⟩ ?_
  simp only [List.take_succ_cons, List.take_zero, List.drop_succ_cons, List.drop_zero]
  repeat (first | ((refine wpText_h rfl rfl ?_; apply Exists.intro; refine ⟨?_, ?_⟩; next => (go_simp; (try (go_bits; go_simp)); (first | done | with_reducible rfl | (rw [if_neg (by omega)]; (try (go_bits; go_simp)); (first | done | with_reducible rfl)) | (rw [if_pos (by omega)]; (try (go_bits; go_simp)); (first | done | with_reducible rfl))))); (try simp only [Act.put, List.setIfInBounds_toArray, List.set_cons_zero, List.set_cons_succ])) | ((refine wpText_p rfl rfl ?_; apply Exists.intro; refine ⟨?_, ?_⟩; next => (intro w'; go_simp; (try (go_bits; go_simp)); (first | done | with_reducible rfl | (rw [if_neg (by omega)]; (try (go_bits; go_simp)); (first | done | with_reducible rfl)) | (rw [if_pos (by omega)]; (try (go_bits; go_simp)); (first | done | with_reducible rfl))))); (try simp only [Act.put, List.setIfInBounds_toArray, List.set_cons_zero, List.set_cons_succ])) | ((refine wpText_y rfl rfl ?_; apply Exists.intro; refine ⟨?_, ?_⟩; next => (intro w' hS; (first | obtain ⟨_, rfl⟩ := hS | skip); go_simp; (try (go_bits; go_simp)); (first | done | with_reducible rfl | (rw [if_neg (by omega)]; (try (go_bits; go_simp)); (first | done | with_reducible rfl)) | (rw [if_pos (by omega)]; (try (go_bits; go_simp)); (first | done | with_reducible rfl))))); (try simp only [Act.put, List.setIfInBounds_toArray, List.set_cons_zero, List.set_cons_succ])) | (refine wpText_skip (by first | exact .inl rfl | exact .inr (.inl rfl) | exact .inr (.inr rfl)) rfl ?_; (try simp only [Act.put, List.setIfInBounds_toArray, List.set_cons_zero, List.set_cons_succ])))
  refine wpText_e rfl rfl (fun K hK => ?_)
  go_wp2
  refine hK _ _ ⟨by go_simp, by go_simp, by go_simp⟩ ?_
  clear hK K
  (try simp only [Act.put, List.setIfInBounds_toArray, List.set_cons_zero, List.set_cons_succ])
  repeat (first | ((refine wpText_h rfl rfl ?_; apply Exists.intro; refine ⟨?_, ?_⟩; next => (go_simp; (try (go_bits; go_simp)); (first | done | with_reducible rfl | (rw [if_neg (by omega)]; (try (go_bits; go_simp)); (first | done | with_reducible rfl)) | (rw [if_pos (by omega)]; (try (go_bits; go_simp)); (first | done | with_reducible rfl))))); (try simp only [Act.put, List.setIfInBounds_toArray, List.set_cons_zero, List.set_cons_succ])) | ((refine wpText_p rfl rfl ?_; apply Exists.intro; refine ⟨?_, ?_⟩; next => (intro w'; go_simp; (try (go_bits; go_simp)); (first | done | with_reducible rfl | (rw [if_neg (by omega)]; (try (go_bits; go_simp)); (first | done | with_reducible rfl)) | (rw [if_pos (by omega)]; (try (go_bits; go_simp)); (first | done | with_reducible rfl))))); (try simp only [Act.put, List.setIfInBounds_toArray, List.set_cons_zero, List.set_cons_succ])) | ((refine wpText_y rfl rfl ?_; apply Exists.intro; refine ⟨?_, ?_⟩; next => (intro w' hS; (first | obtain ⟨_, rfl⟩ := hS | skip); go_simp; (try (go_bits; go_simp)); (first | done | with_reducible rfl | (rw [if_neg (by omega)]; (try (go_bits; go_simp)); (first | done | with_reducible rfl)) | (rw [if_pos (by omega)]; (try (go_bits; go_simp)); (first | done | with_reducible rfl))))); (try simp only [Act.put, List.setIfInBounds_toArray, List.set_cons_zero, List.set_cons_succ])) | (refine wpText_skip (by first | exact .inl rfl | exact .inr (.inl rfl) | exact .inr (.inr rfl)) rfl ?_; (try simp only [Act.put, List.setIfInBounds_toArray, List.set_cons_zero, List.set_cons_succ])))
  refine wpText_nil ?_
  go_wp2
  refine NoX.normal ?_
  go_wp2
  refine wp_region_text0 11 [] [] [] (fun _ => True) (by kernel_rfl) (by kernel_rfl) trivial ?_
  repeat (first | ((refine wpText_h rfl rfl ?_; apply Exists.intro; refine ⟨?_, ?_⟩; next => (go_simp; (try (go_bits; go_simp)); (first | done | with_reducible rfl | (rw [if_neg (by omega)]; (try (go_bits; go_simp)); (first | done | with_reducible rfl)) | (rw [if_pos (by omega)]; (try (go_bits; go_simp)); (first | done | with_reducible rfl))))); (try simp only [Act.put, List.setIfInBounds_toArray, List.set_cons_zero, List.set_cons_succ])) | ((refine wpText_p rfl rfl ?_; apply Exists.intro; refine ⟨?_, ?_⟩; next => (intro w'; go_simp; (try (go_bits; go_simp)); (first | done | with_reducible rfl | (rw [if_neg (by omega)]; (try (go_bits; go_simp)); (first | done | with_reducible rfl)) | (rw [if_pos (by omega)]; (try (go_bits; go_simp)); (first | done | with_reducible rfl))))); (try simp only [Act.put, List.setIfInBounds_toArray, List.set_cons_zero, List.set_cons_succ])) | ((refine wpText_y rfl rfl ?_; apply Exists.intro; refine ⟨?_, ?_⟩; next => (intro w' hS; (first | obtain ⟨_, rfl⟩ := hS | skip); go_simp; (try (go_bits; go_simp)); (first | done | with_reducible rfl | (rw [if_neg (by omega)]; (try (go_bits; go_simp)); (first | done | with_reducible rfl)) | (rw [if_pos (by omega)]; (try (go_bits; go_simp)); (first | done | with_reducible rfl))))); (try simp only [Act.put, List.setIfInBounds_toArray, List.set_cons_zero, List.set_cons_succ])) | (refine wpText_skip (by first | exact .inl rfl | exact .inr (.inl rfl) | exact .inr (.inr rfl)) rfl ?_; (try simp only [Act.put, List.setIfInBounds_toArray, List.set_cons_zero, List.set_cons_succ])))
  refine wpText_nil ?_
  go_wp2
  refine wp_region_text 9 [] [] [] (fun _ => True) (by kernel_rfl) (by kernel_rfl) trivial ?_
  simp only [List.take_succ_cons, List.take_zero, List.drop_succ_cons, List.drop_zero]
  repeat (first | ((refine wpText_h rfl rfl ?_; apply Exists.intro; refine ⟨?_, ?_⟩; next => (go_simp; (try (go_bits; go_simp)); (first | done | with_reducible rfl | (rw [if_neg (by omega)]; (try (go_bits; go_simp)); (first | done | with_reducible rfl)) | (rw [if_pos (by omega)]; (try (go_bits; go_simp)); (first | done | with_reducible rfl))))); (try simp only [Act.put, List.setIfInBounds_toArray, List.set_cons_zero, List.set_cons_succ])) | ((refine wpText_p rfl rfl ?_; apply Exists.intro; refine ⟨?_, ?_⟩; next => (intro w'; go_simp; (try (go_bits; go_simp)); (first | done | with_reducible rfl | (rw [if_neg (by omega)]; (try (go_bits; go_simp)); (first | done | with_reducible rfl)) | (rw [if_pos (by omega)]; (try (go_bits; go_simp)); (first | done | with_reducible rfl))))); (try simp only [Act.put, List.setIfInBounds_toArray, List.set_cons_zero, List.set_cons_succ])) | ((refine wpText_y rfl rfl ?_; apply Exists.intro; refine ⟨?_, ?_⟩; next => (intro w' hS; (first | obtain ⟨_, rfl⟩ := hS | skip); go_simp; (try (go_bits; go_simp)); (first | done | with_reducible rfl | (rw [if_neg (by omega)]; (try (go_bits; go_simp)); (first | done | with_reducible rfl)) | (rw [if_pos (by omega)]; (try (go_bits; go_simp)); (first | done | with_reducible rfl))))); (try simp only [Act.put, List.setIfInBounds_toArray, List.set_cons_zero, List.set_cons_succ])) | (refine wpText_skip (by first | exact .inl rfl | exact .inr (.inl rfl) | exact .inr (.inr rfl)) rfl ?_; (try simp only [Act.put, List.setIfInBounds_toArray, List.set_cons_zero, List.set_cons_succ])))
  refine wpText_nil ?_
  go_wp2_with fail
  refine (at_ok b 5 g s.p.N fr _ _ (by go_simp) (by go_simp) hfr (by omega) (by omega) hp6).mono ?_
  rintro e w1 ⟨rfl, n1, rfl⟩
  rw [show ((s.p.N : Int) - 1).toNat = s.p.N - 1 from by omega]
  go_wp2
  refine NoX.normal ?_
  go_wp2
  refine wp_region_text 21 [18] [1, 13, 15] [14] (fun w' => w'.cell? ⟨w.heap.size, 1, none⟩ = some (I64 (s.last - s.first + 1))) (by kernel_rfl) (by kernel_rfl) (by go_simp) ?_
  simp only [List.take_succ_cons, List.take_zero, List.drop_succ_cons, List.drop_zero]
  repeat (first | ((refine wpText_h rfl rfl ?_; apply Exists.intro; refine ⟨?_, ?_⟩; next => (go_simp; (try (go_bits; go_simp)); (first | done | with_reducible rfl | (rw [if_neg (by omega)]; (try (go_bits; go_simp)); (first | done | with_reducible rfl)) | (rw [if_pos (by omega)]; (try (go_bits; go_simp)); (first | done | with_reducible rfl))))); (try simp only [Act.put, List.setIfInBounds_toArray, List.set_cons_zero, List.set_cons_succ])) | ((refine wpText_p rfl rfl ?_; apply Exists.intro; refine ⟨?_, ?_⟩; next => (intro w'; go_simp; (try (go_bits; go_simp)); (first | done | with_reducible rfl | (rw [if_neg (by omega)]; (try (go_bits; go_simp)); (first | done | with_reducible rfl)) | (rw [if_pos (by omega)]; (try (go_bits; go_simp)); (first | done | with_reducible rfl))))); (try simp only [Act.put, List.setIfInBounds_toArray, List.set_cons_zero, List.set_cons_succ])) | ((refine wpText_y rfl rfl ?_; apply Exists.intro; refine ⟨?_, ?_⟩; next => (intro w' hS; (first | obtain ⟨_, rfl⟩ := hS | skip); go_simp; (try (go_bits; go_simp)); (first | done | with_reducible rfl | (rw [if_neg (by omega)]; (try (go_bits; go_simp)); (first | done | with_reducible rfl)) | (rw [if_pos (by omega)]; (try (go_bits; go_simp)); (first | done | with_reducible rfl))))); (try simp only [Act.put, List.setIfInBounds_toArray, List.set_cons_zero, List.set_cons_succ])) | (refine wpText_skip (by first | exact .inl rfl | exact .inr (.inl rfl) | exact .inr (.inr rfl)) rfl ?_; (try simp only [Act.put, List.setIfInBounds_toArray, List.set_cons_zero, List.set_cons_succ])))
  refine wpText_e rfl rfl (fun K hK => ?_)
  go_wp2
  refine hK _ _ (by go_simp) ?_
  clear hK K
  (try simp only [Act.put, List.setIfInBounds_toArray, List.set_cons_zero, List.set_cons_succ])
  repeat (first | ((refine wpText_h rfl rfl ?_; apply Exists.intro; refine ⟨?_, ?_⟩; next => (go_simp; (try (go_bits; go_simp)); (first | done | with_reducible rfl | (rw [if_neg (by omega)]; (try (go_bits; go_simp)); (first | done | with_reducible rfl)) | (rw [if_pos (by omega)]; (try (go_bits; go_simp)); (first | done | with_reducible rfl))))); (try simp only [Act.put, List.setIfInBounds_toArray, List.set_cons_zero, List.set_cons_succ])) | ((refine wpText_p rfl rfl ?_; apply Exists.intro; refine ⟨?_, ?_⟩; next => (intro w'; go_simp; (try (go_bits; go_simp)); (first | done | with_reducible rfl | (rw [if_neg (by omega)]; (try (go_bits; go_simp)); (first | done | with_reducible rfl)) | (rw [if_pos (by omega)]; (try (go_bits; go_simp)); (first | done | with_reducible rfl))))); (try simp only [Act.put, List.setIfInBounds_toArray, List.set_cons_zero, List.set_cons_succ])) | ((refine wpText_y rfl rfl ?_; apply Exists.intro; refine ⟨?_, ?_⟩; next => (intro w' hS; (first | obtain ⟨_, rfl⟩ := hS | skip); go_simp; (try (go_bits; go_simp)); (first | done | with_reducible rfl | (rw [if_neg (by omega)]; (try (go_bits; go_simp)); (first | done | with_reducible rfl)) | (rw [if_pos (by omega)]; (try (go_bits; go_simp)); (first | done | with_reducible rfl))))); (try simp only [Act.put, List.setIfInBounds_toArray, List.set_cons_zero, List.set_cons_succ])) | (refine wpText_skip (by first | exact .inl rfl | exact .inr (.inl rfl) | exact .inr (.inr rfl)) rfl ?_; (try simp only [Act.put, List.setIfInBounds_toArray, List.set_cons_zero, List.set_cons_succ])))
  refine wpText_nil ?_
  go_wp2
  refine NoX.normal ?_
  go_wp2
  refine bodyPost_ret (results_none rfl _ _ _) rfl ?_
  have hE : s.endc = { s with run := false, list := s.list.dropLast ++ [merge L s.item] } := by unfold Srv.endc; rw [if_pos HN.out, HL.out]
  refine ⟨rfl, ?_, ?_⟩
  · rw [hE]
    refine ⟨fr, buf.set ((fr + (s.list.length - 1)) % s.p.N) (merge L s.item), ?_, ?_, ?_, ring.setLast (by rw [HN.out]; exact hpos) _⟩
    · apply Blk.to
      next => repeat (first | with_reducible exact me | (with_reducible refine Blk.newA ?_; simp; done) | with_reducible apply Blk.drew | with_reducible apply Blk.drewN | with_reducible apply Blk.alloc | with_reducible apply Blk.set | (with_reducible apply Blk.far'; next => (first | assumption | exact Ne.symm ‹_› | (dsimp only; omega))))
      have := HN.out
      simp [srvCells, this]
      omega
    · rw [← bufCells_set, HN.out]
      apply Blk.to
      next => repeat (first | with_reducible exact bufb | (with_reducible refine Blk.newA ?_; simp; done) | with_reducible apply Blk.drew | with_reducible apply Blk.drewN | with_reducible apply Blk.alloc | with_reducible apply Blk.set | (with_reducible apply Blk.far'; next => (first | assumption | exact Ne.symm ‹_› | (dsimp only; omega))))
      subst hM
      show _ = ((bufCells buf).set _ _).set _ _
      rfl
    · have hb := box.ne me (by decide)
      have hb' := box.ne bufb (by decide)
      have hlb := box.lt
      repeat (first | with_reducible exact box | (with_reducible refine Blk.newA ?_; simp; done) | with_reducible apply Blk.drew | with_reducible apply Blk.drewN | with_reducible apply Blk.alloc | with_reducible apply Blk.set | (with_reducible apply Blk.far'; next => (first | assumption | exact Ne.symm ‹_› | (dsimp only; omega))))
  · repeat (first | with_reducible exact Only.refl _ _ | with_reducible apply Only.drew | with_reducible apply Only.drewN | with_reducible apply Only.alloc | (with_reducible apply Only.set'; next => (first | (left; simp; done) | (right; dsimp only; omega) | (right; simp; omega))))

set_option maxHeartbeats 400000 in
theorem end_room (b g bs : Nat) (s : Srv) (w : World) (hs : SrvIs w b g bs s) (hf : s.Fit) (hn : s.list.length < s.p.N) :
    Calls Try.prog 26 #[.pointer (some ⟨b, 0, none⟩)] w
      fun e w' => e = .returned (.tuple #[]) ∧ SrvIs w' b g bs s.endc ∧ Only [b, g] w w' := by
  obtain ⟨fr, buf, me, bufb, box, ring⟩ := hs
  obtain ⟨hp1, hp2, hp3, hp4, hp5, hp6, hp7, hp8⟩ := hf.prm
  have hfl := hf.lastb
  have hff := hf.firstb
  have c1 := me.cell (i := 1) rfl
  have c2 := me.cell (i := 2) rfl
  have c5 := me.cell (i := 5) rfl
  have c6 := me.cell (i := 6) rfl
  have c7 := me.cell (i := 7) rfl
  have c8 := me.cell (i := 8) rfl
  have c9 := me.cell (i := 9) rfl
  have c10 := me.cell (i := 10) rfl
  have f10 := me.frozen 10
  have hlt := me.lt
  have hgl := bufb.lt
  have hne : b ≠ g := me.ne bufb (by decide)
  have hne' : g ≠ b := hne.symm
  have hb := box.ne me (by decide)
  have hlb := box.lt
  have hE : s.endc = { ({ s with run := false } : Srv) with list := s.list ++ [s.item] } := by unfold Srv.endc; rw [if_neg (by omega)]
  have HE := hide hE
  clear hE
  have heq : ((s.list.length : Int) == (s.p.N : Int)) = false := by simp; omega
  go_enter Try.func26, Try.ntmps26
  go_wp2
  refine wp_region_text 23 [22] [0, 1, 2, 4, 5, 6, 7, 8, 10, 11, 12, 13, 15, 16, 17, 19, 20, 21] [3, 9, 14, 18] (fun w' => w'.cell? ⟨b, 9, none⟩ = some (I64 s.last) ∧ w'.cell? ⟨b, 1, none⟩ = some (I64 s.p.P) ∧ w'.cell? ⟨b, 8, none⟩ = some (I64 s.first)) (by kernel_rfl) (by kernel_rfl) ⟨c9, c1, c8⟩ ?_
  simp only [List.take_succ_cons, List.take_zero, List.drop_succ_cons, List.drop_zero]
  repeat (first | ((refine wpText_h rfl rfl ?_; apply Exists.intro; refine ⟨?_, ?_⟩; next => (go_simp; (try (go_bits; go_simp)); (first | done | with_reducible rfl | (rw [if_neg (by omega)]; (try (go_bits; go_simp)); (first | done | with_reducible rfl)) | (rw [if_pos (by omega)]; (try (go_bits; go_simp)); (first | done | with_reducible rfl))))); (try simp only [Act.put, List.setIfInBounds_toArray, List.set_cons_zero, List.set_cons_succ])) | ((refine wpText_p rfl rfl ?_; apply Exists.intro; refine ⟨?_, ?_⟩; next => (intro w'; go_simp; (try (go_bits; go_simp)); (first | done | with_reducible rfl | (rw [if_neg (by omega)]; (try (go_bits; go_simp)); (first | done | with_reducible rfl)) | (rw [if_pos (by omega)]; (try (go_bits; go_simp)); (first | done | with_reducible rfl))))); (try simp only [Act.put, List.setIfInBounds_toArray, List.set_cons_zero, List.set_cons_succ])) | ((refine wpText_y rfl rfl ?_; apply Exists.intro; refine ⟨?_, ?_⟩; next => (intro w' hS; (first | obtain ⟨_, rfl⟩ := hS | skip); go_simp; (try (go_bits; go_simp)); (first | done | with_reducible rfl | (rw [if_neg (by omega)]; (try (go_bits; go_simp)); (first | done | with_reducible rfl)) | (rw [if_pos (by omega)]; (try (go_bits; go_simp)); (first | done | with_reducible rfl))))); (try simp only [Act.put, List.setIfInBounds_toArray, List.set_cons_zero, List.set_cons_succ])) | (refine wpText_skip (by first | exact .inl rfl | exact .inr (.inl rfl) | exact .inr (.inr rfl)) rfl ?_; (try simp only [Act.put, List.setIfInBounds_toArray, List.set_cons_zero, List.set_cons_succ])))
  refine wpText_e rfl rfl (fun K hK => ?_)
  go_wp2
  refine hK _ _ ⟨by go_simp, by go_simp, by go_simp⟩ ?_
  clear hK K
  (try simp only [Act.put, List.setIfInBounds_toArray, List.set_cons_zero, List.set_cons_succ])
  repeat (first | ((refine wpText_h rfl rfl ?_; apply Exists.intro; refine ⟨?_, ?_⟩; next => (go_simp; (try (go_bits; go_simp)); (first | done | with_reducible rfl | (rw [if_neg (by omega)]; (try (go_bits; go_simp)); (first | done | with_reducible rfl)) | (rw [if_pos (by omega)]; (try (go_bits; go_simp)); (first | done | with_reducible rfl))))); (try simp only [Act.put, List.setIfInBounds_toArray, List.set_cons_zero, List.set_cons_succ])) | ((refine wpText_p rfl rfl ?_; apply Exists.intro; refine ⟨?_, ?_⟩; next => (intro w'; go_simp; (try (go_bits; go_simp)); (first | done | with_reducible rfl | (rw [if_neg (by omega)]; (try (go_bits; go_simp)); (first | done | with_reducible rfl)) | (rw [if_pos (by omega)]; (try (go_bits; go_simp)); (first | done | with_reducible rfl))))); (try simp only [Act.put, List.setIfInBounds_toArray, List.set_cons_zero, List.set_cons_succ])) | ((refine wpText_y rfl rfl ?_; apply Exists.intro; refine ⟨?_, ?_⟩; next => (intro w' hS; (first | obtain ⟨_, rfl⟩ := hS | skip); go_simp; (try (go_bits; go_simp)); (first | done | with_reducible rfl | (rw [if_neg (by omega)]; (try (go_bits; go_simp)); (first | done | with_reducible rfl)) | (rw [if_pos (by omega)]; (try (go_bits; go_simp)); (first | done | with_reducible rfl))))); (try simp only [Act.put, List.setIfInBounds_toArray, List.set_cons_zero, List.set_cons_succ])) | (refine wpText_skip (by first | exact .inl rfl | exact .inr (.inl rfl) | exact .inr (.inr rfl)) rfl ?_; (try simp only [Act.put, List.setIfInBounds_toArray, List.set_cons_zero, List.set_cons_succ])))
  refine wpText_nil ?_
  go_wp2
  refine NoX.normal ?_
  go_wp2
  refine wp_region_text0 11 [] [] [] (fun _ => True) (by kernel_rfl) (by kernel_rfl) trivial ?_
  repeat (first | ((refine wpText_h rfl rfl ?_; apply Exists.intro; refine ⟨?_, ?_⟩; next => (go_simp; (try (go_bits; go_simp)); (first | done | with_reducible rfl | (rw [if_neg (by omega)]; (try (go_bits; go_simp)); (first | done | with_reducible rfl)) | (rw [if_pos (by omega)]; (try (go_bits; go_simp)); (first | done | with_reducible rfl))))); (try simp only [Act.put, List.setIfInBounds_toArray, List.set_cons_zero, List.set_cons_succ])) | ((refine wpText_p rfl rfl ?_; apply Exists.intro; refine ⟨?_, ?_⟩; next => (intro w'; go_simp; (try (go_bits; go_simp)); (first | done | with_reducible rfl | (rw [if_neg (by omega)]; (try (go_bits; go_simp)); (first | done | with_reducible rfl)) | (rw [if_pos (by omega)]; (try (go_bits; go_simp)); (first | done | with_reducible rfl))))); (try simp only [Act.put, List.setIfInBounds_toArray, List.set_cons_zero, List.set_cons_succ])) | ((refine wpText_y rfl rfl ?_; apply Exists.intro; refine ⟨?_, ?_⟩; next => (intro w' hS; (first | obtain ⟨_, rfl⟩ := hS | skip); go_simp; (try (go_bits; go_simp)); (first | done | with_reducible rfl | (rw [if_neg (by omega)]; (try (go_bits; go_simp)); (first | done | with_reducible rfl)) | (rw [if_pos (by omega)]; (try (go_bits; go_simp)); (first | done | with_reducible rfl))))); (try simp only [Act.put, List.setIfInBounds_toArray, List.set_cons_zero, List.set_cons_succ])) | (refine wpText_skip (by first | exact .inl rfl | exact .inr (.inl rfl) | exact .inr (.inr rfl)) rfl ?_; (try simp only [Act.put, List.setIfInBounds_toArray, List.set_cons_zero, List.set_cons_succ])))
  refine wpText_nil ?_
  go_wp2
  refine wp_region_text 4 [] [] [] (fun _ => True) (by kernel_rfl) (by kernel_rfl) trivial ?_
  simp only [List.take_succ_cons, List.take_zero, List.drop_succ_cons, List.drop_zero]
  repeat (first | ((refine wpText_h rfl rfl ?_; apply Exists.intro; refine ⟨?_, ?_⟩; next => (go_simp; (try (go_bits; go_simp)); (first | done | with_reducible rfl | (rw [if_neg (by omega)]; (try (go_bits; go_simp)); (first | done | with_reducible rfl)) | (rw [if_pos (by omega)]; (try (go_bits; go_simp)); (first | done | with_reducible rfl))))); (try simp only [Act.put, List.setIfInBounds_toArray, List.set_cons_zero, List.set_cons_succ])) | ((refine wpText_p rfl rfl ?_; apply Exists.intro; refine ⟨?_, ?_⟩; next => (intro w'; go_simp; (try (go_bits; go_simp)); (first | done | with_reducible rfl | (rw [if_neg (by omega)]; (try (go_bits; go_simp)); (first | done | with_reducible rfl)) | (rw [if_pos (by omega)]; (try (go_bits; go_simp)); (first | done | with_reducible rfl))))); (try simp only [Act.put, List.setIfInBounds_toArray, List.set_cons_zero, List.set_cons_succ])) | ((refine wpText_y rfl rfl ?_; apply Exists.intro; refine ⟨?_, ?_⟩; next => (intro w' hS; (first | obtain ⟨_, rfl⟩ := hS | skip); go_simp; (try (go_bits; go_simp)); (first | done | with_reducible rfl | (rw [if_neg (by omega)]; (try (go_bits; go_simp)); (first | done | with_reducible rfl)) | (rw [if_pos (by omega)]; (try (go_bits; go_simp)); (first | done | with_reducible rfl))))); (try simp only [Act.put, List.setIfInBounds_toArray, List.set_cons_zero, List.set_cons_succ])) | (refine wpText_skip (by first | exact .inl rfl | exact .inr (.inl rfl) | exact .inr (.inr rfl)) rfl ?_; (try simp only [Act.put, List.setIfInBounds_toArray, List.set_cons_zero, List.set_cons_succ])))
  refine wpText_nil ?_
  go_wp2_with fail
  refine (push_ok b g bs { s with run := false } s.item _ ?_ hn hp6).mono ?_
  · refine ⟨fr, buf, ?_, ?_, ?_, ring⟩
    · apply Blk.to
      next => repeat (first | with_reducible exact me | (with_reducible refine Blk.newA ?_; simp; done) | with_reducible apply Blk.drew | with_reducible apply Blk.drewN | with_reducible apply Blk.alloc | with_reducible apply Blk.set | (with_reducible apply Blk.far'; next => (first | assumption | exact Ne.symm ‹_› | (dsimp only; omega))))
      simp [srvCells]
    · repeat (first | with_reducible exact bufb | (with_reducible refine Blk.newA ?_; simp; done) | with_reducible apply Blk.drew | with_reducible apply Blk.drewN | with_reducible apply Blk.alloc | with_reducible apply Blk.set | (with_reducible apply Blk.far'; next => (first | assumption | exact Ne.symm ‹_› | (dsimp only; omega))))
    · repeat (first | with_reducible exact box | (with_reducible refine Blk.newA ?_; simp; done) | with_reducible apply Blk.drew | with_reducible apply Blk.drewN | with_reducible apply Blk.alloc | with_reducible apply Blk.set | (with_reducible apply Blk.far'; next => (first | assumption | exact Ne.symm ‹_› | (dsimp only; omega))))
  rintro e w1 ⟨rfl, hs1, ho⟩
  go_wp2
  refine NoX.normal ?_
  go_wp2
  go_end0
  rw [HE.out]
  refine ⟨rfl, hs1, Only.trans ?_ ho⟩
  repeat (first | with_reducible exact Only.refl _ _ | with_reducible apply Only.drew | with_reducible apply Only.drewN | with_reducible apply Only.alloc | (with_reducible apply Only.set'; next => (first | (left; simp; done) | (right; dsimp only; omega) | (right; simp; omega))))

end Go.Proofs.Ytdjkgbkckmjfiaa
