/- The queue: the two closures that ask the distance. -/
import Derived.Test.YtabdahojgmbgdaaQueA
namespace Go.Proofs.Ytabdahojgmbgdaa
open Go.RowKit

theorem cell_only {w w' : World} {p : Addr} {v : Value} (h : w.cell? p = some v) (ho : Only [] w w') : w'.cell? p = some v := by
  rw [World.cell?_of_block (w := w) (ho.block p.block (World.block_lt_of_cell? _ _ h) (by simp))]
  exact h

/-- next$3: ahead. -/
theorem ahead_ok (q bq : Nat) (head : Int) (down : Bool) (v : Value) (r : Rq) (w : World) (h : Blk w q quT [I64 head, .bool down, v]) (hq : w.cell? ⟨bq, 0, none⟩ = some (.pointer (some ⟨q, 0, none⟩))) (h0 : 0 ≤ head) (h1 : head < 4096) (hr : r.Ok) :
    Calls Try.prog 87 #[r.V, .pointer (some ⟨bq, 0, none⟩)] w fun e w' => e = .returned (.bool (decide (0 ≤ dist head down r))) ∧ Only [] w w' := by
  show Calls Try.prog 87 #[.agg #[I64 r.id, I64 r.blk, I64 r.dl], .pointer (some ⟨bq, 0, none⟩)] w _
  have ho : Only [] w (w.alloc (.cells #[I64 r.id, I64 r.blk, I64 r.dl] rqT)) := (Only.refl _ _).alloc _
  have c0 := cell_only hq ho
  have HDD := hide (distance_eq q head down v r _ (ho.blk h (by simp)) h0 h1 hr)
  have HO := hide ho
  obtain ⟨d, hd⟩ : ∃ d, d = dist head down r := ⟨_, rfl⟩
  rw [← hd] at HDD ⊢
  clear h ho hq hr hd
  go_enter Try.func87, Try.ntmps87
  go_wp2_with (go_at_call 88; refine HDD.out.mono ?_; rintro e w1 ⟨rfl, hw1⟩)
  go_ret
  exact ⟨by simp, HO.out.trans hw1⟩

/-- next$4: by distance. -/
def cmpNear (head : Int) (down : Bool) (a b : Rq) : Int := orI (cmpI (dist head down a) (dist head down b)) (cmpI a.id b.id)
set_option maxRecDepth 20000 in
set_option maxHeartbeats 2000000 in
theorem cmpNear_ok (q bq : Nat) (head : Int) (down : Bool) (v : Value) (a b : Rq) (w : World) (h : Blk w q quT [I64 head, .bool down, v]) (hq : w.cell? ⟨bq, 0, none⟩ = some (.pointer (some ⟨q, 0, none⟩))) (h0 : 0 ≤ head) (h1 : head < 4096) (ha : a.Ok) (hb : b.Ok) :
    Calls Try.prog 89 #[a.V, b.V, .pointer (some ⟨bq, 0, none⟩)] w fun e w' => e = .returned (I64 (cmpNear head down a b)) ∧ Only [] w w' := by
  show Calls Try.prog 89 #[.agg #[I64 a.id, I64 a.blk, I64 a.dl], .agg #[I64 b.id, I64 b.blk, I64 b.dl], .pointer (some ⟨bq, 0, none⟩)] w _
  obtain ⟨W1, hW1⟩ : ∃ W1, W1 = (w.alloc (.cells #[I64 a.id, I64 a.blk, I64 a.dl] rqT)).alloc (.cells #[I64 b.id, I64 b.blk, I64 b.dl] rqT) := ⟨_, rfl⟩
  have ho : Only [] w W1 := by rw [hW1]; exact ((Only.refl _ _).alloc _).alloc _
  have hA : Blk W1 w.heap.size rqT [I64 a.id, I64 a.blk, I64 a.dl] := by rw [hW1]; exact (Blk.newA (c := #[I64 a.id, I64 a.blk, I64 a.dl]) rfl).alloc _
  have hB : Blk W1 (w.heap.size + 1) rqT [I64 b.id, I64 b.blk, I64 b.dl] := by rw [hW1]; exact Blk.newA (c := #[I64 b.id, I64 b.blk, I64 b.dl]) (by simp)
  have HD : Hid (∀ (r : Rq) (W : World), r.Ok → Only [] W1 W → Calls Try.prog 88 #[.pointer (some ⟨q, 0, none⟩), .agg #[I64 r.id, I64 r.blk, I64 r.dl]] W fun e w' => e = .returned (I64 (dist head down r)) ∧ Only [] W w') :=
    hide (fun r W hr hW => distance_eq q head down v r W ((ho.trans hW).blk h (by simp)) h0 h1 hr)
  have HS : Hid (∀ W, Only [] W1 W → W.cell? ⟨bq, 0, none⟩ = some (.pointer (some ⟨q, 0, none⟩)) ∧ W.cell? ⟨w.heap.size, 0, none⟩ = some (I64 a.id) ∧ W.cell? ⟨w.heap.size + 1, 0, none⟩ = some (I64 b.id) ∧ W.cell? ⟨w.heap.size + 1, 1, none⟩ = some (I64 b.blk) ∧ W.cell? ⟨w.heap.size + 1, 2, none⟩ = some (I64 b.dl)) :=
    hide (fun W hW => ⟨cell_only hq (ho.trans hW), (hW.blk hA (by simp)).cell (i := 0) rfl, (hW.blk hB (by simp)).cell (i := 0) rfl, (hW.blk hB (by simp)).cell (i := 1) rfl, (hW.blk hB (by simp)).cell (i := 2) rfl⟩)
  have a0 := hA.cell (i := 0) rfl
  have a1 := hA.cell (i := 1) rfl
  have a2 := hA.cell (i := 2) rfl
  have c0 := cell_only hq ho
  have HO := hide ho
  have HW := hide hW1
  have HOK := hide (And.intro ha hb)
  obtain ⟨da, hda⟩ : ∃ da, da = dist head down a := ⟨_, rfl⟩
  obtain ⟨db, hdb⟩ : ∃ db, db = dist head down b := ⟨_, rfl⟩
  have HE : Hid (cmpNear head down a b = orI (cmpI da db) (cmpI a.id b.id)) := hide (by rw [hda, hdb]; rfl)
  have HDA := hide hda
  have HDB := hide hdb
  clear ho hW1 hA hB h hq ha hb hda hdb
  go_enter Try.func89, Try.ntmps89
  go_wp2_with fail
  rw [show (w.alloc (.cells #[I64 a.id, I64 a.blk, I64 a.dl] rqT)).alloc (.cells #[I64 b.id, I64 b.blk, I64 b.dl] rqT) = W1 from HW.out.symm]
  refine wp_region_text 11 [2, 5, 6] [7, 9] [3, 4, 8, 10] (fun W => W.cell? ⟨bq, 0, none⟩ = some (.pointer (some ⟨q, 0, none⟩)) ∧ W.cell? ⟨w.heap.size, 0, none⟩ = some (I64 a.id) ∧ W.cell? ⟨w.heap.size + 1, 0, none⟩ = some (I64 b.id) ∧ W.cell? ⟨w.heap.size + 1, 1, none⟩ = some (I64 b.blk) ∧ W.cell? ⟨w.heap.size + 1, 2, none⟩ = some (I64 b.dl)) (by kernel_rfl) (by kernel_rfl) (HS.out _ (Only.refl _ _).drew) ?_
  simp only [List.take_succ_cons, List.take_zero, List.drop_succ_cons, List.drop_zero]
  repeat (first | ((refine wpText_h rfl rfl ?_; apply Exists.intro; refine ⟨?_, ?_⟩; next => (go_simp; (try (go_bits; go_simp)); (first | done | with_reducible rfl | (rw [if_neg (by omega)]; (try (go_bits; go_simp)); (first | done | with_reducible rfl)) | (rw [if_pos (by omega)]; (try (go_bits; go_simp)); (first | done | with_reducible rfl))))); (try simp only [Act.put, List.setIfInBounds_toArray, List.set_cons_zero, List.set_cons_succ])) | ((refine wpText_p rfl rfl ?_; apply Exists.intro; refine ⟨?_, ?_⟩; next => (intro w'; go_simp; (try (go_bits; go_simp)); (first | done | with_reducible rfl | (rw [if_neg (by omega)]; (try (go_bits; go_simp)); (first | done | with_reducible rfl)) | (rw [if_pos (by omega)]; (try (go_bits; go_simp)); (first | done | with_reducible rfl))))); (try simp only [Act.put, List.setIfInBounds_toArray, List.set_cons_zero, List.set_cons_succ])) | ((refine wpText_y rfl rfl ?_; apply Exists.intro; refine ⟨?_, ?_⟩; next => (intro w' hS; (first | obtain ⟨_, rfl⟩ := hS | skip); go_simp; (try (go_bits; go_simp)); (first | done | with_reducible rfl | (rw [if_neg (by omega)]; (try (go_bits; go_simp)); (first | done | with_reducible rfl)) | (rw [if_pos (by omega)]; (try (go_bits; go_simp)); (first | done | with_reducible rfl))))); (try simp only [Act.put, List.setIfInBounds_toArray, List.set_cons_zero, List.set_cons_succ])) | (refine wpText_skip (by first | exact .inl rfl | exact .inr (.inl rfl) | exact .inr (.inr rfl)) rfl ?_; (try simp only [Act.put, List.setIfInBounds_toArray, List.set_cons_zero, List.set_cons_succ])))
  refine wpText_e rfl rfl (fun K hK => ?_)
  go_wp2_with (go_at_call 88; refine (HD.out a _ HOK.out.1 (Only.refl _ _).drew).mono ?_; rw [← HDA.out]; rintro e w1 ⟨rfl, ho1⟩; have HO1 := hide ((Only.refl [] W1).drew.trans ho1); clear ho1)
  refine hK _ _ (HS.out _ HO1.out) ?_
  clear hK K
  try simp only [Act.put, List.setIfInBounds_toArray, List.set_cons_zero, List.set_cons_succ]
  repeat (first | ((refine wpText_h rfl rfl ?_; apply Exists.intro; refine ⟨?_, ?_⟩; next => (go_simp; (try (go_bits; go_simp)); (first | done | with_reducible rfl | (rw [if_neg (by omega)]; (try (go_bits; go_simp)); (first | done | with_reducible rfl)) | (rw [if_pos (by omega)]; (try (go_bits; go_simp)); (first | done | with_reducible rfl))))); (try simp only [Act.put, List.setIfInBounds_toArray, List.set_cons_zero, List.set_cons_succ])) | ((refine wpText_p rfl rfl ?_; apply Exists.intro; refine ⟨?_, ?_⟩; next => (intro w'; go_simp; (try (go_bits; go_simp)); (first | done | with_reducible rfl | (rw [if_neg (by omega)]; (try (go_bits; go_simp)); (first | done | with_reducible rfl)) | (rw [if_pos (by omega)]; (try (go_bits; go_simp)); (first | done | with_reducible rfl))))); (try simp only [Act.put, List.setIfInBounds_toArray, List.set_cons_zero, List.set_cons_succ])) | ((refine wpText_y rfl rfl ?_; apply Exists.intro; refine ⟨?_, ?_⟩; next => (intro w' hS; (first | obtain ⟨_, rfl⟩ := hS | skip); go_simp; (try (go_bits; go_simp)); (first | done | with_reducible rfl | (rw [if_neg (by omega)]; (try (go_bits; go_simp)); (first | done | with_reducible rfl)) | (rw [if_pos (by omega)]; (try (go_bits; go_simp)); (first | done | with_reducible rfl))))); (try simp only [Act.put, List.setIfInBounds_toArray, List.set_cons_zero, List.set_cons_succ])) | (refine wpText_skip (by first | exact .inl rfl | exact .inr (.inl rfl) | exact .inr (.inr rfl)) rfl ?_; (try simp only [Act.put, List.setIfInBounds_toArray, List.set_cons_zero, List.set_cons_succ])))
  refine wpText_e rfl rfl (fun K hK => ?_)
  go_wp2_with (go_at_call 88; refine (HD.out b _ HOK.out.2 HO1.out).mono ?_; rw [← HDB.out]; rintro e w2 ⟨rfl, ho2⟩; have HO2 := hide (HO1.out.trans ho2); clear ho2)
  refine hK _ _ (HS.out _ HO2.out) ?_
  clear hK K
  try simp only [Act.put, List.setIfInBounds_toArray, List.set_cons_zero, List.set_cons_succ]
  repeat (first | ((refine wpText_h rfl rfl ?_; apply Exists.intro; refine ⟨?_, ?_⟩; next => (go_simp; (try (go_bits; go_simp)); (first | done | with_reducible rfl | (rw [if_neg (by omega)]; (try (go_bits; go_simp)); (first | done | with_reducible rfl)) | (rw [if_pos (by omega)]; (try (go_bits; go_simp)); (first | done | with_reducible rfl))))); (try simp only [Act.put, List.setIfInBounds_toArray, List.set_cons_zero, List.set_cons_succ])) | ((refine wpText_p rfl rfl ?_; apply Exists.intro; refine ⟨?_, ?_⟩; next => (intro w'; go_simp; (try (go_bits; go_simp)); (first | done | with_reducible rfl | (rw [if_neg (by omega)]; (try (go_bits; go_simp)); (first | done | with_reducible rfl)) | (rw [if_pos (by omega)]; (try (go_bits; go_simp)); (first | done | with_reducible rfl))))); (try simp only [Act.put, List.setIfInBounds_toArray, List.set_cons_zero, List.set_cons_succ])) | ((refine wpText_y rfl rfl ?_; apply Exists.intro; refine ⟨?_, ?_⟩; next => (intro w' hS; (first | obtain ⟨_, rfl⟩ := hS | skip); go_simp; (try (go_bits; go_simp)); (first | done | with_reducible rfl | (rw [if_neg (by omega)]; (try (go_bits; go_simp)); (first | done | with_reducible rfl)) | (rw [if_pos (by omega)]; (try (go_bits; go_simp)); (first | done | with_reducible rfl))))); (try simp only [Act.put, List.setIfInBounds_toArray, List.set_cons_zero, List.set_cons_succ])) | (refine wpText_skip (by first | exact .inl rfl | exact .inr (.inl rfl) | exact .inr (.inr rfl)) rfl ?_; (try simp only [Act.put, List.setIfInBounds_toArray, List.set_cons_zero, List.set_cons_succ])))
  refine wpText_e rfl rfl (fun K hK => ?_)
  go_wp2_with (go_at_call 86; refine (cmp_ok da db _).mono ?_; rintro e w3 ⟨rfl, rfl⟩)
  refine hK _ _ (HS.out _ HO2.out) ?_
  clear hK K
  try simp only [Act.put, List.setIfInBounds_toArray, List.set_cons_zero, List.set_cons_succ]
  repeat (first | ((refine wpText_h rfl rfl ?_; apply Exists.intro; refine ⟨?_, ?_⟩; next => (go_simp; (try (go_bits; go_simp)); (first | done | with_reducible rfl | (rw [if_neg (by omega)]; (try (go_bits; go_simp)); (first | done | with_reducible rfl)) | (rw [if_pos (by omega)]; (try (go_bits; go_simp)); (first | done | with_reducible rfl))))); (try simp only [Act.put, List.setIfInBounds_toArray, List.set_cons_zero, List.set_cons_succ])) | ((refine wpText_p rfl rfl ?_; apply Exists.intro; refine ⟨?_, ?_⟩; next => (intro w'; go_simp; (try (go_bits; go_simp)); (first | done | with_reducible rfl | (rw [if_neg (by omega)]; (try (go_bits; go_simp)); (first | done | with_reducible rfl)) | (rw [if_pos (by omega)]; (try (go_bits; go_simp)); (first | done | with_reducible rfl))))); (try simp only [Act.put, List.setIfInBounds_toArray, List.set_cons_zero, List.set_cons_succ])) | ((refine wpText_y rfl rfl ?_; apply Exists.intro; refine ⟨?_, ?_⟩; next => (intro w' hS; (first | obtain ⟨_, rfl⟩ := hS | skip); go_simp; (try (go_bits; go_simp)); (first | done | with_reducible rfl | (rw [if_neg (by omega)]; (try (go_bits; go_simp)); (first | done | with_reducible rfl)) | (rw [if_pos (by omega)]; (try (go_bits; go_simp)); (first | done | with_reducible rfl))))); (try simp only [Act.put, List.setIfInBounds_toArray, List.set_cons_zero, List.set_cons_succ])) | (refine wpText_skip (by first | exact .inl rfl | exact .inr (.inl rfl) | exact .inr (.inr rfl)) rfl ?_; (try simp only [Act.put, List.setIfInBounds_toArray, List.set_cons_zero, List.set_cons_succ])))
  refine wpText_nil ?_
  obtain ⟨x, hx⟩ : ∃ x, x = cmpI da db := ⟨_, rfl⟩
  obtain ⟨y, hy⟩ : ∃ y, y = cmpI a.id b.id := ⟨_, rfl⟩
  rw [← hx, ← hy] at HE
  rw [← hx]
  have hci := hide (cmp_ok a.id b.id w3)
  rw [← hy] at hci
  have hor := hide (or_ok w3.heap.size 0 2 x y (w3.alloc (.cells #[I64 x, I64 y] 3)) ((Blk.newA (c := #[I64 x, I64 y]) (by simp) : Blk _ _ _ _).cell (i := 0) rfl) ((Blk.newA (c := #[I64 x, I64 y]) (by simp) : Blk _ _ _ _).cell (i := 1) rfl))
  clear hx hy
  go_wp2_with (first
    | (go_at_call 86; refine hci.out.mono ?_; rintro e w4 ⟨rfl, rfl⟩)
    | (go_at_call 84; refine hor.out.mono ?_; rintro e w5 ⟨rfl, rfl⟩))
  refine NoX.normal ?_
  go_wp2
  go_ret
  rw [HE.out]
  exact ⟨rfl, (HO.out.trans HO2.out).alloc _⟩

end Go.Proofs.Ytabdahojgmbgdaa
