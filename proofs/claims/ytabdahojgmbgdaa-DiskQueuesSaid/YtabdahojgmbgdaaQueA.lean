/- The queue: requests, comparisons, the closures of next. -/
import Derived.Test.YtabdahojgmbgdaaDisk
import Derived.Test.YtabdahojgmbgdaaBig
import Derived.Test.YtabdahojgmbgdaaClear
import Derived.Deep.DeepCutAuto
import Derived.Deep.CutBlock
namespace Go.Proofs.Ytabdahojgmbgdaa
open Go.RowKit

/-- cmp.Compare. -/
def cmpI (x y : Int) : Int := if x < y then -1 else if y < x then 1 else 0
set_option maxHeartbeats 1000000 in
theorem cmp_ok (x y : Int) (w : World) : Calls Try.prog 86 #[I64 x, I64 y] w fun e w' => e = .returned (I64 (cmpI x y)) ∧ w' = w := by
  by_cases h1 : x < y
  · have hR : Hid (cmpI x y = -1) := hide (by unfold cmpI; rw [if_pos h1])
    go_enter Try.func86, Try.ntmps86
    go_wp2
    go_ret
    rw [hR.out]; exact ⟨rfl, rfl⟩
  · by_cases h2 : y < x
    · have hR : Hid (cmpI x y = 1) := hide (by unfold cmpI; rw [if_neg h1, if_pos h2])
      go_enter Try.func86, Try.ntmps86
      go_wp2
      go_ret
      rw [hR.out]; exact ⟨rfl, rfl⟩
    · have hR : Hid (cmpI x y = 0) := hide (by unfold cmpI; rw [if_neg h1, if_neg h2])
      go_enter Try.func86, Try.ntmps86
      go_wp2
      go_ret
      rw [hR.out]; exact ⟨rfl, rfl⟩

set_option maxHeartbeats 1000000 in
theorem cmp64_ok (x y : Int) (w : World) : Calls Try.prog 85 #[I64 x, I64 y] w fun e w' => e = .returned (I64 (cmpI x y)) ∧ w' = w := by
  by_cases h1 : x < y
  · have hR : Hid (cmpI x y = -1) := hide (by unfold cmpI; rw [if_pos h1])
    go_enter Try.func85, Try.ntmps85
    go_wp2
    go_ret
    rw [hR.out]; exact ⟨rfl, rfl⟩
  · by_cases h2 : y < x
    · have hR : Hid (cmpI x y = 1) := hide (by unfold cmpI; rw [if_neg h1, if_pos h2])
      go_enter Try.func85, Try.ntmps85
      go_wp2
      go_ret
      rw [hR.out]; exact ⟨rfl, rfl⟩
    · have hR : Hid (cmpI x y = 0) := hide (by unfold cmpI; rw [if_neg h1, if_neg h2])
      go_enter Try.func85, Try.ntmps85
      go_wp2
      go_ret
      rw [hR.out]; exact ⟨rfl, rfl⟩

def orI (x y : Int) : Int := if x = 0 then y else x
set_option maxHeartbeats 1000000 in
theorem or_ok (b o c : Nat) (x y : Int) (w : World) (h0 : w.cell? ⟨b, o, none⟩ = some (I64 x)) (h1 : w.cell? ⟨b, o + 1, none⟩ = some (I64 y)) : Calls Try.prog 84 #[.slice (some ⟨b, o, none⟩) 2 c] w fun e w' => e = .returned (I64 (orI x y)) ∧ w' = w := by
  by_cases d0 : x = 0
  · have hR : Hid (orI x y = y) := hide (by unfold orI; rw [if_pos d0])
    subst d0
    by_cases d1 : y = 0
    · subst d1
      go_enter Try.func84, Try.ntmps84
      go_wp2
      refine wp_loop_rounds 3 ?_
      rw [rounds_succ]
      go_wp2
      rw [rounds_succ]
      go_wp2
      rw [rounds_succ]
      go_wp2
      go_ret
      rw [hR.out]; exact ⟨rfl, rfl⟩
    · have d1' : (y != 0) = true := by simp [d1]
      go_enter Try.func84, Try.ntmps84
      go_wp2
      refine wp_loop_rounds 3 ?_
      rw [rounds_succ]
      go_wp2
      rw [rounds_succ]
      go_wp2
      go_ret
      rw [hR.out]; exact ⟨rfl, rfl⟩
  · have hR : Hid (orI x y = x) := hide (by unfold orI; rw [if_neg d0])
    have d0' : (x != 0) = true := by simp [d0]
    go_enter Try.func84, Try.ntmps84
    go_wp2
    refine wp_loop_rounds 3 ?_
    rw [rounds_succ]
    go_wp2
    go_ret
    rw [hR.out]; exact ⟨rfl, rfl⟩


/-- A request. -/
structure Rq where
  id : Int
  blk : Int
  dl : Int
deriving DecidableEq
abbrev rqT : TypeId := 31
abbrev quT : TypeId := 101
def Rq.cells (r : Rq) : List Value := [I64 r.id, I64 r.blk, I64 r.dl]
abbrev Rq.V (r : Rq) : Value := .agg #[I64 r.id, I64 r.blk, I64 r.dl]
theorem rq_len (r : Rq) : r.cells.length = 3 := rfl
structure Rq.Ok (r : Rq) : Prop where
  b0 : 0 ≤ r.blk
  b1 : r.blk < 4096
  d0 : 0 ≤ r.dl
  d1 : r.dl ≤ 1099511627776

/-- How far a request lies ahead. -/
def dist (head : Int) (down : Bool) (r : Rq) : Int := if down then head - r.blk else r.blk - head
theorem distance_eq (q : Nat) (head : Int) (down : Bool) (v : Value) (r : Rq) (w : World) (h : Blk w q quT [I64 head, .bool down, v]) (h0 : 0 ≤ head) (h1 : head < 4096) (hr : r.Ok) :
    Calls Try.prog 88 #[.pointer (some ⟨q, 0, none⟩), r.V] w fun e w' => e = .returned (I64 (dist head down r)) ∧ Only [] w w' := by
  show Calls Try.prog 88 #[.pointer (some ⟨q, 0, none⟩), .agg #[I64 r.id, I64 r.blk, I64 r.dl]] w _
  have ho : Only [] w (w.alloc (.cells #[I64 r.id, I64 r.blk, I64 r.dl] rqT)) := (Only.refl _ _).alloc _
  have c0 := (h.alloc (.cells #[I64 r.id, I64 r.blk, I64 r.dl] rqT)).cell (i := 0) rfl
  have c1 := (h.alloc (.cells #[I64 r.id, I64 r.blk, I64 r.dl] rqT)).cell (i := 1) rfl
  have lq := (h.alloc (.cells #[I64 r.id, I64 r.blk, I64 r.dl] rqT)).lt
  have hb := hr.b0
  have hb1 := hr.b1
  have HO := hide ho
  clear h ho hr
  cases down with
  | true =>
    have HD : Hid (dist head true r = head - r.blk) := hide rfl
    go_enter Try.func88, Try.ntmps88
    go_wp2
    refine wp_region_text0 8 [] [] [] (fun _ => True) (by kernel_rfl) (by kernel_rfl) trivial ?_
    repeat (first | ((refine wpText_h rfl rfl ?_; apply Exists.intro; refine ⟨?_, ?_⟩; next => (go_simp; (try (go_bits; go_simp)); (first | done | with_reducible rfl | (rw [if_neg (by omega)]; (try (go_bits; go_simp)); (first | done | with_reducible rfl)) | (rw [if_pos (by omega)]; (try (go_bits; go_simp)); (first | done | with_reducible rfl))))); (try simp only [Act.put, List.setIfInBounds_toArray, List.set_cons_zero, List.set_cons_succ])) | ((refine wpText_p rfl rfl ?_; apply Exists.intro; refine ⟨?_, ?_⟩; next => (intro w'; go_simp; (try (go_bits; go_simp)); (first | done | with_reducible rfl | (rw [if_neg (by omega)]; (try (go_bits; go_simp)); (first | done | with_reducible rfl)) | (rw [if_pos (by omega)]; (try (go_bits; go_simp)); (first | done | with_reducible rfl))))); (try simp only [Act.put, List.setIfInBounds_toArray, List.set_cons_zero, List.set_cons_succ])) | ((refine wpText_y rfl rfl ?_; apply Exists.intro; refine ⟨?_, ?_⟩; next => (intro w' hS; (first | obtain ⟨_, rfl⟩ := hS | skip); go_simp; (try (go_bits; go_simp)); (first | done | with_reducible rfl | (rw [if_neg (by omega)]; (try (go_bits; go_simp)); (first | done | with_reducible rfl)) | (rw [if_pos (by omega)]; (try (go_bits; go_simp)); (first | done | with_reducible rfl))))); (try simp only [Act.put, List.setIfInBounds_toArray, List.set_cons_zero, List.set_cons_succ])) | (refine wpText_skip (by first | exact .inl rfl | exact .inr (.inl rfl) | exact .inr (.inr rfl)) rfl ?_; (try simp only [Act.put, List.setIfInBounds_toArray, List.set_cons_zero, List.set_cons_succ])))
    refine wpText_nil ?_
    go_wp2
    go_ret
    rw [HD.out]
    exact ⟨by go_num, HO.out.drew⟩
  | false =>
    have HD : Hid (dist head false r = r.blk - head) := hide rfl
    go_enter Try.func88, Try.ntmps88
    go_wp2
    refine wp_region_text0 8 [] [] [] (fun _ => True) (by kernel_rfl) (by kernel_rfl) trivial ?_
    repeat (first | ((refine wpText_h rfl rfl ?_; apply Exists.intro; refine ⟨?_, ?_⟩; next => (go_simp; (try (go_bits; go_simp)); (first | done | with_reducible rfl | (rw [if_neg (by omega)]; (try (go_bits; go_simp)); (first | done | with_reducible rfl)) | (rw [if_pos (by omega)]; (try (go_bits; go_simp)); (first | done | with_reducible rfl))))); (try simp only [Act.put, List.setIfInBounds_toArray, List.set_cons_zero, List.set_cons_succ])) | ((refine wpText_p rfl rfl ?_; apply Exists.intro; refine ⟨?_, ?_⟩; next => (intro w'; go_simp; (try (go_bits; go_simp)); (first | done | with_reducible rfl | (rw [if_neg (by omega)]; (try (go_bits; go_simp)); (first | done | with_reducible rfl)) | (rw [if_pos (by omega)]; (try (go_bits; go_simp)); (first | done | with_reducible rfl))))); (try simp only [Act.put, List.setIfInBounds_toArray, List.set_cons_zero, List.set_cons_succ])) | ((refine wpText_y rfl rfl ?_; apply Exists.intro; refine ⟨?_, ?_⟩; next => (intro w' hS; (first | obtain ⟨_, rfl⟩ := hS | skip); go_simp; (try (go_bits; go_simp)); (first | done | with_reducible rfl | (rw [if_neg (by omega)]; (try (go_bits; go_simp)); (first | done | with_reducible rfl)) | (rw [if_pos (by omega)]; (try (go_bits; go_simp)); (first | done | with_reducible rfl))))); (try simp only [Act.put, List.setIfInBounds_toArray, List.set_cons_zero, List.set_cons_succ])) | (refine wpText_skip (by first | exact .inl rfl | exact .inr (.inl rfl) | exact .inr (.inr rfl)) rfl ?_; (try simp only [Act.put, List.setIfInBounds_toArray, List.set_cons_zero, List.set_cons_succ])))
    refine wpText_nil ?_
    go_wp2
    go_ret
    rw [HD.out]
    exact ⟨by go_num, HO.out.drew⟩

/-- next$1: due. -/
theorem due_ok (r : Rq) (now : Int) (bn : Nat) (w : World) (h : w.cell? ⟨bn, 0, none⟩ = some (I64 now)) :
    Calls Try.prog 82 #[r.V, .pointer (some ⟨bn, 0, none⟩)] w fun e w' => e = .returned (.bool (decide (r.dl ≤ now))) ∧ Only [] w w' := by
  show Calls Try.prog 82 #[.agg #[I64 r.id, I64 r.blk, I64 r.dl], .pointer (some ⟨bn, 0, none⟩)] w _
  have ho : Only [] w (w.alloc (.cells #[I64 r.id, I64 r.blk, I64 r.dl] rqT)) := (Only.refl _ _).alloc _
  have c0 : (w.alloc (.cells #[I64 r.id, I64 r.blk, I64 r.dl] rqT)).cell? ⟨bn, 0, none⟩ = some (I64 now) := by
    rw [World.cell?_of_block (w := w) (ho.block bn (World.block_lt_of_cell? _ _ h) (by simp))]; exact h
  have HO := hide ho
  clear h ho
  go_enter Try.func82, Try.ntmps82
  go_wp2
  go_ret
  exact ⟨by simp, HO.out⟩

/-- next$2: by deadline. -/
def cmpDue (a b : Rq) : Int := orI (cmpI a.dl b.dl) (cmpI a.id b.id)
set_option maxRecDepth 20000 in
set_option maxHeartbeats 1000000 in
theorem cmpDue_ok (a b : Rq) (w : World) : Calls Try.prog 83 #[a.V, b.V] w fun e w' => e = .returned (I64 (cmpDue a b)) ∧ Only [] w w' := by
  show Calls Try.prog 83 #[.agg #[I64 a.id, I64 a.blk, I64 a.dl], .agg #[I64 b.id, I64 b.blk, I64 b.dl]] w _
  obtain ⟨W1, hW1⟩ : ∃ W1, W1 = (w.alloc (.cells #[I64 a.id, I64 a.blk, I64 a.dl] rqT)).alloc (.cells #[I64 b.id, I64 b.blk, I64 b.dl] rqT) := ⟨_, rfl⟩
  have ho : Only [] w W1 := by rw [hW1]; exact ((Only.refl _ _).alloc _).alloc _
  have ha : Blk W1 w.heap.size rqT [I64 a.id, I64 a.blk, I64 a.dl] := by rw [hW1]; exact (Blk.newA (c := #[I64 a.id, I64 a.blk, I64 a.dl]) rfl).alloc _
  have hb : Blk W1 (w.heap.size + 1) rqT [I64 b.id, I64 b.blk, I64 b.dl] := by rw [hW1]; exact Blk.newA (c := #[I64 b.id, I64 b.blk, I64 b.dl]) (by simp)
  have a0 := ha.cell (i := 0) rfl
  have a2 := ha.cell (i := 2) rfl
  have b0 := hb.cell (i := 0) rfl
  have b2 := hb.cell (i := 2) rfl
  have la := ha.lt
  have lb := hb.lt
  have HO := hide ho
  have HW := hide hW1
  have h64 := hide (cmp64_ok a.dl b.dl W1.drew)
  have hci := hide (cmp_ok a.id b.id W1.drew)
  have hor := hide (or_ok W1.heap.size 0 2 (cmpI a.dl b.dl) (cmpI a.id b.id) (W1.drew.alloc (.cells #[I64 (cmpI a.dl b.dl), I64 (cmpI a.id b.id)] 3)) ((Blk.newA (c := #[I64 (cmpI a.dl b.dl), I64 (cmpI a.id b.id)]) (by simp) : Blk _ _ _ _).cell (i := 0) rfl) ((Blk.newA (c := #[I64 (cmpI a.dl b.dl), I64 (cmpI a.id b.id)]) (by simp) : Blk _ _ _ _).cell (i := 1) rfl))
  clear ho hW1 ha hb
  go_enter Try.func83, Try.ntmps83
  go_wp2_with fail
  rw [show (w.alloc (.cells #[I64 a.id, I64 a.blk, I64 a.dl] rqT)).alloc (.cells #[I64 b.id, I64 b.blk, I64 b.dl] rqT) = W1 from HW.out.symm]
  refine wp_region_text 9 [4] [5, 7] [6, 8] (fun w' => w'.cell? ⟨w.heap.size, 0, none⟩ = some (I64 a.id) ∧ w'.cell? ⟨w.heap.size + 1, 0, none⟩ = some (I64 b.id)) (by kernel_rfl) (by kernel_rfl) ⟨a0, b0⟩ ?_
  simp only [List.take_succ_cons, List.take_zero, List.drop_succ_cons, List.drop_zero]
  repeat (first | ((refine wpText_h rfl rfl ?_; apply Exists.intro; refine ⟨?_, ?_⟩; next => (go_simp; (try (go_bits; go_simp)); (first | done | with_reducible rfl | (rw [if_neg (by omega)]; (try (go_bits; go_simp)); (first | done | with_reducible rfl)) | (rw [if_pos (by omega)]; (try (go_bits; go_simp)); (first | done | with_reducible rfl))))); (try simp only [Act.put, List.setIfInBounds_toArray, List.set_cons_zero, List.set_cons_succ])) | ((refine wpText_p rfl rfl ?_; apply Exists.intro; refine ⟨?_, ?_⟩; next => (intro w'; go_simp; (try (go_bits; go_simp)); (first | done | with_reducible rfl | (rw [if_neg (by omega)]; (try (go_bits; go_simp)); (first | done | with_reducible rfl)) | (rw [if_pos (by omega)]; (try (go_bits; go_simp)); (first | done | with_reducible rfl))))); (try simp only [Act.put, List.setIfInBounds_toArray, List.set_cons_zero, List.set_cons_succ])) | ((refine wpText_y rfl rfl ?_; apply Exists.intro; refine ⟨?_, ?_⟩; next => (intro w' hS; (first | obtain ⟨_, rfl⟩ := hS | skip); go_simp; (try (go_bits; go_simp)); (first | done | with_reducible rfl | (rw [if_neg (by omega)]; (try (go_bits; go_simp)); (first | done | with_reducible rfl)) | (rw [if_pos (by omega)]; (try (go_bits; go_simp)); (first | done | with_reducible rfl))))); (try simp only [Act.put, List.setIfInBounds_toArray, List.set_cons_zero, List.set_cons_succ])) | (refine wpText_skip (by first | exact .inl rfl | exact .inr (.inl rfl) | exact .inr (.inr rfl)) rfl ?_; (try simp only [Act.put, List.setIfInBounds_toArray, List.set_cons_zero, List.set_cons_succ])))
  refine wpText_e rfl rfl (fun K hK => ?_)
  go_wp2_with (go_at_call 85; refine h64.out.mono ?_; rintro e w1 ⟨rfl, rfl⟩)
  refine hK _ _ ⟨a0, b0⟩ ?_
  clear hK K
  try simp only [Act.put, List.setIfInBounds_toArray, List.set_cons_zero, List.set_cons_succ]
  repeat (first | ((refine wpText_h rfl rfl ?_; apply Exists.intro; refine ⟨?_, ?_⟩; next => (go_simp; (try (go_bits; go_simp)); (first | done | with_reducible rfl | (rw [if_neg (by omega)]; (try (go_bits; go_simp)); (first | done | with_reducible rfl)) | (rw [if_pos (by omega)]; (try (go_bits; go_simp)); (first | done | with_reducible rfl))))); (try simp only [Act.put, List.setIfInBounds_toArray, List.set_cons_zero, List.set_cons_succ])) | ((refine wpText_p rfl rfl ?_; apply Exists.intro; refine ⟨?_, ?_⟩; next => (intro w'; go_simp; (try (go_bits; go_simp)); (first | done | with_reducible rfl | (rw [if_neg (by omega)]; (try (go_bits; go_simp)); (first | done | with_reducible rfl)) | (rw [if_pos (by omega)]; (try (go_bits; go_simp)); (first | done | with_reducible rfl))))); (try simp only [Act.put, List.setIfInBounds_toArray, List.set_cons_zero, List.set_cons_succ])) | ((refine wpText_y rfl rfl ?_; apply Exists.intro; refine ⟨?_, ?_⟩; next => (intro w' hS; (first | obtain ⟨_, rfl⟩ := hS | skip); go_simp; (try (go_bits; go_simp)); (first | done | with_reducible rfl | (rw [if_neg (by omega)]; (try (go_bits; go_simp)); (first | done | with_reducible rfl)) | (rw [if_pos (by omega)]; (try (go_bits; go_simp)); (first | done | with_reducible rfl))))); (try simp only [Act.put, List.setIfInBounds_toArray, List.set_cons_zero, List.set_cons_succ])) | (refine wpText_skip (by first | exact .inl rfl | exact .inr (.inl rfl) | exact .inr (.inr rfl)) rfl ?_; (try simp only [Act.put, List.setIfInBounds_toArray, List.set_cons_zero, List.set_cons_succ])))
  refine wpText_nil ?_
  go_wp2_with (first
    | (go_at_call 86; refine hci.out.mono ?_; rintro e w2 ⟨rfl, rfl⟩)
    | (go_at_call 84; refine hor.out.mono ?_; rintro e w3 ⟨rfl, rfl⟩))
  refine NoX.normal ?_
  go_wp2
  go_ret
  exact ⟨rfl, HO.out.drew.alloc _⟩

end Go.Proofs.Ytabdahojgmbgdaa
