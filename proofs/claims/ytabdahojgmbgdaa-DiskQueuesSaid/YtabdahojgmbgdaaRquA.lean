/- The reference's queue: memory, NewQueue, Head, better. -/
import Derived.Test.YtabdahojgmbgdaaServP
namespace Go.Proofs.Ytabdahojgmbgdaa
open Go.RowKit

abbrev rrT : TypeId := 64
abbrev ruT : TypeId := 122
structure RuAt (base : Nat) (w : World) (q : Nat) (v : Value) (Q : Qu) : Prop where
  me : Blk w q ruT [I64 Q.head, .bool Q.down, v]
  row : w.ownsRow base rrT 3 v Q.l.length (Q.l.flatMap Rq.cells)
  ok : QuOk Q
theorem RuAt.keep {base q : Nat} {w w' : World} {v : Value} {Q : Qu} (h : RuAt base w q v Q) (ho : Only [] w w') : RuAt base w' q v Q := ⟨ho.blk h.me (by simp), own_nil h.row ho, h.ok⟩
theorem rrow_cells {base : Nat} {w : World} {v : Value} {l : List Rq} {n : Nat} (h : w.ownsRow base rrT 3 v n (l.flatMap Rq.cells)) {g c : Nat} (hv : v = .slice (some ⟨g, 0, none⟩) n c) {k : Nat} {r : Rq} (hr : l[k]? = some r) :
    w.cell? ⟨g, k * 3, none⟩ = some (I64 r.id) ∧ w.cell? ⟨g, k * 3 + 1, none⟩ = some (I64 r.blk) ∧ w.cell? ⟨g, k * 3 + 2, none⟩ = some (I64 r.dl) := by
  have hg : v.ownBlock = some g := by rw [hv]; rfl
  have hc : ∀ j u, r.cells[j]? = some u → w.cell? ⟨g, k * 3 + j, none⟩ = some u := by
    intro j u hu
    have := h.cells hg (k * 3 + j) u (flat_at (enc := Rq.cells) (sz := 3) l (fun _ _ => rfl) k r j u hr hu)
    rwa [addr_add, Nat.zero_add] at this
  exact ⟨hc 0 _ rfl, hc 1 _ rfl, hc 2 _ rfl⟩

theorem build_rqueue (n : Int) : ∀ w : World, (Instr.build ruT #[(0, I64 n)]).run Try.prog w = .ok (.agg #[I64 n, .bool false, .slice none 0 0]) w := fun _ => by kernel_rfl
theorem rnewq_bad (w : World) (n : Int) (h : n < 0 ∨ 4096 ≤ n) : Calls Try.prog 22 #[I64 n] w fun e w' => e = .returned (.tuple #[.pointer none, I64 34]) ∧ w' = w := by
  by_cases h1 : n < 0
  · go_enter Try.func22, Try.ntmps22
    go_wp2
    go_ret2
    trivial
  · have h2 : 4096 ≤ n := by omega
    go_enter Try.func22, Try.ntmps22
    go_wp2
    go_ret2
    trivial
theorem rnewq_ok (base : Nat) (w : World) (n : Int) (h0 : 0 ≤ n) (h1 : n < 4096) : Calls Try.prog 22 #[I64 n] w fun e w' => e = .returned (.tuple #[.pointer (some ⟨w.heap.size, 0, none⟩), I64 0]) ∧ RuAt base w' w.heap.size (.slice none 0 0) ⟨n, false, []⟩ ∧ Only [] w w' := by
  have hb := build_rqueue n
  go_enter Try.func22, Try.ntmps22
  go_wp2
  go_ret2
  exact ⟨rfl, ⟨Blk.newA (c := #[I64 n, .bool false, .slice none 0 0]) rfl, ⟨by simp, .inl ⟨rfl, rfl⟩⟩, ⟨h0, h1, by simp, by simp, by simp⟩⟩, (Only.refl _ _).alloc _⟩
theorem rhead_ok (base q : Nat) (v : Value) (Q : Qu) (w : World) (h : RuAt base w q v Q) : Calls Try.prog 25 #[.pointer (some ⟨q, 0, none⟩)] w fun e w' => e = .returned (.tuple #[I64 Q.head, .bool (!Q.down)]) ∧ Only [] w w' := by
  have c0 := h.me.cell (i := 0) rfl
  have c1 := h.me.cell (i := 1) rfl
  have lq := h.me.lt
  clear h
  go_enter Try.func25, Try.ntmps25
  go_wp2
  refine wp_region_text0 11 [] [] [] (fun _ => True) (by kernel_rfl) (by kernel_rfl) trivial ?_
  repeat (first | ((refine wpText_h rfl rfl ?_; apply Exists.intro; refine ⟨?_, ?_⟩; next => (go_simp; (try (go_bits; go_simp)); (first | done | with_reducible rfl | (rw [if_neg (by omega)]; (try (go_bits; go_simp)); (first | done | with_reducible rfl)) | (rw [if_pos (by omega)]; (try (go_bits; go_simp)); (first | done | with_reducible rfl))))); (try simp only [Act.put, List.setIfInBounds_toArray, List.set_cons_zero, List.set_cons_succ])) | ((refine wpText_p rfl rfl ?_; apply Exists.intro; refine ⟨?_, ?_⟩; next => (intro w'; go_simp; (try (go_bits; go_simp)); (first | done | with_reducible rfl | (rw [if_neg (by omega)]; (try (go_bits; go_simp)); (first | done | with_reducible rfl)) | (rw [if_pos (by omega)]; (try (go_bits; go_simp)); (first | done | with_reducible rfl))))); (try simp only [Act.put, List.setIfInBounds_toArray, List.set_cons_zero, List.set_cons_succ])) | ((refine wpText_y rfl rfl ?_; apply Exists.intro; refine ⟨?_, ?_⟩; next => (intro w' hS; (first | obtain ⟨_, rfl⟩ := hS | skip); go_simp; (try (go_bits; go_simp)); (first | done | with_reducible rfl | (rw [if_neg (by omega)]; (try (go_bits; go_simp)); (first | done | with_reducible rfl)) | (rw [if_pos (by omega)]; (try (go_bits; go_simp)); (first | done | with_reducible rfl))))); (try simp only [Act.put, List.setIfInBounds_toArray, List.set_cons_zero, List.set_cons_succ])) | (refine wpText_skip (by first | exact .inl rfl | exact .inr (.inl rfl) | exact .inr (.inr rfl)) rfl ?_; (try simp only [Act.put, List.setIfInBounds_toArray, List.set_cons_zero, List.set_cons_succ])))
  refine wpText_nil ?_
  go_wp2
  go_ret2
  exact ⟨rfl, (Only.refl _ _).drew⟩

def bt (head : Int) (down : Bool) (a b : Rq) : Bool := decide (cmpNear head down a b < 0)
theorem bt_eq (head : Int) (down : Bool) (a b : Rq) : bt head down a b = decide (dist head down a < dist head down b ∨ (dist head down a = dist head down b ∧ a.id < b.id)) := by
  unfold bt cmpNear
  exact decide_eq_decide.2 orI_neg
set_option maxRecDepth 20000 in
set_option maxHeartbeats 1000000 in
theorem better_ok (q : Nat) (head : Int) (down : Bool) (v : Value) (a b : Rq) (w : World) (h : Blk w q ruT [I64 head, .bool down, v]) (h0 : 0 ≤ head) (h1 : head < 4096) (ha : a.Ok) (hb : b.Ok) :
    Calls Try.prog 91 #[.pointer (some ⟨q, 0, none⟩), a.V, b.V] w fun e w' => e = .returned (.bool (bt head down a b)) ∧ Only [] w w' := by
  show Calls Try.prog 91 #[.pointer (some ⟨q, 0, none⟩), .agg #[I64 a.id, I64 a.blk, I64 a.dl], .agg #[I64 b.id, I64 b.blk, I64 b.dl]] w _
  have ho : Only [] w ((w.alloc (.cells #[I64 a.id, I64 a.blk, I64 a.dl] rrT)).alloc (.cells #[I64 b.id, I64 b.blk, I64 b.dl] rrT)) := ((Only.refl _ _).alloc _).alloc _
  have c0 := (ho.blk h (by simp)).cell (i := 0) rfl
  have c1 := (ho.blk h (by simp)).cell (i := 1) rfl
  have lq := (ho.blk h (by simp)).lt
  have HB := hide (bt_eq head down a b)
  have a0 := ha.b0
  have a1 := ha.b1
  have b0 := hb.b0
  have b1 := hb.b1
  have HO := hide ho
  clear h ho ha hb
  obtain ⟨ai, ab, ad⟩ := a
  obtain ⟨bi, bb, bd⟩ := b
  dsimp only at *
  cases down with
  | true =>
    rcases Int.lt_trichotomy ab bb with hm | hm | hm
    · have HM := hide hm
      go_enter Try.func91, Try.ntmps91
      go_wp2
      refine wp_region_text0 16 [] [] [] (fun _ => True) (by kernel_rfl) (by kernel_rfl) trivial ?_
      repeat (first | ((refine wpText_h rfl rfl ?_; apply Exists.intro; refine ⟨?_, ?_⟩; next => (go_simp; (try (go_bits; go_simp)); (first | done | with_reducible rfl | (rw [if_neg (by omega)]; (try (go_bits; go_simp)); (first | done | with_reducible rfl)) | (rw [if_pos (by omega)]; (try (go_bits; go_simp)); (first | done | with_reducible rfl))))); (try simp only [Act.put, List.setIfInBounds_toArray, List.set_cons_zero, List.set_cons_succ])) | ((refine wpText_p rfl rfl ?_; apply Exists.intro; refine ⟨?_, ?_⟩; next => (intro w'; go_simp; (try (go_bits; go_simp)); (first | done | with_reducible rfl | (rw [if_neg (by omega)]; (try (go_bits; go_simp)); (first | done | with_reducible rfl)) | (rw [if_pos (by omega)]; (try (go_bits; go_simp)); (first | done | with_reducible rfl))))); (try simp only [Act.put, List.setIfInBounds_toArray, List.set_cons_zero, List.set_cons_succ])) | ((refine wpText_y rfl rfl ?_; apply Exists.intro; refine ⟨?_, ?_⟩; next => (intro w' hS; (first | obtain ⟨_, rfl⟩ := hS | skip); go_simp; (try (go_bits; go_simp)); (first | done | with_reducible rfl | (rw [if_neg (by omega)]; (try (go_bits; go_simp)); (first | done | with_reducible rfl)) | (rw [if_pos (by omega)]; (try (go_bits; go_simp)); (first | done | with_reducible rfl))))); (try simp only [Act.put, List.setIfInBounds_toArray, List.set_cons_zero, List.set_cons_succ])) | (refine wpText_skip (by first | exact .inl rfl | exact .inr (.inl rfl) | exact .inr (.inr rfl)) rfl ?_; (try simp only [Act.put, List.setIfInBounds_toArray, List.set_cons_zero, List.set_cons_succ])))
      refine wpText_nil ?_
      go_wp2
      go_ret
      rw [HB.out]
      refine ⟨?_, HO.out.drew⟩
      have hmm := HM.out
      show Ending.returned (Value.bool _) = Ending.returned (Value.bool _)
      refine congrArg (fun x => Ending.returned (Value.bool x)) ?_
      clear HB HO
      rw [Bool.eq_iff_iff]
      simp [dist] <;> omega
    · subst hm
      have HM : Hid True := hide trivial
      go_enter Try.func91, Try.ntmps91
      go_wp2
      refine wp_region_text0 16 [] [] [] (fun _ => True) (by kernel_rfl) (by kernel_rfl) trivial ?_
      repeat (first | ((refine wpText_h rfl rfl ?_; apply Exists.intro; refine ⟨?_, ?_⟩; next => (go_simp; (try (go_bits; go_simp)); (first | done | with_reducible rfl | (rw [if_neg (by omega)]; (try (go_bits; go_simp)); (first | done | with_reducible rfl)) | (rw [if_pos (by omega)]; (try (go_bits; go_simp)); (first | done | with_reducible rfl))))); (try simp only [Act.put, List.setIfInBounds_toArray, List.set_cons_zero, List.set_cons_succ])) | ((refine wpText_p rfl rfl ?_; apply Exists.intro; refine ⟨?_, ?_⟩; next => (intro w'; go_simp; (try (go_bits; go_simp)); (first | done | with_reducible rfl | (rw [if_neg (by omega)]; (try (go_bits; go_simp)); (first | done | with_reducible rfl)) | (rw [if_pos (by omega)]; (try (go_bits; go_simp)); (first | done | with_reducible rfl))))); (try simp only [Act.put, List.setIfInBounds_toArray, List.set_cons_zero, List.set_cons_succ])) | ((refine wpText_y rfl rfl ?_; apply Exists.intro; refine ⟨?_, ?_⟩; next => (intro w' hS; (first | obtain ⟨_, rfl⟩ := hS | skip); go_simp; (try (go_bits; go_simp)); (first | done | with_reducible rfl | (rw [if_neg (by omega)]; (try (go_bits; go_simp)); (first | done | with_reducible rfl)) | (rw [if_pos (by omega)]; (try (go_bits; go_simp)); (first | done | with_reducible rfl))))); (try simp only [Act.put, List.setIfInBounds_toArray, List.set_cons_zero, List.set_cons_succ])) | (refine wpText_skip (by first | exact .inl rfl | exact .inr (.inl rfl) | exact .inr (.inr rfl)) rfl ?_; (try simp only [Act.put, List.setIfInBounds_toArray, List.set_cons_zero, List.set_cons_succ])))
      refine wpText_nil ?_
      go_wp2
      go_ret
      rw [HB.out]
      refine ⟨?_, HO.out.drew⟩
      have hmm := HM.out
      show Ending.returned (Value.bool _) = Ending.returned (Value.bool _)
      refine congrArg (fun x => Ending.returned (Value.bool x)) ?_
      clear HB HO
      rw [Bool.eq_iff_iff]
      simp [dist] <;> omega
    · have HM := hide hm
      have hn : ¬ ab < bb := by omega
      have hb : ¬ ab = bb := by omega
      go_enter Try.func91, Try.ntmps91
      go_wp2
      refine wp_region_text0 16 [] [] [] (fun _ => True) (by kernel_rfl) (by kernel_rfl) trivial ?_
      repeat (first | ((refine wpText_h rfl rfl ?_; apply Exists.intro; refine ⟨?_, ?_⟩; next => (go_simp; (try (go_bits; go_simp)); (first | done | with_reducible rfl | (rw [if_neg (by omega)]; (try (go_bits; go_simp)); (first | done | with_reducible rfl)) | (rw [if_pos (by omega)]; (try (go_bits; go_simp)); (first | done | with_reducible rfl))))); (try simp only [Act.put, List.setIfInBounds_toArray, List.set_cons_zero, List.set_cons_succ])) | ((refine wpText_p rfl rfl ?_; apply Exists.intro; refine ⟨?_, ?_⟩; next => (intro w'; go_simp; (try (go_bits; go_simp)); (first | done | with_reducible rfl | (rw [if_neg (by omega)]; (try (go_bits; go_simp)); (first | done | with_reducible rfl)) | (rw [if_pos (by omega)]; (try (go_bits; go_simp)); (first | done | with_reducible rfl))))); (try simp only [Act.put, List.setIfInBounds_toArray, List.set_cons_zero, List.set_cons_succ])) | ((refine wpText_y rfl rfl ?_; apply Exists.intro; refine ⟨?_, ?_⟩; next => (intro w' hS; (first | obtain ⟨_, rfl⟩ := hS | skip); go_simp; (try (go_bits; go_simp)); (first | done | with_reducible rfl | (rw [if_neg (by omega)]; (try (go_bits; go_simp)); (first | done | with_reducible rfl)) | (rw [if_pos (by omega)]; (try (go_bits; go_simp)); (first | done | with_reducible rfl))))); (try simp only [Act.put, List.setIfInBounds_toArray, List.set_cons_zero, List.set_cons_succ])) | (refine wpText_skip (by first | exact .inl rfl | exact .inr (.inl rfl) | exact .inr (.inr rfl)) rfl ?_; (try simp only [Act.put, List.setIfInBounds_toArray, List.set_cons_zero, List.set_cons_succ])))
      refine wpText_nil ?_
      go_wp2
      go_ret
      rw [HB.out]
      refine ⟨?_, HO.out.drew⟩
      have hmm := HM.out
      show Ending.returned (Value.bool _) = Ending.returned (Value.bool _)
      refine congrArg (fun x => Ending.returned (Value.bool x)) ?_
      clear HB HO
      rw [Bool.eq_iff_iff]
      simp [dist] <;> omega
  | false =>
    rcases Int.lt_trichotomy ab bb with hm | hm | hm
    · have HM := hide hm
      go_enter Try.func91, Try.ntmps91
      go_wp2
      refine wp_region_text0 16 [] [] [] (fun _ => True) (by kernel_rfl) (by kernel_rfl) trivial ?_
      repeat (first | ((refine wpText_h rfl rfl ?_; apply Exists.intro; refine ⟨?_, ?_⟩; next => (go_simp; (try (go_bits; go_simp)); (first | done | with_reducible rfl | (rw [if_neg (by omega)]; (try (go_bits; go_simp)); (first | done | with_reducible rfl)) | (rw [if_pos (by omega)]; (try (go_bits; go_simp)); (first | done | with_reducible rfl))))); (try simp only [Act.put, List.setIfInBounds_toArray, List.set_cons_zero, List.set_cons_succ])) | ((refine wpText_p rfl rfl ?_; apply Exists.intro; refine ⟨?_, ?_⟩; next => (intro w'; go_simp; (try (go_bits; go_simp)); (first | done | with_reducible rfl | (rw [if_neg (by omega)]; (try (go_bits; go_simp)); (first | done | with_reducible rfl)) | (rw [if_pos (by omega)]; (try (go_bits; go_simp)); (first | done | with_reducible rfl))))); (try simp only [Act.put, List.setIfInBounds_toArray, List.set_cons_zero, List.set_cons_succ])) | ((refine wpText_y rfl rfl ?_; apply Exists.intro; refine ⟨?_, ?_⟩; next => (intro w' hS; (first | obtain ⟨_, rfl⟩ := hS | skip); go_simp; (try (go_bits; go_simp)); (first | done | with_reducible rfl | (rw [if_neg (by omega)]; (try (go_bits; go_simp)); (first | done | with_reducible rfl)) | (rw [if_pos (by omega)]; (try (go_bits; go_simp)); (first | done | with_reducible rfl))))); (try simp only [Act.put, List.setIfInBounds_toArray, List.set_cons_zero, List.set_cons_succ])) | (refine wpText_skip (by first | exact .inl rfl | exact .inr (.inl rfl) | exact .inr (.inr rfl)) rfl ?_; (try simp only [Act.put, List.setIfInBounds_toArray, List.set_cons_zero, List.set_cons_succ])))
      refine wpText_nil ?_
      go_wp2
      go_ret
      rw [HB.out]
      refine ⟨?_, HO.out.drew⟩
      have hmm := HM.out
      show Ending.returned (Value.bool _) = Ending.returned (Value.bool _)
      refine congrArg (fun x => Ending.returned (Value.bool x)) ?_
      clear HB HO
      rw [Bool.eq_iff_iff]
      simp [dist] <;> omega
    · subst hm
      have HM : Hid True := hide trivial
      go_enter Try.func91, Try.ntmps91
      go_wp2
      refine wp_region_text0 16 [] [] [] (fun _ => True) (by kernel_rfl) (by kernel_rfl) trivial ?_
      repeat (first | ((refine wpText_h rfl rfl ?_; apply Exists.intro; refine ⟨?_, ?_⟩; next => (go_simp; (try (go_bits; go_simp)); (first | done | with_reducible rfl | (rw [if_neg (by omega)]; (try (go_bits; go_simp)); (first | done | with_reducible rfl)) | (rw [if_pos (by omega)]; (try (go_bits; go_simp)); (first | done | with_reducible rfl))))); (try simp only [Act.put, List.setIfInBounds_toArray, List.set_cons_zero, List.set_cons_succ])) | ((refine wpText_p rfl rfl ?_; apply Exists.intro; refine ⟨?_, ?_⟩; next => (intro w'; go_simp; (try (go_bits; go_simp)); (first | done | with_reducible rfl | (rw [if_neg (by omega)]; (try (go_bits; go_simp)); (first | done | with_reducible rfl)) | (rw [if_pos (by omega)]; (try (go_bits; go_simp)); (first | done | with_reducible rfl))))); (try simp only [Act.put, List.setIfInBounds_toArray, List.set_cons_zero, List.set_cons_succ])) | ((refine wpText_y rfl rfl ?_; apply Exists.intro; refine ⟨?_, ?_⟩; next => (intro w' hS; (first | obtain ⟨_, rfl⟩ := hS | skip); go_simp; (try (go_bits; go_simp)); (first | done | with_reducible rfl | (rw [if_neg (by omega)]; (try (go_bits; go_simp)); (first | done | with_reducible rfl)) | (rw [if_pos (by omega)]; (try (go_bits; go_simp)); (first | done | with_reducible rfl))))); (try simp only [Act.put, List.setIfInBounds_toArray, List.set_cons_zero, List.set_cons_succ])) | (refine wpText_skip (by first | exact .inl rfl | exact .inr (.inl rfl) | exact .inr (.inr rfl)) rfl ?_; (try simp only [Act.put, List.setIfInBounds_toArray, List.set_cons_zero, List.set_cons_succ])))
      refine wpText_nil ?_
      go_wp2
      go_ret
      rw [HB.out]
      refine ⟨?_, HO.out.drew⟩
      have hmm := HM.out
      show Ending.returned (Value.bool _) = Ending.returned (Value.bool _)
      refine congrArg (fun x => Ending.returned (Value.bool x)) ?_
      clear HB HO
      rw [Bool.eq_iff_iff]
      simp [dist] <;> omega
    · have HM := hide hm
      have hn : ¬ ab < bb := by omega
      have hb : ¬ ab = bb := by omega
      go_enter Try.func91, Try.ntmps91
      go_wp2
      refine wp_region_text0 16 [] [] [] (fun _ => True) (by kernel_rfl) (by kernel_rfl) trivial ?_
      repeat (first | ((refine wpText_h rfl rfl ?_; apply Exists.intro; refine ⟨?_, ?_⟩; next => (go_simp; (try (go_bits; go_simp)); (first | done | with_reducible rfl | (rw [if_neg (by omega)]; (try (go_bits; go_simp)); (first | done | with_reducible rfl)) | (rw [if_pos (by omega)]; (try (go_bits; go_simp)); (first | done | with_reducible rfl))))); (try simp only [Act.put, List.setIfInBounds_toArray, List.set_cons_zero, List.set_cons_succ])) | ((refine wpText_p rfl rfl ?_; apply Exists.intro; refine ⟨?_, ?_⟩; next => (intro w'; go_simp; (try (go_bits; go_simp)); (first | done | with_reducible rfl | (rw [if_neg (by omega)]; (try (go_bits; go_simp)); (first | done | with_reducible rfl)) | (rw [if_pos (by omega)]; (try (go_bits; go_simp)); (first | done | with_reducible rfl))))); (try simp only [Act.put, List.setIfInBounds_toArray, List.set_cons_zero, List.set_cons_succ])) | ((refine wpText_y rfl rfl ?_; apply Exists.intro; refine ⟨?_, ?_⟩; next => (intro w' hS; (first | obtain ⟨_, rfl⟩ := hS | skip); go_simp; (try (go_bits; go_simp)); (first | done | with_reducible rfl | (rw [if_neg (by omega)]; (try (go_bits; go_simp)); (first | done | with_reducible rfl)) | (rw [if_pos (by omega)]; (try (go_bits; go_simp)); (first | done | with_reducible rfl))))); (try simp only [Act.put, List.setIfInBounds_toArray, List.set_cons_zero, List.set_cons_succ])) | (refine wpText_skip (by first | exact .inl rfl | exact .inr (.inl rfl) | exact .inr (.inr rfl)) rfl ?_; (try simp only [Act.put, List.setIfInBounds_toArray, List.set_cons_zero, List.set_cons_succ])))
      refine wpText_nil ?_
      go_wp2
      go_ret
      rw [HB.out]
      refine ⟨?_, HO.out.drew⟩
      have hmm := HM.out
      show Ending.returned (Value.bool _) = Ending.returned (Value.bool _)
      refine congrArg (fun x => Ending.returned (Value.bool x)) ?_
      clear HB HO
      rw [Bool.eq_iff_iff]
      simp [dist] <;> omega

end Go.Proofs.Ytabdahojgmbgdaa
