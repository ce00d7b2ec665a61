/- The queue: NewQueue, Head, Add. -/
import Derived.Test.YtabdahojgmbgdaaQueC
namespace Go.Proofs.Ytabdahojgmbgdaa
open Go.RowKit

theorem build_queue (n : Int) : ∀ w : World, (Instr.build quT #[(0, I64 n)]).run Try.prog w = .ok (.agg #[I64 n, .bool false, .slice none 0 0]) w := fun _ => by kernel_rfl
theorem newq_bad (w : World) (n : Int) (h : n < 0 ∨ 4096 ≤ n) : Calls Try.prog 10 #[I64 n] w fun e w' => e = .returned (.tuple #[.pointer none, I64 34]) ∧ w' = w := by
  by_cases h1 : n < 0
  · go_enter Try.func10, Try.ntmps10
    go_wp2
    go_ret2
    trivial
  · have h2 : 4096 ≤ n := by omega
    go_enter Try.func10, Try.ntmps10
    go_wp2
    go_ret2
    trivial
theorem newq_ok (base : Nat) (w : World) (n : Int) (h0 : 0 ≤ n) (h1 : n < 4096) : Calls Try.prog 10 #[I64 n] w fun e w' => e = .returned (.tuple #[.pointer (some ⟨w.heap.size, 0, none⟩), I64 0]) ∧ QuAt base w' w.heap.size (.slice none 0 0) ⟨n, false, []⟩ ∧ Only [] w w' := by
  have hb := build_queue n
  go_enter Try.func10, Try.ntmps10
  go_wp2
  go_ret2
  exact ⟨rfl, ⟨Blk.newA (c := #[I64 n, .bool false, .slice none 0 0]) rfl, ⟨by simp, .inl ⟨rfl, rfl⟩⟩, ⟨h0, h1, by simp, by simp, by simp⟩⟩, (Only.refl _ _).alloc _⟩

theorem head_ok (base q : Nat) (v : Value) (Q : Qu) (w : World) (h : QuAt base w q v Q) : Calls Try.prog 13 #[.pointer (some ⟨q, 0, none⟩)] w fun e w' => e = .returned (.tuple #[I64 Q.head, .bool (!Q.down)]) ∧ Only [] w w' := by
  have c0 := h.me.cell (i := 0) rfl
  have c1 := h.me.cell (i := 1) rfl
  have lq := h.me.lt
  clear h
  go_enter Try.func13, Try.ntmps13
  go_wp2
  refine wp_region_text0 11 [] [] [] (fun _ => True) (by kernel_rfl) (by kernel_rfl) trivial ?_
  repeat (first | ((refine wpText_h rfl rfl ?_; apply Exists.intro; refine ⟨?_, ?_⟩; next => (go_simp; (try (go_bits; go_simp)); (first | done | with_reducible rfl | (rw [if_neg (by omega)]; (try (go_bits; go_simp)); (first | done | with_reducible rfl)) | (rw [if_pos (by omega)]; (try (go_bits; go_simp)); (first | done | with_reducible rfl))))); (try simp only [Act.put, List.setIfInBounds_toArray, List.set_cons_zero, List.set_cons_succ])) | ((refine wpText_p rfl rfl ?_; apply Exists.intro; refine ⟨?_, ?_⟩; next => (intro w'; go_simp; (try (go_bits; go_simp)); (first | done | with_reducible rfl | (rw [if_neg (by omega)]; (try (go_bits; go_simp)); (first | done | with_reducible rfl)) | (rw [if_pos (by omega)]; (try (go_bits; go_simp)); (first | done | with_reducible rfl))))); (try simp only [Act.put, List.setIfInBounds_toArray, List.set_cons_zero, List.set_cons_succ])) | ((refine wpText_y rfl rfl ?_; apply Exists.intro; refine ⟨?_, ?_⟩; next => (intro w' hS; (first | obtain ⟨_, rfl⟩ := hS | skip); go_simp; (try (go_bits; go_simp)); (first | done | with_reducible rfl | (rw [if_neg (by omega)]; (try (go_bits; go_simp)); (first | done | with_reducible rfl)) | (rw [if_pos (by omega)]; (try (go_bits; go_simp)); (first | done | with_reducible rfl))))); (try simp only [Act.put, List.setIfInBounds_toArray, List.set_cons_zero, List.set_cons_succ])) | (refine wpText_skip (by first | exact .inl rfl | exact .inr (.inl rfl) | exact .inr (.inr rfl)) rfl ?_; (try simp only [Act.put, List.setIfInBounds_toArray, List.set_cons_zero, List.set_cons_succ])))
  refine wpText_nil ?_
  go_wp2
  go_ret2
  exact ⟨rfl, (Only.refl _ _).drew⟩

/-- Add$1. -/
theorem same_ok (x r : Rq) (br : Nat) (w : World) (h : Blk w br rqT r.cells) : Calls Try.prog 43 #[x.V, .pointer (some ⟨br, 0, none⟩)] w fun e w' => e = .returned (.bool (x.id == r.id)) ∧ Only [] w w' := by
  show Calls Try.prog 43 #[.agg #[I64 x.id, I64 x.blk, I64 x.dl], .pointer (some ⟨br, 0, none⟩)] w _
  have ho : Only [] w (w.alloc (.cells #[I64 x.id, I64 x.blk, I64 x.dl] rqT)) := (Only.refl _ _).alloc _
  have c0 := (ho.blk h (by simp)).cell (i := 0) rfl
  have lq := (ho.blk h (by simp)).lt
  have HO := hide ho
  clear h ho
  go_enter Try.func43, Try.ntmps43
  go_wp2
  go_ret
  exact ⟨by simp, HO.out⟩

set_option maxHeartbeats 1000000 in
theorem index_ok (base : Nat) (l : List Rq) (n cap br : Nat) (A : Option Addr) (r : Rq) (w : World) (hrow : w.ownsRow base rqT 3 (.slice A n cap) n (l.flatMap Rq.cells)) (hn : n = l.length) (hm : n ≤ 1000) (hb : Blk w br rqT r.cells) :
    Calls Try.prog 80 #[.slice A n cap, .func (.func 43) #[] #[.pointer (some ⟨br, 0, none⟩)]] w
      fun e w' => ∃ i : Int, e = .returned (I64 i) ∧ decide (0 ≤ i) = l.any (fun x => x.id == r.id) ∧ Only [] w w' := by
  have HR := hide hrow
  have HN := hide hn
  have HB := hide hb
  clear hrow hn hb
  go_enter Try.func80, Try.ntmps80
  go_wp2
  go_loopw [8] (fun i wr => ∃ k : Nat, k ≤ n ∧ i = I64 (k : Nat) ∧ Hid (Only [] w wr ∧ ∀ x ∈ l.take k, (x.id == r.id) = false)) (fun i _ => n - (intOf i).toNat)
  case atStart => exact ⟨0, Nat.zero_le _, rfl, hide ⟨Only.refl _ _, by simp⟩⟩
  case round =>
    obtain ⟨k, hk, rfl, HI⟩ := hrel
    rcases Nat.lt_or_ge k n with hlt | hge
    · obtain ⟨x, hx⟩ : ∃ x, l[k]? = some x := ⟨_, List.getElem?_eq_getElem (by rw [← HN.out]; exact hlt)⟩
      obtain ⟨g, cp, hsl⟩ := own_slice HR.out (by omega)
      obtain rfl : A = some ⟨g, 0, none⟩ := by injection hsl
      obtain ⟨x0, x1, x2⟩ := row_cells (own_nil HR.out HI.out.1) rfl hx
      have HX := hide hx
      have hk0 : ((k : Nat) : Int) < (n : Int) := by omega
      have hsm := hide (same_ok x r br wr (HI.out.1.blk HB.out (by simp)))
      obtain ⟨t, ht⟩ : ∃ t, t = (x.id == r.id) := ⟨_, rfl⟩
      rw [← ht] at hsm
      have HT := hide ht
      clear hx hsl ht
      cases t with
      | true =>
        have hany : Hid (l.any (fun x => x.id == r.id) = true) := hide (List.any_eq_true.2 ⟨x, List.mem_of_getElem? HX.out, HT.out.symm⟩)
        go_wp2_with (go_at_call 43; refine hsm.out.mono ?_; rintro e w1 ⟨rfl, ho⟩; have HO := hide (HI.out.1.trans ho); clear ho)
        go_ret
        exact ⟨(k : Int), rfl, by rw [hany.out]; simp, HO.out⟩
      | false =>
        have hnx : Hid (∀ y ∈ l.take (k + 1), (y.id == r.id) = false) := hide (by
          intro y hy
          rw [List.take_add_one, HX.out] at hy
          rcases List.mem_append.1 hy with h | h
          · exact HI.out.2 y h
          · simp at h; subst h; exact HT.out.symm)
        go_wp2_with (go_at_call 43; refine hsm.out.mono ?_; rintro e w1 ⟨rfl, ho⟩; have HO := hide (HI.out.1.trans ho); clear ho)
        go_roundw
        case rel => exact ⟨k + 1, by omega, by go_num, hide ⟨HO.out, hnx.out⟩⟩
        case measure => simp [intOf]; omega
    · obtain rfl : k = n := by omega
      have hany : Hid (l.any (fun x => x.id == r.id) = false) := hide (by
        rw [List.any_eq_false]
        intro y hy
        have := HI.out.2 y (by rw [HN.out, List.take_length]; exact hy)
        simp [this])
      go_wp2
      go_ret
      exact ⟨-1, rfl, by rw [hany.out]; rfl, HI.out.1⟩

theorem contains_ok (base : Nat) (l : List Rq) (n cap br : Nat) (A : Option Addr) (r : Rq) (w : World) (hrow : w.ownsRow base rqT 3 (.slice A n cap) n (l.flatMap Rq.cells)) (hn : n = l.length) (hm : n ≤ 1000) (hb : Blk w br rqT r.cells) :
    Calls Try.prog 42 #[.slice A n cap, .func (.func 43) #[] #[.pointer (some ⟨br, 0, none⟩)]] w
      fun e w' => e = .returned (.bool (l.any (fun x => x.id == r.id))) ∧ Only [] w w' := by
  have hi := hide (index_ok base l n cap br A r w hrow hn hm hb)
  clear hrow hn hb
  go_enter Try.func42, Try.ntmps42
  go_wp2_with (go_at_call 80; refine hi.out.mono ?_; rintro e w1 ⟨i, rfl, hd, ho⟩; have HD := hide hd; have HO := hide ho; clear hd ho)
  go_ret
  rw [← HD.out]
  exact ⟨by simp, HO.out⟩

end Go.Proofs.Ytabdahojgmbgdaa
