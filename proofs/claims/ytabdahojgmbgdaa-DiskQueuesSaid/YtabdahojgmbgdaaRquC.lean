/- The reference's queue: Next. -/
import Derived.Test.YtabdahojgmbgdaaRquB
import Derived.Test.YtabdahojgmbgdaaQueH
namespace Go.Proofs.Ytabdahojgmbgdaa
open Go.RowKit

theorem load_rr {w : World} {b : Nat} {r : Rq} (h : Blk w b rrT r.cells) : (loadVar rrT ⟨b, 0, none⟩).run Try.prog w = .ok r.V w :=
  run_loadVar_cells w b 0 _ r.cells (d := _) (fun j v hv => by rw [Nat.zero_add]; exact h.cell hv) Try.underlying64 rfl (by kernel_rfl)
theorem rr_info : (Try.prog.info? rrT).map (fun i => (i.zero, i.size, i.bytes)) = some (some (.agg #[I64 0, I64 0, I64 0]), 3, 24) := by kernel_rfl
theorem build_rr0 : ∀ w : World, (Instr.build rrT #[]).run Try.prog w = .ok (.agg #[I64 0, I64 0, I64 0]) w := fun _ => by kernel_rfl
theorem cmpDue_neg {a b : Rq} : cmpDue a b < 0 ↔ a.dl < b.dl ∨ (a.dl = b.dl ∧ a.id < b.id) := orI_neg
theorem own_caps {w : World} {b g : Nat} {e : TypeId} {sz n m c : Nat} {xs : List Value} (h : w.ownsRow b e sz (.slice (some ⟨g, 0, none⟩) m c) n xs) : n ≤ c ∧ c ≤ maxLen := by
  rcases h.2 with ⟨h1, -⟩ | ⟨g', c', cur, h1, -, -, h2, h3, -⟩
  · cases h1
  · injection h1 with _ _ h4
    subst h4
    exact ⟨h2, h3⟩
/-- What the reference's Next answers. -/
def RNextS (base q : Nat) (Q : Qu) (now : Int) (w : World) (e : Ending) (w' : World) : Prop :=
  ∃ v', e = .returned (.tuple #[(Q.next now).2.1.V, .bool (Q.next now).2.2]) ∧ RuAt base w' q v' (Q.next now).1 ∧ Only [q] w w'
theorem rr_part {w : World} {g : Nat} {l : List Rq} {j : Nat} {m : List Rq} (hc : ∀ i u, (l.flatMap Rq.cells)[i]? = some u → w.cell? ⟨g, i, none⟩ = some u) (hm : ∀ i r, m[i]? = some r → l[j + i]? = some r) :
    ∀ i u, (m.flatMap Rq.cells)[i]? = some u → w.cell? ⟨g, j * 3 + i, none⟩ = some u := by
  intro i u hu
  have hi : i < (m.flatMap Rq.cells).length := (List.getElem?_eq_some_iff.1 hu).1
  rw [rqflat_len] at hi
  have hk : i / 3 < m.length := by omega
  have h1 := hm (i / 3) _ (List.getElem?_eq_getElem hk)
  have h2 := flat_at (enc := Rq.cells) (sz := 3) m (fun _ _ => rfl) (i / 3) _ (i % 3) ((m[i / 3].cells)[i % 3]'(by simp [Rq.cells]; omega)) (List.getElem?_eq_getElem hk) (List.getElem?_eq_getElem _)
  have h3 := flat_at (enc := Rq.cells) (sz := 3) l (fun _ _ => rfl) (j + i / 3) _ (i % 3) ((m[i / 3].cells)[i % 3]'(by simp [Rq.cells]; omega)) h1 (List.getElem?_eq_getElem _)
  have e : i / 3 * 3 + i % 3 = i := by omega
  have e2 : (j + i / 3) * 3 + i % 3 = j * 3 + i := by omega
  rw [e, hu] at h2
  rw [e2] at h3
  injection h2 with h2
  rw [h2]
  exact hc _ _ h3

set_option maxRecDepth 20000 in
set_option maxHeartbeats 4000000 in
theorem rnext_ok (base q : Nat) (v : Value) (Q : Qu) (w : World) (now : Int) (h : RuAt base w q v Q) (hbase : base ≤ w.heap.size) :
    Calls Try.prog 23 #[.pointer (some ⟨q, 0, none⟩), I64 now] w (RNextS base q Q now w) := by
  obtain ⟨A, cap, hv⟩ := own_shape h.row
  subst hv
  obtain ⟨n, hn⟩ : ∃ n, n = Q.l.length := ⟨_, rfl⟩
  obtain ⟨W0, hW0⟩ : ∃ W0, W0 = w.alloc (.cells #[I64 0, I64 0, I64 0] rrT) := ⟨_, rfl⟩
  have ho : Only [] w W0 := by rw [hW0]; exact (Only.refl _ _).alloc _
  have hb4 : Blk W0 w.heap.size rrT zeroR.cells := by rw [hW0]; exact Blk.newA (c := #[I64 0, I64 0, I64 0]) rfl
  have hq := h.keep ho
  have hme := hq.me
  rw [← hn] at hme
  have c2 := hme.cell (i := 2) rfl
  have lq := hme.lt
  have hn4 : n ≤ 1000 := by rw [hn]; exact h.ok.len
  have HQ := hide hq
  have HB4 := hide hb4
  have HO0 := hide ho
  have HN := hide hn
  have HG : Hid (Q.due now = leastK (fun r => decide (r.dl ≤ now)) cmpDue Q.l n) := hide (by rw [hn]; rfl)
  have HBS : Hid (base ≤ W0.heap.size ∧ q < w.heap.size ∧ w.heap.size < W0.heap.size) := hide ⟨Nat.le_trans hbase ho.size, h.me.lt, hb4.lt⟩
  have hbz := build_rr0
  have HH := hide h
  have HW0 := hide hW0
  clear h hn ho hb4 hq hme hbase hW0
  go_enter Try.func23, Try.ntmps23
  rw [HW0.out] at c2 lq
  go_wp2
  rw [← HW0.out]
  skip
  go_loopw [6, 15] (fun at' i wr => ∃ (k : Nat) (a : Int), k ≤ n ∧ i = I64 (k : Nat) ∧ at' = I64 a ∧ Hid (LeastI (fun r => decide (r.dl ≤ now)) cmpDue Q.l W0 a k wr)) (fun _ i _ => n - (intOf i).toNat)
  case atStart => exact ⟨0, -1, Nat.zero_le _, rfl, rfl, hide ⟨rfl, Only.refl _ _⟩⟩
  case round =>
    obtain ⟨k, a, hk, rfl, rfl, HI⟩ := hrel
    rcases Nat.lt_or_ge k n with hlt | hge
    · obtain ⟨r, hr⟩ : ∃ r, Q.l[k]? = some r := ⟨_, List.getElem?_eq_getElem (by rw [← HN.out]; exact hlt)⟩
      obtain ⟨g, cp, hsl⟩ := own_slice HQ.out.row (by rw [← HN.out]; omega)
      obtain rfl : A = some ⟨g, 0, none⟩ := by injection hsl
      have hrow : wr.ownsRow base rrT 3 (.slice (some ⟨g, 0, none⟩) n cap) n (Q.l.flatMap Rq.cells) := by
        have := own_nil HQ.out.row HI.out.2
        rwa [← HN.out] at this
      obtain ⟨x0, x1, x2⟩ := rrow_cells hrow rfl hr
      have HR := hide hr
      have hk0 : ((k : Nat) : Int) < (n : Int) := by omega
      clear hr hsl hrow c2
      go_upto_region 5 with (refine wpList_store_cells rfl rrT (.tmp 8) (.tmp 19) rfl wr.heap.size 0 rfl r.cells rfl rrT [I64 0, I64 0, I64 0] (Blk.newA rfl) (by exact Nat.le_refl _) (by kernel_rfl) (by simp [Rq.cells, Value.oneCell']) ?_; intro w2 hw2)
      simp only [Act.put]
      have hox : Only [] wr w2 := ((Only.refl [] wr).alloc _).trans' hw2.2.1 (by intro i hi hlt; simp at hi; omega)
      have hbx : Blk w2 wr.heap.size rrT r.cells := hw2.1.to (by simp [Rq.cells])
      have y0 := hbx.cell (i := 0) rfl
      have y1 := hbx.cell (i := 1) rfl
      have y2 := hbx.cell (i := 2) rfl
      have ly := hbx.lt
      have hme := (HI.out.2.trans hox).blk HQ.out.me (by simp)
      rw [← HN.out] at hme
      have c2 := hme.cell (i := 2) rfl
      have lq2 := hme.lt
      have HO2 := hide (HI.out.2.trans hox)
      clear hw2 hox hbx x0 x1 x2 hme
      by_cases hdl : now < r.dl
      · have hR : Hid (leastK (fun r => decide (r.dl ≤ now)) cmpDue Q.l (k + 1) = leastK (fun r => decide (r.dl ≤ now)) cmpDue Q.l k) := hide (by
          conv => lhs; unfold leastK
          rw [HR.out]
          simp only
          rw [if_neg (by simpa using hdl)])
        have hdl2 : ¬ r.dl ≤ now := by omega
        refine wp_region_text0 47 [] [] [] (fun _ => True) (by kernel_rfl) (by kernel_rfl) trivial ?_
        repeat (first | ((refine wpText_h rfl rfl ?_; apply Exists.intro; refine ⟨?_, ?_⟩; next => (go_simp; (try (go_bits; go_simp)); (first | done | with_reducible rfl | (rw [if_neg (by omega)]; (try (go_bits; go_simp)); (first | done | with_reducible rfl)) | (rw [if_pos (by omega)]; (try (go_bits; go_simp)); (first | done | with_reducible rfl))))); (try simp only [Act.put, List.setIfInBounds_toArray, List.set_cons_zero, List.set_cons_succ])) | ((refine wpText_p rfl rfl ?_; apply Exists.intro; refine ⟨?_, ?_⟩; next => (intro w'; go_simp; (try (go_bits; go_simp)); (first | done | with_reducible rfl | (rw [if_neg (by omega)]; (try (go_bits; go_simp)); (first | done | with_reducible rfl)) | (rw [if_pos (by omega)]; (try (go_bits; go_simp)); (first | done | with_reducible rfl))))); (try simp only [Act.put, List.setIfInBounds_toArray, List.set_cons_zero, List.set_cons_succ])) | ((refine wpText_y rfl rfl ?_; apply Exists.intro; refine ⟨?_, ?_⟩; next => (intro w' hS; (first | obtain ⟨_, rfl⟩ := hS | skip); go_simp; (try (go_bits; go_simp)); (first | done | with_reducible rfl | (rw [if_neg (by omega)]; (try (go_bits; go_simp)); (first | done | with_reducible rfl)) | (rw [if_pos (by omega)]; (try (go_bits; go_simp)); (first | done | with_reducible rfl))))); (try simp only [Act.put, List.setIfInBounds_toArray, List.set_cons_zero, List.set_cons_succ])) | (refine wpText_skip (by first | exact .inl rfl | exact .inr (.inl rfl) | exact .inr (.inr rfl)) rfl ?_; (try simp only [Act.put, List.setIfInBounds_toArray, List.set_cons_zero, List.set_cons_succ])))
        refine wpText_nil ?_
        go_wp2
        go_roundw
        case rel => exact ⟨k + 1, a, by omega, by go_num, rfl, hide ⟨by rw [hR.out]; exact HI.out.1, HO2.out.drew⟩⟩
        case measure => simp [intOf]; omega
      · have hdl2 : r.dl ≤ now := by omega
        cases hlk : leastK (fun r => decide (r.dl ≤ now)) cmpDue Q.l k with
        | none =>
          have hR : Hid (leastK (fun r => decide (r.dl ≤ now)) cmpDue Q.l (k + 1) = some k) := hide (by
            unfold leastK
            rw [HR.out]
            simp only
            rw [if_pos (by simpa using hdl2), hlk])
          obtain rfl : a = -1 := by have := HI.out.1; rw [hlk] at this; exact this
          clear hlk
          refine wp_region_text0 47 [] [] [] (fun _ => True) (by kernel_rfl) (by kernel_rfl) trivial ?_
          repeat (first | ((refine wpText_h rfl rfl ?_; apply Exists.intro; refine ⟨?_, ?_⟩; next => (go_simp; (try (go_bits; go_simp)); (first | done | with_reducible rfl | (rw [if_neg (by omega)]; (try (go_bits; go_simp)); (first | done | with_reducible rfl)) | (rw [if_pos (by omega)]; (try (go_bits; go_simp)); (first | done | with_reducible rfl))))); (try simp only [Act.put, List.setIfInBounds_toArray, List.set_cons_zero, List.set_cons_succ])) | ((refine wpText_p rfl rfl ?_; apply Exists.intro; refine ⟨?_, ?_⟩; next => (intro w'; go_simp; (try (go_bits; go_simp)); (first | done | with_reducible rfl | (rw [if_neg (by omega)]; (try (go_bits; go_simp)); (first | done | with_reducible rfl)) | (rw [if_pos (by omega)]; (try (go_bits; go_simp)); (first | done | with_reducible rfl))))); (try simp only [Act.put, List.setIfInBounds_toArray, List.set_cons_zero, List.set_cons_succ])) | ((refine wpText_y rfl rfl ?_; apply Exists.intro; refine ⟨?_, ?_⟩; next => (intro w' hS; (first | obtain ⟨_, rfl⟩ := hS | skip); go_simp; (try (go_bits; go_simp)); (first | done | with_reducible rfl | (rw [if_neg (by omega)]; (try (go_bits; go_simp)); (first | done | with_reducible rfl)) | (rw [if_pos (by omega)]; (try (go_bits; go_simp)); (first | done | with_reducible rfl))))); (try simp only [Act.put, List.setIfInBounds_toArray, List.set_cons_zero, List.set_cons_succ])) | (refine wpText_skip (by first | exact .inl rfl | exact .inr (.inl rfl) | exact .inr (.inr rfl)) rfl ?_; (try simp only [Act.put, List.setIfInBounds_toArray, List.set_cons_zero, List.set_cons_succ])))
          refine wpText_nil ?_
          go_wp2
          go_roundw
          case rel => exact ⟨k + 1, (k : Int), by omega, by go_num, rfl, hide ⟨by rw [hR.out]; rfl, HO2.out.drew⟩⟩
          case measure => simp [intOf]; omega
        | some i =>
          have hik : i < k := leastK_lt k i (by rw [← HN.out]; exact hk) hlk
          obtain ⟨x, hx⟩ : ∃ x, Q.l[i]? = some x := ⟨_, List.getElem?_eq_getElem (by rw [← HN.out]; omega)⟩
          obtain rfl : a = (i : Nat) := by have := HI.out.1; rw [hlk] at this; exact this
          have hR : Hid (leastK (fun r => decide (r.dl ≤ now)) cmpDue Q.l (k + 1) = if cmpDue r x < 0 then some k else some i) := hide (by
            conv => lhs; unfold leastK
            rw [HR.out]
            simp only
            rw [if_pos (by simpa using hdl2), hlk]
            simp only
            rw [hx])
          have hrow : w2.ownsRow base rrT 3 (.slice (some ⟨g, 0, none⟩) n cap) n (Q.l.flatMap Rq.cells) := by
            have := own_nil HQ.out.row HO2.out
            rwa [← HN.out] at this
          obtain ⟨x0, x1, x2⟩ := rrow_cells hrow rfl hx
          have hi0 : ((i : Nat) : Int) < (n : Int) := by omega
          have hi1 : ¬ ((i : Nat) : Int) < 0 := by omega
          clear hlk hx hrow
          obtain ⟨ri, rb, rd⟩ := r
          obtain ⟨xi, xb, xd⟩ := x
          dsimp only at *
          rcases Int.lt_trichotomy rd xd with hm | hm | hm
          · have HC : Hid (cmpDue ⟨ri, rb, rd⟩ ⟨xi, xb, xd⟩ < 0) := hide (cmpDue_neg.2 (.inl hm))
            refine wp_region_text0 47 [] [] [] (fun _ => True) (by kernel_rfl) (by kernel_rfl) trivial ?_
            repeat (first | ((refine wpText_h rfl rfl ?_; apply Exists.intro; refine ⟨?_, ?_⟩; next => (go_simp; (try (go_bits; go_simp)); (first | done | with_reducible rfl | (rw [if_neg (by omega)]; (try (go_bits; go_simp)); (first | done | with_reducible rfl)) | (rw [if_pos (by omega)]; (try (go_bits; go_simp)); (first | done | with_reducible rfl))))); (try simp only [Act.put, List.setIfInBounds_toArray, List.set_cons_zero, List.set_cons_succ])) | ((refine wpText_p rfl rfl ?_; apply Exists.intro; refine ⟨?_, ?_⟩; next => (intro w'; go_simp; (try (go_bits; go_simp)); (first | done | with_reducible rfl | (rw [if_neg (by omega)]; (try (go_bits; go_simp)); (first | done | with_reducible rfl)) | (rw [if_pos (by omega)]; (try (go_bits; go_simp)); (first | done | with_reducible rfl))))); (try simp only [Act.put, List.setIfInBounds_toArray, List.set_cons_zero, List.set_cons_succ])) | ((refine wpText_y rfl rfl ?_; apply Exists.intro; refine ⟨?_, ?_⟩; next => (intro w' hS; (first | obtain ⟨_, rfl⟩ := hS | skip); go_simp; (try (go_bits; go_simp)); (first | done | with_reducible rfl | (rw [if_neg (by omega)]; (try (go_bits; go_simp)); (first | done | with_reducible rfl)) | (rw [if_pos (by omega)]; (try (go_bits; go_simp)); (first | done | with_reducible rfl))))); (try simp only [Act.put, List.setIfInBounds_toArray, List.set_cons_zero, List.set_cons_succ])) | (refine wpText_skip (by first | exact .inl rfl | exact .inr (.inl rfl) | exact .inr (.inr rfl)) rfl ?_; (try simp only [Act.put, List.setIfInBounds_toArray, List.set_cons_zero, List.set_cons_succ])))
            refine wpText_nil ?_
            go_wp2
            go_roundw
            case rel => exact ⟨k + 1, (k : Int), by omega, by go_num, rfl, hide ⟨by rw [hR.out, if_pos HC.out]; rfl, HO2.out.drew⟩⟩
            case measure => simp [intOf]; omega
          · subst hm
            by_cases hid : ri < xi
            · have HC : Hid (cmpDue ⟨ri, rb, rd⟩ ⟨xi, xb, rd⟩ < 0) := hide (cmpDue_neg.2 (.inr ⟨rfl, hid⟩))
              refine wp_region_text0 47 [] [] [] (fun _ => True) (by kernel_rfl) (by kernel_rfl) trivial ?_
              repeat (first | ((refine wpText_h rfl rfl ?_; apply Exists.intro; refine ⟨?_, ?_⟩; next => (go_simp; (try (go_bits; go_simp)); (first | done | with_reducible rfl | (rw [if_neg (by omega)]; (try (go_bits; go_simp)); (first | done | with_reducible rfl)) | (rw [if_pos (by omega)]; (try (go_bits; go_simp)); (first | done | with_reducible rfl))))); (try simp only [Act.put, List.setIfInBounds_toArray, List.set_cons_zero, List.set_cons_succ])) | ((refine wpText_p rfl rfl ?_; apply Exists.intro; refine ⟨?_, ?_⟩; next => (intro w'; go_simp; (try (go_bits; go_simp)); (first | done | with_reducible rfl | (rw [if_neg (by omega)]; (try (go_bits; go_simp)); (first | done | with_reducible rfl)) | (rw [if_pos (by omega)]; (try (go_bits; go_simp)); (first | done | with_reducible rfl))))); (try simp only [Act.put, List.setIfInBounds_toArray, List.set_cons_zero, List.set_cons_succ])) | ((refine wpText_y rfl rfl ?_; apply Exists.intro; refine ⟨?_, ?_⟩; next => (intro w' hS; (first | obtain ⟨_, rfl⟩ := hS | skip); go_simp; (try (go_bits; go_simp)); (first | done | with_reducible rfl | (rw [if_neg (by omega)]; (try (go_bits; go_simp)); (first | done | with_reducible rfl)) | (rw [if_pos (by omega)]; (try (go_bits; go_simp)); (first | done | with_reducible rfl))))); (try simp only [Act.put, List.setIfInBounds_toArray, List.set_cons_zero, List.set_cons_succ])) | (refine wpText_skip (by first | exact .inl rfl | exact .inr (.inl rfl) | exact .inr (.inr rfl)) rfl ?_; (try simp only [Act.put, List.setIfInBounds_toArray, List.set_cons_zero, List.set_cons_succ])))
              refine wpText_nil ?_
              go_wp2
              go_roundw
              case rel => exact ⟨k + 1, (k : Int), by omega, by go_num, rfl, hide ⟨by rw [hR.out, if_pos HC.out]; rfl, HO2.out.drew⟩⟩
              case measure => simp [intOf]; omega
            · have HC : Hid (¬ cmpDue ⟨ri, rb, rd⟩ ⟨xi, xb, rd⟩ < 0) := hide (fun hc => by have := cmpDue_neg.1 hc; dsimp only at this; omega)
              refine wp_region_text0 47 [] [] [] (fun _ => True) (by kernel_rfl) (by kernel_rfl) trivial ?_
              repeat (first | ((refine wpText_h rfl rfl ?_; apply Exists.intro; refine ⟨?_, ?_⟩; next => (go_simp; (try (go_bits; go_simp)); (first | done | with_reducible rfl | (rw [if_neg (by omega)]; (try (go_bits; go_simp)); (first | done | with_reducible rfl)) | (rw [if_pos (by omega)]; (try (go_bits; go_simp)); (first | done | with_reducible rfl))))); (try simp only [Act.put, List.setIfInBounds_toArray, List.set_cons_zero, List.set_cons_succ])) | ((refine wpText_p rfl rfl ?_; apply Exists.intro; refine ⟨?_, ?_⟩; next => (intro w'; go_simp; (try (go_bits; go_simp)); (first | done | with_reducible rfl | (rw [if_neg (by omega)]; (try (go_bits; go_simp)); (first | done | with_reducible rfl)) | (rw [if_pos (by omega)]; (try (go_bits; go_simp)); (first | done | with_reducible rfl))))); (try simp only [Act.put, List.setIfInBounds_toArray, List.set_cons_zero, List.set_cons_succ])) | ((refine wpText_y rfl rfl ?_; apply Exists.intro; refine ⟨?_, ?_⟩; next => (intro w' hS; (first | obtain ⟨_, rfl⟩ := hS | skip); go_simp; (try (go_bits; go_simp)); (first | done | with_reducible rfl | (rw [if_neg (by omega)]; (try (go_bits; go_simp)); (first | done | with_reducible rfl)) | (rw [if_pos (by omega)]; (try (go_bits; go_simp)); (first | done | with_reducible rfl))))); (try simp only [Act.put, List.setIfInBounds_toArray, List.set_cons_zero, List.set_cons_succ])) | (refine wpText_skip (by first | exact .inl rfl | exact .inr (.inl rfl) | exact .inr (.inr rfl)) rfl ?_; (try simp only [Act.put, List.setIfInBounds_toArray, List.set_cons_zero, List.set_cons_succ])))
              refine wpText_nil ?_
              go_wp2
              go_roundw
              case rel => exact ⟨k + 1, (i : Int), by omega, by go_num, rfl, hide ⟨by rw [hR.out, if_neg HC.out]; rfl, HO2.out.drew⟩⟩
              case measure => simp [intOf]; omega
          · have HC : Hid (¬ cmpDue ⟨ri, rb, rd⟩ ⟨xi, xb, xd⟩ < 0) := hide (fun hc => by have := cmpDue_neg.1 hc; dsimp only at this; omega)
            have hm2 : ¬ rd < xd := by omega
            have hm3 : ¬ rd = xd := by omega
            have hm4 : (rd == xd) = false := by simpa using hm3
            refine wp_region_text0 47 [] [] [] (fun _ => True) (by kernel_rfl) (by kernel_rfl) trivial ?_
            repeat (first | ((refine wpText_h rfl rfl ?_; apply Exists.intro; refine ⟨?_, ?_⟩; next => (go_simp; (try (go_bits; go_simp)); (first | done | with_reducible rfl | (rw [if_neg (by omega)]; (try (go_bits; go_simp)); (first | done | with_reducible rfl)) | (rw [if_pos (by omega)]; (try (go_bits; go_simp)); (first | done | with_reducible rfl))))); (try simp only [Act.put, List.setIfInBounds_toArray, List.set_cons_zero, List.set_cons_succ])) | ((refine wpText_p rfl rfl ?_; apply Exists.intro; refine ⟨?_, ?_⟩; next => (intro w'; go_simp; (try (go_bits; go_simp)); (first | done | with_reducible rfl | (rw [if_neg (by omega)]; (try (go_bits; go_simp)); (first | done | with_reducible rfl)) | (rw [if_pos (by omega)]; (try (go_bits; go_simp)); (first | done | with_reducible rfl))))); (try simp only [Act.put, List.setIfInBounds_toArray, List.set_cons_zero, List.set_cons_succ])) | ((refine wpText_y rfl rfl ?_; apply Exists.intro; refine ⟨?_, ?_⟩; next => (intro w' hS; (first | obtain ⟨_, rfl⟩ := hS | skip); go_simp; (try (go_bits; go_simp)); (first | done | with_reducible rfl | (rw [if_neg (by omega)]; (try (go_bits; go_simp)); (first | done | with_reducible rfl)) | (rw [if_pos (by omega)]; (try (go_bits; go_simp)); (first | done | with_reducible rfl))))); (try simp only [Act.put, List.setIfInBounds_toArray, List.set_cons_zero, List.set_cons_succ])) | (refine wpText_skip (by first | exact .inl rfl | exact .inr (.inl rfl) | exact .inr (.inr rfl)) rfl ?_; (try simp only [Act.put, List.setIfInBounds_toArray, List.set_cons_zero, List.set_cons_succ])))
            refine wpText_nil ?_
            go_wp2
            go_roundw
            case rel => exact ⟨k + 1, (i : Int), by omega, by go_num, rfl, hide ⟨by rw [hR.out, if_neg HC.out]; rfl, HO2.out.drew⟩⟩
            case measure => simp [intOf]; omega
    · obtain rfl : n = k := by omega
      cases hdu : leastK (fun r => decide (r.dl ≤ now)) cmpDue Q.l n with
      | some i =>
        obtain rfl : a = (i : Nat) := by have := HI.out.1; rw [hdu] at this; exact this
        have H1 : Hid (Q.pick now = (some i, Q.down) ∧ RuAt base wr q (.slice A Q.l.length cap) { Q with down := Q.down } ∧ Only [q] W0 wr) := hide ⟨by unfold Qu.pick; rw [HG.out, hdu], HQ.out.keep HI.out.2, HI.out.2.mono (by simp)⟩
        have w1e : ∃ w1, w1 = wr := ⟨_, rfl⟩
        obtain ⟨w1, rfl⟩ := w1e
        clear hdu c2
        obtain ⟨hpk, hQ1, ho1⟩ := H1.out
        have hiN : i < n := by have := pick_lt (Q := Q) (now := now) (i := i) (by rw [hpk]); rw [HN.out]; exact this
        obtain ⟨r, hr⟩ : ∃ r, Q.l[i]? = some r := ⟨_, List.getElem?_eq_getElem (by rw [← HN.out]; exact hiN)⟩
        obtain ⟨g, cp, hsl⟩ := own_slice hQ1.row (by have := HN.out; show 0 < Q.l.length; omega)
        obtain rfl : A = some ⟨g, 0, none⟩ := by injection hsl
        have hrow1 : w1.ownsRow base rrT 3 (.slice (some ⟨g, 0, none⟩) n cap) n (Q.l.flatMap Rq.cells) := by
          have := hQ1.row
          rwa [show ({ Q with down := Q.down } : Qu).l = Q.l from rfl, ← HN.out] at this
        obtain ⟨x0, x1, x2⟩ := rrow_cells hrow1 rfl hr
        have hme1 := hQ1.me
        rw [← HN.out] at hme1
        have d2 := hme1.cell (i := 2) rfl
        have lq1 := hme1.lt
        have HNX : Hid (Q.next now = (⟨r.blk, Q.down, Q.l.eraseIdx i⟩, (r, true))) := hide (by unfold Qu.next; rw [hpk]; simp only; rw [hr])
        have hcap := (own_caps hrow1).1
        have hcap2 : cap ≤ 9223372036854775807 := Nat.le_trans (own_caps hrow1).2 (by simp [maxLen])
        have HR := hide hr
        have HROW := hide hrow1
        have HME := hide hme1
        have hi0 : ((i : Nat) : Int) < (n : Int) := by omega
        have hi1 : ¬ ((i : Nat) : Int) < 0 := by omega
        have HB41 : Hid (Blk w1 w.heap.size rrT zeroR.cells) := hide (ho1.blk HB4.out (by have := HBS.out; simp; omega))
        clear hpk hQ1 ho1 hr hrow1 hme1 hsl
        go_upto_region 16 with (refine wpList_store_cells rfl rrT (.tmp 9) (.tmp 102) rfl w1.heap.size 0 rfl r.cells rfl rrT [I64 0, I64 0, I64 0] (Blk.newA rfl) (by exact Nat.le_refl _) (by kernel_rfl) (by simp [Rq.cells, Value.oneCell']) ?_; intro w2 hw2)
        simp only [Act.put]
        have hox : Only [] w1 w2 := ((Only.refl [] w1).alloc _).trans' hw2.2.1 (by intro i hi hlt; simp at hi; omega)
        have hb9 : Blk w2 w1.heap.size rrT r.cells := hw2.1.to (by simp [Rq.cells])
        have e2 := (hox.blk HME.out (by simp)).cell (i := 2) rfl
        have le2 := (hox.blk HME.out (by simp)).lt
        have H2 := hide (And.intro hox hb9)
        clear hw2 hox hb9 x0 x1 x2 d2 lq1
        refine wp_region_text 16 [1, 8] [0, 2, 3, 4, 6, 7, 9, 10, 11, 13, 14, 15] [5, 12] (fun W => W.cell? ⟨q, 2, none⟩ = some (.slice (some ⟨g, 0, none⟩) n cap)) (by kernel_rfl) (by kernel_rfl) e2 ?_
        simp only [List.take_succ_cons, List.take_zero, List.drop_succ_cons, List.drop_zero]
        repeat (first | ((refine wpText_h rfl rfl ?_; apply Exists.intro; refine ⟨?_, ?_⟩; next => (go_simp; (try (go_bits; go_simp)); (first | done | with_reducible rfl | (rw [if_neg (by omega)]; (try (go_bits; go_simp)); (first | done | with_reducible rfl)) | (rw [if_pos (by omega)]; (try (go_bits; go_simp)); (first | done | with_reducible rfl))))); (try simp only [Act.put, List.setIfInBounds_toArray, List.set_cons_zero, List.set_cons_succ])) | ((refine wpText_p rfl rfl ?_; apply Exists.intro; refine ⟨?_, ?_⟩; next => (intro w'; go_simp; (try (go_bits; go_simp)); (first | done | with_reducible rfl | (rw [if_neg (by omega)]; (try (go_bits; go_simp)); (first | done | with_reducible rfl)) | (rw [if_pos (by omega)]; (try (go_bits; go_simp)); (first | done | with_reducible rfl))))); (try simp only [Act.put, List.setIfInBounds_toArray, List.set_cons_zero, List.set_cons_succ])) | ((refine wpText_y rfl rfl ?_; apply Exists.intro; refine ⟨?_, ?_⟩; next => (intro w' hS; (first | obtain ⟨_, rfl⟩ := hS | skip); go_simp; (try (go_bits; go_simp)); (first | done | with_reducible rfl | (rw [if_neg (by omega)]; (try (go_bits; go_simp)); (first | done | with_reducible rfl)) | (rw [if_pos (by omega)]; (try (go_bits; go_simp)); (first | done | with_reducible rfl))))); (try simp only [Act.put, List.setIfInBounds_toArray, List.set_cons_zero, List.set_cons_succ])) | (refine wpText_skip (by first | exact .inl rfl | exact .inr (.inl rfl) | exact .inr (.inr rfl)) rfl ?_; (try simp only [Act.put, List.setIfInBounds_toArray, List.set_cons_zero, List.set_cons_succ])))
        refine wpText_e rfl rfl (fun K hK => ?_)
        go_wp2
        refine hK _ _ (cell_only e2 ((Only.refl [] w2).alloc _).drew) ?_
        clear hK K
        (try simp only [Act.put, List.setIfInBounds_toArray, List.set_cons_zero, List.set_cons_succ])
        repeat (first | ((refine wpText_h rfl rfl ?_; apply Exists.intro; refine ⟨?_, ?_⟩; next => (go_simp; (try (go_bits; go_simp)); (first | done | with_reducible rfl | (rw [if_neg (by omega)]; (try (go_bits; go_simp)); (first | done | with_reducible rfl)) | (rw [if_pos (by omega)]; (try (go_bits; go_simp)); (first | done | with_reducible rfl))))); (try simp only [Act.put, List.setIfInBounds_toArray, List.set_cons_zero, List.set_cons_succ])) | ((refine wpText_p rfl rfl ?_; apply Exists.intro; refine ⟨?_, ?_⟩; next => (intro w'; go_simp; (try (go_bits; go_simp)); (first | done | with_reducible rfl | (rw [if_neg (by omega)]; (try (go_bits; go_simp)); (first | done | with_reducible rfl)) | (rw [if_pos (by omega)]; (try (go_bits; go_simp)); (first | done | with_reducible rfl))))); (try simp only [Act.put, List.setIfInBounds_toArray, List.set_cons_zero, List.set_cons_succ])) | ((refine wpText_y rfl rfl ?_; apply Exists.intro; refine ⟨?_, ?_⟩; next => (intro w' hS; (first | obtain ⟨_, rfl⟩ := hS | skip); go_simp; (try (go_bits; go_simp)); (first | done | with_reducible rfl | (rw [if_neg (by omega)]; (try (go_bits; go_simp)); (first | done | with_reducible rfl)) | (rw [if_pos (by omega)]; (try (go_bits; go_simp)); (first | done | with_reducible rfl))))); (try simp only [Act.put, List.setIfInBounds_toArray, List.set_cons_zero, List.set_cons_succ])) | (refine wpText_skip (by first | exact .inl rfl | exact .inr (.inl rfl) | exact .inr (.inr rfl)) rfl ?_; (try simp only [Act.put, List.setIfInBounds_toArray, List.set_cons_zero, List.set_cons_succ])))
        obtain ⟨W3, hW3⟩ : ∃ W3, W3 = (w2.alloc (.cells #[] rrT)).drew := ⟨_, rfl⟩
        rw [← hW3]
        have ho3 : Only [] w2 W3 := by rw [hW3]; exact ((Only.refl [] w2).alloc _).drew
        have hnew : W3.ownsRow w2.heap.size rrT 3 (.slice (some ⟨w2.heap.size, 0, none⟩) 0 0) 0 [] := by
          refine ⟨rfl, .inr ⟨_, _, #[], rfl, ?_, ?_, Nat.le_refl _, by simp [maxLen], rfl, rfl⟩⟩
          · exact Nat.le_refl _
          · rw [hW3]; exact (Blk.newA (c := #[]) rfl).drew
        have hsz3 : w2.heap.size < W3.heap.size := by rw [hW3]; simp
        have hrow3 := own_nil HROW.out (H2.out.1.trans ho3)
        obtain ⟨i0, hi0', hz0, hs0, hb0⟩ := info_parts rr_info
        have hcs3 : ∀ i u, (Q.l.flatMap Rq.cells)[i]? = some u → W3.cell? ⟨g, i, none⟩ = some u := fun j u hu => by have := hrow3.cells rfl j u hu; rwa [addr_add, Nat.zero_add] at this
        have hm0 : ∀ k r, (Q.l.take i)[k]? = some r → Q.l[0 + k]? = some r := fun k r hk => by
          rw [List.getElem?_take] at hk
          split at hk
          · rwa [Nat.zero_add]
          · cases hk
        refine wpText_e rfl rfl (fun K hK => ?_)
        refine wp_append_own _ (.tmp 104) (.tmp 110) 70 rfl w2.heap.size rrT i0 (.agg #[I64 0, I64 0, I64 0]) 3 24 Try.underlying70 hi0' hz0 hs0 hb0 rfl (by decide) (.slice (some ⟨w2.heap.size, 0, none⟩) 0 0) 0 [] rfl hnew ⟨g, 0, none⟩ i _ ((Q.l.take i).flatMap Rq.cells) rfl (by rw [rqflat_len, List.length_take, Nat.min_eq_left (by have := HN.out; omega)]) (fun j u hu => by rw [addr_add]; exact (by simpa using rr_part (j := 0) hcs3 hm0 j u hu)) (rq_one _) (by simp only [maxLen]; omega) (by omega) ho3.size ?_
        intro v2 w4 hr2 hg2 hnil
        obtain ⟨A2, cp2, rfl⟩ := own_shape hr2
        have hog : Only [w2.heap.size] W3 w4 := Only.of_grown hg2 (fun x hx => by simpa [Value.ownBlock, eq_comm] using hx)
        have ho4 : Only [] w2 w4 := ho3.trans' hog (by intro j hj hlt; simp at hj; omega)
        have s4 := cell_only e2 ho4
        have HR2 := hide hr2
        have HO4 := hide ho4
        have HROW4 := hide (own_nil HROW.out (H2.out.1.trans ho4))
        have HCS4 : Hid (∀ i u, (Q.l.flatMap Rq.cells)[i]? = some u → w4.cell? ⟨g, i, none⟩ = some u) := hide (fun j u hu => by have := HROW4.out.cells rfl j u hu; rwa [addr_add, Nat.zero_add] at this)
        have HM1 : Hid (∀ k r, (Q.l.drop (i + 1))[k]? = some r → Q.l[(i + 1) + k]? = some r) := hide (fun k r hk => by rwa [List.getElem?_drop] at hk)
        refine hK _ _ s4 ?_
        clear hK K hr2 hg2 hnil ho4 hrow3 hcs3 hm0 hnew hsz3 ho3 hW3 e2 le2
        repeat (first | ((refine wpText_h rfl rfl ?_; apply Exists.intro; refine ⟨?_, ?_⟩; next => (go_simp; (try (go_bits; go_simp)); (first | done | with_reducible rfl | (rw [if_neg (by omega)]; (try (go_bits; go_simp)); (first | done | with_reducible rfl)) | (rw [if_pos (by omega)]; (try (go_bits; go_simp)); (first | done | with_reducible rfl))))); (try simp only [Act.put, List.setIfInBounds_toArray, List.set_cons_zero, List.set_cons_succ])) | ((refine wpText_p rfl rfl ?_; apply Exists.intro; refine ⟨?_, ?_⟩; next => (intro w'; go_simp; (try (go_bits; go_simp)); (first | done | with_reducible rfl | (rw [if_neg (by omega)]; (try (go_bits; go_simp)); (first | done | with_reducible rfl)) | (rw [if_pos (by omega)]; (try (go_bits; go_simp)); (first | done | with_reducible rfl))))); (try simp only [Act.put, List.setIfInBounds_toArray, List.set_cons_zero, List.set_cons_succ])) | ((refine wpText_y rfl rfl ?_; apply Exists.intro; refine ⟨?_, ?_⟩; next => (intro w' hS; (first | obtain ⟨_, rfl⟩ := hS | skip); go_simp; (try (go_bits; go_simp)); (first | done | with_reducible rfl | (rw [if_neg (by omega)]; (try (go_bits; go_simp)); (first | done | with_reducible rfl)) | (rw [if_pos (by omega)]; (try (go_bits; go_simp)); (first | done | with_reducible rfl))))); (try simp only [Act.put, List.setIfInBounds_toArray, List.set_cons_zero, List.set_cons_succ])) | (refine wpText_skip (by first | exact .inl rfl | exact .inr (.inl rfl) | exact .inr (.inr rfl)) rfl ?_; (try simp only [Act.put, List.setIfInBounds_toArray, List.set_cons_zero, List.set_cons_succ])))
        refine wpText_nil ?_
        obtain ⟨ad, had, had2⟩ : ∃ ad : Addr, (if cap = i + 1 then some ⟨g, 0, none⟩ else some ⟨g, (i + 1) * 3, none⟩) = some ad ∧ (n = i + 1 ∨ ad = ⟨g, (i + 1) * 3, none⟩) := by
          by_cases hc : cap = i + 1
          · rw [if_pos hc]; exact ⟨_, rfl, .inl (by omega)⟩
          · rw [if_neg hc]; exact ⟨_, rfl, .inr rfl⟩
        rw [had]
        have hcs : ∀ j u, ((Q.l.drop (i + 1)).flatMap Rq.cells)[j]? = some u → w4.cell? (ad.add j) = some u := by
          intro j u hu
          rcases had2 with hd | hd
          · rw [List.drop_eq_nil_of_le (by have := HN.out; omega)] at hu
            cases hu
          · rw [hd, addr_add]
            exact rr_part (j := i + 1) HCS4.out HM1.out j u hu
        have HCS := hide hcs
        have HAD := hide had
        clear had had2 hcs
        refine wpList_append_own _ rfl (.tmp 111) (.tmp 118) 70 rfl w2.heap.size rrT i0 (.agg #[I64 0, I64 0, I64 0]) 3 24 Try.underlying70 hi0' hz0 hs0 hb0 rfl (by decide) (.slice A2 (0 + i) cp2) _ _ rfl HR2.out ad (n - (i + 1)) (cap - (i + 1)) ((Q.l.drop (i + 1)).flatMap Rq.cells) rfl (by rw [rqflat_len, List.length_drop, HN.out]) HCS.out (rq_one _) (by simp only [maxLen]; omega) (by omega) HO4.out.size ?_
        intro v5 w5 hr5 hg5 hnil5
        obtain ⟨A5, cp5, rfl⟩ := own_shape hr5
        have hr5' : w5.ownsRow w2.heap.size rrT 3 (.slice A5 (n - 1) cp5) (n - 1) ((Q.l.eraseIdx i).flatMap Rq.cells) := by
          have e1 : 0 + i + (n - (i + 1)) = n - 1 := by omega
          rw [e1, List.nil_append, ← List.flatMap_append, ← List.eraseIdx_eq_take_drop_succ] at hr5
          exact hr5
        have e1 : 0 + i + (n - (i + 1)) = n - 1 := by omega
        rw [e1]
        have ho5 : Only [] w2 w5 := HO4.out.trans' (Only.of_grown (S := (Value.slice A2 (0 + i) cp2).ownBlock.toList) hg5 (fun x hx => mem_own.2 hx)) (by
          intro j hj hlt
          have := (HR2.out.lt j (mem_own.1 hj)).1
          omega)
        have me5 := ho5.blk (H2.out.1.blk HME.out (by simp)) (by simp)
        have z2 := me5.cell (i := 2) rfl
        have f2 := me5.frozen 2
        have lq5 := me5.lt
        have H5 := hide (And.intro hr5' (And.intro ho5 me5))
        clear hr5 hr5' hg5 hnil5 ho5 me5
        go_wp2
        refine NoX.normal ?_
        obtain ⟨W6, hW6⟩ : ∃ W6, W6 = w5.setCell ⟨q, 2, none⟩ (.slice A5 (n - 1) cp5) := ⟨_, rfl⟩
        rw [← hW6]
        obtain ⟨hr5, ho5, me5⟩ := H5.out
        have hqw := HBS.out.2.1
        have hww1 : w.heap.size < w1.heap.size := HB41.out.lt
        have h12 := H2.out.1.size
        have l9 := H2.out.2.lt
        have hb9 : Blk W6 w1.heap.size rrT r.cells := by rw [hW6]; exact (ho5.blk H2.out.2 (by simp)).far (by simp; omega) _
        have hb4 : Blk W6 w.heap.size rrT zeroR.cells := by rw [hW6]; exact (ho5.blk (H2.out.1.blk HB41.out (by simp)) (by simp)).far (by simp; omega) _
        have me6 : Blk W6 q ruT [I64 Q.head, .bool Q.down, .slice A5 (n - 1) cp5] := by rw [hW6]; exact me5.set 2 _
        have hr6 : W6.ownsRow w2.heap.size rrT 3 (.slice A5 (n - 1) cp5) (n - 1) ((Q.l.eraseIdx i).flatMap Rq.cells) := by
          rw [hW6]
          exact own_setCell hr5 (own_ne_blk hr5 me5 (by decide)) _
        have ho6 : Only [q] w W6 := by
          rw [hW6]
          exact ((HO0.out.mono (by simp)).trans (H1.out.2.2.trans ((H2.out.1.trans ho5).mono (by simp)))).set (.inl (by simp)) _
        have t0 := hb9.cell (i := 0) rfl
        have t1 := hb9.cell (i := 1) rfl
        have t2 := hb9.cell (i := 2) rfl
        have lt9 := hb9.lt
        have u0 := me6.cell (i := 0) rfl
        have uf := fun i => me6.frozen i
        have lq6 := me6.lt
        have hqb : q ≠ w1.heap.size := by omega
        have HB5 : Hid (Blk (W6.setCell ⟨q, 0, none⟩ (I64 r.blk)) w.heap.size rrT zeroR.cells) := hide (hb4.far (by simp; omega) _)
        have H6 := hide (And.intro me6 (And.intro hr6 ho6))
        clear hW6 hr5 ho5 me5 hb9 hb4 me6 hr6 ho6 z2 f2 lq5
        go_wp2_with (refine wpList_store_cells rfl rrT (.tmp 4) (.tmp 127) rfl w.heap.size 0 rfl r.cells rfl rrT zeroR.cells HB5.out (by exact Nat.le_refl _) (by kernel_rfl) (by simp [Rq.cells, Value.oneCell']) ?_; intro w7 hw7)
        have hz : Blk w7 w.heap.size rrT r.cells := hw7.1.to (by simp [Rq.cells, zeroR])
        obtain ⟨me6, hr6, ho6⟩ := H6.out
        refine bodyPost_ret (results_cell_tmp rfl _ _ _ rfl (load_rr hz)) rfl ?_
        refine ⟨.slice A5 (n - 1) cp5, by rw [HNX.out]; rfl, ?_, ?_⟩
        · rw [HNX.out]
          refine ⟨hw7.2.1.blk (me6.set 0 _) (by simp; omega), ?_, HQ.out.ok.next HR.out _⟩
          have hl : (Q.l.eraseIdx i).length = n - 1 := by rw [List.length_eraseIdx, if_pos (by rw [← HN.out]; exact hiN), ← HN.out]
          have h5 := own_setCell hr6 (p := ⟨q, 0, none⟩) (own_ne_blk hr6 me6 (by decide)) (I64 r.blk)
          show w7.ownsRow base rrT 3 _ (Q.l.eraseIdx i).length _
          rw [hl]
          refine own_base (own_only h5 hw7.2.1 (fun k hk hm => ?_)) (Nat.le_trans HBS.out.1 (Nat.le_trans H1.out.2.2.size H2.out.1.size))
          have := (hr6.lt k hk).1
          simp at hm
          omega
        · exact (ho6.set (p := ⟨q, 0, none⟩) (.inl (by simp)) _).trans' hw7.2.1 (by intro j hj hlt; simp at hj; omega)
      | none =>
        obtain rfl : a = -1 := by have := HI.out.1; rw [hdu] at this; exact this
        have HDU : Hid (Q.due now = none) := hide (by rw [HG.out, hdu])
        clear hdu c2
        by_cases h0 : n = 0
        · have hl0 : Q.l = [] := List.length_eq_zero_iff.1 (by rw [← HN.out]; exact h0)
          have HNX := hide (next_nil hl0 now)
          have HB4r := hide (HI.out.2.blk HB4.out (by simp))
          have hq2 := HI.out.2.blk HQ.out.me (by simp)
          rw [← HN.out] at hq2
          have c2 := hq2.cell (i := 2) rfl
          have lq2 := hq2.lt
          subst h0
          clear hl0 hq2
          go_wp2_with (refine wpList_store_cells rfl rrT (.tmp 4) (.tmp 95) rfl w.heap.size 0 rfl zeroR.cells rfl rrT zeroR.cells HB4r.out (by exact Nat.le_refl _) (by kernel_rfl) (by simp [Rq.cells, Value.oneCell']) ?_; intro w2 hw2)
          have hz : Blk w2 w.heap.size rrT zeroR.cells := hw2.1.to (by simp [Rq.cells])
          have ho2 : Only [] w w2 := (HO0.out.trans HI.out.2).trans' hw2.2.1 (by intro i hi hlt; simp at hi; omega)
          refine bodyPost_ret (results_cell_tmp rfl _ _ _ rfl (load_rr hz)) rfl ?_
          exact ⟨_, by rw [HNX.out]; rfl, by rw [HNX.out]; exact HH.out.keep ho2, ho2.mono (by simp)⟩
        · have hq2 := HI.out.2.blk HQ.out.me (by simp)
          rw [← HN.out] at hq2
          have c2 := hq2.cell (i := 2) rfl
          have lq2 := hq2.lt
          have hpos : 0 < (n : Int) := by omega
          have HNE : Hid (Q.l ≠ []) := hide (by intro hc; apply h0; rw [HN.out, hc]; rfl)
          obtain ⟨nr, hnr⟩ : ∃ nr, nr = Q.near Q.down := ⟨_, rfl⟩
          have hnl := hide (rnear_ok base q _ Q wr (HQ.out.keep HI.out.2))
          rw [← hnr] at hnl
          have HNR := hide hnr
          have HO1 := hide HI.out.2
          clear hq2 hnr h0
          cases nr with
          | some i =>
            go_upto_region 10 with (go_at_call 52; refine hnl.out.mono ?_; clear hnl; rw [show ixI (some i) = (i : Int) from rfl]; rintro e w1 ⟨rfl, ho1⟩; have HO := hide (HO1.out.trans ho1); clear ho1)
            have H1 : Hid (Q.pick now = (some i, Q.down) ∧ RuAt base w1 q (.slice A Q.l.length cap) { Q with down := Q.down } ∧ Only [q] W0 w1) := hide ⟨by unfold Qu.pick; rw [HDU.out]; simp only; rw [← HNR.out], HQ.out.keep HO.out, HO.out.mono (by simp)⟩
            have hi1 : ¬ ((i : Nat) : Int) < 0 := by omega
            clear c2 lq2
            obtain ⟨hpk, hQ1, ho1⟩ := H1.out
            have hiN : i < n := by have := pick_lt (Q := Q) (now := now) (i := i) (by rw [hpk]); rw [HN.out]; exact this
            obtain ⟨r, hr⟩ : ∃ r, Q.l[i]? = some r := ⟨_, List.getElem?_eq_getElem (by rw [← HN.out]; exact hiN)⟩
            obtain ⟨g, cp, hsl⟩ := own_slice hQ1.row (by have := HN.out; show 0 < Q.l.length; omega)
            obtain rfl : A = some ⟨g, 0, none⟩ := by injection hsl
            have hrow1 : w1.ownsRow base rrT 3 (.slice (some ⟨g, 0, none⟩) n cap) n (Q.l.flatMap Rq.cells) := by
              have := hQ1.row
              rwa [show ({ Q with down := Q.down } : Qu).l = Q.l from rfl, ← HN.out] at this
            obtain ⟨x0, x1, x2⟩ := rrow_cells hrow1 rfl hr
            have hme1 := hQ1.me
            rw [← HN.out] at hme1
            have d2 := hme1.cell (i := 2) rfl
            have lq1 := hme1.lt
            have HNX : Hid (Q.next now = (⟨r.blk, Q.down, Q.l.eraseIdx i⟩, (r, true))) := hide (by unfold Qu.next; rw [hpk]; simp only; rw [hr])
            have hcap := (own_caps hrow1).1
            have hcap2 : cap ≤ 9223372036854775807 := Nat.le_trans (own_caps hrow1).2 (by simp [maxLen])
            have HR := hide hr
            have HROW := hide hrow1
            have HME := hide hme1
            have hi0 : ((i : Nat) : Int) < (n : Int) := by omega
            have hi1 : ¬ ((i : Nat) : Int) < 0 := by omega
            have HB41 : Hid (Blk w1 w.heap.size rrT zeroR.cells) := hide (ho1.blk HB4.out (by have := HBS.out; simp; omega))
            clear hpk hQ1 ho1 hr hrow1 hme1 hsl
            go_upto_region 16 with (refine wpList_store_cells rfl rrT (.tmp 9) (.tmp 102) rfl w1.heap.size 0 rfl r.cells rfl rrT [I64 0, I64 0, I64 0] (Blk.newA rfl) (by exact Nat.le_refl _) (by kernel_rfl) (by simp [Rq.cells, Value.oneCell']) ?_; intro w2 hw2)
            simp only [Act.put]
            have hox : Only [] w1 w2 := ((Only.refl [] w1).alloc _).trans' hw2.2.1 (by intro i hi hlt; simp at hi; omega)
            have hb9 : Blk w2 w1.heap.size rrT r.cells := hw2.1.to (by simp [Rq.cells])
            have e2 := (hox.blk HME.out (by simp)).cell (i := 2) rfl
            have le2 := (hox.blk HME.out (by simp)).lt
            have H2 := hide (And.intro hox hb9)
            clear hw2 hox hb9 x0 x1 x2 d2 lq1
            refine wp_region_text 16 [1, 8] [0, 2, 3, 4, 6, 7, 9, 10, 11, 13, 14, 15] [5, 12] (fun W => W.cell? ⟨q, 2, none⟩ = some (.slice (some ⟨g, 0, none⟩) n cap)) (by kernel_rfl) (by kernel_rfl) e2 ?_
            simp only [List.take_succ_cons, List.take_zero, List.drop_succ_cons, List.drop_zero]
            repeat (first | ((refine wpText_h rfl rfl ?_; apply Exists.intro; refine ⟨?_, ?_⟩; next => (go_simp; (try (go_bits; go_simp)); (first | done | with_reducible rfl | (rw [if_neg (by omega)]; (try (go_bits; go_simp)); (first | done | with_reducible rfl)) | (rw [if_pos (by omega)]; (try (go_bits; go_simp)); (first | done | with_reducible rfl))))); (try simp only [Act.put, List.setIfInBounds_toArray, List.set_cons_zero, List.set_cons_succ])) | ((refine wpText_p rfl rfl ?_; apply Exists.intro; refine ⟨?_, ?_⟩; next => (intro w'; go_simp; (try (go_bits; go_simp)); (first | done | with_reducible rfl | (rw [if_neg (by omega)]; (try (go_bits; go_simp)); (first | done | with_reducible rfl)) | (rw [if_pos (by omega)]; (try (go_bits; go_simp)); (first | done | with_reducible rfl))))); (try simp only [Act.put, List.setIfInBounds_toArray, List.set_cons_zero, List.set_cons_succ])) | ((refine wpText_y rfl rfl ?_; apply Exists.intro; refine ⟨?_, ?_⟩; next => (intro w' hS; (first | obtain ⟨_, rfl⟩ := hS | skip); go_simp; (try (go_bits; go_simp)); (first | done | with_reducible rfl | (rw [if_neg (by omega)]; (try (go_bits; go_simp)); (first | done | with_reducible rfl)) | (rw [if_pos (by omega)]; (try (go_bits; go_simp)); (first | done | with_reducible rfl))))); (try simp only [Act.put, List.setIfInBounds_toArray, List.set_cons_zero, List.set_cons_succ])) | (refine wpText_skip (by first | exact .inl rfl | exact .inr (.inl rfl) | exact .inr (.inr rfl)) rfl ?_; (try simp only [Act.put, List.setIfInBounds_toArray, List.set_cons_zero, List.set_cons_succ])))
            refine wpText_e rfl rfl (fun K hK => ?_)
            go_wp2
            refine hK _ _ (cell_only e2 ((Only.refl [] w2).alloc _).drew) ?_
            clear hK K
            (try simp only [Act.put, List.setIfInBounds_toArray, List.set_cons_zero, List.set_cons_succ])
            repeat (first | ((refine wpText_h rfl rfl ?_; apply Exists.intro; refine ⟨?_, ?_⟩; next => (go_simp; (try (go_bits; go_simp)); (first | done | with_reducible rfl | (rw [if_neg (by omega)]; (try (go_bits; go_simp)); (first | done | with_reducible rfl)) | (rw [if_pos (by omega)]; (try (go_bits; go_simp)); (first | done | with_reducible rfl))))); (try simp only [Act.put, List.setIfInBounds_toArray, List.set_cons_zero, List.set_cons_succ])) | ((refine wpText_p rfl rfl ?_; apply Exists.intro; refine ⟨?_, ?_⟩; next => (intro w'; go_simp; (try (go_bits; go_simp)); (first | done | with_reducible rfl | (rw [if_neg (by omega)]; (try (go_bits; go_simp)); (first | done | with_reducible rfl)) | (rw [if_pos (by omega)]; (try (go_bits; go_simp)); (first | done | with_reducible rfl))))); (try simp only [Act.put, List.setIfInBounds_toArray, List.set_cons_zero, List.set_cons_succ])) | ((refine wpText_y rfl rfl ?_; apply Exists.intro; refine ⟨?_, ?_⟩; next => (intro w' hS; (first | obtain ⟨_, rfl⟩ := hS | skip); go_simp; (try (go_bits; go_simp)); (first | done | with_reducible rfl | (rw [if_neg (by omega)]; (try (go_bits; go_simp)); (first | done | with_reducible rfl)) | (rw [if_pos (by omega)]; (try (go_bits; go_simp)); (first | done | with_reducible rfl))))); (try simp only [Act.put, List.setIfInBounds_toArray, List.set_cons_zero, List.set_cons_succ])) | (refine wpText_skip (by first | exact .inl rfl | exact .inr (.inl rfl) | exact .inr (.inr rfl)) rfl ?_; (try simp only [Act.put, List.setIfInBounds_toArray, List.set_cons_zero, List.set_cons_succ])))
            obtain ⟨W3, hW3⟩ : ∃ W3, W3 = (w2.alloc (.cells #[] rrT)).drew := ⟨_, rfl⟩
            rw [← hW3]
            have ho3 : Only [] w2 W3 := by rw [hW3]; exact ((Only.refl [] w2).alloc _).drew
            have hnew : W3.ownsRow w2.heap.size rrT 3 (.slice (some ⟨w2.heap.size, 0, none⟩) 0 0) 0 [] := by
              refine ⟨rfl, .inr ⟨_, _, #[], rfl, ?_, ?_, Nat.le_refl _, by simp [maxLen], rfl, rfl⟩⟩
              · exact Nat.le_refl _
              · rw [hW3]; exact (Blk.newA (c := #[]) rfl).drew
            have hsz3 : w2.heap.size < W3.heap.size := by rw [hW3]; simp
            have hrow3 := own_nil HROW.out (H2.out.1.trans ho3)
            obtain ⟨i0, hi0', hz0, hs0, hb0⟩ := info_parts rr_info
            have hcs3 : ∀ i u, (Q.l.flatMap Rq.cells)[i]? = some u → W3.cell? ⟨g, i, none⟩ = some u := fun j u hu => by have := hrow3.cells rfl j u hu; rwa [addr_add, Nat.zero_add] at this
            have hm0 : ∀ k r, (Q.l.take i)[k]? = some r → Q.l[0 + k]? = some r := fun k r hk => by
              rw [List.getElem?_take] at hk
              split at hk
              · rwa [Nat.zero_add]
              · cases hk
            refine wpText_e rfl rfl (fun K hK => ?_)
            refine wp_append_own _ (.tmp 104) (.tmp 110) 70 rfl w2.heap.size rrT i0 (.agg #[I64 0, I64 0, I64 0]) 3 24 Try.underlying70 hi0' hz0 hs0 hb0 rfl (by decide) (.slice (some ⟨w2.heap.size, 0, none⟩) 0 0) 0 [] rfl hnew ⟨g, 0, none⟩ i _ ((Q.l.take i).flatMap Rq.cells) rfl (by rw [rqflat_len, List.length_take, Nat.min_eq_left (by have := HN.out; omega)]) (fun j u hu => by rw [addr_add]; exact (by simpa using rr_part (j := 0) hcs3 hm0 j u hu)) (rq_one _) (by simp only [maxLen]; omega) (by omega) ho3.size ?_
            intro v2 w4 hr2 hg2 hnil
            obtain ⟨A2, cp2, rfl⟩ := own_shape hr2
            have hog : Only [w2.heap.size] W3 w4 := Only.of_grown hg2 (fun x hx => by simpa [Value.ownBlock, eq_comm] using hx)
            have ho4 : Only [] w2 w4 := ho3.trans' hog (by intro j hj hlt; simp at hj; omega)
            have s4 := cell_only e2 ho4
            have HR2 := hide hr2
            have HO4 := hide ho4
            have HROW4 := hide (own_nil HROW.out (H2.out.1.trans ho4))
            have HCS4 : Hid (∀ i u, (Q.l.flatMap Rq.cells)[i]? = some u → w4.cell? ⟨g, i, none⟩ = some u) := hide (fun j u hu => by have := HROW4.out.cells rfl j u hu; rwa [addr_add, Nat.zero_add] at this)
            have HM1 : Hid (∀ k r, (Q.l.drop (i + 1))[k]? = some r → Q.l[(i + 1) + k]? = some r) := hide (fun k r hk => by rwa [List.getElem?_drop] at hk)
            refine hK _ _ s4 ?_
            clear hK K hr2 hg2 hnil ho4 hrow3 hcs3 hm0 hnew hsz3 ho3 hW3 e2 le2
            repeat (first | ((refine wpText_h rfl rfl ?_; apply Exists.intro; refine ⟨?_, ?_⟩; next => (go_simp; (try (go_bits; go_simp)); (first | done | with_reducible rfl | (rw [if_neg (by omega)]; (try (go_bits; go_simp)); (first | done | with_reducible rfl)) | (rw [if_pos (by omega)]; (try (go_bits; go_simp)); (first | done | with_reducible rfl))))); (try simp only [Act.put, List.setIfInBounds_toArray, List.set_cons_zero, List.set_cons_succ])) | ((refine wpText_p rfl rfl ?_; apply Exists.intro; refine ⟨?_, ?_⟩; next => (intro w'; go_simp; (try (go_bits; go_simp)); (first | done | with_reducible rfl | (rw [if_neg (by omega)]; (try (go_bits; go_simp)); (first | done | with_reducible rfl)) | (rw [if_pos (by omega)]; (try (go_bits; go_simp)); (first | done | with_reducible rfl))))); (try simp only [Act.put, List.setIfInBounds_toArray, List.set_cons_zero, List.set_cons_succ])) | ((refine wpText_y rfl rfl ?_; apply Exists.intro; refine ⟨?_, ?_⟩; next => (intro w' hS; (first | obtain ⟨_, rfl⟩ := hS | skip); go_simp; (try (go_bits; go_simp)); (first | done | with_reducible rfl | (rw [if_neg (by omega)]; (try (go_bits; go_simp)); (first | done | with_reducible rfl)) | (rw [if_pos (by omega)]; (try (go_bits; go_simp)); (first | done | with_reducible rfl))))); (try simp only [Act.put, List.setIfInBounds_toArray, List.set_cons_zero, List.set_cons_succ])) | (refine wpText_skip (by first | exact .inl rfl | exact .inr (.inl rfl) | exact .inr (.inr rfl)) rfl ?_; (try simp only [Act.put, List.setIfInBounds_toArray, List.set_cons_zero, List.set_cons_succ])))
            refine wpText_nil ?_
            obtain ⟨ad, had, had2⟩ : ∃ ad : Addr, (if cap = i + 1 then some ⟨g, 0, none⟩ else some ⟨g, (i + 1) * 3, none⟩) = some ad ∧ (n = i + 1 ∨ ad = ⟨g, (i + 1) * 3, none⟩) := by
              by_cases hc : cap = i + 1
              · rw [if_pos hc]; exact ⟨_, rfl, .inl (by omega)⟩
              · rw [if_neg hc]; exact ⟨_, rfl, .inr rfl⟩
            rw [had]
            have hcs : ∀ j u, ((Q.l.drop (i + 1)).flatMap Rq.cells)[j]? = some u → w4.cell? (ad.add j) = some u := by
              intro j u hu
              rcases had2 with hd | hd
              · rw [List.drop_eq_nil_of_le (by have := HN.out; omega)] at hu
                cases hu
              · rw [hd, addr_add]
                exact rr_part (j := i + 1) HCS4.out HM1.out j u hu
            have HCS := hide hcs
            have HAD := hide had
            clear had had2 hcs
            refine wpList_append_own _ rfl (.tmp 111) (.tmp 118) 70 rfl w2.heap.size rrT i0 (.agg #[I64 0, I64 0, I64 0]) 3 24 Try.underlying70 hi0' hz0 hs0 hb0 rfl (by decide) (.slice A2 (0 + i) cp2) _ _ rfl HR2.out ad (n - (i + 1)) (cap - (i + 1)) ((Q.l.drop (i + 1)).flatMap Rq.cells) rfl (by rw [rqflat_len, List.length_drop, HN.out]) HCS.out (rq_one _) (by simp only [maxLen]; omega) (by omega) HO4.out.size ?_
            intro v5 w5 hr5 hg5 hnil5
            obtain ⟨A5, cp5, rfl⟩ := own_shape hr5
            have hr5' : w5.ownsRow w2.heap.size rrT 3 (.slice A5 (n - 1) cp5) (n - 1) ((Q.l.eraseIdx i).flatMap Rq.cells) := by
              have e1 : 0 + i + (n - (i + 1)) = n - 1 := by omega
              rw [e1, List.nil_append, ← List.flatMap_append, ← List.eraseIdx_eq_take_drop_succ] at hr5
              exact hr5
            have e1 : 0 + i + (n - (i + 1)) = n - 1 := by omega
            rw [e1]
            have ho5 : Only [] w2 w5 := HO4.out.trans' (Only.of_grown (S := (Value.slice A2 (0 + i) cp2).ownBlock.toList) hg5 (fun x hx => mem_own.2 hx)) (by
              intro j hj hlt
              have := (HR2.out.lt j (mem_own.1 hj)).1
              omega)
            have me5 := ho5.blk (H2.out.1.blk HME.out (by simp)) (by simp)
            have z2 := me5.cell (i := 2) rfl
            have f2 := me5.frozen 2
            have lq5 := me5.lt
            have H5 := hide (And.intro hr5' (And.intro ho5 me5))
            clear hr5 hr5' hg5 hnil5 ho5 me5
            go_wp2
            refine NoX.normal ?_
            obtain ⟨W6, hW6⟩ : ∃ W6, W6 = w5.setCell ⟨q, 2, none⟩ (.slice A5 (n - 1) cp5) := ⟨_, rfl⟩
            rw [← hW6]
            obtain ⟨hr5, ho5, me5⟩ := H5.out
            have hqw := HBS.out.2.1
            have hww1 : w.heap.size < w1.heap.size := HB41.out.lt
            have h12 := H2.out.1.size
            have l9 := H2.out.2.lt
            have hb9 : Blk W6 w1.heap.size rrT r.cells := by rw [hW6]; exact (ho5.blk H2.out.2 (by simp)).far (by simp; omega) _
            have hb4 : Blk W6 w.heap.size rrT zeroR.cells := by rw [hW6]; exact (ho5.blk (H2.out.1.blk HB41.out (by simp)) (by simp)).far (by simp; omega) _
            have me6 : Blk W6 q ruT [I64 Q.head, .bool Q.down, .slice A5 (n - 1) cp5] := by rw [hW6]; exact me5.set 2 _
            have hr6 : W6.ownsRow w2.heap.size rrT 3 (.slice A5 (n - 1) cp5) (n - 1) ((Q.l.eraseIdx i).flatMap Rq.cells) := by
              rw [hW6]
              exact own_setCell hr5 (own_ne_blk hr5 me5 (by decide)) _
            have ho6 : Only [q] w W6 := by
              rw [hW6]
              exact ((HO0.out.mono (by simp)).trans (H1.out.2.2.trans ((H2.out.1.trans ho5).mono (by simp)))).set (.inl (by simp)) _
            have t0 := hb9.cell (i := 0) rfl
            have t1 := hb9.cell (i := 1) rfl
            have t2 := hb9.cell (i := 2) rfl
            have lt9 := hb9.lt
            have u0 := me6.cell (i := 0) rfl
            have uf := fun i => me6.frozen i
            have lq6 := me6.lt
            have hqb : q ≠ w1.heap.size := by omega
            have HB5 : Hid (Blk (W6.setCell ⟨q, 0, none⟩ (I64 r.blk)) w.heap.size rrT zeroR.cells) := hide (hb4.far (by simp; omega) _)
            have H6 := hide (And.intro me6 (And.intro hr6 ho6))
            clear hW6 hr5 ho5 me5 hb9 hb4 me6 hr6 ho6 z2 f2 lq5
            go_wp2_with (refine wpList_store_cells rfl rrT (.tmp 4) (.tmp 127) rfl w.heap.size 0 rfl r.cells rfl rrT zeroR.cells HB5.out (by exact Nat.le_refl _) (by kernel_rfl) (by simp [Rq.cells, Value.oneCell']) ?_; intro w7 hw7)
            have hz : Blk w7 w.heap.size rrT r.cells := hw7.1.to (by simp [Rq.cells, zeroR])
            obtain ⟨me6, hr6, ho6⟩ := H6.out
            refine bodyPost_ret (results_cell_tmp rfl _ _ _ rfl (load_rr hz)) rfl ?_
            refine ⟨.slice A5 (n - 1) cp5, by rw [HNX.out]; rfl, ?_, ?_⟩
            · rw [HNX.out]
              refine ⟨hw7.2.1.blk (me6.set 0 _) (by simp; omega), ?_, HQ.out.ok.next HR.out _⟩
              have hl : (Q.l.eraseIdx i).length = n - 1 := by rw [List.length_eraseIdx, if_pos (by rw [← HN.out]; exact hiN), ← HN.out]
              have h5 := own_setCell hr6 (p := ⟨q, 0, none⟩) (own_ne_blk hr6 me6 (by decide)) (I64 r.blk)
              show w7.ownsRow base rrT 3 _ (Q.l.eraseIdx i).length _
              rw [hl]
              refine own_base (own_only h5 hw7.2.1 (fun k hk hm => ?_)) (Nat.le_trans HBS.out.1 (Nat.le_trans H1.out.2.2.size H2.out.1.size))
              have := (hr6.lt k hk).1
              simp at hm
              omega
            · exact (ho6.set (p := ⟨q, 0, none⟩) (.inl (by simp)) _).trans' hw7.2.1 (by intro j hj hlt; simp at hj; omega)
          | none =>
            obtain ⟨i, hi⟩ := near_other HNE.out Q.down HNR.out.symm
            have HI2 := hide hi
            clear hi
            go_upto_region 10 with (go_at_call 52; refine hnl.out.mono ?_; clear hnl; rw [show ixI none = (-1 : Int) from rfl]; rintro e w3 ⟨rfl, ho1⟩; have HO := hide (HO1.out.trans ho1); clear ho1)
            have h3 := HO.out.blk HQ.out.me (by simp)
            have c1 := h3.cell (i := 1) rfl
            have f1 := h3.frozen 1
            have lq3 := h3.lt
            clear h3 c2 lq2
            go_upto_region 12 with fail
            obtain ⟨W3, hW3⟩ : ∃ W3, W3 = w3.setCell ⟨q, 1, none⟩ (.bool (!Q.down)) := ⟨_, rfl⟩
            rw [← hW3]
            have hQ3 : RuAt base W3 q (.slice A Q.l.length cap) { Q with down := !Q.down } := by
              rw [hW3]
              have h := HQ.out.keep HO.out
              exact ⟨h.me.set 1 _, own_setCell h.row (own_ne_blk h.row h.me (by decide)) _, ⟨h.ok.h0, h.ok.h1, h.ok.ok, h.ok.nd, h.ok.len⟩⟩
            have ho3 : Only [q] W0 W3 := by
              rw [hW3]
              exact (HO.out.mono (by simp)).set (.inl (by simp)) _
            have hnl := hide (rnear_ok base q _ _ W3 hQ3)
            rw [show Qu.near { Q with down := !Q.down } (Qu.down { Q with down := !Q.down }) = Q.near (!Q.down) from rfl, HI2.out] at hnl
            have HQ3 := hide hQ3
            have HO3 := hide ho3
            clear hW3 hQ3 ho3 c1 f1 lq3
            go_upto_region 13 with (go_at_call 52; refine hnl.out.mono ?_; clear hnl; rw [show ixI (some i) = (i : Int) from rfl]; rintro e w1 ⟨rfl, ho4⟩; have HO4 := hide ho4; clear ho4)
            have H1 : Hid (Q.pick now = (some i, !Q.down) ∧ RuAt base w1 q (.slice A Q.l.length cap) { Q with down := !Q.down } ∧ Only [q] W0 w1) := hide ⟨by unfold Qu.pick; rw [HDU.out]; simp only; rw [← HNR.out]; simp only; rw [HI2.out], HQ3.out.keep HO4.out, HO3.out.trans (HO4.out.mono (by simp))⟩
            have hi1 : ¬ ((i : Nat) : Int) < 0 := by omega
            obtain ⟨hpk, hQ1, ho1⟩ := H1.out
            have hiN : i < n := by have := pick_lt (Q := Q) (now := now) (i := i) (by rw [hpk]); rw [HN.out]; exact this
            obtain ⟨r, hr⟩ : ∃ r, Q.l[i]? = some r := ⟨_, List.getElem?_eq_getElem (by rw [← HN.out]; exact hiN)⟩
            obtain ⟨g, cp, hsl⟩ := own_slice hQ1.row (by have := HN.out; show 0 < Q.l.length; omega)
            obtain rfl : A = some ⟨g, 0, none⟩ := by injection hsl
            have hrow1 : w1.ownsRow base rrT 3 (.slice (some ⟨g, 0, none⟩) n cap) n (Q.l.flatMap Rq.cells) := by
              have := hQ1.row
              rwa [show ({ Q with down := (!Q.down) } : Qu).l = Q.l from rfl, ← HN.out] at this
            obtain ⟨x0, x1, x2⟩ := rrow_cells hrow1 rfl hr
            have hme1 := hQ1.me
            rw [← HN.out] at hme1
            have d2 := hme1.cell (i := 2) rfl
            have lq1 := hme1.lt
            have HNX : Hid (Q.next now = (⟨r.blk, (!Q.down), Q.l.eraseIdx i⟩, (r, true))) := hide (by unfold Qu.next; rw [hpk]; simp only; rw [hr])
            have hcap := (own_caps hrow1).1
            have hcap2 : cap ≤ 9223372036854775807 := Nat.le_trans (own_caps hrow1).2 (by simp [maxLen])
            have HR := hide hr
            have HROW := hide hrow1
            have HME := hide hme1
            have hi0 : ((i : Nat) : Int) < (n : Int) := by omega
            have hi1 : ¬ ((i : Nat) : Int) < 0 := by omega
            have HB41 : Hid (Blk w1 w.heap.size rrT zeroR.cells) := hide (ho1.blk HB4.out (by have := HBS.out; simp; omega))
            clear hpk hQ1 ho1 hr hrow1 hme1 hsl
            go_upto_region 16 with (refine wpList_store_cells rfl rrT (.tmp 9) (.tmp 102) rfl w1.heap.size 0 rfl r.cells rfl rrT [I64 0, I64 0, I64 0] (Blk.newA rfl) (by exact Nat.le_refl _) (by kernel_rfl) (by simp [Rq.cells, Value.oneCell']) ?_; intro w2 hw2)
            simp only [Act.put]
            have hox : Only [] w1 w2 := ((Only.refl [] w1).alloc _).trans' hw2.2.1 (by intro i hi hlt; simp at hi; omega)
            have hb9 : Blk w2 w1.heap.size rrT r.cells := hw2.1.to (by simp [Rq.cells])
            have e2 := (hox.blk HME.out (by simp)).cell (i := 2) rfl
            have le2 := (hox.blk HME.out (by simp)).lt
            have H2 := hide (And.intro hox hb9)
            clear hw2 hox hb9 x0 x1 x2 d2 lq1
            refine wp_region_text 16 [1, 8] [0, 2, 3, 4, 6, 7, 9, 10, 11, 13, 14, 15] [5, 12] (fun W => W.cell? ⟨q, 2, none⟩ = some (.slice (some ⟨g, 0, none⟩) n cap)) (by kernel_rfl) (by kernel_rfl) e2 ?_
            simp only [List.take_succ_cons, List.take_zero, List.drop_succ_cons, List.drop_zero]
            repeat (first | ((refine wpText_h rfl rfl ?_; apply Exists.intro; refine ⟨?_, ?_⟩; next => (go_simp; (try (go_bits; go_simp)); (first | done | with_reducible rfl | (rw [if_neg (by omega)]; (try (go_bits; go_simp)); (first | done | with_reducible rfl)) | (rw [if_pos (by omega)]; (try (go_bits; go_simp)); (first | done | with_reducible rfl))))); (try simp only [Act.put, List.setIfInBounds_toArray, List.set_cons_zero, List.set_cons_succ])) | ((refine wpText_p rfl rfl ?_; apply Exists.intro; refine ⟨?_, ?_⟩; next => (intro w'; go_simp; (try (go_bits; go_simp)); (first | done | with_reducible rfl | (rw [if_neg (by omega)]; (try (go_bits; go_simp)); (first | done | with_reducible rfl)) | (rw [if_pos (by omega)]; (try (go_bits; go_simp)); (first | done | with_reducible rfl))))); (try simp only [Act.put, List.setIfInBounds_toArray, List.set_cons_zero, List.set_cons_succ])) | ((refine wpText_y rfl rfl ?_; apply Exists.intro; refine ⟨?_, ?_⟩; next => (intro w' hS; (first | obtain ⟨_, rfl⟩ := hS | skip); go_simp; (try (go_bits; go_simp)); (first | done | with_reducible rfl | (rw [if_neg (by omega)]; (try (go_bits; go_simp)); (first | done | with_reducible rfl)) | (rw [if_pos (by omega)]; (try (go_bits; go_simp)); (first | done | with_reducible rfl))))); (try simp only [Act.put, List.setIfInBounds_toArray, List.set_cons_zero, List.set_cons_succ])) | (refine wpText_skip (by first | exact .inl rfl | exact .inr (.inl rfl) | exact .inr (.inr rfl)) rfl ?_; (try simp only [Act.put, List.setIfInBounds_toArray, List.set_cons_zero, List.set_cons_succ])))
            refine wpText_e rfl rfl (fun K hK => ?_)
            go_wp2
            refine hK _ _ (cell_only e2 ((Only.refl [] w2).alloc _).drew) ?_
            clear hK K
            (try simp only [Act.put, List.setIfInBounds_toArray, List.set_cons_zero, List.set_cons_succ])
            repeat (first | ((refine wpText_h rfl rfl ?_; apply Exists.intro; refine ⟨?_, ?_⟩; next => (go_simp; (try (go_bits; go_simp)); (first | done | with_reducible rfl | (rw [if_neg (by omega)]; (try (go_bits; go_simp)); (first | done | with_reducible rfl)) | (rw [if_pos (by omega)]; (try (go_bits; go_simp)); (first | done | with_reducible rfl))))); (try simp only [Act.put, List.setIfInBounds_toArray, List.set_cons_zero, List.set_cons_succ])) | ((refine wpText_p rfl rfl ?_; apply Exists.intro; refine ⟨?_, ?_⟩; next => (intro w'; go_simp; (try (go_bits; go_simp)); (first | done | with_reducible rfl | (rw [if_neg (by omega)]; (try (go_bits; go_simp)); (first | done | with_reducible rfl)) | (rw [if_pos (by omega)]; (try (go_bits; go_simp)); (first | done | with_reducible rfl))))); (try simp only [Act.put, List.setIfInBounds_toArray, List.set_cons_zero, List.set_cons_succ])) | ((refine wpText_y rfl rfl ?_; apply Exists.intro; refine ⟨?_, ?_⟩; next => (intro w' hS; (first | obtain ⟨_, rfl⟩ := hS | skip); go_simp; (try (go_bits; go_simp)); (first | done | with_reducible rfl | (rw [if_neg (by omega)]; (try (go_bits; go_simp)); (first | done | with_reducible rfl)) | (rw [if_pos (by omega)]; (try (go_bits; go_simp)); (first | done | with_reducible rfl))))); (try simp only [Act.put, List.setIfInBounds_toArray, List.set_cons_zero, List.set_cons_succ])) | (refine wpText_skip (by first | exact .inl rfl | exact .inr (.inl rfl) | exact .inr (.inr rfl)) rfl ?_; (try simp only [Act.put, List.setIfInBounds_toArray, List.set_cons_zero, List.set_cons_succ])))
            obtain ⟨W3, hW3⟩ : ∃ W3, W3 = (w2.alloc (.cells #[] rrT)).drew := ⟨_, rfl⟩
            rw [← hW3]
            have ho3 : Only [] w2 W3 := by rw [hW3]; exact ((Only.refl [] w2).alloc _).drew
            have hnew : W3.ownsRow w2.heap.size rrT 3 (.slice (some ⟨w2.heap.size, 0, none⟩) 0 0) 0 [] := by
              refine ⟨rfl, .inr ⟨_, _, #[], rfl, ?_, ?_, Nat.le_refl _, by simp [maxLen], rfl, rfl⟩⟩
              · exact Nat.le_refl _
              · rw [hW3]; exact (Blk.newA (c := #[]) rfl).drew
            have hsz3 : w2.heap.size < W3.heap.size := by rw [hW3]; simp
            have hrow3 := own_nil HROW.out (H2.out.1.trans ho3)
            obtain ⟨i0, hi0', hz0, hs0, hb0⟩ := info_parts rr_info
            have hcs3 : ∀ i u, (Q.l.flatMap Rq.cells)[i]? = some u → W3.cell? ⟨g, i, none⟩ = some u := fun j u hu => by have := hrow3.cells rfl j u hu; rwa [addr_add, Nat.zero_add] at this
            have hm0 : ∀ k r, (Q.l.take i)[k]? = some r → Q.l[0 + k]? = some r := fun k r hk => by
              rw [List.getElem?_take] at hk
              split at hk
              · rwa [Nat.zero_add]
              · cases hk
            refine wpText_e rfl rfl (fun K hK => ?_)
            refine wp_append_own _ (.tmp 104) (.tmp 110) 70 rfl w2.heap.size rrT i0 (.agg #[I64 0, I64 0, I64 0]) 3 24 Try.underlying70 hi0' hz0 hs0 hb0 rfl (by decide) (.slice (some ⟨w2.heap.size, 0, none⟩) 0 0) 0 [] rfl hnew ⟨g, 0, none⟩ i _ ((Q.l.take i).flatMap Rq.cells) rfl (by rw [rqflat_len, List.length_take, Nat.min_eq_left (by have := HN.out; omega)]) (fun j u hu => by rw [addr_add]; exact (by simpa using rr_part (j := 0) hcs3 hm0 j u hu)) (rq_one _) (by simp only [maxLen]; omega) (by omega) ho3.size ?_
            intro v2 w4 hr2 hg2 hnil
            obtain ⟨A2, cp2, rfl⟩ := own_shape hr2
            have hog : Only [w2.heap.size] W3 w4 := Only.of_grown hg2 (fun x hx => by simpa [Value.ownBlock, eq_comm] using hx)
            have ho4 : Only [] w2 w4 := ho3.trans' hog (by intro j hj hlt; simp at hj; omega)
            have s4 := cell_only e2 ho4
            have HR2 := hide hr2
            have HO4 := hide ho4
            have HROW4 := hide (own_nil HROW.out (H2.out.1.trans ho4))
            have HCS4 : Hid (∀ i u, (Q.l.flatMap Rq.cells)[i]? = some u → w4.cell? ⟨g, i, none⟩ = some u) := hide (fun j u hu => by have := HROW4.out.cells rfl j u hu; rwa [addr_add, Nat.zero_add] at this)
            have HM1 : Hid (∀ k r, (Q.l.drop (i + 1))[k]? = some r → Q.l[(i + 1) + k]? = some r) := hide (fun k r hk => by rwa [List.getElem?_drop] at hk)
            refine hK _ _ s4 ?_
            clear hK K hr2 hg2 hnil ho4 hrow3 hcs3 hm0 hnew hsz3 ho3 hW3 e2 le2
            repeat (first | ((refine wpText_h rfl rfl ?_; apply Exists.intro; refine ⟨?_, ?_⟩; next => (go_simp; (try (go_bits; go_simp)); (first | done | with_reducible rfl | (rw [if_neg (by omega)]; (try (go_bits; go_simp)); (first | done | with_reducible rfl)) | (rw [if_pos (by omega)]; (try (go_bits; go_simp)); (first | done | with_reducible rfl))))); (try simp only [Act.put, List.setIfInBounds_toArray, List.set_cons_zero, List.set_cons_succ])) | ((refine wpText_p rfl rfl ?_; apply Exists.intro; refine ⟨?_, ?_⟩; next => (intro w'; go_simp; (try (go_bits; go_simp)); (first | done | with_reducible rfl | (rw [if_neg (by omega)]; (try (go_bits; go_simp)); (first | done | with_reducible rfl)) | (rw [if_pos (by omega)]; (try (go_bits; go_simp)); (first | done | with_reducible rfl))))); (try simp only [Act.put, List.setIfInBounds_toArray, List.set_cons_zero, List.set_cons_succ])) | ((refine wpText_y rfl rfl ?_; apply Exists.intro; refine ⟨?_, ?_⟩; next => (intro w' hS; (first | obtain ⟨_, rfl⟩ := hS | skip); go_simp; (try (go_bits; go_simp)); (first | done | with_reducible rfl | (rw [if_neg (by omega)]; (try (go_bits; go_simp)); (first | done | with_reducible rfl)) | (rw [if_pos (by omega)]; (try (go_bits; go_simp)); (first | done | with_reducible rfl))))); (try simp only [Act.put, List.setIfInBounds_toArray, List.set_cons_zero, List.set_cons_succ])) | (refine wpText_skip (by first | exact .inl rfl | exact .inr (.inl rfl) | exact .inr (.inr rfl)) rfl ?_; (try simp only [Act.put, List.setIfInBounds_toArray, List.set_cons_zero, List.set_cons_succ])))
            refine wpText_nil ?_
            obtain ⟨ad, had, had2⟩ : ∃ ad : Addr, (if cap = i + 1 then some ⟨g, 0, none⟩ else some ⟨g, (i + 1) * 3, none⟩) = some ad ∧ (n = i + 1 ∨ ad = ⟨g, (i + 1) * 3, none⟩) := by
              by_cases hc : cap = i + 1
              · rw [if_pos hc]; exact ⟨_, rfl, .inl (by omega)⟩
              · rw [if_neg hc]; exact ⟨_, rfl, .inr rfl⟩
            rw [had]
            have hcs : ∀ j u, ((Q.l.drop (i + 1)).flatMap Rq.cells)[j]? = some u → w4.cell? (ad.add j) = some u := by
              intro j u hu
              rcases had2 with hd | hd
              · rw [List.drop_eq_nil_of_le (by have := HN.out; omega)] at hu
                cases hu
              · rw [hd, addr_add]
                exact rr_part (j := i + 1) HCS4.out HM1.out j u hu
            have HCS := hide hcs
            have HAD := hide had
            clear had had2 hcs
            refine wpList_append_own _ rfl (.tmp 111) (.tmp 118) 70 rfl w2.heap.size rrT i0 (.agg #[I64 0, I64 0, I64 0]) 3 24 Try.underlying70 hi0' hz0 hs0 hb0 rfl (by decide) (.slice A2 (0 + i) cp2) _ _ rfl HR2.out ad (n - (i + 1)) (cap - (i + 1)) ((Q.l.drop (i + 1)).flatMap Rq.cells) rfl (by rw [rqflat_len, List.length_drop, HN.out]) HCS.out (rq_one _) (by simp only [maxLen]; omega) (by omega) HO4.out.size ?_
            intro v5 w5 hr5 hg5 hnil5
            obtain ⟨A5, cp5, rfl⟩ := own_shape hr5
            have hr5' : w5.ownsRow w2.heap.size rrT 3 (.slice A5 (n - 1) cp5) (n - 1) ((Q.l.eraseIdx i).flatMap Rq.cells) := by
              have e1 : 0 + i + (n - (i + 1)) = n - 1 := by omega
              rw [e1, List.nil_append, ← List.flatMap_append, ← List.eraseIdx_eq_take_drop_succ] at hr5
              exact hr5
            have e1 : 0 + i + (n - (i + 1)) = n - 1 := by omega
            rw [e1]
            have ho5 : Only [] w2 w5 := HO4.out.trans' (Only.of_grown (S := (Value.slice A2 (0 + i) cp2).ownBlock.toList) hg5 (fun x hx => mem_own.2 hx)) (by
              intro j hj hlt
              have := (HR2.out.lt j (mem_own.1 hj)).1
              omega)
            have me5 := ho5.blk (H2.out.1.blk HME.out (by simp)) (by simp)
            have z2 := me5.cell (i := 2) rfl
            have f2 := me5.frozen 2
            have lq5 := me5.lt
            have H5 := hide (And.intro hr5' (And.intro ho5 me5))
            clear hr5 hr5' hg5 hnil5 ho5 me5
            go_wp2
            refine NoX.normal ?_
            obtain ⟨W6, hW6⟩ : ∃ W6, W6 = w5.setCell ⟨q, 2, none⟩ (.slice A5 (n - 1) cp5) := ⟨_, rfl⟩
            rw [← hW6]
            obtain ⟨hr5, ho5, me5⟩ := H5.out
            have hqw := HBS.out.2.1
            have hww1 : w.heap.size < w1.heap.size := HB41.out.lt
            have h12 := H2.out.1.size
            have l9 := H2.out.2.lt
            have hb9 : Blk W6 w1.heap.size rrT r.cells := by rw [hW6]; exact (ho5.blk H2.out.2 (by simp)).far (by simp; omega) _
            have hb4 : Blk W6 w.heap.size rrT zeroR.cells := by rw [hW6]; exact (ho5.blk (H2.out.1.blk HB41.out (by simp)) (by simp)).far (by simp; omega) _
            have me6 : Blk W6 q ruT [I64 Q.head, .bool (!Q.down), .slice A5 (n - 1) cp5] := by rw [hW6]; exact me5.set 2 _
            have hr6 : W6.ownsRow w2.heap.size rrT 3 (.slice A5 (n - 1) cp5) (n - 1) ((Q.l.eraseIdx i).flatMap Rq.cells) := by
              rw [hW6]
              exact own_setCell hr5 (own_ne_blk hr5 me5 (by decide)) _
            have ho6 : Only [q] w W6 := by
              rw [hW6]
              exact ((HO0.out.mono (by simp)).trans (H1.out.2.2.trans ((H2.out.1.trans ho5).mono (by simp)))).set (.inl (by simp)) _
            have t0 := hb9.cell (i := 0) rfl
            have t1 := hb9.cell (i := 1) rfl
            have t2 := hb9.cell (i := 2) rfl
            have lt9 := hb9.lt
            have u0 := me6.cell (i := 0) rfl
            have uf := fun i => me6.frozen i
            have lq6 := me6.lt
            have hqb : q ≠ w1.heap.size := by omega
            have HB5 : Hid (Blk (W6.setCell ⟨q, 0, none⟩ (I64 r.blk)) w.heap.size rrT zeroR.cells) := hide (hb4.far (by simp; omega) _)
            have H6 := hide (And.intro me6 (And.intro hr6 ho6))
            clear hW6 hr5 ho5 me5 hb9 hb4 me6 hr6 ho6 z2 f2 lq5
            go_wp2_with (refine wpList_store_cells rfl rrT (.tmp 4) (.tmp 127) rfl w.heap.size 0 rfl r.cells rfl rrT zeroR.cells HB5.out (by exact Nat.le_refl _) (by kernel_rfl) (by simp [Rq.cells, Value.oneCell']) ?_; intro w7 hw7)
            have hz : Blk w7 w.heap.size rrT r.cells := hw7.1.to (by simp [Rq.cells, zeroR])
            obtain ⟨me6, hr6, ho6⟩ := H6.out
            refine bodyPost_ret (results_cell_tmp rfl _ _ _ rfl (load_rr hz)) rfl ?_
            refine ⟨.slice A5 (n - 1) cp5, by rw [HNX.out]; rfl, ?_, ?_⟩
            · rw [HNX.out]
              refine ⟨hw7.2.1.blk (me6.set 0 _) (by simp; omega), ?_, HQ.out.ok.next HR.out _⟩
              have hl : (Q.l.eraseIdx i).length = n - 1 := by rw [List.length_eraseIdx, if_pos (by rw [← HN.out]; exact hiN), ← HN.out]
              have h5 := own_setCell hr6 (p := ⟨q, 0, none⟩) (own_ne_blk hr6 me6 (by decide)) (I64 r.blk)
              show w7.ownsRow base rrT 3 _ (Q.l.eraseIdx i).length _
              rw [hl]
              refine own_base (own_only h5 hw7.2.1 (fun k hk hm => ?_)) (Nat.le_trans HBS.out.1 (Nat.le_trans H1.out.2.2.size H2.out.1.size))
              have := (hr6.lt k hk).1
              simp at hm
              omega
            · exact (ho6.set (p := ⟨q, 0, none⟩) (.inl (by simp)) _).trans' hw7.2.1 (by intro j hj hlt; simp at hj; omega)

end Go.Proofs.Ytabdahojgmbgdaa
