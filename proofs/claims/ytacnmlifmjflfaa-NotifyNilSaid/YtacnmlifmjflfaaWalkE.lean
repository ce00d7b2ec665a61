/- ready: the ready list of interests. -/
import Derived.Test.YtacnmlifmjflfaaWalkD
namespace Go.Proofs.Ytacnmlifmjflfaa
open Go.RowKit

def rdy (pres : Int → Int) (x : Int × Int) : Int := bits .and .i64 (pres x.1) (bits .or .i64 x.2 8)
def cntN (pres : Int → Int) (ins : List (Int × Int)) : Nat := (ins.filter (fun x => decide (rdy pres x ≠ 0))).length
def rf (pres : Int → Int) (ins : List (Int × Int)) (k j : Nat) : Value := if j < k then (match ins[j]? with | some x => I64 (rdy pres x) | none => I64 0) else I64 0

theorem cntN_take {pres : Int → Int} {ins : List (Int × Int)} {k : Nat} {x : Int × Int} (h : ins[k]? = some x) : cntN pres (ins.take (k + 1)) = cntN pres (ins.take k) + (if rdy pres x ≠ 0 then 1 else 0) := by
  unfold cntN
  rw [List.take_add_one, h, List.filter_append, List.length_append]
  congr 1
  by_cases e : rdy pres x = 0 <;> simp [e]
theorem cntN_le (pres : Int → Int) (ins : List (Int × Int)) : cntN pres ins ≤ ins.length := List.length_filter_le _ _
theorem rf_step {pres : Int → Int} {ins : List (Int × Int)} {k : Nat} {x : Int × Int} (h : ins[k]? = some x) (j : Nat) : (if j = k then I64 (rdy pres x) else rf pres ins k j) = rf pres ins (k + 1) j := by
  unfold rf
  by_cases e : j = k
  · subst e
    rw [if_pos rfl, if_pos (by omega), h]
  · rw [if_neg e]
    by_cases a : j < k
    · rw [if_pos a, if_pos (by omega)]
    · rw [if_neg a, if_neg (by omega)]
theorem rf_end (pres : Int → Int) (ins : List (Int × Int)) : (List.range ins.length).map (rf pres ins ins.length) = (ins.map (rdy pres)).map I64 := by
  apply List.ext_getElem?
  intro j
  by_cases hj : j < ins.length
  · simp [hj, rf, List.getElem?_eq_getElem hj]
  · rw [List.getElem?_eq_none (by simp; omega), List.getElem?_eq_none (by simp; omega)]

theorem int_info : (Try.prog.info? 3).map (fun i => (i.zero, i.size, i.bytes)) = some (some (I64 0), 1, 8) := by kernel_rfl

theorem made_ints (n : Nat) : (madeCells #[.int .i64 0] n).toList = (List.range n).map (fun _ => I64 0) := by
  apply List.ext_getElem?
  intro j
  by_cases hj : j < n
  · simp [madeCells, hj, Nat.mod_one]
  · rw [List.getElem?_eq_none (by simp [madeCells]; omega), List.getElem?_eq_none (by simp; omega)]

theorem row_cells {w : World} {base : Nat} {l : Value} {ins : List (Int × Int)} (own : w.ownsRow base 64 2 l ins.length (ins.flatMap encI)) {k : Nat} {x : Int × Int} (h : ins[k]? = some x) :
    ∃ g cap, l = .slice (some ⟨g, 0, none⟩) ins.length cap ∧ w.cell? ⟨g, k * 2, none⟩ = some (I64 x.1) ∧ w.cell? ⟨g, k * 2 + 1, none⟩ = some (I64 x.2) := by
  have hk := (List.getElem?_eq_some_iff.1 h).1
  rcases own.2 with ⟨rfl, h0⟩ | ⟨g, cap, cur, rfl, hg, hh, _⟩
  · omega
  · obtain ⟨-, -, -, rest, hB, -⟩ := blk_of_row own
    refine ⟨g, cap, rfl, hB.cell ?_, hB.cell ?_⟩
    · have := flat_at (sz := 2) (enc := encI) (fun _ => rfl) ins k x 0 _ h rfl
      rw [Nat.add_zero] at this
      rw [List.getElem?_append_left (List.getElem?_eq_some_iff.1 this).1]; exact this
    · have := flat_at (sz := 2) (enc := encI) (fun _ => rfl) ins k x 1 _ h rfl
      rw [List.getElem?_append_left (List.getElem?_eq_some_iff.1 this).1]; exact this

set_option maxRecDepth 100000 in
set_option maxHeartbeats 4000000 in
theorem ready_ok (base q b m n : Nat) (cells : List Value) (pres : Int → Int) (l : Value) (ins : List (Int × Int)) (w : World) (hq : Blk w q 82 cells) (hc : cells[1]? = some (.map (some b))) (hm : PMap w b m pres)
    (own : w.ownsRow base 64 2 l n (ins.flatMap encI)) (hlen : ins.length = n) (hwf : ∀ x ∈ ins, wf64 x.1) (hn : n ≤ 1000) :
    Calls Try.prog 40 #[.pointer (some ⟨q, 0, none⟩), l] w fun e w' =>
      e = .returned (.tuple #[.slice (some ⟨w.heap.size, 0, none⟩) n n, I64 (cntN pres ins)]) ∧ Blk w' w.heap.size 3 ((ins.map (rdy pres)).map I64) ∧ Only [] w w' := by
  have HQ := hide hq
  have HM := hide hm
  have HO := hide own
  have HL := hide hlen
  have HW := hide hwf
  obtain ⟨A, c, rfl⟩ := own_shape own
  obtain ⟨i0, hi0, hz0, hs0, hb0⟩ := info_parts int_info
  have hmk : ∀ W : World, (Instr.makeSlice 48 (I64 n) (I64 n)).run Try.prog W = .ok (.slice (some ⟨W.heap.size, 0, none⟩) n n) (W.alloc (.cells (madeCells #[.int .i64 0] n) 3)) := by
    intro W
    have hr := run_make (P := Try.prog) W 48 3 i0 _ Try.underlying48 hi0 hz0 .i64 .i64 n n (by omega) (by omega) (by rw [hb0]; omega) (by omega)
    simp only [Int.toNat_natCast, hs0, Nat.mul_one] at hr
    exact hr
  have hst : Hid (FBlk (w.alloc (.cells (madeCells #[.int .i64 0] n) 3)) w.heap.size 3 n (rf pres ins 0) ∧ Only [] w (w.alloc (.cells (madeCells #[.int .i64 0] n) 3))) := hide ⟨by
    refine Blk.to (Blk.newA rfl) ?_
    rw [made_ints]
    rfl, (Only.refl [] w).alloc _⟩
  clear hq hm own hlen hwf
  go_enter Try.func40, Try.ntmps40
  go_wp2
  go_loopw [7, 15] (fun cn i wr => ∃ k : Nat, k ≤ n ∧ i = .int .i64 k ∧ cn = .int .i64 (cntN pres (ins.take k)) ∧ Hid (FBlk wr w.heap.size 3 n (rf pres ins k) ∧ Only [] w wr)) (fun _ i _ => n - (intOf i).toNat)
  case atStart => exact ⟨0, Nat.zero_le _, rfl, rfl, hst⟩
  case round =>
    obtain ⟨k, hk, rfl, rfl, H⟩ := hrel
    clear hst hmk
    rcases Nat.lt_or_ge k n with hlt | hge
    · obtain ⟨x, hx⟩ : ∃ x, ins[k]? = some x := ⟨_, List.getElem?_eq_getElem (by rw [HL.out]; exact hlt)⟩
      obtain ⟨g, cap, hgc, r0, r1⟩ := row_cells (show wr.ownsRow base 64 2 (.slice A n c) ins.length (ins.flatMap encI) by rw [HL.out]; exact own_nil HO.out H.out.2) hx
      injection hgc with hA hgc1 hgc2
      subst hA
      clear hgc1 hgc2
      have q1 := (H.out.2.blk HQ.out (by simp)).cell hc
      have o1 : wr.cell? ⟨w.heap.size, k, none⟩ = some (I64 0) := H.out.1.cell' hlt (by unfold rf; rw [if_neg (by omega)])
      have of := H.out.1.frozen k
      have ol := H.out.1.lt
      have hkx : wf64 x.1 := HW.out x (List.mem_of_getElem? hx)
      have hlk : ∀ o, (Instr.lookup 74 (.map (some b)) (.int .i64 x.1) false).run Try.prog (wr.alloc o).drew = .ok (.int .i64 (pres x.1)) (wr.alloc o).drew := fun o => ((show PMap (wr.alloc o).drew b m pres from (HM.out.only H.out.2).alloc o).look hkx).1
      have HX := hide hx
      have hcn := hide (cntN_take (pres := pres) hx)
      have hbd := cntN_le pres (ins.take k)
      have htl : (ins.take k).length ≤ n := by rw [List.length_take, HL.out]; omega
      clear hx hkx
      have hq := (H.out.2.blk HQ.out (by simp)).lt
      have HN : Hid (∀ o u, u = I64 (rdy pres x) → FBlk ((wr.setCell ⟨w.heap.size, k, none⟩ u).alloc o).drew w.heap.size 3 n (rf pres ins (k + 1)) ∧ Only [] w ((wr.setCell ⟨w.heap.size, k, none⟩ u).alloc o).drew) := hide (by
        rintro o u rfl
        exact ⟨((((H.out.1).set k _).congr (fun j _ => rf_step HX.out j)).alloc o).drew, ((H.out.2.set (.inr (by simp)) _).alloc o).drew⟩)
      go_wp2
      refine wp_region_text 14 [] [] [] (fun _ => True) (by kernel_rfl) (by kernel_rfl) trivial ?_
      simp only [List.take_succ_cons, List.take_zero, List.drop_succ_cons, List.drop_zero]
      repeat (first | ((refine wpText_h rfl rfl ?_; apply Exists.intro; refine ⟨?_, ?_⟩; next => (go_simp; (try (go_bits; go_simp)); (first | done | with_reducible rfl | (rw [if_neg (by omega)]; (try (go_bits; go_simp)); (first | done | with_reducible rfl)) | (rw [if_pos (by omega)]; (try (go_bits; go_simp)); (first | done | with_reducible rfl))))); (try simp only [Act.put, List.setIfInBounds_toArray, List.set_cons_zero, List.set_cons_succ])) | ((refine wpText_p rfl rfl ?_; apply Exists.intro; refine ⟨?_, ?_⟩; next => (intro w'; go_simp; (try (go_bits; go_simp)); (first | done | with_reducible rfl | (rw [if_neg (by omega)]; (try (go_bits; go_simp)); (first | done | with_reducible rfl)) | (rw [if_pos (by omega)]; (try (go_bits; go_simp)); (first | done | with_reducible rfl))))); (try simp only [Act.put, List.setIfInBounds_toArray, List.set_cons_zero, List.set_cons_succ])) | ((refine wpText_y rfl rfl ?_; apply Exists.intro; refine ⟨?_, ?_⟩; next => (intro w' hS; (first | obtain ⟨_, rfl⟩ := hS | skip); go_simp; (try (go_bits; go_simp)); (first | done | with_reducible rfl | (rw [if_neg (by omega)]; (try (go_bits; go_simp)); (first | done | with_reducible rfl)) | (rw [if_pos (by omega)]; (try (go_bits; go_simp)); (first | done | with_reducible rfl))))); (try simp only [Act.put, List.setIfInBounds_toArray, List.set_cons_zero, List.set_cons_succ])) | (refine wpText_skip (by first | exact .inl rfl | exact .inr (.inl rfl) | exact .inr (.inr rfl)) rfl ?_; (try simp only [Act.put, List.setIfInBounds_toArray, List.set_cons_zero, List.set_cons_succ])))
      refine wpText_nil ?_
      have HN1 := hide (HN.out (.cells #[I64 x.1, I64 x.2] 64) _ rfl)
      clear hlk HN
      by_cases d : bits .and .i64 (pres x.1) (bits .or .i64 x.2 8) = 0
      · have hcn' := hide (show cntN pres (ins.take (k + 1)) = cntN pres (ins.take k) by rw [hcn.out, if_neg (by intro h; exact h d), Nat.add_zero])
        clear hcn
        have D := hide d
        have D' : rdy pres x = 0 := d
        rw [D'] at HN1
        clear D'
        go_wp2
        refine NoX.normal ?_
        go_wp2
        go_roundw
        case rel => exact ⟨k + 1, by omega, by go_num, by rw [hcn'.out], HN1⟩
        case measure => simp [intOf]; omega
      · have hcn' := hide (show cntN pres (ins.take (k + 1)) = cntN pres (ins.take k) + 1 by rw [hcn.out, if_pos (show rdy pres x ≠ 0 from d)])
        clear hcn
        go_wp2
        refine NoX.normal ?_
        go_wp2
        go_roundw
        case rel => exact ⟨k + 1, by omega, by go_num, by rw [hcn'.out]; go_num, HN1⟩
        case measure => simp [intOf]; omega
    · obtain rfl : k = n := by omega
      go_wp2
      go_ret2
      refine ⟨?_, ?_, H.out.2⟩
      · rw [List.take_of_length_le (by rw [HL.out]; exact Nat.le_refl _)]; rfl
      · have h1 := H.out.1
        have e := HL.out
        subst e
        unfold FBlk at h1
        rw [rf_end] at h1
        exact h1

end Go.Proofs.Ytacnmlifmjflfaa
