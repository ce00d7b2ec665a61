/- The chapter's examples. -/
import Derived.Test.YtabdahojgmbgdaaWalkG
import Derived.Test.YtabdahojgmbgdaaQueH
import Derived.Deep.DeepCutAuto
namespace Go.Proofs.Ytabdahojgmbgdaa
open Go.RowKit

theorem Only.fresh {S : List Nat} {a w : World} (h : Only S a w) (hs : ∀ k ∈ S, a.heap.size ≤ k) : Only [] a w := h.mono (fun k hk hlt => absurd (hs k hk) (by omega))

theorem qu_keep {w A B : World} {q b : Nat} {v : Value} {Q : Qu} {t : TypeId} {cs : List Value} (hQ : QuAt w.heap.size A q v Q) (hO : Only (q :: v.ownBlock.toList) A B) (hA : Only [] w A) (hq : w.heap.size ≤ q) (hb : Blk A b t cs) (h1 : t ≠ quT) (h2 : rqT ≠ t) : Blk B b t cs ∧ Only [] w B := by
  refine ⟨hO.blk hb ?_, ((hA.mono (by simp)).trans hO).fresh ?_⟩
  · intro hm
    rcases List.mem_cons.1 hm with h | h
    · exact (hb.ne hQ.me h1) h
    · exact own_ne_blk hQ.row hb h2 (mem_own.1 h)
  · intro k hk
    rcases List.mem_cons.1 hk with rfl | h
    · exact hq
    · exact (hQ.row.lt k (mem_own.1 h)).1

def fill7 (k : Nat) : List Nat := List.replicate k 7 ++ List.replicate (64 - k) 0
theorem fill7_set {k : Nat} (h : k < 64) : (bcells (fill7 k)).set k (.int .u8 7) = bcells (fill7 (k + 1)) := by
  unfold fill7 bcells
  rw [List.map_append, List.map_append, List.set_append_right _ _ (by simp), show 64 - k = (64 - (k + 1)) + 1 by omega, List.replicate_succ, List.map_cons, List.length_map, List.length_replicate, Nat.sub_self, List.set_cons_zero, List.replicate_succ', List.map_append]
  simp
theorem fill7_at {k : Nat} (h : k < 64) : (bcells (fill7 k))[k]? = some (.int .u8 0) := by
  refine bcells_at ?_
  unfold fill7
  rw [List.getElem?_append_right (by simp), List.length_replicate, Nat.sub_self, List.getElem?_replicate, if_pos (by omega)]
theorem fill7_len {k : Nat} (h : k ≤ 64) : (fill7 k).length = 64 := by unfold fill7; simp; omega
def b7 : List Nat := List.replicate 64 7
theorem b7_len : b7.length = 64 := by simp [b7]
theorem fill7_end : fill7 64 = b7 := by simp [fill7, b7]

def exD : Dk := { ((Dk.new 8).put 3 b7).cut [2] with off := false }
theorem ex_write : (Dk.new 8).write 3 b7 = ((Dk.new 8).put 3 b7, 0) := by rfl
theorem ex_read : exD.read 3 = List.replicate 32 7 ++ List.replicate 32 0 := by decide
theorem ex_code : exD.code 3 = 0 := by rfl
def exQ : Qu := ⟨10, false, []⟩
def exQ1 : Qu := ⟨10, false, [⟨1, 20, 9⟩]⟩
def exQ2 : Qu := ⟨10, false, [⟨1, 20, 9⟩, ⟨2, 5, 9⟩]⟩
theorem ex_add1 : exQ.add ⟨1, 20, 9⟩ = (exQ1, 0) := by rfl
theorem ex_add2 : exQ1.add ⟨2, 5, 9⟩ = (exQ2, 0) := by rfl
theorem ex_next : (exQ2.next 0).2 = (⟨1, 20, 9⟩, true) := by rfl

theorem build_rq1 : ∀ w : World, (Instr.build rqT #[(0, I64 1), (1, I64 20), (2, I64 9)]).run Try.prog w = .ok (.agg #[I64 1, I64 20, I64 9]) w := fun _ => by kernel_rfl
theorem build_rq2 : ∀ w : World, (Instr.build rqT #[(0, I64 2), (1, I64 5), (2, I64 9)]).run Try.prog w = .ok (.agg #[I64 2, I64 5, I64 9]) w := fun _ => by kernel_rfl


set_option maxRecDepth 20000 in
set_option maxHeartbeats 4000000 in
theorem awake_ok (w : World) : Calls Try.prog 9 #[] w fun e w' => e = .returned (.bool true) ∧ Only [] w w' := by
  have hnew := hide (new_ok w w.heap.size 8 (Nat.le_refl _) (by decide) (by decide))
  go_enter Try.func9, Try.ntmps9
  go_upto_region 5 with (first
    | (go_at_call 14; refine hnew.out.mono ?_; rintro e w1 ⟨p, rfl, hp, hf, hD, ho⟩; have H1 := hide (And.intro hp (And.intro hf (And.intro hD ho))); clear hp hf hD ho hnew)
    | (refine wpList_alloc_agg rfl blkT rfl zA zA_info ?_))
  simp only [Act.put, List.setIfInBounds_toArray, List.set_cons_zero, List.set_cons_succ]
  have hb0 : Blk (w1.alloc (.cells zA blkT)) w1.heap.size blkT (bcells (fill7 0)) := (Blk.newA rfl).to zA_list
  have HI0 := hide (show Only [] w1 (w1.alloc (.cells zA blkT)) ∧ Blk (w1.alloc (.cells zA blkT)) w1.heap.size blkT (bcells (fill7 0)) from ⟨(Only.refl _ _).alloc _, hb0⟩)
  clear hb0
  go_wp2
  go_loopw [22] (fun i wr => ∃ k : Nat, k ≤ 64 ∧ i = I64 (k : Nat) ∧ Hid (Only [] w1 wr ∧ Blk wr w1.heap.size blkT (bcells (fill7 k)))) (fun i _ => 64 - (intOf i).toNat)
  case atStart => exact ⟨0, by decide, rfl, HI0⟩
  case round =>
    obtain ⟨k, hk, rfl, HI⟩ := hrel
    clear HI0
    rcases Nat.lt_or_ge k 64 with hlt | hge
    · have c0 := HI.out.2.cell (fill7_at hlt)
      have f0 := HI.out.2.frozen k
      have lb := HI.out.2.lt
      have hk0 : ((k : Nat) : Int) < 64 := by omega
      go_wp2
      go_roundw
      case rel => exact ⟨k + 1, by omega, by go_num, hide ⟨HI.out.1.set (p := ⟨w1.heap.size, k, none⟩) (.inr (Nat.le_refl _)) _, by rw [← fill7_set hlt]; exact HI.out.2.set k _⟩⟩
      case measure => simp [intOf]; omega
    · obtain rfl : k = 64 := by omega
      have HB7 : Hid (∀ j v, (bcells b7)[j]? = some v → wr.cell? ⟨w1.heap.size, 0 + j, none⟩ = some v) := hide (fun j v hj => by rw [Nat.zero_add]; rw [← fill7_end] at hj; exact HI.out.2.cell hj)
      have hD1 := H1.out.2.2.1.keep HI.out.1
      have hwr := hide (write_all w.heap.size wr p _ 3 b7 hD1 (Nat.le_trans H1.out.2.2.2.size HI.out.1.size) b7_len)
      obtain ⟨cs, hcs⟩ : ∃ cs, cs = bcells b7 := ⟨_, rfl⟩
      rw [← hcs] at hwr HB7
      have HL : Hid (cs.length = 64) := hide (by rw [hcs, bcells_len, b7_len])
      have HO0 := hide (H1.out.2.2.2.trans HI.out.1)
      clear hD1 hcs
      go_upto_region 11 with (first
        | (refine wpList_load_cells rfl blkT (.tmp 3) rfl w1.heap.size 0 rfl cs (d := _) HB7.out Try.underlying49 rfl (by rw [HL.out]; kernel_rfl) ?_)
        | (go_at_call 15; refine hwr.out.mono ?_; rintro e w2 ⟨he, ⟨p2, hp2, hv2, hD2, hf2⟩, ho2⟩; rw [ex_write] at he hD2; subst he; have H2 := hide (And.intro hp2 (And.intro hD2 (And.intro hf2 ho2))); clear hp2 hv2 hD2 hf2 ho2 hwr))
      have hoA : Only [] w2 (w2.alloc (.cells #[.int .u8 2] u8T)) := (Only.refl _ _).alloc _
      have hcut := cut_ok w.heap.size (w2.alloc (.cells #[.int .u8 2] u8T)) p2 ((Dk.new 8).put 3 b7) [2] (.slice (some ⟨w2.heap.size, 0, none⟩) 1 1) (H2.out.2.1.keep hoA)
        ⟨by simp [bcells], .inr ⟨w2.heap.size, 0, 1, [.int .u8 2], rfl, Nat.zero_le _, Blk.newA rfl, by simp, by simp [maxLen], by simp, by simp [bcells]⟩⟩ (by simp) (by simp)
      rw [H2.out.1] at hcut
      have hfoot2 : ∀ k ∈ p2.foot, w.heap.size ≤ k := fun k hk => (H2.out.2.2.1 k hk).elim (H1.out.2.1 k) (fun h => by have := HO0.out.size; omega)
      have hoW2 : Only [] w (w2.alloc (.cells #[.int .u8 2] u8T)) := ((HO0.out.mono (by simp)).trans H2.out.2.2.2 |>.fresh (H1.out.2.1)).trans hoA
      have HCUT := hide hcut
      have HW2 := hide (And.intro hfoot2 hoW2)
      clear hcut hfoot2 hoW2 hoA HB7 HL
      go_upto_region 13 with (first
        | (go_at_call 18
           refine HCUT.out.mono ?_
           rintro e w3 ⟨rfl, hD3, ho3⟩
           have hD3' : DkAt w.heap.size w3 p2.dark (((Dk.new 8).put 3 b7).cut [2]) := hD3
           have hon := on_ok w.heap.size w3 p2.dark _ hD3'
           rw [show p2.dark.d = p.d from H2.out.1] at hon
           have HON := hide hon
           have hd3 : Only [] w w3 := ((HW2.out.2.mono (by simp)).trans ho3).fresh (fun k hk => HW2.out.1 k (by
             rcases List.mem_cons.1 hk with rfl | hk
             · exact p2.foot_d
             · exact p2.foot_b (mem_own.1 hk)))
           have HO3 := hide hd3
           clear hD3 hD3' hon ho3 hd3 HCUT)
        | (go_at_call 21
           refine HON.out.mono ?_
           rintro e w4 ⟨rfl, hD4, ho4⟩
           have HD4 : Hid (DkAt w.heap.size w4 p2.dark exD) := hide hD4
           have HO4 := hide ((HO3.out.mono (by simp)).trans ho4 |>.fresh (fun k hk => by simp at hk; subst hk; rw [← H2.out.1]; exact HW2.out.1 _ p2.foot_d))
           clear hD4 ho4))
      have hrd := read_all w.heap.size w4 p2.dark exD 3 HD4.out
      unfold ReadS at hrd
      rw [ex_code, show p2.dark.d = p.d from H2.out.1] at hrd
      obtain ⟨rb, hrb⟩ : ∃ rb, rb = bcells (exD.read 3) := ⟨_, rfl⟩
      rw [← hrb] at hrd
      have HRD := hide hrd
      have HRL : Hid (rb.length = 64) := hide (by rw [hrb, ex_read]; simp [bcells])
      have HRL2 : Hid (0 + rb.length ≤ zA.toList.length) := hide (by rw [HRL.out, zA_len]; decide)
      have HR1 : Hid (∀ v ∈ rb, v.oneCell' = true) := hide (by rw [hrb]; exact bcells_one _)
      have HR31 : Hid (rb[31]? = some (.int .u8 7) ∧ rb[32]? = some (.int .u8 0)) := hide (by rw [hrb, ex_read]; exact ⟨rfl, rfl⟩)
      clear hrd hrb HON HO3 HD4 HW2 H2 HI HO0 H1
      go_upto_region 14 with (first
        | (go_at_call 19
           refine HRD.out.mono ?_
           rintro e w5 ⟨rfl, ho5⟩
           have HO5 := hide (HO4.out.trans ho5)
           clear ho5 HRD)
        | (refine wpList_alloc_agg rfl blkT rfl zA zA_info ?_)
        | (refine wpList_store_cells rfl blkT (.tmp 6) (.tmp 39) rfl w5.heap.size 0 rfl rb rfl blkT zA.toList (Blk.newA rfl) HRL2.out (by rw [HRL.out]; kernel_rfl) HR1.out ?_; intro w6 hw6))
      have hb6 : Blk w6 w5.heap.size blkT rb := hw6.1.to (by rw [List.drop_of_length_le (by rw [zA_len, HRL.out]; decide)]; simp)
      have ho6 : Only [] w w6 := (HO5.out.alloc (.cells zA blkT)).trans' hw6.2.1 (by intro i hi hlt; simp at hi; have := HO5.out.size; omega)
      have hnq := hide (newq_ok w.heap.size w6 10 (by decide) (by decide))
      have H6 := hide (And.intro hb6 ho6)
      have hbr1 := build_rq1
      have hbr2 := build_rq2
      clear hw6 hb6 ho6 HO5 HRL2 HR1 HO4
      go_upto_region 15 with (go_at_call 10; refine hnq.out.mono ?_; rintro e w7 ⟨rfl, hQ7, ho7⟩; have H7 : Hid (QuAt w.heap.size w7 w6.heap.size (.slice none 0 0) exQ ∧ Blk w7 w5.heap.size blkT rb ∧ Only [] w w7) := hide ⟨hQ7, ho7.blk H6.out.1 (by simp), H6.out.2.trans ho7⟩; clear hQ7 ho7 hnq)
      have hqge : w.heap.size ≤ w6.heap.size := H6.out.2.size
      have ha1 := hide (qadd_ok w.heap.size w6.heap.size _ exQ ⟨1, 20, 9⟩ w7 H7.out.1 H7.out.2.2.size)
      go_upto_region 17 with (first
        | (go_at_call 11
           refine ha1.out.mono ?_
           clear ha1
           rintro e w8 ⟨v8, he, hQ8, ho8⟩
           rw [ex_add1] at he hQ8
           subst he
           have h8 := qu_keep H7.out.1 ho8 H7.out.2.2 hqge H7.out.2.1 (by decide) (by decide)
           have ha2 := hide (qadd_ok w.heap.size w6.heap.size _ exQ1 ⟨2, 5, 9⟩ w8 hQ8 h8.2.size)
           have H8 := hide (And.intro hQ8 h8)
           clear hQ8 ho8 h8)
        | (go_at_call 11
           refine ha2.out.mono ?_
           clear ha2
           rintro e w9 ⟨v9, he, hQ9, ho9⟩
           rw [ex_add2] at he hQ9
           subst he
           have h9 := qu_keep H8.out.1 ho9 H8.out.2.2 hqge H8.out.2.1 (by decide) (by decide)
           have hnx := hide (qnext_ok w.heap.size w6.heap.size _ exQ2 w9 0 hQ9)
           have H9 := hide (And.intro hQ9 h9)
           clear hQ9 ho9 h9))
      go_wp2_with (
        go_at_call 12
        refine hnx.out.mono ?_
        clear hnx
        rintro e w10 ⟨v10, he, hQ10, ho10⟩
        rw [ex_next] at he
        subst he
        have h10 := qu_keep H9.out.1 ho10 H9.out.2.2 hqge H9.out.2.1 (by decide) (by decide)
        have r31 := h10.1.cell HR31.out.1
        have r32 := h10.1.cell HR31.out.2
        have lr := h10.1.lt
        have H10 := hide h10
        clear hQ10 ho10 h10)
      go_ret
      exact ⟨rfl, H10.out.2.alloc _⟩

end Go.Proofs.Ytabdahojgmbgdaa
