/- DiskServed walked. -/
import Derived.Test.YtabdahojgmbgdaaServP
import Derived.Test.YtabdahojgmbgdaaBMap
import Derived.Carry
namespace Go.Proofs.Ytabdahojgmbgdaa
open Go.RowKit

abbrev seenT : TypeId := 32

/-- The queue grows. -/
def GrowI (w : World) (q : Nat) (head : Int) (bs : List Nat) (k : Nat) (wr : World) : Prop := ∃ v, QuAt w.heap.size wr q v ⟨head, false, servL bs k⟩ ∧ Only [] w wr
/-- The queue is served. -/
def TakeI (w : World) (q b n : Nat) (ch : Int) (up : Bool) (k : Nat) (wr : World) : Prop :=
  ∃ Q v seen, ServI Q seen ch ∧ up = !Q.down ∧ Q.l.length + k = n ∧ QuAt w.heap.size wr q v Q ∧ BMap wr b k seen ∧ Only [] w wr
theorem ServI.ch {Q : Qu} {seen : Int → Bool} {c : Int} (h : ServI Q seen c) : 0 ≤ c ∧ c ≤ 1 := by
  rcases h.dir with ⟨-, h⟩ | ⟨-, h, -⟩ <;> omega
theorem convert16 (n : Nat) (h : n ≤ 65535) : IntKind.i64.wrap (n : Int) = n := wrap64 (by omega) (by omega)

set_option maxRecDepth 20000 in
set_option maxHeartbeats 800000 in
theorem lawserved (hd : Nat) (A : Option Addr) (bs : List Nat) (n c : Nat) (w : World) (hh : hd ≤ 65535) (hn : bs.length = n) (hb : ∀ x ∈ bs, x ≤ 65535) (hA : NumsIn w .u16 A bs) :
    Calls Try.prog 3 #[.int .u16 (hd : Int), .slice A n c] w fun e w' => e = .returned (.bool true) ∧ Only [] w w' := by
  rcases Nat.lt_or_ge 40 n with hbig | hle
  · have haw := hide (awake_ok w)
    have h40 : (40 : Int) < (n : Int) := by omega
    clear hn hb hA hh
    go_enter Try.func3, Try.ntmps3
    go_wp2_with (go_at_call 9; refine haw.out.mono ?_; rintro e w1 ⟨rfl, ho⟩; have HO := hide ho; clear ho)
    go_ret
    exact ⟨rfl, HO.out⟩
  · have h40 : ¬ (40 : Int) < (n : Int) := by omega
    have HN := hide hn
    have HBB := hide hb
    have HA := hide hA
    have hd0 : (0 : Int) ≤ (hd : Int) := by omega
    obtain ⟨hm, hhm⟩ : ∃ hm, hm = (hd : Int) % 4096 := ⟨_, rfl⟩
    have hm0 : 0 ≤ hm := by omega
    have hm1 : hm < 4096 := by omega
    have hnq := hide (newq_ok w.heap.size w ((hd : Int) % 4096) (by omega) (by omega))
    have HHM := hide hhm
    clear hhm
    clear hn hb hA
    go_enter Try.func3, Try.ntmps3
    go_wp2_with (go_at_call 10; refine hnq.out.mono ?_; rintro e w1 ⟨rfl, hQ, ho⟩; rw [← HHM.out] at hQ; have H1 : Hid (GrowI w w.heap.size hm bs 0 w1) := hide ⟨_, hQ, ho⟩; clear hQ ho hnq)
    clear h40
    go_loopw [37] (fun i wr => ∃ k : Nat, k ≤ n ∧ i = I64 (k : Nat) ∧ Hid (GrowI w w.heap.size hm bs k wr)) (fun i _ => n - (intOf i).toNat)
    case atStart => exact ⟨0, Nat.zero_le _, rfl, H1⟩
    case round =>
      obtain ⟨k, hk, rfl, HI⟩ := hrel
      clear H1
      rcases Nat.lt_or_ge k n with hlt | hge
      · obtain ⟨v, hQ, ho⟩ := HI.out
        obtain ⟨x, hx⟩ : ∃ x, bs[k]? = some x := ⟨_, List.getElem?_eq_getElem (by rw [HN.out]; exact hlt)⟩
        obtain ⟨g, o, rfl, hcell⟩ := (HA.out.only ho) k x hx
        have hx6 := HBB.out x (List.mem_of_getElem? hx)
        have hgd : bs.getD k 0 = x := by rw [List.getD_eq_getElem?_getD, hx]; rfl
        have hk0 : ((k : Nat) : Int) < (n : Int) := by omega
        have hadd := qadd_ok w.heap.size w.heap.size v _ ⟨(k : Int), ((bs.getD k 0 % 4096 : Nat) : Int), 10⟩ wr hQ ho.size
        unfold AddQ at hadd
        rw [servL_add hm bs (by omega), hgd] at hadd
        have HADD : Hid (Calls Try.prog 11 #[.pointer (some ⟨w.heap.size, 0, none⟩), .agg #[I64 (k : Nat), I64 ((x : Int) % 4096), I64 10]] wr fun e w' => e = .returned (I64 0) ∧ GrowI w w.heap.size hm bs (k + 1) w') := hide (by
          refine hadd.mono ?_
          rintro e w' ⟨v', rfl, hQ', ho'⟩
          refine ⟨rfl, v', hQ', ((ho.mono (by simp)).trans ho').fresh ?_⟩
          intro j hj
          rcases List.mem_cons.1 hj with rfl | h
          · exact Nat.le_refl _
          · exact (hQ.row.lt j (mem_own.1 h)).1)
        have hbr : ∀ W : World, (Instr.build rqT #[(0, I64 (k : Nat)), (1, I64 ((x : Int) % 4096)), (2, I64 10)]).run Try.prog W = .ok (.agg #[I64 (k : Nat), I64 ((x : Int) % 4096), I64 10]) W := fun _ => by kernel_rfl
        clear hQ ho hx hgd hadd
        go_wp2_with (go_at_call 11; refine HADD.out.mono ?_; rintro e w2 ⟨rfl, hG⟩; have HG := hide hG; clear hG)
        go_roundw
        case rel => exact ⟨k + 1, by omega, by go_num, HG⟩
        case measure => simp [intOf]; omega
      · obtain rfl : k = n := by omega
        obtain ⟨v, hQ, ho⟩ := HI.out
        have hoM : Only [] wr (wr.alloc (.map #[] 0)) := (Only.refl _ _).alloc _
        have H2 : Hid (TakeI w w.heap.size wr.heap.size k 0 true 0 (wr.alloc (.map #[] 0))) := hide ⟨_, v, _, servL_start hle hQ.ok, rfl, by simp [servL], hQ.keep hoM, BMap.made wr 0, ho.trans hoM⟩
        have hbm : w.heap.size ≤ wr.heap.size := ho.size
        have hmk := run_makeMap (P := Try.prog) seenT wr
        have hqlt : w.heap.size < wr.heap.size := hQ.me.lt
        clear hQ ho hoM HI HA HBB hm0 hm1 HHM hh
        obtain ⟨wm, rfl⟩ : ∃ wm, wm = wr := ⟨_, rfl⟩
        go_wp2
        go_loopw [10, 11, 54] (fun ch up i w3 => ∃ (j : Nat) (ci : Int) (u : Bool), j ≤ k ∧ i = I64 (j : Nat) ∧ ch = I64 ci ∧ up = .bool u ∧ Hid (TakeI w w.heap.size wm.heap.size k ci u j w3)) (fun _ _ i _ => k - (intOf i).toNat)
        case atStart => exact ⟨0, 0, true, Nat.zero_le _, rfl, rfl, rfl, H2⟩
        case round =>
          obtain ⟨j, ci, u, hj, rfl, rfl, rfl, HT⟩ := hrel
          clear H2 hmk
          rcases Nat.lt_or_ge j k with hlt2 | hge2
          · obtain ⟨Q, v2, seen, hS, rfl, hl, hQ, hB, ho⟩ := HT.out
            have hne : Q.l ≠ [] := fun hc => by rw [hc] at hl; simp at hl; omega
            obtain ⟨r, hnx2, hrm, hrs, hlen, hS'⟩ := hS.step hne
            have hci := hS.ch
            have hwf : wf64 r.id := wf64_of (by have := hS.idb r hrm; omega) (by have := hS.idb r hrm; omega)
            obtain ⟨Q', hQ'⟩ : ∃ Q', Q' = (Q.next 0).1 := ⟨_, rfl⟩
            rw [← hQ'] at hS' hlen
            have HNX : Hid (Calls Try.prog 12 #[.pointer (some ⟨w.heap.size, 0, none⟩), I64 0] wr fun e w' => e = .returned (.tuple #[.agg #[I64 r.id, I64 r.blk, I64 r.dl], .bool true]) ∧ ∃ v', QuAt w.heap.size w' w.heap.size v' Q' ∧ BMap w' wm.heap.size j seen ∧ Only [] w w') := hide (by
              refine (qnext_ok w.heap.size w.heap.size v2 Q wr 0 hQ).mono ?_
              rintro e w' ⟨v', rfl, hq, ho'⟩
              rw [hnx2, ← hQ'] at *
              refine ⟨rfl, v', hq, hB.only ho' ?_, ((ho.mono (by simp)).trans ho').fresh ?_⟩
              · intro hm
                rcases List.mem_cons.1 hm with h | h
                · exact hB.ne hQ.me h
                · exact hB.ne_own hQ.row (mem_own.1 h)
              · intro j hj
                rcases List.mem_cons.1 hj with rfl | h
                · exact Nat.le_refl _
                · exact (hQ.row.lt j (mem_own.1 h)).1)
            have HS := hide (And.intro hS' (And.intro (show Q'.l.length + (j + 1) = k by omega) hrs))
            have HWF := hide hwf
            have hj0 : ((j : Nat) : Int) < (k : Int) := by omega
            obtain ⟨d, hdd⟩ : ∃ d, d = Q.down := ⟨_, rfl⟩
            obtain ⟨d', hdd'⟩ : ∃ d', d' = Q'.down := ⟨_, rfl⟩
            rw [← hdd]
            rw [← hdd, ← hdd'] at HS
            have HDD := hide hdd'
            clear HT hS hl hQ hB ho hne hnx2 hrm hrs hlen hS' hwf hQ' hdd hdd'
            go_upto_region 21 with (first
              | (go_at_call 12
                 refine HNX.out.mono ?_
                 clear HNX
                 rintro e w3 ⟨rfl, v3, hq3, hb3, ho3⟩
                 have H3 := hide (And.intro hq3 (And.intro hb3 ho3))
                 clear hq3 hb3 ho3)
              | (refine wpList_store_cells rfl rqT (.tmp 12) (.tmp 59) rfl w3.heap.size 0 rfl r.cells rfl rqT [I64 0, I64 0, I64 0] (Blk.newA rfl) (by exact Nat.le_refl _) (by kernel_rfl) (by simp [Rq.cells, Value.oneCell']) ?_
                 intro w4 hw4
                 have hox : Only [] w3 w4 := ((Only.refl [] w3).alloc _).trans' hw4.2.1 (by intro i hi hlt; simp at hi; omega)
                 have hbx : Blk w4 w3.heap.size rqT r.cells := hw4.1.to (by simp [Rq.cells])
                 have x0 := hbx.cell (i := 0) rfl
                 have lx := hbx.lt
                 have hlook := (H3.out.2.1.only hox (by simp)).look HWF.out
                 rw [HS.out.2.2] at hlook
                 have H4 := hide (And.intro hox hbx)
                 clear hw4 hox hbx)
              | (at_mapUpdate
                 refine wpList_bmap_store rfl (.tmp 69) (.tmp 71) (.const (.bool true)) rfl wm.heap.size j seen r.id true rfl rfl rfl (H3.out.2.1.only H4.out.1 (by simp)) (by simp only [maxLen]; omega) HWF.out ?_
                 intro w5 hb5 ho5
                 have hq4 := H3.out.1.keep H4.out.1
                 have hne : w.heap.size ≠ wm.heap.size := fun e => (H3.out.2.1.only H4.out.1 (by simp)).ne hq4.me e.symm
                 have hq5 : QuAt w.heap.size w5 w.heap.size v3 Q' := ⟨ho5.blk hq4.me (by simpa using hne), own_only hq4.row ho5 (fun g hg hm => by simp at hm; subst hm; exact (H3.out.2.1.only H4.out.1 (by simp)).ne_own hq4.row hg), hq4.ok⟩
                 have hh5 := head_ok w.heap.size w.heap.size v3 Q' w5 hq5
                 rw [← HDD.out] at hh5
                 have HH5 := hide hh5
                 have H5 := hide (And.intro hq5 (And.intro hb5 (((H3.out.2.2.trans H4.out.1).mono (S' := [wm.heap.size]) (by simp)).trans ho5 |>.fresh (by simp; exact hbm))))
                 clear hb5 ho5 hq4 hne hq5 hh5 hlook x0 lx)
              | (go_at_call 13
                 refine HH5.out.mono ?_
                 clear HH5
                 rintro e w6 ⟨rfl, ho6⟩
                 have H6 := hide (And.intro (H5.out.1.keep ho6) (And.intro (H5.out.2.1.only ho6 (by simp)) (H5.out.2.2.trans ho6)))
                 clear ho6))
            have hfin : ∀ c2, ServI Q' (fun i => if i = r.id then true else seen i) c2 → TakeI w w.heap.size wm.heap.size k c2 (!d') (j + 1) w6 := fun c2 h => ⟨Q', v3, _, h, by rw [← HDD.out], HS.out.2.1, H6.out.1, H6.out.2.1, H6.out.2.2⟩
            have HFIN := hide hfin
            clear hfin
            have hI := HS.out.1
            cases d <;> cases d' <;> simp only [if_true, Bool.true_eq_false, Bool.false_eq_true, if_false] at hI
            · have HI2 := hide hI
              clear hI HS HDD
              go_wp2
              go_roundw
              case rel => exact ⟨j + 1, ci, _, by omega, by go_num, rfl, rfl, hide (HFIN.out _ HI2.out)⟩
              case measure => simp [intOf]; omega
            · have HI2 := hide hI
              clear hI HS HDD
              go_wp2
              go_roundw
              case rel => exact ⟨j + 1, ci + 1, _, by omega, by go_num, by go_num, rfl, hide (HFIN.out _ HI2.out)⟩
              case measure => simp [intOf]; omega
            · have HI2 := hide hI
              clear hI HS HDD
              go_wp2
              go_roundw
              case rel => exact ⟨j + 1, ci + 1, _, by omega, by go_num, by go_num, rfl, hide (HFIN.out _ HI2.out)⟩
              case measure => simp [intOf]; omega
            · have HI2 := hide hI
              clear hI HS HDD
              go_wp2
              go_roundw
              case rel => exact ⟨j + 1, ci, _, by omega, by go_num, rfl, rfl, hide (HFIN.out _ HI2.out)⟩
              case measure => simp [intOf]; omega
          · obtain rfl : j = k := by omega
            obtain ⟨Q, v2, seen, hS, hu, hl, hQ, hB, ho⟩ := HT.out
            have hnil : Q.l = [] := List.length_eq_zero_iff.1 (by omega)
            have hci := hS.ch
            have HNX : Hid (Calls Try.prog 12 #[.pointer (some ⟨w.heap.size, 0, none⟩), I64 0] wr fun e w' => e = .returned (.tuple #[.agg #[I64 0, I64 0, I64 0], .bool false]) ∧ Only [] w w') := hide (by
              refine (qnext_ok w.heap.size w.heap.size v2 Q wr 0 hQ).mono ?_
              rintro e w' ⟨v', rfl, hq, ho'⟩
              rw [next_nil hnil]
              refine ⟨rfl, ((ho.mono (by simp)).trans ho').fresh ?_⟩
              intro j hj
              rcases List.mem_cons.1 hj with rfl | h
              · exact Nat.le_refl _
              · exact (hQ.row.lt j (mem_own.1 h)).1)
            clear HT hS hu hl hQ hB ho hnil
            go_wp2_with (first
              | (go_at_call 12
                 refine HNX.out.mono ?_
                 clear HNX
                 rintro e w3 ⟨rfl, ho3⟩
                 have H3 := hide ho3
                 clear ho3)
              | (refine wpList_store_cells rfl rqT (.tmp 16) (.tmp 87) rfl w3.heap.size 0 rfl zeroR.cells rfl rqT [I64 0, I64 0, I64 0] (Blk.newA rfl) (by exact Nat.le_refl _) (by kernel_rfl) (by simp [Rq.cells, Value.oneCell']) ?_
                 intro w4 hw4
                 have H4 := hide (H3.out.trans (((Only.refl [] w3).alloc _).trans' hw4.2.1 (by intro i hi hlt; simp at hi; omega)))
                 have haw := hide (awake_ok w4)
                 clear hw4)
              | (go_at_call 9
                 refine haw.out.mono ?_
                 clear haw
                 rintro e w5 ⟨rfl, ho5⟩
                 have H5 := hide (H4.out.trans ho5)
                 clear ho5))
            go_ret
            exact ⟨rfl, H5.out⟩

end Go.Proofs.Ytabdahojgmbgdaa
