/- The law SporadicSums, walked. -/
import Derived.Test.YtdjkgbkckmjfiaaAwake
import Derived.Test.YtdjkgbkckmjfiaaSums
import Derived.Test.YtdjkgbkckmjfiaaRep
namespace Go.Proofs.Ytdjkgbkckmjfiaa
open Go.RowKit

def nowAt (gs : List Nat) : Int := (gs.map fun (g : Nat) => (1 + (g : Int))).sum
theorem nowAt_snoc (gs : List Nat) (k x : Nat) (h : gs[k]? = some x) : nowAt (gs.take (k + 1)) = nowAt (gs.take k) + (1 + (x : Int)) := by
  rw [List.take_add_one, h]; simp [nowAt]
theorem nowAt_bound (gs : List Nat) (h : ∀ g ∈ gs, g ≤ 255) : 0 ≤ nowAt gs ∧ nowAt gs ≤ 256 * gs.length := by
  induction gs with
  | nil => simp [nowAt]
  | cons g gs ih =>
    have h1 := ih fun y hy => h y (by simp [hy])
    have h2 := h g (by simp)
    simp only [nowAt, List.map_cons, List.sum_cons, List.length_cons] at h1 ⊢
    omega
theorem SumInv.later {p : Prm} {s : Srv} {now now' last opn : Int} (h : SumInv p s now last opn) (hn : now ≤ now') : SumInv p s now' last opn :=
  ⟨h.inv, h.prm, by have := h.order; omega, by have := h.ran; omega, h.ran0, h.last, h.opn, h.left, h.time⟩

def L2 (w : World) (p : Prm) (gs : List Nat) (b g bs : Nat) (k : Nat) (nw la op : Value) (wr : World) : Prop :=
  ∃ s last opn, nw = I64 (nowAt (gs.take k)) ∧ la = I64 last ∧ op = I64 opn ∧ SrvIs wr b g bs s ∧ SumInv p s (nowAt (gs.take k)) last opn ∧ Only [] w wr ∧
  Blk wr w.heap.size 23 [I64 p.B, I64 p.P, I64 p.N, I64 p.L]

theorem sumA_take (l : List (Int × Int)) (k : Nat) (x : Int × Int) (h : l[k]? = some x) : sumA (l.take (k + 1)) = sumA (l.take k) + x.2 := by
  rw [List.take_add_one, h]; simp
theorem sumA_take_le (l : List (Int × Int)) (k : Nat) (h : ∀ x ∈ l, 0 ≤ x.2) : 0 ≤ sumA (l.take k) ∧ sumA (l.take k) ≤ sumA l := by
  have h1 : sumA l = sumA (l.take k) + sumA (l.drop k) := by rw [← sumA_append, List.take_append_drop]
  have h2 := sumA_nonneg (l.take k) fun x hx => h x (List.mem_of_mem_take hx)
  have h3 := sumA_nonneg (l.drop k) fun x hx => h x (List.mem_of_mem_drop hx)
  omega

theorem opens_nonneg {s : Srv} (h : s.Inv) : 0 ≤ s.opens := by
  unfold Srv.opens
  split
  · rename_i hr; have := h.chunk hr; omega
  · exact Int.le_refl _

set_option maxHeartbeats 1000000 in
theorem sums_big (p : Prm) (A : Option Addr) (len cap : Nat) (w : World) (h : p.ok) (hl : 200 < len) (hm : len ≤ maxLen) :
    Calls Try.prog 4 #[.agg #[I64 p.B, I64 p.P, I64 p.N, I64 p.L], .slice A len cap] w fun e w' => e = .returned (.bool true) ∧ Only [] w w' := by
  unfold maxLen at hm
  go_enter Try.func4, Try.ntmps4
  go_wp2_with fail
  refine (new_yes p _ h).mono ?_
  rintro e w1 ⟨b, g, bs, rfl, hs0, hb, hg, hbs, ho⟩
  go_wp2_with fail
  refine (awake_ok _).mono ?_
  rintro e w2 ⟨rfl, ho2⟩
  go_wp2
  go_ret
  exact ⟨rfl, ((Only.refl _ _).alloc _).trans (ho.trans ho2)⟩

set_option maxHeartbeats 1000000 in
theorem sums_bad (B P N L : Int) (A : Option Addr) (len cap : Nat) (w : World) (h : ¬ okRaw B P N L) :
    Calls Try.prog 4 #[.agg #[I64 B, I64 P, I64 N, I64 L], .slice A len cap] w fun e w' => e = .returned (.bool true) ∧ Only [] w w' := by
  go_enter Try.func4, Try.ntmps4
  go_wp2_with fail
  refine (new_no B P N L _ h).mono ?_
  rintro e w1 ⟨rfl, ho⟩
  go_wp2_with fail
  refine (awake_ok _).mono ?_
  rintro e w2 ⟨rfl, ho2⟩
  go_wp2
  go_ret
  exact ⟨rfl, ((Only.refl _ _).alloc _).trans (ho.trans ho2)⟩

set_option maxHeartbeats 4000000 in
theorem sums_small (p : Prm) (A : Option Addr) (gs : List Nat) (cap : Nat) (w : World) (h : p.ok) (hl : gs.length ≤ 200) (hg8 : ∀ x ∈ gs, x ≤ 255) (hA : Reads w w.heap.size .u8 A (gs.map fun (x : Nat) => (x : Int))) :
    Calls Try.prog 4 #[.agg #[I64 p.B, I64 p.P, I64 p.N, I64 p.L], .slice A gs.length cap] w fun e w' => e = .returned (.bool true) ∧ Only [] w w' := by
  obtain ⟨p1, p2, p3, p4, p5, p6, p7, p8⟩ := h
  go_enter Try.func4, Try.ntmps4
  go_wp2_with fail
  refine (new_yes p _ ⟨p1, p2, p3, p4, p5, p6, p7, p8⟩).mono ?_
  rintro e w1 ⟨b, g, bs, rfl, hs0', hb, hg, hbs, ho⟩
  have ho1 : Only [] w w1 := ((Only.refl _ _).alloc _).trans ho
  have hbox := ho.blk (Blk.new w 23 [I64 p.B, I64 p.P, I64 p.N, I64 p.L]) (by simp)
  have hst := hide (show L2 w p gs b g bs 0 (I64 0) (I64 (-1)) (I64 0) w1 from ⟨_, -1, 0, by simp [nowAt], rfl, rfl, hs0', by simpa [nowAt] using SumInv.new p ⟨p1, p2, p3, p4, p5, p6, p7, p8⟩, ho1, hbox⟩)
  simp at hb hg hbs
  clear hs0' ho ho1 hbox
  go_wp2
  go_loopw [7, 8, 9, 10] (fun nw la op i wr => ∃ k : Nat, k ≤ gs.length ∧ i = .int .i64 k ∧ L2 w p gs b g bs k nw la op wr) (fun _ _ _ i _ => gs.length - (intOf i).toNat)
  case atStart => exact ⟨0, Nat.zero_le _, rfl, hst.out⟩
  case round =>
    obtain ⟨k, hk, rfl, s, last, opn, rfl, rfl, rfl, hsr, hI, hor, hbx⟩ := hrel
    clear hst
    rcases Nat.lt_or_ge k gs.length with hlt | hge
    · obtain ⟨gk, hgk⟩ : ∃ x, gs[k]? = some x := ⟨_, List.getElem?_eq_getElem hlt⟩
      have hg255 : gk ≤ 255 := hg8 gk (List.mem_of_getElem? hgk)
      have hnext := hide (nowAt_snoc gs k gk hgk)
      have hnow := nowAt_bound (gs.take k) (fun y hy => hg8 y (List.mem_of_mem_take hy))
      have hk200 : (gs.take k).length ≤ 200 := by simp; omega
      generalize nowAt (gs.take k) = now at *
      have hn0 : 0 ≤ now := hnow.1
      have hn1 : now ≤ 51200 := by omega
      have HG := hide hgk
      clear hgk hnow hk200
      have hlast : -1 ≤ last ∧ last < now := by
        have h1 := hI.last
        have h2 := hI.ran
        have h3 := hI.ran0
        exact ⟨by omega, by omega⟩
      have hinT := inTime_of hn0 (show now ≤ 1099511627776 by omega)
      have hB := budget_eq s now hinT hI.order
      have hT := hI.tells (show now ≤ 1099511627776 by omega)
      have hTn := (tell_rest s now).2.1
      have hTT := tell_tell s now now (Int.le_refl _)
      go_wp2_with fail
      have hc := budget_ok b g bs s now wr hsr hI.inv
      rw [hB] at hc
      refine hc.mono ?_
      clear hc hB
      rintro e w2 ⟨rfl, hs2, ho2⟩
      generalize s.tell now = t at *
      dsimp only at hs2
      obtain ⟨hz0, hz1⟩ := hT.runs hTn hTT hinT
      have hor2 : Only [] w w2 := hor.trans' ho2 (by simp; omega)
      have hbx2 := ho2.blk hbx (by simp; omega)
      clear hor hbx hsr
      have hIt := hide hT
      have htl := hT.inv.left
      clear hT hTT hTn
      have hne : now + 1 ≤ now + (1 + (gk : Int)) := by omega
      by_cases hl0 : t.left = 0
      · obtain ⟨hr, ho0⟩ := hz0 hl0
        clear hz0 hz1
        have hF0 := hIt.out
        rw [ho0] at hF0
        have hlz : (t.left == 0) = true := by simp [hl0]
        have Hl0 := hide hl0
        have Hr := hide hr
        clear ho0 hr hl0
        by_cases hc : last + 1 < now
        all_goals
          go_wp2_with fail
          have hcc := run_ok b g bs t now w2 hs2 hIt.out.inv
          rw [Hr.out] at hcc
          refine hcc.mono ?_
          clear hcc
          rintro e w3 ⟨rfl, hs3, ho3⟩
          dsimp only at hs3
          have hor3 : Only [] w w3 := hor2.trans' ho3 (by simp; omega)
          have hbx3 := ho3.blk hbx2 (by simp; omega)
          have hF := hF0
          clear hs2 hor2 hbx2 ho2 ho3
          go_wp2_with fail
          refine (rep_ok b g bs t w3 hs3 hF.inv (by have := hor3.size; have := hs3.lt; omega) (by have := hs3.lt; omega) (by have := hs3.lt; omega)).mono ?_
          rintro e w4 ⟨A2, rfl, hs4, ho4, hcells⟩
          have hor4 : Only [] w w4 := hor3.trans ho4
          have hbx4 := ho4.blk hbx3 (by simp)
          have e0 := hbx4.cell (i := 0) rfl
          have e2 := hbx4.cell (i := 2) rfl
          obtain ⟨bA', oA', rfl, _, hcA3⟩ := (hA.only hor4 (Nat.le_refl _) (by simp)) k gk (by simp [HG.out])
          have hsum := hF.inv.sum
          have hopn := hF.opn
          have hprm := hF.prm
          have hlen := hF.inv.len
          have hleft := hF.inv.left
          rw [← hopn, hprm] at hsum
          rw [hprm] at hlen
          have hamt := hide hF.inv.amt
          have hSA := hide (fun j => sumA_take_le (t).list j hF.inv.amt)
          have hS1 := sumA_nonneg (t).list hF.inv.amt
          have HF := hide hF
          have HC := hide hcells
          have HS4 := hide hs4
          have HP := hide hprm
          clear hF hcells hs4 hopn hs3 hbx3 hor3 hprm hF0
          generalize hsf : t = sF at *
          clear hsf
          go_wp2
          go_loop [13, 15] (fun sm i => ∃ j : Nat, j ≤ sF.list.length ∧ i = .int .i64 j ∧ sm = .int .i64 (sF.left + sumA (sF.list.take j))) (fun _ i => sF.list.length - (intOf i).toNat)
          case atStart => exact ⟨0, Nat.zero_le _, rfl, by rw [List.take_zero, sumA_nil, Int.add_zero]; exact congrArg _ (Go.IntWalk.wrap64_in _ (by omega))⟩
          case round =>
            obtain ⟨j, hj, rfl, rfl⟩ := hrel
            have hb1 := hSA.out j
            rcases Nat.lt_or_ge j sF.list.length with hjl | hjg
            · obtain ⟨x, hx⟩ : ∃ x, sF.list[j]? = some x := ⟨_, List.getElem?_eq_getElem hjl⟩
              obtain ⟨q, rfl, _, _, hx2⟩ := HC.out j x hx
              have hst2 := hide (sumA_take sF.list j x hx)
              have hxa := hamt.out x (List.mem_of_getElem? hx)
              have hb2 := (hSA.out (j + 1)).2
              rw [hst2.out] at hb2
              clear hx
              go_wp2
              go_round
              case rel => exact ⟨j + 1, by omega, by go_num, by rw [hst2.out]; go_num⟩
              case measure => simp [intOf]; omega
            · obtain rfl : j = sF.list.length := by omega
              rw [List.take_length]
              have hq1 : ((sF.left + sumA sF.list) != p.B) = false := by simp; omega
              have hq2 : decide ((p.N : Int) < sF.list.length) = false := by simp; omega
              have hq3 : ¬ p.N < sF.list.length := by omega
              clear hsum hb1
              set_option maxRecDepth 20000 in
              go_wp2
              go_roundw
              case rel => exact ⟨k + 1, by omega, by go_num, sF, last, 0, by rw [hnext.out], by first | rfl | go_num, by first | rfl | go_num, HS4.out, by rw [hnext.out]; exact HF.out.later (by omega), hor4, hbx4⟩
              case measure => simp [intOf]; omega

      · have htB : t.left ≤ 1000000 := by
          have h1 := hIt.out.inv.sum
          have h2 := hIt.out.prm
          have h3 := hIt.out.opn
          have h4 := sumA_nonneg t.list hIt.out.inv.amt
          have h5 := opens_nonneg hIt.out.inv
          rw [h2] at h1; omega
        have hopB : 0 ≤ opn ∧ opn ≤ 1000000 := by
          have h1 := hI.inv.sum
          have h2 := hI.prm
          have h3 := hI.opn
          have h4 := sumA_nonneg s.list hI.inv.amt
          have h5 := opens_nonneg hI.inv
          have h6 := hI.inv.left
          rw [h2] at h1; omega
        obtain ⟨hr, hF0, hsl⟩ := hz1 hl0
        clear hz0 hz1
        obtain ⟨sF, hrr⟩ : ∃ sF, t.runs now = (sF, 0) := ⟨(t.runs now).1, Prod.ext rfl hr⟩
        rw [hrr] at hF0 hsl
        dsimp only at hF0 hsl
        clear hr
        by_cases hc : last + 1 < now
        · rw [show (if last + 1 < now ∨ t.left = 0 then (0 : Int) else opn) = 0 from if_pos (.inl hc)] at hF0
          by_cases hl1 : t.left = 1
          · have hlz : (t.left == 0) = false := by simp [hl0]
            have hlz2 : (t.left - 1 == 0) = true := by simp; omega
            go_wp2_with fail
            have hcc := run_ok b g bs t now w2 hs2 hIt.out.inv
            rw [hrr] at hcc
            refine hcc.mono ?_
            clear hcc
            rintro e w3 ⟨rfl, hs3, ho3⟩
            dsimp only at hs3
            have hor3 : Only [] w w3 := hor2.trans' ho3 (by simp; omega)
            have hbx3 := ho3.blk hbx2 (by simp; omega)
            have hF := hF0
            rw [if_pos (by omega)] at hF
            clear hs2 hor2 hbx2 ho2 ho3
            go_wp2_with fail
            refine (rep_ok b g bs sF w3 hs3 hF.inv (by have := hor3.size; have := hs3.lt; omega) (by have := hs3.lt; omega) (by have := hs3.lt; omega)).mono ?_
            rintro e w4 ⟨A2, rfl, hs4, ho4, hcells⟩
            have hor4 : Only [] w w4 := hor3.trans ho4
            have hbx4 := ho4.blk hbx3 (by simp)
            have e0 := hbx4.cell (i := 0) rfl
            have e2 := hbx4.cell (i := 2) rfl
            obtain ⟨bA', oA', rfl, _, hcA3⟩ := (hA.only hor4 (Nat.le_refl _) (by simp)) k gk (by simp [HG.out])
            have hsum := hF.inv.sum
            have hopn := hF.opn
            have hprm := hF.prm
            have hlen := hF.inv.len
            have hleft := hF.inv.left
            rw [← hopn, hprm, hsl] at hsum
            rw [hprm] at hlen
            have hamt := hide hF.inv.amt
            have hSA := hide (fun j => sumA_take_le sF.list j hF.inv.amt)
            have hS1 := sumA_nonneg sF.list hF.inv.amt
            have HF := hide hF
            have HC := hide hcells
            have HS4 := hide hs4
            have HP := hide hprm
            clear hF hcells hs4 hopn hs3 hbx3 hor3 hprm hF0 hsl hrr
            go_wp2
            go_loop [13, 15] (fun sm i => ∃ j : Nat, j ≤ sF.list.length ∧ i = .int .i64 j ∧ sm = .int .i64 (t.left - 1 + 0 + sumA (sF.list.take j))) (fun _ i => sF.list.length - (intOf i).toNat)
            case atStart => exact ⟨0, Nat.zero_le _, rfl, by rw [List.take_zero, sumA_nil]; first | rfl | go_num | exact congrArg _ (Go.IntWalk.wrap64_in _ (by omega))⟩
            case round =>
              obtain ⟨j, hj, rfl, rfl⟩ := hrel
              have hb1 := hSA.out j
              rcases Nat.lt_or_ge j sF.list.length with hjl | hjg
              · obtain ⟨x, hx⟩ : ∃ x, sF.list[j]? = some x := ⟨_, List.getElem?_eq_getElem hjl⟩
                obtain ⟨q, rfl, _, _, hx2⟩ := HC.out j x hx
                have hst2 := hide (sumA_take sF.list j x hx)
                have hxa := hamt.out x (List.mem_of_getElem? hx)
                have hb2 := (hSA.out (j + 1)).2
                rw [hst2.out] at hb2
                clear hx
                go_wp2
                go_round
                case rel => exact ⟨j + 1, by omega, by go_num, by rw [hst2.out]; go_num⟩
                case measure => simp [intOf]; omega
              · obtain rfl : j = sF.list.length := by omega
                rw [List.take_length]
                have hq1 : (sumA sF.list != p.B) = false := by simp; omega
                have hq4 : sumA sF.list = p.B := by omega
                have hq2 : decide ((p.N : Int) < sF.list.length) = false := by simp; omega
                have hq3 : ¬ p.N < sF.list.length := by omega
                clear hsum hb1
                set_option maxRecDepth 20000 in
                go_wp2
                go_roundw
                case rel => exact ⟨k + 1, by omega, by go_num, sF, now, 0, by rw [hnext.out], by first | rfl | go_num, by first | rfl | go_num, HS4.out, by rw [hnext.out]; exact HF.out.later (by omega), hor4, hbx4⟩
                case measure => simp [intOf]; omega
          · have hlz : (t.left == 0) = false := by simp [hl0]
            have hlz2 : (t.left - 1 == 0) = false := by simp; omega
            go_wp2_with fail
            have hcc := run_ok b g bs t now w2 hs2 hIt.out.inv
            rw [hrr] at hcc
            refine hcc.mono ?_
            clear hcc
            rintro e w3 ⟨rfl, hs3, ho3⟩
            dsimp only at hs3
            have hor3 : Only [] w w3 := hor2.trans' ho3 (by simp; omega)
            have hbx3 := ho3.blk hbx2 (by simp; omega)
            have hF := hF0
            rw [if_neg (by omega)] at hF
            clear hs2 hor2 hbx2 ho2 ho3
            go_wp2_with fail
            refine (rep_ok b g bs sF w3 hs3 hF.inv (by have := hor3.size; have := hs3.lt; omega) (by have := hs3.lt; omega) (by have := hs3.lt; omega)).mono ?_
            rintro e w4 ⟨A2, rfl, hs4, ho4, hcells⟩
            have hor4 : Only [] w w4 := hor3.trans ho4
            have hbx4 := ho4.blk hbx3 (by simp)
            have e0 := hbx4.cell (i := 0) rfl
            have e2 := hbx4.cell (i := 2) rfl
            obtain ⟨bA', oA', rfl, _, hcA3⟩ := (hA.only hor4 (Nat.le_refl _) (by simp)) k gk (by simp [HG.out])
            have hsum := hF.inv.sum
            have hopn := hF.opn
            have hprm := hF.prm
            have hlen := hF.inv.len
            have hleft := hF.inv.left
            rw [← hopn, hprm, hsl] at hsum
            rw [hprm] at hlen
            have hamt := hide hF.inv.amt
            have hSA := hide (fun j => sumA_take_le sF.list j hF.inv.amt)
            have hS1 := sumA_nonneg sF.list hF.inv.amt
            have HF := hide hF
            have HC := hide hcells
            have HS4 := hide hs4
            have HP := hide hprm
            clear hF hcells hs4 hopn hs3 hbx3 hor3 hprm hF0 hsl hrr
            go_wp2
            go_loop [13, 15] (fun sm i => ∃ j : Nat, j ≤ sF.list.length ∧ i = .int .i64 j ∧ sm = .int .i64 (t.left - 1 + (0 + 1) + sumA (sF.list.take j))) (fun _ i => sF.list.length - (intOf i).toNat)
            case atStart => exact ⟨0, Nat.zero_le _, rfl, by rw [List.take_zero, sumA_nil]; first | rfl | go_num | exact congrArg _ (Go.IntWalk.wrap64_in _ (by omega))⟩
            case round =>
              obtain ⟨j, hj, rfl, rfl⟩ := hrel
              have hb1 := hSA.out j
              rcases Nat.lt_or_ge j sF.list.length with hjl | hjg
              · obtain ⟨x, hx⟩ : ∃ x, sF.list[j]? = some x := ⟨_, List.getElem?_eq_getElem hjl⟩
                obtain ⟨q, rfl, _, _, hx2⟩ := HC.out j x hx
                have hst2 := hide (sumA_take sF.list j x hx)
                have hxa := hamt.out x (List.mem_of_getElem? hx)
                have hb2 := (hSA.out (j + 1)).2
                rw [hst2.out] at hb2
                clear hx
                go_wp2
                go_round
                case rel => exact ⟨j + 1, by omega, by go_num, by rw [hst2.out]; go_num⟩
                case measure => simp [intOf]; omega
              · obtain rfl : j = sF.list.length := by omega
                rw [List.take_length]
                have hq1 : ((t.left - 1 + (0 + 1) + sumA sF.list) != p.B) = false := by simp; omega
                have hq4 : t.left + sumA sF.list = p.B := by omega
                have hq2 : decide ((p.N : Int) < sF.list.length) = false := by simp; omega
                have hq3 : ¬ p.N < sF.list.length := by omega
                clear hsum hb1
                set_option maxRecDepth 20000 in
                go_wp2
                go_roundw
                case rel => exact ⟨k + 1, by omega, by go_num, sF, now, (0 + 1), by rw [hnext.out], by first | rfl | go_num, by first | rfl | go_num, HS4.out, by rw [hnext.out]; exact HF.out.later (by omega), hor4, hbx4⟩
                case measure => simp [intOf]; omega
        · rw [show (if last + 1 < now ∨ t.left = 0 then (0 : Int) else opn) = opn from if_neg (by omega)] at hF0
          by_cases hl1 : t.left = 1
          · have hlz : (t.left == 0) = false := by simp [hl0]
            have hlz2 : (t.left - 1 == 0) = true := by simp; omega
            go_wp2_with fail
            have hcc := run_ok b g bs t now w2 hs2 hIt.out.inv
            rw [hrr] at hcc
            refine hcc.mono ?_
            clear hcc
            rintro e w3 ⟨rfl, hs3, ho3⟩
            dsimp only at hs3
            have hor3 : Only [] w w3 := hor2.trans' ho3 (by simp; omega)
            have hbx3 := ho3.blk hbx2 (by simp; omega)
            have hF := hF0
            rw [if_pos (by omega)] at hF
            clear hs2 hor2 hbx2 ho2 ho3
            go_wp2_with fail
            refine (rep_ok b g bs sF w3 hs3 hF.inv (by have := hor3.size; have := hs3.lt; omega) (by have := hs3.lt; omega) (by have := hs3.lt; omega)).mono ?_
            rintro e w4 ⟨A2, rfl, hs4, ho4, hcells⟩
            have hor4 : Only [] w w4 := hor3.trans ho4
            have hbx4 := ho4.blk hbx3 (by simp)
            have e0 := hbx4.cell (i := 0) rfl
            have e2 := hbx4.cell (i := 2) rfl
            obtain ⟨bA', oA', rfl, _, hcA3⟩ := (hA.only hor4 (Nat.le_refl _) (by simp)) k gk (by simp [HG.out])
            have hsum := hF.inv.sum
            have hopn := hF.opn
            have hprm := hF.prm
            have hlen := hF.inv.len
            have hleft := hF.inv.left
            rw [← hopn, hprm, hsl] at hsum
            rw [hprm] at hlen
            have hamt := hide hF.inv.amt
            have hSA := hide (fun j => sumA_take_le sF.list j hF.inv.amt)
            have hS1 := sumA_nonneg sF.list hF.inv.amt
            have HF := hide hF
            have HC := hide hcells
            have HS4 := hide hs4
            have HP := hide hprm
            clear hF hcells hs4 hopn hs3 hbx3 hor3 hprm hF0 hsl hrr
            go_wp2
            go_loop [13, 15] (fun sm i => ∃ j : Nat, j ≤ sF.list.length ∧ i = .int .i64 j ∧ sm = .int .i64 (t.left - 1 + 0 + sumA (sF.list.take j))) (fun _ i => sF.list.length - (intOf i).toNat)
            case atStart => exact ⟨0, Nat.zero_le _, rfl, by rw [List.take_zero, sumA_nil]; first | rfl | go_num | exact congrArg _ (Go.IntWalk.wrap64_in _ (by omega))⟩
            case round =>
              obtain ⟨j, hj, rfl, rfl⟩ := hrel
              have hb1 := hSA.out j
              rcases Nat.lt_or_ge j sF.list.length with hjl | hjg
              · obtain ⟨x, hx⟩ : ∃ x, sF.list[j]? = some x := ⟨_, List.getElem?_eq_getElem hjl⟩
                obtain ⟨q, rfl, _, _, hx2⟩ := HC.out j x hx
                have hst2 := hide (sumA_take sF.list j x hx)
                have hxa := hamt.out x (List.mem_of_getElem? hx)
                have hb2 := (hSA.out (j + 1)).2
                rw [hst2.out] at hb2
                clear hx
                go_wp2
                go_round
                case rel => exact ⟨j + 1, by omega, by go_num, by rw [hst2.out]; go_num⟩
                case measure => simp [intOf]; omega
              · obtain rfl : j = sF.list.length := by omega
                rw [List.take_length]
                have hq1 : (sumA sF.list != p.B) = false := by simp; omega
                have hq4 : sumA sF.list = p.B := by omega
                have hq2 : decide ((p.N : Int) < sF.list.length) = false := by simp; omega
                have hq3 : ¬ p.N < sF.list.length := by omega
                clear hsum hb1
                set_option maxRecDepth 20000 in
                go_wp2
                go_roundw
                case rel => exact ⟨k + 1, by omega, by go_num, sF, now, 0, by rw [hnext.out], by first | rfl | go_num, by first | rfl | go_num, HS4.out, by rw [hnext.out]; exact HF.out.later (by omega), hor4, hbx4⟩
                case measure => simp [intOf]; omega
          · have hlz : (t.left == 0) = false := by simp [hl0]
            have hlz2 : (t.left - 1 == 0) = false := by simp; omega
            go_wp2_with fail
            have hcc := run_ok b g bs t now w2 hs2 hIt.out.inv
            rw [hrr] at hcc
            refine hcc.mono ?_
            clear hcc
            rintro e w3 ⟨rfl, hs3, ho3⟩
            dsimp only at hs3
            have hor3 : Only [] w w3 := hor2.trans' ho3 (by simp; omega)
            have hbx3 := ho3.blk hbx2 (by simp; omega)
            have hF := hF0
            rw [if_neg (by omega)] at hF
            clear hs2 hor2 hbx2 ho2 ho3
            go_wp2_with fail
            refine (rep_ok b g bs sF w3 hs3 hF.inv (by have := hor3.size; have := hs3.lt; omega) (by have := hs3.lt; omega) (by have := hs3.lt; omega)).mono ?_
            rintro e w4 ⟨A2, rfl, hs4, ho4, hcells⟩
            have hor4 : Only [] w w4 := hor3.trans ho4
            have hbx4 := ho4.blk hbx3 (by simp)
            have e0 := hbx4.cell (i := 0) rfl
            have e2 := hbx4.cell (i := 2) rfl
            obtain ⟨bA', oA', rfl, _, hcA3⟩ := (hA.only hor4 (Nat.le_refl _) (by simp)) k gk (by simp [HG.out])
            have hsum := hF.inv.sum
            have hopn := hF.opn
            have hprm := hF.prm
            have hlen := hF.inv.len
            have hleft := hF.inv.left
            rw [← hopn, hprm, hsl] at hsum
            rw [hprm] at hlen
            have hamt := hide hF.inv.amt
            have hSA := hide (fun j => sumA_take_le sF.list j hF.inv.amt)
            have hS1 := sumA_nonneg sF.list hF.inv.amt
            have HF := hide hF
            have HC := hide hcells
            have HS4 := hide hs4
            have HP := hide hprm
            clear hF hcells hs4 hopn hs3 hbx3 hor3 hprm hF0 hsl hrr
            go_wp2
            go_loop [13, 15] (fun sm i => ∃ j : Nat, j ≤ sF.list.length ∧ i = .int .i64 j ∧ sm = .int .i64 (t.left - 1 + (opn + 1) + sumA (sF.list.take j))) (fun _ i => sF.list.length - (intOf i).toNat)
            case atStart => exact ⟨0, Nat.zero_le _, rfl, by rw [List.take_zero, sumA_nil]; first | rfl | go_num | exact congrArg _ (Go.IntWalk.wrap64_in _ (by omega))⟩
            case round =>
              obtain ⟨j, hj, rfl, rfl⟩ := hrel
              have hb1 := hSA.out j
              rcases Nat.lt_or_ge j sF.list.length with hjl | hjg
              · obtain ⟨x, hx⟩ : ∃ x, sF.list[j]? = some x := ⟨_, List.getElem?_eq_getElem hjl⟩
                obtain ⟨q, rfl, _, _, hx2⟩ := HC.out j x hx
                have hst2 := hide (sumA_take sF.list j x hx)
                have hxa := hamt.out x (List.mem_of_getElem? hx)
                have hb2 := (hSA.out (j + 1)).2
                rw [hst2.out] at hb2
                clear hx
                go_wp2
                go_round
                case rel => exact ⟨j + 1, by omega, by go_num, by rw [hst2.out]; go_num⟩
                case measure => simp [intOf]; omega
              · obtain rfl : j = sF.list.length := by omega
                rw [List.take_length]
                have hq1 : ((t.left - 1 + (opn + 1) + sumA sF.list) != p.B) = false := by simp; omega
                have hq2 : decide ((p.N : Int) < sF.list.length) = false := by simp; omega
                have hq3 : ¬ p.N < sF.list.length := by omega
                clear hsum hb1
                set_option maxRecDepth 20000 in
                go_wp2
                go_roundw
                case rel => exact ⟨k + 1, by omega, by go_num, sF, now, (opn + 1), by rw [hnext.out], by first | rfl | go_num, by first | rfl | go_num, HS4.out, by rw [hnext.out]; exact HF.out.later (by omega), hor4, hbx4⟩
                case measure => simp [intOf]; omega
    · obtain rfl : k = gs.length := by omega
      rw [List.take_length] at hI
      have hnow := nowAt_bound gs hg8
      have hprm := hI.prm
      rw [List.take_length]
      generalize nowAt gs = now at *
      have hlast : -1 ≤ last ∧ last < now + 1 := by
        have h1 := hI.last
        have h2 := hI.ran
        have h3 := hI.ran0
        exact ⟨by omega, by omega⟩
      have hn1 : now ≤ 51200 := by omega
      have hord := hI.order
      have e1 := hbx.cell (i := 1) rfl
      have e0 := hbx.cell (i := 0) rfl
      have HI := hide hI
      clear hI hA hnow hprm
      by_cases hc : last + 1 + p.P < now
      · have hB := budget_eq s (now) (inTime_of (by omega) (by omega)) (by omega)
        have hfull := HI.out.full (u := now) (by omega) (by omega) (by omega)
        have hq : (last + 1 + p.P < now) = True := by simp; omega
        go_wp2_with fail
        have hcc := budget_ok b g bs s (now) wr hsr HI.out.inv
        rw [hB] at hcc
        refine hcc.mono ?_
        clear hcc hB hord
        rintro e w2 ⟨rfl, hs2, ho2⟩
        dsimp only
        rw [hfull]
        have hor2 : Only [] w w2 := hor.trans' ho2 (by simp; omega)
        have hbx2 := ho2.blk hbx (by simp; omega)
        have e3 := hbx2.cell (i := 0) rfl
        clear hor hbx hsr hs2 hfull hbx2 ho2
        go_wp2_with fail
        refine (awake_ok _).mono ?_
        rintro e w9 ⟨rfl, ho9⟩
        go_wp2
        go_ret
        exact ⟨rfl, hor2.trans ho9⟩
      · have hB := budget_eq s (last + 1 + p.P) (inTime_of (by omega) (by omega)) (by omega)
        have hfull := HI.out.full (u := last + 1 + p.P) (by omega) (by omega) (by omega)
        have hq : (last + 1 + p.P < now) = False := by simp; omega
        go_wp2_with fail
        have hcc := budget_ok b g bs s (last + 1 + p.P) wr hsr HI.out.inv
        rw [hB] at hcc
        refine hcc.mono ?_
        clear hcc hB hord
        rintro e w2 ⟨rfl, hs2, ho2⟩
        dsimp only
        rw [hfull]
        have hor2 : Only [] w w2 := hor.trans' ho2 (by simp; omega)
        have hbx2 := ho2.blk hbx (by simp; omega)
        have e3 := hbx2.cell (i := 0) rfl
        clear hor hbx hsr hs2 hfull hbx2 ho2
        go_wp2_with fail
        refine (awake_ok _).mono ?_
        rintro e w9 ⟨rfl, ho9⟩
        go_wp2
        go_ret
        exact ⟨rfl, hor2.trans ho9⟩

end Go.Proofs.Ytdjkgbkckmjfiaa
