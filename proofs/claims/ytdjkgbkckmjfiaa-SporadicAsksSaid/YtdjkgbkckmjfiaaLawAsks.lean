/- The law SporadicAsks, walked. -/
import Derived.Test.YtdjkgbkckmjfiaaLawSums
import Derived.Test.YtdjkgbkckmjfiaaAsks
import Derived.Test.YtdjkgbkckmjfiaaWalkG
namespace Go.Proofs.Ytdjkgbkckmjfiaa
open Go.RowKit

theorem Only.cellA {S : List Nat} {w w' : World} (h : Only S w w') {b o : Nat} {v : Value} (hc : w.cell? ⟨b, o, none⟩ = some v) (hn : b ∉ S) : w'.cell? ⟨b, o, none⟩ = some v := by
  rw [World.cell?_of_block (w := w) (h.block b (World.block_lt_of_cell? _ _ hc) hn)]; exact hc

def L3 (w : World) (p : Prm) (gs : List Nat) (b g bs b2 g2 bs2 : Nat) (k : Nat) (nw : Value) (wr : World) : Prop :=
  ∃ s t, nw = I64 (nowAt (gs.take k)) ∧ SrvIs wr b g bs s ∧ SrvIs wr b2 g2 bs2 t ∧ AskInv s t (nowAt (gs.take k)) ∧ Only [] w wr

set_option maxHeartbeats 1000000 in
theorem asks_big (p : Prm) (A : Option Addr) (len cap : Nat) (asks : Int) (w : World) (h : p.ok) (hl : 200 < len) (hm : len ≤ maxLen) :
    Calls Try.prog 5 #[.agg #[I64 p.B, I64 p.P, I64 p.N, I64 p.L], .slice A len cap, .int .u64 asks] w fun e w' => e = .returned (.bool true) ∧ Only [] w w' := by
  unfold maxLen at hm
  go_enter Try.func5, Try.ntmps5
  go_wp2_with fail
  refine (new_yes p _ h).mono ?_
  rintro e w1 ⟨b, g, bs, rfl, hs0, hb, hg, hbs, ho⟩
  have hbx := ho.blk (Blk.new w 23 [I64 p.B, I64 p.P, I64 p.N, I64 p.L]) (by simp)
  have e0 := hbx.cell (i := 0) rfl
  have e1 := hbx.cell (i := 1) rfl
  have e2 := hbx.cell (i := 2) rfl
  have e3 := hbx.cell (i := 3) rfl
  go_wp2_with fail
  refine (new_yes p _ h).mono ?_
  rintro e w3 ⟨b2, g2, bs2, rfl, hs3, hb2, hg2, hbs2, ho3⟩
  go_wp2_with fail
  refine (awake_ok _).mono ?_
  rintro e w2 ⟨rfl, ho2⟩
  go_wp2
  go_ret
  exact ⟨rfl, ((Only.refl _ _).alloc _).trans (ho.trans (ho3.trans ho2))⟩

set_option maxHeartbeats 1000000 in
theorem asks_bad (B P N L : Int) (A : Option Addr) (len cap : Nat) (asks : Int) (w : World) (h : ¬ okRaw B P N L) :
    Calls Try.prog 5 #[.agg #[I64 B, I64 P, I64 N, I64 L], .slice A len cap, .int .u64 asks] w fun e w' => e = .returned (.bool true) ∧ Only [] w w' := by
  go_enter Try.func5, Try.ntmps5
  go_wp2_with fail
  refine (new_no B P N L _ h).mono ?_
  rintro e w1 ⟨rfl, ho⟩
  have hbx := ho.blk (Blk.new w 23 [I64 B, I64 P, I64 N, I64 L]) (by simp)
  have e0 := hbx.cell (i := 0) rfl
  have e1 := hbx.cell (i := 1) rfl
  have e2 := hbx.cell (i := 2) rfl
  have e3 := hbx.cell (i := 3) rfl
  go_wp2_with fail
  refine (new_no B P N L _ h).mono ?_
  rintro e w3 ⟨rfl, ho3⟩
  go_wp2_with fail
  refine (awake_ok _).mono ?_
  rintro e w2 ⟨rfl, ho2⟩
  go_wp2
  go_ret
  exact ⟨rfl, ((Only.refl _ _).alloc _).trans (ho.trans (ho3.trans ho2))⟩

set_option maxHeartbeats 4000000 in
theorem asks_small (p : Prm) (A : Option Addr) (gs : List Nat) (cap : Nat) (asks : Int) (w : World) (h : p.ok) (hl : gs.length ≤ 200) (hg8 : ∀ x ∈ gs, x ≤ 255) (hA : Reads w w.heap.size .u8 A (gs.map fun (x : Nat) => (x : Int))) :
    Calls Try.prog 5 #[.agg #[I64 p.B, I64 p.P, I64 p.N, I64 p.L], .slice A gs.length cap, .int .u64 asks] w fun e w' => e = .returned (.bool true) ∧ Only [] w w' := by
  go_enter Try.func5, Try.ntmps5
  go_wp2_with fail
  refine (new_yes p _ h).mono ?_
  rintro e w1 ⟨b, g, bs, rfl, hs0, hb, hg, hbs, ho⟩
  have hbx := ho.blk (Blk.new w 23 [I64 p.B, I64 p.P, I64 p.N, I64 p.L]) (by simp)
  have e0 := hbx.cell (i := 0) rfl
  have e1 := hbx.cell (i := 1) rfl
  have e2 := hbx.cell (i := 2) rfl
  have e3 := hbx.cell (i := 3) rfl
  go_wp2_with fail
  refine (new_yes p _ h).mono ?_
  rintro e w3 ⟨b2, g2, bs2, rfl, ht0, hb2, hg2, hbs2, ho3⟩
  have hlt := hs0.lt
  have hap : b2 ≠ b ∧ b2 ≠ g ∧ b2 ≠ bs ∧ g2 ≠ b ∧ g2 ≠ g ∧ g2 ≠ bs ∧ bs2 ≠ b ∧ bs2 ≠ g ∧ bs2 ≠ bs := by omega
  have hs3 := hs0.only ho3 (by simp) (by simp) (by simp)
  have ho' : Only [] w w3 := ((Only.refl _ _).alloc _).trans (ho.trans ho3)
  have hst := hide (show L3 w p gs b g bs b2 g2 bs2 0 (I64 0) w3 from ⟨_, _, by simp [nowAt], hs3, ht0, by simpa [nowAt] using AskInv.new p h, ho'⟩)
  have hbig : w.heap.size ≤ b ∧ w.heap.size ≤ g ∧ w.heap.size ≤ bs ∧ w.heap.size ≤ b2 ∧ w.heap.size ≤ g2 ∧ w.heap.size ≤ bs2 := by
    have h1 := ho.size
    simp at hb hg hbs h1
    omega
  clear hs0 hs3 ht0 ho' ho3 ho hbx e0 e1 e2 e3 hlt hb hg hbs hb2 hg2 hbs2
  go_wp2
  go_loopw [11, 12] (fun nw i wr => ∃ k : Nat, k ≤ gs.length ∧ i = .int .i64 k ∧ L3 w p gs b g bs b2 g2 bs2 k nw wr) (fun _ i _ => gs.length - (intOf i).toNat)
  case atStart => exact ⟨0, Nat.zero_le _, rfl, hst.out⟩
  case round =>
    obtain ⟨k, hk, rfl, s, t, rfl, hsr, htr, hI, hor⟩ := hrel
    clear hst
    rcases Nat.lt_or_ge k gs.length with hlt | hge
    · obtain ⟨gk, hgk⟩ : ∃ x, gs[k]? = some x := ⟨_, List.getElem?_eq_getElem hlt⟩
      have hg255 : gk ≤ 255 := hg8 gk (List.mem_of_getElem? hgk)
      have hnext := hide (nowAt_snoc gs k gk hgk)
      have hnow := nowAt_bound (gs.take k) (fun y hy => hg8 y (List.mem_of_mem_take hy))
      have hk200 : (gs.take k).length ≤ 200 := by simp; omega
      generalize nowAt (gs.take k) = now at *
      have hn0 : 0 ≤ now := hnow.1
      have hn1 : now ≤ 51200 := by omega
      have HG := hide hgk
      clear hgk hnow hk200
      have hinT := hide (inTime_of hn0 (show now ≤ 1099511627776 by omega))
      go_wp2_with fail
      · have hc := budget_ok b2 g2 bs2 t now wr htr hI.inv2
        rw [budget_eq t now hinT.out hI.now.1] at hc
        refine hc.mono ?_
        clear hc
        rintro e w4 ⟨rfl, ht4, ho4⟩
        dsimp only at ht4
        have hs4 := hsr.only ho4 (by simp; omega) (by simp; omega) (by simp; omega)
        have hor4 : Only [] w w4 := hor.trans' ho4 (by simp; omega)
        have hI4 := hI.ask (show now ≤ 1099511627776 by omega)
        clear hsr htr ho4 hor
        go_wp2_with fail
        have hc := run_ok b g bs s now w4 hs4 hI4.inv
        refine hc.mono ?_
        clear hc
        rintro e w5 ⟨rfl, hs5, ho5⟩
        have ht5 := ht4.only ho5 (by simp; omega) (by simp; omega) (by simp; omega)
        have hor5 : Only [] w w5 := hor4.trans' ho5 (by simp; omega)
        have hsame := hI4.runs_same hinT.out
        have HI5 := hide (hI4.runs hinT.out)
        rw [hsame] at HI5
        go_wp2_with fail
        have hc := run_ok b2 g2 bs2 (t.tell now) now w5 ht5 hI4.inv2
        rw [hsame] at hc
        refine hc.mono ?_
        clear hc hsame
        rintro e w6 ⟨rfl, ht6, ho6⟩
        have hs6 := hs5.only ho6 (by simp; omega) (by simp; omega) (by simp; omega)
        have hor6 : Only [] w w6 := hor5.trans' ho6 (by simp; omega)
        obtain ⟨u, r, hur⟩ : ∃ u r, s.runs now = (u, r) := ⟨_, _, rfl⟩
        rw [hur] at hs6 ht6 HI5
        rw [hur]
        dsimp only at hs6 ht6 HI5 ⊢
        obtain ⟨bA', oA', rfl, _, hcA3⟩ := (hA.only hor6 (Nat.le_refl _) (by simp)) k gk (by simp [HG.out])
        clear hs5 ht5 hor5 ho5 ho6 hur
        by_cases hg0 : gk = 0
        · subst hg0
          have hsF := hs6
          have htF := ht6
          have HIF := HI5
          have horF := hor6
          clear hs6 ht6 HI5 hor6
          go_wp2
          all_goals
            go_roundw
            case rel => exact ⟨k + 1, by omega, by go_num, u, u, (by rw [hnext.out] <;> go_num), hsF, htF, by rw [hnext.out]; exact HIF.out.later (by omega), horF⟩
            case measure => simp [intOf]; omega
        · have hgp : decide ((0 : Int) < gk) = true := by simp; omega
          have hgp' : decide (0 < gk) = true := by simp; omega
          go_wp2_with fail
          · have hn : u.now ≤ now + 1 := HI5.out.order
            have hc := prio_ok b2 g2 bs2 u (now + 1) 10 w6 ht6 HI5.out.inv2
            have hpr : (u.prio (now + 1) 10).1 = u.tell (now + 1) := by
              unfold Srv.prio
              rw [if_neg (by rw [inTime_of (by omega) (by omega)]; simp), if_neg (by omega)]
            rw [hpr] at hc
            refine hc.mono ?_
            clear hc hpr
            rintro e w7 ⟨rfl, ht7, ho7⟩
            have hsF := hs6.only ho7 (by simp; omega) (by simp; omega) (by simp; omega)
            have htF := ht7
            have HIF := hide (HI5.out.ask (by omega))
            have horF : Only [] w w7 := hor6.trans' ho7 (by simp; omega)
            have hcA4 := ho7.cellA hcA3 (by simp; omega)
            clear hs6 ht6 HI5 hor6 ht7
            go_wp2
            go_roundw
            case rel => exact ⟨k + 1, by omega, by go_num, u, (u.tell (now + 1)), (by rw [hnext.out] <;> go_num), hsF, htF, by rw [hnext.out]; exact HIF.out.later (by omega), horF⟩
            case measure => simp [intOf]; omega
          · have hsF := hs6
            have htF := ht6
            have HIF := HI5
            have horF := hor6
            clear hs6 ht6 HI5 hor6
            go_roundw
            case rel => exact ⟨k + 1, by omega, by go_num, u, u, (by rw [hnext.out] <;> go_num), hsF, htF, by rw [hnext.out]; exact HIF.out.later (by omega), horF⟩
            case measure => simp [intOf]; omega
      · have hc := run_ok b g bs s now wr hsr hI.inv
        refine hc.mono ?_
        clear hc
        rintro e w5 ⟨rfl, hs5, ho5⟩
        have ht5 := htr.only ho5 (by simp; omega) (by simp; omega) (by simp; omega)
        have hor5 : Only [] w w5 := hor.trans' ho5 (by simp; omega)
        have hsame := hI.runs_same hinT.out
        have HI5 := hide (hI.runs hinT.out)
        rw [hsame] at HI5
        go_wp2_with fail
        have hc := run_ok b2 g2 bs2 t now w5 ht5 hI.inv2
        rw [hsame] at hc
        refine hc.mono ?_
        clear hc hsame
        rintro e w6 ⟨rfl, ht6, ho6⟩
        have hs6 := hs5.only ho6 (by simp; omega) (by simp; omega) (by simp; omega)
        have hor6 : Only [] w w6 := hor5.trans' ho6 (by simp; omega)
        obtain ⟨u, r, hur⟩ : ∃ u r, s.runs now = (u, r) := ⟨_, _, rfl⟩
        rw [hur] at hs6 ht6 HI5
        rw [hur]
        dsimp only at hs6 ht6 HI5 ⊢
        obtain ⟨bA', oA', rfl, _, hcA3⟩ := (hA.only hor6 (Nat.le_refl _) (by simp)) k gk (by simp [HG.out])
        clear hs5 ht5 hor5 ho5 ho6 hur
        by_cases hg0 : gk = 0
        · subst hg0
          have hsF := hs6
          have htF := ht6
          have HIF := HI5
          have horF := hor6
          clear hs6 ht6 HI5 hor6
          go_wp2
          all_goals
            go_roundw
            case rel => exact ⟨k + 1, by omega, by go_num, u, u, (by rw [hnext.out] <;> go_num), hsF, htF, by rw [hnext.out]; exact HIF.out.later (by omega), horF⟩
            case measure => simp [intOf]; omega
        · have hgp : decide ((0 : Int) < gk) = true := by simp; omega
          have hgp' : decide (0 < gk) = true := by simp; omega
          go_wp2_with fail
          · have hn : u.now ≤ now + 1 := HI5.out.order
            have hc := prio_ok b2 g2 bs2 u (now + 1) 10 w6 ht6 HI5.out.inv2
            have hpr : (u.prio (now + 1) 10).1 = u.tell (now + 1) := by
              unfold Srv.prio
              rw [if_neg (by rw [inTime_of (by omega) (by omega)]; simp), if_neg (by omega)]
            rw [hpr] at hc
            refine hc.mono ?_
            clear hc hpr
            rintro e w7 ⟨rfl, ht7, ho7⟩
            have hsF := hs6.only ho7 (by simp; omega) (by simp; omega) (by simp; omega)
            have htF := ht7
            have HIF := hide (HI5.out.ask (by omega))
            have horF : Only [] w w7 := hor6.trans' ho7 (by simp; omega)
            have hcA4 := ho7.cellA hcA3 (by simp; omega)
            clear hs6 ht6 HI5 hor6 ht7
            go_wp2
            go_roundw
            case rel => exact ⟨k + 1, by omega, by go_num, u, (u.tell (now + 1)), (by rw [hnext.out] <;> go_num), hsF, htF, by rw [hnext.out]; exact HIF.out.later (by omega), horF⟩
            case measure => simp [intOf]; omega
          · have hsF := hs6
            have htF := ht6
            have HIF := HI5
            have horF := hor6
            clear hs6 ht6 HI5 hor6
            go_roundw
            case rel => exact ⟨k + 1, by omega, by go_num, u, u, (by rw [hnext.out] <;> go_num), hsF, htF, by rw [hnext.out]; exact HIF.out.later (by omega), horF⟩
            case measure => simp [intOf]; omega
    · obtain rfl : k = gs.length := by omega
      clear hA hI hsr htr
      go_wp2_with fail
      refine (awake_ok _).mono ?_
      rintro e w9 ⟨rfl, ho9⟩
      go_wp2
      go_ret
      exact ⟨rfl, hor.trans ho9⟩

end Go.Proofs.Ytdjkgbkckmjfiaa
