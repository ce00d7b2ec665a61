/- The reference's Charge. -/
import Derived.Test.YtpeaojkbfllakaaRefC
import Derived.Deep.LoopGhost
namespace Go.Proofs.Ytpeaojkbfllakaa
open Go.RowKit

theorem chg_info : (Try.prog.info? 79).map (fun i => (i.zero, i.size, i.bytes)) = some (some (.agg #[.int .i64 0, .int .i64 0, .bool false]), 3, 24) := by kernel_rfl

def TickRel (l : List Chg) (now : Int) (k : Nat) (nv : Value) : Prop := ∃ s : Int, nv = I64 s ∧ 0 ≤ s ∧ s ≤ k ∧ s = cnt (l.take k) (att now)

set_option maxHeartbeats 4000000 in
theorem rcharge_limit (base rb rp : Nat) (m : Mtr) (now : Int) (p : Nat) (c : Bool) (w : World) (h : RIs w base rb rp m) (hI : m.Inv) (he : m.err now [(p : Int)] = 0) (hl : m.l.length ≤ 1000) (ht : (m.cfg.P : Int) ≤ m.tickv now) :
    Calls Try.prog 32 #[.pointer (some ⟨rb, 0, none⟩), I64 now, I64 p, .bool c] w
      fun e w' => e = .returned (I64 18) ∧ RIs w' base rb rp m ∧ Only [] w w' := by
  have hc := hide (rask' w.heap.size 1 now [(p : Int)] _ (h.only ((Only.refl [] w).alloc (.cells #[I64 p] 3))) (one_num w p) (by simp))
  rw [he] at hc
  have hd : decide ((m.cfg.P : Int) ≤ m.tickv now) = true := by simp [ht]
  have HT := hide (show m.tickv now = cnt m.l (att now) from rfl)
  generalize m.tickv now = tv at *
  clear he h hI
  go_enter Try.func32, Try.ntmps32
  go_wp2_with fail
  refine hc.out.mono ?_
  rintro e w1 ⟨rfl, h1, ho1⟩
  obtain ⟨cap1, v1, k0, k1, k2, k3, k4, k5, ⟨A, vc, rfl⟩, hx⟩ := h1.facts
  have H1 := hide h1
  have O1 := hide (((Only.refl [] w).alloc (.cells #[I64 p] 3)).trans ho1)
  have HX := hide hx
  clear h1 ho1 hx
  go_wp2
  go_loop [10, 11] (fun nv i => ∃ k : Nat, k ≤ m.l.length ∧ i = .int .i64 k ∧ TickRel m.l now k nv) (fun _ i => m.l.length - (intOf i).toNat)
  case atStart => exact ⟨0, Nat.zero_le _, rfl, 0, rfl, by omega, by omega, by simp⟩
  case round =>
    obtain ⟨k, hk, rfl, s, rfl, s0, s1, hs⟩ := hrel
    have HS := hide hs
    clear hs
    rcases Nat.lt_or_ge k m.l.length with hlt | hge
    · obtain ⟨x, hxk⟩ : ∃ x, m.l[k]? = some x := ⟨_, List.getElem?_eq_getElem hlt⟩
      obtain ⟨g, gc, hv, g0, g1, g2⟩ := HX.out k x hxk
      obtain ⟨rfl, rfl⟩ : A = some ⟨g, 0, none⟩ ∧ vc = gc := by injection hv with a b c; exact ⟨a, c⟩
      have hstep := hide (cnt_take hxk (att now))
      clear hxk hv
      by_cases e : x.t = now
      · have e1 : (x.t == now) = true := by simp [e]
        have HF : Hid (att now x = true) := hide (by simp [att, e])
        clear e
        go_wp2
        go_round
        case rel => exact ⟨k + 1, by omega, by go_num, _, rfl, by omega, by omega, by rw [hstep.out, HF.out, ← HS.out]; simp⟩
        case measure => simp [intOf]; omega
      · have e1 : (x.t == now) = false := by simp [e]
        have HF : Hid (att now x = false) := hide (by simp [att, e])
        clear e
        go_wp2
        go_round
        case rel => exact ⟨k + 1, by omega, by go_num, s, rfl, by omega, by omega, by rw [hstep.out, HF.out, ← HS.out]; simp⟩
        case measure => simp [intOf]; omega
    · obtain rfl : k = m.l.length := by omega
      have hsv : s = tv := by rw [HS.out, HT.out, List.take_length]
      subst hsv
      clear HX
      go_wp2
      go_ret
      exact ⟨rfl, H1.out, O1.out⟩

set_option maxHeartbeats 8000000 in
theorem rcharge_yes (base rb rp : Nat) (m : Mtr) (now : Int) (p : Nat) (c : Bool) (w : World) (h : RIs w base rb rp m) (hI : m.Inv) (he : m.err now [(p : Int)] = 0) (hl : m.l.length ≤ 1000) (ht : m.tickv now < m.cfg.P) (hbase : base ≤ w.heap.size) :
    Calls Try.prog 32 #[.pointer (some ⟨rb, 0, none⟩), I64 now, I64 p, .bool c] w
      fun e w' => e = .returned (I64 0) ∧ RIs w' base rb rp (m.charged now p c) ∧ OnlyT refTs base w w' := by
  obtain ⟨i0, hi0, hz0, hs0, hb0⟩ := info_parts chg_info
  have hc := hide (rask' w.heap.size 1 now [(p : Int)] _ (h.only ((Only.refl [] w).alloc (.cells #[I64 p] 3))) (one_num w p) (by simp))
  rw [he] at hc
  have hd : decide ((m.cfg.P : Int) ≤ m.tickv now) = false := by simp; omega
  have HT := hide (show m.tickv now = cnt m.l (att now) from rfl)
  generalize m.tickv now = tv at *
  clear he h hI
  go_enter Try.func32, Try.ntmps32
  go_wp2_with fail
  refine hc.out.mono ?_
  rintro e w1 ⟨rfl, h1, ho1⟩
  obtain ⟨cap1, v1, k0, k1, k2, k3, k4, k5, ⟨A, vc, rfl⟩, hx⟩ := h1.facts
  have H1 := hide h1
  have O1 := hide (((Only.refl [] w).alloc (.cells #[I64 p] 3)).trans ho1)
  have HX := hide hx
  clear h1 ho1 hx
  go_wp2
  go_loop [10, 11] (fun nv i => ∃ k : Nat, k ≤ m.l.length ∧ i = .int .i64 k ∧ TickRel m.l now k nv) (fun _ i => m.l.length - (intOf i).toNat)
  case atStart => exact ⟨0, Nat.zero_le _, rfl, 0, rfl, by omega, by omega, by simp⟩
  case round =>
    obtain ⟨k, hk, rfl, s, rfl, s0, s1, hs⟩ := hrel
    have HS := hide hs
    clear hs
    rcases Nat.lt_or_ge k m.l.length with hlt | hge
    · obtain ⟨x, hxk⟩ : ∃ x, m.l[k]? = some x := ⟨_, List.getElem?_eq_getElem hlt⟩
      obtain ⟨g, gc, hv, g0, g1, g2⟩ := HX.out k x hxk
      obtain ⟨rfl, rfl⟩ : A = some ⟨g, 0, none⟩ ∧ vc = gc := by injection hv with a b c; exact ⟨a, c⟩
      have hstep := hide (cnt_take hxk (att now))
      clear hxk hv
      by_cases e : x.t = now
      · have e1 : (x.t == now) = true := by simp [e]
        have HF : Hid (att now x = true) := hide (by simp [att, e])
        clear e
        go_wp2
        go_round
        case rel => exact ⟨k + 1, by omega, by go_num, _, rfl, by omega, by omega, by rw [hstep.out, HF.out, ← HS.out]; simp⟩
        case measure => simp [intOf]; omega
      · have e1 : (x.t == now) = false := by simp [e]
        have HF : Hid (att now x = false) := hide (by simp [att, e])
        clear e
        go_wp2
        go_round
        case rel => exact ⟨k + 1, by omega, by go_num, s, rfl, by omega, by omega, by rw [hstep.out, HF.out, ← HS.out]; simp⟩
        case measure => simp [intOf]; omega
    · obtain rfl : k = m.l.length := by omega
      have hsv : s = tv := by rw [HS.out, HT.out, List.take_length]
      subst hsv
      clear HX
      obtain ⟨cap2, v2, me, parts, own, ge⟩ := H1.out
      obtain rfl : v2 = .slice A m.l.length vc := by
        have := me.cell (i := 3) rfl
        rw [k3] at this; exact (Option.some.inj this).symm
      have hne : rp ≠ rb := by obtain ⟨cs, hb, _⟩ := parts; exact hb.ne me (by decide)
      have hon := own_ne_blk own me (by decide)
      have hs1 := O1.out.size
      have hbase1 : base ≤ w1.heap.size := by omega
      have hrl := me.lt
      generalize hW : (w1.setCell ⟨rb, 4, none⟩ (I64 now)).alloc (.cells #[I64 now, I64 p, .bool c] 79) = W
      have meW : Blk W rb 72 (refCells (m.at_ now) (.slice (some ⟨rp, 0, none⟩) m.cfg.parts.length cap2) (.slice A m.l.length vc)) := by rw [← hW]; exact (me.set 4 _).alloc _
      have ownW : W.ownsRow base 79 3 (.slice A m.l.length vc) m.l.length (chgCells m.l) := by rw [← hW]; exact own_nil (own_setCell own hon _) ((Only.refl [] _).alloc _)
      have newW := Blk.new (w1.setCell ⟨rb, 4, none⟩ (I64 now)) 79 [I64 now, I64 p, .bool c]
      have hWs : W.heap.size = w1.heap.size + 1 := by rw [← hW]; simp [World.setCell]
      have partsW : RParts W rp m.cfg.parts := by rw [← hW]; exact (parts.only ((Only.refl [rb] _).set (.inl (by simp)) _) (by simpa using hne)).only ((Only.refl [] _).alloc _) (by simp)
      have OW : OnlyT refTs base w W := by
        rw [← hW]
        exact (OnlyT.of_nil O1.out).trans ((H1.out.setNow now).2.trans (OnlyT.of_nil ((Only.refl [] _).alloc _)))
      have news : ∀ j u, [I64 now, I64 p, .bool c][j]? = some u → W.cell? ((⟨w1.heap.size, 0, none⟩ : Addr).add j) = some u := by
        intro j u hu
        rw [add_flat0, Nat.zero_add, ← hW]
        have e : (w1.setCell ⟨rb, 4, none⟩ (I64 now)).heap.size = w1.heap.size := by simp [World.setCell]
        rw [← e]
        exact newW.cell hu
      have fin : ∀ (v' : Value) (w3 : World), w3.ownsRow base 79 3 v' (m.l.length + 1) (chgCells m.l ++ [I64 now, I64 p, .bool c]) → W.grownBy w3 (Value.slice A m.l.length vc).ownBlock →
          RIs (w3.setCell ⟨rb, 3, none⟩ v') base rb rp (m.charged now p c) ∧ OnlyT refTs base w (w3.setCell ⟨rb, 3, none⟩ v') ∧ rb < w3.heap.size ∧ w3.cell? ⟨rb, 3, none⟩ = some (.slice A m.l.length vc) ∧ w3.frozen? ⟨rb, 3, none⟩ = false := by
        intro v' w3 hown hg
        have me3 := meW.grown hg (by intro e; exact own_ne_blk ownW meW (by decide) e)
        have parts3 : RParts w3 rp m.cfg.parts := by
          obtain ⟨cs, hb, hcs⟩ := partsW
          exact ⟨cs, hb.grown hg (own_ne_blk ownW hb (by decide)), hcs⟩
        have ho : Only [rb] w3 (w3.setCell ⟨rb, 3, none⟩ v') := (Only.refl _ _).set (.inl (by simp)) _
        refine ⟨⟨cap2, v', ?_, parts3.only ho (by simpa using hne), ?_, ge⟩, (OW.trans (OnlyT.grown ownW (by simp [refTs]) (Nat.le_refl _) hg)).trans (.of_only ho fun k hk _ => ?_), me3.lt, me3.cell rfl, me3.frozen 3⟩
        · exact me3.set 3 _
        · refine own_setCell ?_ (own_ne_blk hown me3 (by decide)) _
          have e1 : (m.charged now p c).l.length = m.l.length + 1 := by simp [Mtr.charged]
          have e2 : chgCells (m.charged now p c).l = chgCells m.l ++ [I64 now, I64 p, .bool c] := by
            show chgCells (m.l ++ [⟨now, p, c⟩]) = _
            rw [chgCells_append]; rfl
          rw [e1, e2]; exact hown
        · obtain rfl : k = rb := by simpa using hk
          exact ⟨ge, me3.hasT (by simp [refTs])⟩
      have FIN := hide fin
      have hWb : base ≤ W.heap.size := by omega
      have HWs := hide hWs
      clear fin meW newW partsW OW k0 k2 me parts own hon
      subst hW
      go_wp2_with (at_builtin; refine wpList_append_own _ rfl (.tmp 56) (.tmp 61) 70 rfl base 79 i0 (.agg #[.int .i64 0, .int .i64 0, .bool false]) 3 24 Try.underlying70 hi0 hz0 hs0 hb0 rfl (by decide) _ _ _ rfl ownW ⟨w1.heap.size, 0, none⟩ 1 1 [I64 now, I64 p, .bool c] rfl rfl news (by simp [Value.oneCell']) (by unfold maxLen; omega) (by omega) hWb ?_)
      intro v3 w3 hown3 hgrow _
      obtain ⟨A3, c3, rfl⟩ := own_shape hown3
      obtain ⟨f1, f2, f3, f4, f5⟩ := FIN.out _ _ hown3 hgrow
      have F1 := hide f1
      have F2 := hide f2
      clear f1 f2 hown3 hgrow news ownW k1 k3 k4 k5
      go_wp2
      go_ret
      exact ⟨rfl, F1.out, F2.out⟩

theorem rcharge_ok (base rb rp : Nat) (m : Mtr) (now p : Int) (c : Bool) (w : World) (h : RIs w base rb rp m) (hI : m.Inv) (hl : m.l.length ≤ 1000) (hbase : base ≤ w.heap.size) :
    Calls Try.prog 32 #[.pointer (some ⟨rb, 0, none⟩), I64 now, I64 p, .bool c] w
      fun e w' => e = .returned (I64 (m.charge now p c).2) ∧ RIs w' base rb rp (m.charge now p c).1 ∧ OnlyT refTs base w w' := by
  unfold Mtr.charge
  by_cases he : m.err now [p] = 0
  · rw [if_neg (by simpa using he)]
    obtain ⟨p, rfl⟩ := Int.eq_ofNat_of_zero_le ((Mtr.err_zero he).2.2.2 p (by simp)).1
    by_cases ht : (m.cfg.P : Int) ≤ m.tickv now
    · rw [if_pos ht]
      exact (rcharge_limit base rb rp m now p c w h hI he hl ht).mono fun e w' ⟨h1, h2, h3⟩ => ⟨h1, h2, .of_nil h3⟩
    · rw [if_neg ht]
      exact rcharge_yes base rb rp m now p c w h hI he hl (by omega) hbase
  · rw [if_pos he]
    exact (rcharge_no base rb rp m now p c w h he).mono fun e w' ⟨h1, h2, h3⟩ => ⟨h1, h2, .of_nil h3⟩
theorem rused_ok (base rb rp : Nat) (m : Mtr) (now p : Int) (w : World) (h : RIs w base rb rp m) (hI : m.Inv) (hl : m.l.length ≤ 1000) :
    Calls Try.prog 26 #[.pointer (some ⟨rb, 0, none⟩), I64 now, I64 p] w
      fun e w' => e = .returned (.tuple #[I64 (m.used now p false).2.1, I64 (m.used now p false).2.2]) ∧ RIs w' base rb rp (m.used now p false).1 ∧ OnlyT refTs base w w' := by
  unfold Mtr.used
  by_cases he : m.err now [p] = 0
  · rw [if_neg (by simpa using he)]
    obtain ⟨p, rfl⟩ := Int.eq_ofNat_of_zero_le ((Mtr.err_zero he).2.2.2 p (by simp)).1
    exact rused_yes base rb rp m now p w h hI he hl
  · rw [if_pos he]
    exact (rused_no base rb rp m now p w h he).mono fun e w' ⟨h1, h2, h3⟩ => ⟨h1, h2, .of_nil h3⟩
theorem rusedc_ok (base rb rp : Nat) (m : Mtr) (now p : Int) (w : World) (h : RIs w base rb rp m) (hI : m.Inv) (hl : m.l.length ≤ 1000) :
    Calls Try.prog 27 #[.pointer (some ⟨rb, 0, none⟩), I64 now, I64 p] w
      fun e w' => e = .returned (.tuple #[I64 (m.used now p true).2.1, I64 (m.used now p true).2.2]) ∧ RIs w' base rb rp (m.used now p true).1 ∧ OnlyT refTs base w w' := by
  unfold Mtr.used
  by_cases he : m.err now [p] = 0
  · rw [if_neg (by simpa using he)]
    obtain ⟨p, rfl⟩ := Int.eq_ofNat_of_zero_le ((Mtr.err_zero he).2.2.2 p (by simp)).1
    exact rusedc_yes base rb rp m now p w h hI he hl
  · rw [if_pos he]
    exact (rusedc_no base rb rp m now p w h he).mono fun e w' ⟨h1, h2, h3⟩ => ⟨h1, h2, .of_nil h3⟩
theorem rhas_ok (base rb rp : Nat) (m : Mtr) (now p : Int) (w : World) (h : RIs w base rb rp m) (hI : m.Inv) (hl : m.l.length ≤ 1000) :
    Calls Try.prog 28 #[.pointer (some ⟨rb, 0, none⟩), I64 now, I64 p] w
      fun e w' => e = .returned (.tuple #[.bool (m.has now p).2.1, I64 (m.has now p).2.2]) ∧ RIs w' base rb rp (m.has now p).1 ∧ OnlyT refTs base w w' := by
  unfold Mtr.has
  by_cases he : m.err now [p] = 0
  · rw [if_neg (by simpa using he)]
    obtain ⟨p, rfl⟩ := Int.eq_ofNat_of_zero_le ((Mtr.err_zero he).2.2.2 p (by simp)).1
    exact rhas_yes base rb rp m now p w h hI he hl
  · rw [if_pos he]
    exact (rhas_no base rb rp m now p w h he).mono fun e w' ⟨h1, h2, h3⟩ => ⟨h1, h2, .of_nil h3⟩
theorem rbroke_ok (base rb rp : Nat) (m : Mtr) (now p : Int) (w : World) (h : RIs w base rb rp m) (hI : m.Inv) (hl : m.l.length ≤ 1000) :
    Calls Try.prog 30 #[.pointer (some ⟨rb, 0, none⟩), I64 now, I64 p] w
      fun e w' => e = .returned (.tuple #[.bool (m.broke now p).2.1, I64 (m.broke now p).2.2]) ∧ RIs w' base rb rp (m.broke now p).1 ∧ OnlyT refTs base w w' := by
  unfold Mtr.broke
  by_cases he : m.err now [p] = 0
  · rw [if_neg (by simpa using he)]
    obtain ⟨p, rfl⟩ := Int.eq_ofNat_of_zero_le ((Mtr.err_zero he).2.2.2 p (by simp)).1
    exact rbroke_yes base rb rp m now p w h hI he hl
  · rw [if_pos he]
    exact (rbroke_no base rb rp m now p w h he).mono fun e w' ⟨h1, h2, h3⟩ => ⟨h1, h2, .of_nil h3⟩
theorem rcomp_ok (base rb rp : Nat) (m : Mtr) (now p q : Int) (w : World) (h : RIs w base rb rp m) (hI : m.Inv) (hl : m.l.length ≤ 1000) :
    Calls Try.prog 31 #[.pointer (some ⟨rb, 0, none⟩), I64 now, I64 p, I64 q] w
      fun e w' => e = .returned (.tuple #[I64 (m.comp now p q).2.1, I64 (m.comp now p q).2.2]) ∧ RIs w' base rb rp (m.comp now p q).1 ∧ OnlyT refTs base w w' := by
  unfold Mtr.comp
  by_cases he : m.err now [p, q] = 0
  · rw [if_neg (by simpa using he)]
    obtain ⟨p, rfl⟩ := Int.eq_ofNat_of_zero_le ((Mtr.err_zero he).2.2.2 p (by simp)).1
    obtain ⟨q, rfl⟩ := Int.eq_ofNat_of_zero_le ((Mtr.err_zero he).2.2.2 q (by simp)).1
    exact rcomp_yes base rb rp m now p q w h hI he hl
  · rw [if_pos he]
    exact (rcomp_no base rb rp m now p q w h he).mono fun e w' ⟨h1, h2, h3⟩ => ⟨h1, h2, .of_nil h3⟩

end Go.Proofs.Ytpeaojkbfllakaa
