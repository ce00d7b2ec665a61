/- What the laws share: their beginnings. -/
import Derived.Test.YtpeaojkbfllakaaWalkK
import Derived.Test.YtpeaojkbfllakaaReads
namespace Go.Proofs.Ytpeaojkbfllakaa
open Go.RowKit

/-- Where a law stands: nothing that was there has turned, the configuration lies in its box, the meter is m. -/
structure Law (w wr : World) (W P : Int) (A : Option Addr) (n cap b pb : Nat) (m : Mtr) : Prop where
  only : Only [] w wr
  box : Blk wr w.heap.size 24 [I64 W, I64 P, .slice A n cap]
  mtr : MtrIs wr b pb m
  inv : m.Inv
  hb : w.heap.size < b
theorem Law.step {w wr w' : World} {W P : Int} {A : Option Addr} {n cap b pb : Nat} {m m' : Mtr} (h : Law w wr W P A n cap b pb m) (hm : MtrIs w' b pb m') (hI : m'.Inv) (ho : Only [b] wr w') : Law w w' W P A n cap b pb m' :=
  ⟨h.only.trans' ho (by simp; have := h.hb; omega), ho.blk h.box (by simp; have := h.hb; omega), hm, hI, h.hb⟩
theorem Law.drewN {w wr : World} {W P : Int} {A : Option Addr} {n cap b pb : Nat} {m : Mtr} (h : Law w wr W P A n cap b pb m) (k : Nat) : Law w (wr.drewN k) W P A n cap b pb m :=
  ⟨h.only.drewN k, h.box.drewN k, h.mtr.only ((Only.refl [] wr).drewN k) (by simp) (by simp), h.inv, h.hb⟩

theorem charge_inv {m : Mtr} (h : m.Inv) (now part : Int) (c : Bool) : (m.charge now part c).1.Inv := by
  unfold Mtr.charge
  by_cases he : m.err now [part] = 0
  · rw [if_neg (by simpa using he)]
    obtain ⟨t0, t1, t2, t3⟩ := Mtr.err_zero he
    have hp := t3 part (by simp)
    by_cases ht : (m.cfg.P : Int) ≤ m.tickv now
    · rw [if_pos ht]; exact h
    · rw [if_neg ht]; exact h.charged t2 t1 (by omega) (by omega)
  · rw [if_pos he]; exact h
theorem used_inv {m : Mtr} (h : m.Inv) (now part : Int) (cr : Bool) : (m.used now part cr).1.Inv := by
  unfold Mtr.used
  by_cases he : m.err now [part] = 0
  · rw [if_neg (by simpa using he)]; obtain ⟨t0, t1, t2, t3⟩ := Mtr.err_zero he; exact h.at_ t2 t1
  · rw [if_pos he]; exact h
theorem has_inv {m : Mtr} (h : m.Inv) (now part : Int) : (m.has now part).1.Inv := by
  unfold Mtr.has
  by_cases he : m.err now [part] = 0
  · rw [if_neg (by simpa using he)]; obtain ⟨t0, t1, t2, t3⟩ := Mtr.err_zero he; exact h.at_ t2 t1
  · rw [if_pos he]; exact h
theorem broke_inv {m : Mtr} (h : m.Inv) (now part : Int) : (m.broke now part).1.Inv := by
  unfold Mtr.broke
  by_cases he : m.err now [part] = 0
  · rw [if_neg (by simpa using he)]; obtain ⟨t0, t1, t2, t3⟩ := Mtr.err_zero he; exact h.at_ t2 t1
  · rw [if_pos he]; exact h
theorem comp_inv {m : Mtr} (h : m.Inv) (now a b : Int) : (m.comp now a b).1.Inv := by
  unfold Mtr.comp
  by_cases he : m.err now [a, b] = 0
  · rw [if_neg (by simpa using he)]; obtain ⟨t0, t1, t2, t3⟩ := Mtr.err_zero he; exact h.at_ t2 t1
  · rw [if_pos he]; exact h
theorem err_ok {m : Mtr} {now : Int} {ps : List Int} (h0 : 0 ≤ now) (h1 : now ≤ 1099511627776) (h2 : m.now ≤ now) (h : ∀ p ∈ ps, 0 ≤ p ∧ p < m.cfg.parts.length) : m.err now ps = 0 := by
  rw [Mtr.err_rest h0 h1 h, if_neg (by omega)]
theorem comp_eq {m : Mtr} {now a b : Int} (h : m.err now [a, b] = 0) : m.comp now a b = (m.at_ now, cmpv (m.cfg.bud (m.cfg.share a.toNat).1) (m.cfg.bud (m.cfg.share b.toNat).1) ((m.at_ now).sumv a.toNat false) ((m.at_ now).sumv b.toNat false), 0) := by
  unfold Mtr.comp; rw [if_neg (by simpa using h)]
theorem used_eq {m : Mtr} {now p : Int} (h : m.err now [p] = 0) (cr : Bool) : m.used now p cr = (m.at_ now, (m.at_ now).sumv p.toNat cr, 0) := by
  unfold Mtr.used; rw [if_neg (by simpa using h)]
theorem has_eq {m : Mtr} {now p : Int} (h : m.err now [p] = 0) : m.has now p = (m.at_ now, decide ((m.at_ now).sumv p.toNat false < m.cfg.bud (m.cfg.share p.toNat).1), 0) := by
  unfold Mtr.has; rw [if_neg (by simpa using h)]

theorem orders_bad (W P : Int) (A : Option Addr) (l : List (Int × Int)) (cap : Nat) (A2 : Option Addr) (n2 cap2 : Nat) (w : World) (hA : PartsIn w w.heap.size A l) (hl : l.length ≤ 9223372036854775807) (hc : chk W P l ≠ 0) :
    Calls Try.prog 5 #[.agg #[I64 W, I64 P, .slice A l.length cap], .slice A2 n2 cap2] w fun e w' => e = .returned (.bool true) ∧ Only [] w w' := by
  have hz : (chk W P l == 0) = false := by simpa using hc
  have ho := (Only.refl [] w).alloc (.cells #[I64 W, I64 P, .slice A l.length cap] 24)
  have hn := hide (new_no W P A l cap _ w.heap.size (hA.only ho (Nat.le_refl _)) ho.size hl hc)
  have e0 := (Blk.new w 24 [I64 W, I64 P, .slice A l.length cap]).cell (i := 0) rfl
  have e1 := (Blk.new w 24 [I64 W, I64 P, .slice A l.length cap]).cell (i := 1) rfl
  have e2 := (Blk.new w 24 [I64 W, I64 P, .slice A l.length cap]).cell (i := 2) rfl
  have HO := hide ho
  clear hA ho
  go_enter Try.func5, Try.ntmps5
  go_wp2_with fail
  refine hn.out.mono ?_
  rintro e w1 ⟨rfl, ho1⟩
  go_wp2_with fail
  refine (awake_ok _).mono ?_
  rintro e w2 ⟨rfl, ho2⟩
  go_wp2
  go_ret
  exact ⟨rfl, HO.out.trans (ho1.trans ho2)⟩
theorem orders_big (W P : Int) (A : Option Addr) (l : List (Int × Int)) (cap : Nat) (A2 : Option Addr) (n2 cap2 : Nat) (w : World) (hA : PartsIn w w.heap.size A l) (hcap : l.length ≤ cap) (hc : chk W P l = 0) (h2 : 100 < n2) (hm : n2 ≤ maxLen) :
    Calls Try.prog 5 #[.agg #[I64 W, I64 P, .slice A l.length cap], .slice A2 n2 cap2] w fun e w' => e = .returned (.bool true) ∧ Only [] w w' := by
  unfold maxLen at hm
  have ho := (Only.refl [] w).alloc (.cells #[I64 W, I64 P, .slice A l.length cap] 24)
  have hn := hide (new_yes W P A l cap _ w.heap.size (hA.only ho (Nat.le_refl _)) ho.size hcap hc)
  have e0 := (Blk.new w 24 [I64 W, I64 P, .slice A l.length cap]).cell (i := 0) rfl
  have e1 := (Blk.new w 24 [I64 W, I64 P, .slice A l.length cap]).cell (i := 1) rfl
  have e2 := (Blk.new w 24 [I64 W, I64 P, .slice A l.length cap]).cell (i := 2) rfl
  have HO := hide ho
  clear hA hc ho
  go_enter Try.func5, Try.ntmps5
  go_wp2_with fail
  refine hn.out.mono ?_
  rintro e w1 ⟨b, pb, rfl, _, _, _, ho1⟩
  go_wp2_with fail
  refine (awake_ok _).mono ?_
  rintro e w2 ⟨rfl, ho2⟩
  go_wp2
  go_ret
  exact ⟨rfl, HO.out.trans (ho1.trans ho2)⟩

theorem shares_bad (W P : Int) (A : Option Addr) (l : List (Int × Int)) (cap : Nat) (A2 : Option Addr) (n2 cap2 : Nat) (w : World) (hA : PartsIn w w.heap.size A l) (hl : l.length ≤ 9223372036854775807) (hc : chk W P l ≠ 0) :
    Calls Try.prog 4 #[.agg #[I64 W, I64 P, .slice A l.length cap], .slice A2 n2 cap2] w fun e w' => e = .returned (.bool true) ∧ Only [] w w' := by
  have hz : (chk W P l == 0) = false := by simpa using hc
  have ho := (Only.refl [] w).alloc (.cells #[I64 W, I64 P, .slice A l.length cap] 24)
  have hn := hide (new_no W P A l cap _ w.heap.size (hA.only ho (Nat.le_refl _)) ho.size hl hc)
  have e0 := (Blk.new w 24 [I64 W, I64 P, .slice A l.length cap]).cell (i := 0) rfl
  have e1 := (Blk.new w 24 [I64 W, I64 P, .slice A l.length cap]).cell (i := 1) rfl
  have e2 := (Blk.new w 24 [I64 W, I64 P, .slice A l.length cap]).cell (i := 2) rfl
  have HO := hide ho
  clear hA ho
  go_enter Try.func4, Try.ntmps4
  go_wp2_with fail
  refine hn.out.mono ?_
  rintro e w1 ⟨rfl, ho1⟩
  go_wp2_with fail
  refine (awake_ok _).mono ?_
  rintro e w2 ⟨rfl, ho2⟩
  go_wp2
  go_ret
  exact ⟨rfl, HO.out.trans (ho1.trans ho2)⟩
theorem shares_big (W P : Int) (A : Option Addr) (l : List (Int × Int)) (cap : Nat) (A2 : Option Addr) (n2 cap2 : Nat) (w : World) (hA : PartsIn w w.heap.size A l) (hcap : l.length ≤ cap) (hc : chk W P l = 0) (h2 : 300 < n2) (hm : n2 ≤ maxLen) :
    Calls Try.prog 4 #[.agg #[I64 W, I64 P, .slice A l.length cap], .slice A2 n2 cap2] w fun e w' => e = .returned (.bool true) ∧ Only [] w w' := by
  unfold maxLen at hm
  have ho := (Only.refl [] w).alloc (.cells #[I64 W, I64 P, .slice A l.length cap] 24)
  have hn := hide (new_yes W P A l cap _ w.heap.size (hA.only ho (Nat.le_refl _)) ho.size hcap hc)
  have e0 := (Blk.new w 24 [I64 W, I64 P, .slice A l.length cap]).cell (i := 0) rfl
  have e1 := (Blk.new w 24 [I64 W, I64 P, .slice A l.length cap]).cell (i := 1) rfl
  have e2 := (Blk.new w 24 [I64 W, I64 P, .slice A l.length cap]).cell (i := 2) rfl
  have HO := hide ho
  clear hA hc ho
  go_enter Try.func4, Try.ntmps4
  go_wp2_with fail
  refine hn.out.mono ?_
  rintro e w1 ⟨b, pb, rfl, _, _, _, ho1⟩
  go_wp2_with fail
  refine (awake_ok _).mono ?_
  rintro e w2 ⟨rfl, ho2⟩
  go_wp2
  go_ret
  exact ⟨rfl, HO.out.trans (ho1.trans ho2)⟩

theorem forgets_bad (W P : Int) (A : Option Addr) (l : List (Int × Int)) (cap : Nat) (A2 : Option Addr) (n2 cap2 : Nat) (w : World) (hA : PartsIn w w.heap.size A l) (hl : l.length ≤ 9223372036854775807) (hc : chk W P l ≠ 0) :
    Calls Try.prog 3 #[.agg #[I64 W, I64 P, .slice A l.length cap], .slice A2 n2 cap2] w fun e w' => e = .returned (.bool true) ∧ Only [] w w' := by
  have hz : (chk W P l == 0) = false := by simpa using hc
  have ho := (Only.refl [] w).alloc (.cells #[I64 W, I64 P, .slice A l.length cap] 24)
  have hn := hide (new_no W P A l cap _ w.heap.size (hA.only ho (Nat.le_refl _)) ho.size hl hc)
  have e0 := (Blk.new w 24 [I64 W, I64 P, .slice A l.length cap]).cell (i := 0) rfl
  have e1 := (Blk.new w 24 [I64 W, I64 P, .slice A l.length cap]).cell (i := 1) rfl
  have e2 := (Blk.new w 24 [I64 W, I64 P, .slice A l.length cap]).cell (i := 2) rfl
  have HO := hide ho
  clear hA ho
  go_enter Try.func3, Try.ntmps3
  go_wp2_with fail
  refine hn.out.mono ?_
  rintro e w1 ⟨rfl, ho1⟩
  go_wp2_with fail
  refine (awake_ok _).mono ?_
  rintro e w2 ⟨rfl, ho2⟩
  go_wp2
  go_ret
  exact ⟨rfl, HO.out.trans (ho1.trans ho2)⟩
theorem forgets_big (W P : Int) (A : Option Addr) (l : List (Int × Int)) (cap : Nat) (A2 : Option Addr) (n2 cap2 : Nat) (w : World) (hA : PartsIn w w.heap.size A l) (hcap : l.length ≤ cap) (hc : chk W P l = 0) (h2 : 200 < n2) (hm : n2 ≤ maxLen) :
    Calls Try.prog 3 #[.agg #[I64 W, I64 P, .slice A l.length cap], .slice A2 n2 cap2] w fun e w' => e = .returned (.bool true) ∧ Only [] w w' := by
  unfold maxLen at hm
  have ho := (Only.refl [] w).alloc (.cells #[I64 W, I64 P, .slice A l.length cap] 24)
  have hn := hide (new_yes W P A l cap _ w.heap.size (hA.only ho (Nat.le_refl _)) ho.size hcap hc)
  have e0 := (Blk.new w 24 [I64 W, I64 P, .slice A l.length cap]).cell (i := 0) rfl
  have e1 := (Blk.new w 24 [I64 W, I64 P, .slice A l.length cap]).cell (i := 1) rfl
  have e2 := (Blk.new w 24 [I64 W, I64 P, .slice A l.length cap]).cell (i := 2) rfl
  have HO := hide ho
  clear hA hc ho
  go_enter Try.func3, Try.ntmps3
  go_wp2_with fail
  refine hn.out.mono ?_
  rintro e w1 ⟨b, pb, rfl, _, _, _, ho1⟩
  go_wp2_with fail
  refine (awake_ok _).mono ?_
  rintro e w2 ⟨rfl, ho2⟩
  go_wp2
  go_ret
  exact ⟨rfl, HO.out.trans (ho1.trans ho2)⟩

end Go.Proofs.Ytpeaojkbfllakaa
