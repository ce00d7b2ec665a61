/- Update's second closure: who is woken. -/
import Derived.Test.YtacnmlifmjflfaaWalkE
namespace Go.Proofs.Ytacnmlifmjflfaa
open Go.RowKit

structure Wkn where
  thread : Int
  l : Value
  rs : List Int
def encwoken (x : Wkn) : List Value := [I64 x.thread, x.l]
abbrev zswoken : List Value := [I64 0, .slice none 0 0]
theorem woken_info : (Try.prog.info? 68).map (fun i => (i.zero, i.size, i.bytes)) = some (some (.agg zswoken.toArray), 2, 32) := by kernel_rfl

def IntsAt (w : World) (base : Nat) (l : Value) (rs : List Int) : Prop := ∃ g, l = .slice (some ⟨g, 0, none⟩) rs.length rs.length ∧ Blk w g 3 (rs.map I64) ∧ base ≤ g

/-- A slice of the woken: threads with their ready lists. -/
def WokenRow (w : World) (base : Nat) (v : Value) (s : List (Int × List Int)) : Prop :=
  ∃ ls : List Wkn, ls.map (fun x => (x.thread, x.rs)) = s ∧ w.ownsRow base 68 2 v s.length (ls.flatMap encwoken) ∧ ∀ x ∈ ls, IntsAt w base x.l x.rs

theorem WokenRow.onlyT {w w' : World} {base b0 : Nat} {v : Value} {s : List (Int × List Int)} {Vs : List TypeId} (h : WokenRow w base v s) (ho : OnlyT Vs b0 w w') (h1 : 68 ∉ Vs) (h2 : 3 ∉ Vs) : WokenRow w' base v s := by
  obtain ⟨ls, a, b, c⟩ := h
  refine ⟨ls, a, ho.own b h1, fun x hx => ?_⟩
  obtain ⟨g, d, e, f⟩ := c x hx
  exact ⟨g, d, ho.blk e h2, f⟩
theorem WokenRow.nil (w : World) (base : Nat) : WokenRow w base (.slice none 0 0) [] := ⟨[], rfl, World.ownsRow_nil _ _ _ _, by simp⟩

def wakes (pres : Int → Int) (x : Wtr) : Bool := decide (0 < cntN pres x.ins)
def wokeS (pres : Int → Int) (s : List (Int × List Int)) (x : Wtr) : List (Int × List Int) := if wakes pres x = true then s ++ [(x.thread, x.ins.map (rdy pres))] else s

/-- What the closure knows: the table, and who was woken so far. -/
def WokeS (base q b m tb wb N : Nat) (pres : Int → Int) (W : List Wtr) (s : List (Int × List Int)) (w : World) : Prop :=
  Blk w tb 24 [.pointer (some ⟨q, 0, none⟩)] ∧ (∃ cells : List Value, Blk w q 82 cells ∧ cells[1]? = some (.map (some b))) ∧ PMap w b m pres ∧ base ≤ w.heap.size ∧ s.length ≤ N ∧ base ≤ wb ∧
    (∃ v, Blk w wb 34 [v] ∧ WokenRow w base v s) ∧ ∀ x ∈ W, w.ownsRow base 64 2 x.l x.ins.length (x.ins.flatMap encI)

theorem WokeS.stable {base q b m tb wb N : Nat} {pres : Int → Int} {W : List Wtr} {s : List (Int × List Int)} {Vs : List TypeId} {w w' : World} (h : WokeS base q b m tb wb N pres W s w) (ho : OnlyT Vs base w w')
    (h1 : 24 ∉ Vs) (h2 : 82 ∉ Vs) (h3 : 34 ∉ Vs) (h4 : 68 ∉ Vs) (h5 : 3 ∉ Vs) (h6 : 64 ∉ Vs) : WokeS base q b m tb wb N pres W s w' := by
  obtain ⟨a, ⟨cells, b1, b2⟩, c, d, e, f, ⟨v, g1, g2⟩, hi⟩ := h
  exact ⟨ho.blk a h1, ⟨cells, ho.blk b1 h2, b2⟩, c.onlyT ho, Nat.le_trans d ho.size, e, f, ⟨v, ho.blk g1 h3, g2.onlyT ho h4 h5⟩, fun x hx => ho.own (hi x hx) h6⟩

theorem WokeS.table {base q b m tb wb N off : Nat} {pres : Int → Int} {W : List Wtr} {s : List (Int × List Int)} {w : World} (h : WokeS base q b m tb wb N pres W s w) (hoff : off ≠ 1) (u : Value) : WokeS base q b m tb wb N pres W s (w.setCell ⟨q, off, none⟩ u) := by
  obtain ⟨a, ⟨cells, b1, b2⟩, c, d, e, f, ⟨v, g1, ls, g2, g3, g4⟩, hi⟩ := h
  have hs : Only [q] w (w.setCell ⟨q, off, none⟩ u) := (Only.refl [q] w).set (.inl (by simp)) _
  refine ⟨hs.blk a (by simpa using a.ne b1 (by decide)), ⟨_, b1.set off u, by rw [List.getElem?_set_ne hoff]; exact b2⟩, c.set (c.ne b1) u, Nat.le_trans d hs.size, e, f, ⟨v, hs.blk g1 (by simpa using g1.ne b1 (by decide)), ls, g2, own_setCell g3 (own_ne_blk g3 b1 (by decide)) _, fun x hx => ?_⟩, fun x hx => own_setCell (hi x hx) (own_ne_blk (hi x hx) b1 (by decide)) _⟩
  obtain ⟨g, p1, p2, p3⟩ := g4 x hx
  exact ⟨g, p1, hs.blk p2 (by simpa using p2.ne b1 (by decide)), p3⟩

set_option maxRecDepth 100000 in
set_option maxHeartbeats 4000000 in
theorem update2_ok (base q b m tb wb N : Nat) (pres : Int → Int) (W : List Wtr) (s : List (Int × List Int)) (x : Wtr) (w : World) (hR : WokeS base q b m tb wb N pres W s w) (hx : x ∈ W) (hwf : ∀ y ∈ x.ins, wf64 y.1) (hlen : x.ins.length ≤ 1000) (hs : s.length < N) (hN : N ≤ 1000000) :
    Calls Try.prog 39 #[.agg (encwaiter x).toArray, .pointer (some ⟨tb, 0, none⟩), .pointer (some ⟨wb, 0, none⟩)] w fun e w' =>
      e = .returned (.bool (wakes pres x)) ∧ WokeS base q b m tb wb N pres W (wokeS pres s x) w' ∧ OnlyT [68, 34] base w w' := by
  have HR := hide hR
  obtain ⟨a, ⟨cells, b1, b2⟩, c, d, e, f, ⟨v, g1, g2⟩, hi⟩ := hR
  have hxo := hi x hx
  obtain ⟨th, A, cp, ins, dl⟩ := x
  simp only [Wtr.l] at hxo hwf hlen
  have e1 := a.cell (i := 0) rfl
  have l1 := a.lt
  have ha : Only [] w (w.alloc (Obj.cells #[I64 th, .slice A ins.length cp, I64 dl] 91)) := (Only.refl [] w).alloc _
  have hrd := ready_ok base q b m ins.length cells pres (.slice A ins.length cp) ins _ (ha.blk b1 (by simp)) b2 (c.only ha) (own_nil hxo ha) rfl hwf hlen
  have HRD := hide hrd
  have HA := hide ha
  have HB : Hid (Blk (w.alloc (Obj.cells #[I64 th, .slice A ins.length cp, I64 dl] 91)) w.heap.size 91 [I64 th, .slice A ins.length cp, I64 dl]) := hide (Blk.newA rfl)
  rw [show (encwaiter ⟨th, A, cp, ins, dl⟩).toArray = #[I64 th, .slice A ins.length cp, I64 dl] from rfl]
  obtain ⟨i0, hi0, hz0, hs0, hb0⟩ := info_parts woken_info
  clear hrd ha a b1 b2 c hi hxo
  go_enter Try.func39, Try.ntmps39
  go_wp2_with fail
  refine (HRD.out).mono ?_
  rintro e w1 ⟨rfl, k1, k2⟩
  have h1 : Only [] w w1 := Only.trans HA.out k2
  have hS1 : WokeS base q b m tb wb N pres W s w1 := HR.out.stable (Vs := []) (.of_nil h1) (by simp) (by simp) (by simp) (by simp) (by simp) (by simp)
  have HS1 := hide hS1
  have HK1 := hide k1
  have H1 := hide h1
  have hbx := k2.blk HB.out (by simp)
  have t0 := hbx.cell (i := 0) rfl
  have lx := hbx.lt
  have hsz : w.heap.size + 1 < w1.heap.size := by
    have := k1.lt
    simpa using this
  clear hS1 k1 h1 HRD e1 l1 k2 HB HA hbx
  by_cases d0 : 0 < cntN pres ins
  · have hw : Hid (wakes pres ⟨th, A, cp, ins, dl⟩ = true) := hide (by unfold wakes; simp [d0])
    have d0' : 0 < (cntN pres ins : Int) := by omega
    obtain ⟨-, -, -, -, -, -, ⟨v1, G1, ls, G2, G3, G4⟩, -⟩ := HS1.out
    obtain ⟨A1, c1, rfl⟩ := own_shape G3
    have e2 := G1.cell (i := 0) rfl
    have l2 := G1.lt
    have z2 := G1.frozen 0
    have HG1 := hide G1
    have HG3 := hide G3
    have HG4 := hide G4
    have HG2 := hide G2
    have hd1 : base ≤ w1.heap.size := by have := H1.out.size; omega
    clear G1 G2 G3 G4 g1 g2
    go_wp2_with (at_builtin; refine wpList_append_own _ rfl (.tmp 16) (.tmp 21) 34 rfl base 68 i0 (.agg zswoken.toArray) 2 32 Try.underlying34 hi0 hz0 hs0 hb0 rfl (by decide) (.slice A1 s.length c1) s.length (ls.flatMap encwoken) rfl ?_ ⟨w1.heap.size, 0, none⟩ 1 1 [I64 th, .slice (some ⟨w.heap.size + 1, 0, none⟩) ins.length ins.length] rfl rfl ?_ (by simp [Value.oneCell']) (by unfold maxLen; omega) (by omega) ?_ ?_)
    · exact HG3.out.alloc _
    · intro j u hu
      rw [show (⟨w1.heap.size, 0, none⟩ : Addr).add j = ⟨w1.heap.size, j, none⟩ by unfold Addr.add; split <;> simp_all]
      exact (Blk.to (Blk.newA rfl) rfl).cell hu
    · show base ≤ (w1.heap.push _).size
      rw [Array.size_push]; omega
    · intro v3 w3 hown3 hgrow _
      obtain ⟨A3, c3, rfl⟩ := own_shape hown3
      have hne := own_ne_blk HG3.out HG1.out (by decide)
      have hT : OnlyT [68, 34] base w1 w3 := (OnlyT.of_nil ((Only.refl [] _).alloc _)).trans (OnlyT.grown (HG3.out.alloc _) (by simp) (Nat.le_refl _) hgrow)
      have hb3 : Blk w3 wb 34 [.slice A1 s.length c1] := (HG1.out.alloc _).grown hgrow hne
      have d3 := hb3.cell (i := 0) rfl
      have z3 := hb3.frozen 0
      have m3 := hb3.lt
      have hne3 := own_ne_blk hown3 hb3 (by decide)
      have HK := hide (show _ ∧ _ ∧ _ from ⟨hown3, hT, hb3⟩)
      clear hown3 hT hb3 hgrow e2 z2 t0
      go_wp2
      go_ret
      have hset : Only [wb] w3 (w3.setCell ⟨wb, 0, none⟩ (.slice A3 (s.length + 1) c3)) := (Only.refl [wb] w3).set (.inl (by simp)) _
      have hT2 : OnlyT [68, 34] base w1 (w3.setCell ⟨wb, 0, none⟩ (.slice A3 (s.length + 1) c3)) := HK.out.2.1.trans (.of_only hset (by
            intro k hk _
            obtain rfl : k = wb := by simpa using hk
            exact ⟨f, HK.out.2.2.hasT (by simp)⟩))
      refine ⟨by rw [hw.out]; rfl, ?_, (OnlyT.of_nil H1.out).trans hT2⟩
      unfold wokeS
      rw [if_pos hw.out]
      obtain ⟨o1, ⟨cs, o2, o3⟩, o4, o5, o6, o7, -, o9⟩ := HS1.out
      refine ⟨hT2.blk o1 (by decide), ⟨cs, hT2.blk o2 (by decide), o3⟩, o4.onlyT hT2, Nat.le_trans o5 hT2.size, by simp; omega, o7, ⟨_, HK.out.2.2.set 0 _, ls ++ [⟨th, .slice (some ⟨w.heap.size + 1, 0, none⟩) ins.length ins.length, ins.map (rdy pres)⟩], ?_, ?_, ?_⟩, fun y hy => hT2.own (o9 y hy) (by decide)⟩
      · rw [List.map_append, HG2.out]; rfl
      · have := own_setCell HK.out.1 (p := ⟨wb, 0, none⟩) hne3 (.slice A3 (s.length + 1) c3)
        simpa [encwoken] using this
      · intro y hy
        rcases List.mem_append.1 hy with hy | hy
        · obtain ⟨g, p1, p2, p3⟩ := HG4.out y hy
          exact ⟨g, p1, hT2.blk p2 (by decide), p3⟩
        · obtain rfl : y = _ := by simpa using hy
          exact ⟨w.heap.size + 1, by simp, hT2.blk (by have := HK1.out; simpa using this) (by decide), by omega⟩
  · have hw : Hid (wakes pres ⟨th, A, cp, ins, dl⟩ = false) := hide (by unfold wakes; simp [d0])
    have d0' : ¬ 0 < (cntN pres ins : Int) := by omega
    go_wp2
    go_ret
    refine ⟨by rw [hw.out]; rfl, ?_, .of_nil H1.out⟩
    unfold wokeS; rw [if_neg (by rw [hw.out]; simp)]; exact HS1.out

theorem wantU2 (base q b m tb wb N : Nat) (pres : Int → Int) (W : List Wtr) (hN : N ≤ 1000000) : WantOk base 39 #[.pointer (some ⟨tb, 0, none⟩), .pointer (some ⟨wb, 0, none⟩)] encwaiter
    [68, 34] [91, 78] (fun x => x ∈ W ∧ (∀ y ∈ x.ins, wf64 y.1) ∧ x.ins.length ≤ 1000) (WokeS base q b m tb wb N pres W) (fun s => N - s.length) (fun _ x => wakes pres x) (wokeS pres) where
  left := fun s x => by
    show N - s.length ≤ N - (wokeS pres s x).length + 1
    unfold wokeS
    split
    · rw [List.length_append, List.length_singleton]; omega
    · omega
  enter := fun args w => by kernel_rfl
  call := fun s x w hx hl hR => update2_ok base q b m tb wb N pres W s x w hR hx.1 hx.2.1 hx.2.2 (by omega) hN
  stable := fun s w w' hR ho => hR.stable ho (by decide) (by decide) (by decide) (by decide) (by decide) (by decide)

end Go.Proofs.Ytacnmlifmjflfaa
