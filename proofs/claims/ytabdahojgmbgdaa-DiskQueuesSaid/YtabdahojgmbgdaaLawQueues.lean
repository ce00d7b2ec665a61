/- DiskQueues walked. -/
import Derived.Test.YtabdahojgmbgdaaRquE
import Derived.Test.YtabdahojgmbgdaaWalkH
import Derived.Deep.DeepCutAuto
import Derived.Deep.CutBlock
namespace Go.Proofs.Ytabdahojgmbgdaa
open Go.RowKit

/-- A call: Next at a time, or Add. -/
structure Rc where
  nx : Bool
  r : Rq
def Rc.cells (x : Rc) : List Value := [.bool x.nx, I64 x.r.id, I64 x.r.blk, I64 x.r.dl]
def RcsIn (w : World) (A : Option Addr) (l : List Rc) : Prop :=
  ∀ (k : Nat) (x : Rc), l[k]? = some x → ∃ b o, A = some ⟨b, o, none⟩ ∧ ∀ (j : Nat) (v : Value), x.cells[j]? = some v → w.cell? ⟨b, o + k * 4 + j, none⟩ = some v
theorem RcsIn.only {w w' : World} {A : Option Addr} {l : List Rc} (h : RcsIn w A l) (ho : Only [] w w') : RcsIn w' A l := by
  intro k r hr
  obtain ⟨b, o, hA, hc⟩ := h k r hr
  exact ⟨b, o, hA, fun j v hv => cell_only (hc j v hv) ho⟩
abbrev rcT : TypeId := 63

theorem own_apart {w : World} {b1 b2 n m s1 s2 : Nat} {T U : TypeId} {v u : Value} {xs ys : List Value} (h : w.ownsRow b1 T s1 v n xs) (k : w.ownsRow b2 U s2 u m ys) (hne : T ≠ U) : ∀ g, v.ownBlock = some g → u.ownBlock ≠ some g := by
  intro g hg he
  rcases h.2 with ⟨rfl, _⟩ | ⟨g1, cap, cur, rfl, _, h1, _⟩
  · simp [Value.ownBlock] at hg
  · rcases k.2 with ⟨rfl, _⟩ | ⟨g2, cap2, cur2, rfl, _, h2, _⟩
    · simp [Value.ownBlock] at he
    · simp [Value.ownBlock] at hg he
      subst hg
      subst he
      rw [h1] at h2
      injection h2 with h2
      injection h2 with _ h2 _
      exact hne h2
/-- Both queues, alike. -/
structure BothQ (w0 : World) (p q : Nat) (vx vy : Value) (Q : Qu) (w : World) : Prop where
  x : QuAt w0.heap.size w p vx Q
  y : RuAt w0.heap.size w q vy Q
  p0 : w0.heap.size ≤ p
  q0 : w0.heap.size ≤ q
  o : Only [] w0 w
theorem BothQ.only {w0 w w' : World} {p q : Nat} {vx vy : Value} {Q : Qu} (h : BothQ w0 p q vx vy Q w) (ho : Only [] w w') : BothQ w0 p q vx vy Q w' := ⟨h.x.keep ho, h.y.keep ho, h.p0, h.q0, h.o.trans ho⟩
theorem BothQ.stepX {w0 w w' : World} {p q : Nat} {vx vy v' : Value} {Q Q' : Qu} (h : BothQ w0 p q vx vy Q w) (_k : QuAt w0.heap.size w' p v' Q') (ho : Only (p :: vx.ownBlock.toList) w w') : RuAt w0.heap.size w' q vy Q ∧ Only [] w0 w' := by
  refine ⟨⟨ho.blk h.y.me ?_, own_only h.y.row ho ?_, h.y.ok⟩, ((h.o.mono (by simp)).trans ho).fresh ?_⟩
  · simp only [List.mem_cons, mem_own, not_or]
    exact ⟨h.y.me.ne h.x.me (by decide), own_ne_blk h.x.row h.y.me (by decide)⟩
  · intro k hk
    simp only [List.mem_cons, mem_own, not_or]
    refine ⟨?_, fun hx => own_apart h.x.row h.y.row (by decide) k hx hk⟩
    rintro rfl
    exact own_ne_blk h.y.row h.x.me (by decide) hk
  · intro j hj
    rcases List.mem_cons.1 hj with rfl | h2
    · exact h.p0
    · exact (h.x.row.lt j (mem_own.1 h2)).1
theorem BothQ.stepY {w0 w w' : World} {p q : Nat} {vx vy v' : Value} {Q Q' : Qu} (hp : w0.heap.size ≤ p) (hq : w0.heap.size ≤ q) (hx : QuAt w0.heap.size w p vx Q') (h : RuAt w0.heap.size w q vy Q) (o : Only [] w0 w) (k : RuAt w0.heap.size w' q v' Q') (ho : Only (q :: vy.ownBlock.toList) w w') : BothQ w0 p q vx v' Q' w' := by
  refine ⟨⟨ho.blk hx.me ?_, own_only hx.row ho ?_, hx.ok⟩, k, hp, hq, ((o.mono (by simp)).trans ho).fresh ?_⟩
  · simp only [List.mem_cons, mem_own, not_or]
    exact ⟨hx.me.ne h.me (by decide), own_ne_blk h.row hx.me (by decide)⟩
  · intro k hk
    simp only [List.mem_cons, mem_own, not_or]
    refine ⟨?_, fun hy => own_apart hx.row h.row (by decide) k hk hy⟩
    rintro rfl
    exact own_ne_blk hx.row h.me (by decide) hk
  · intro j hj
    rcases List.mem_cons.1 hj with rfl | h2
    · exact hq
    · exact (h.row.lt j (mem_own.1 h2)).1
def StI (w0 : World) (p q : Nat) (wr : World) : Prop := ∃ vx vy Q, BothQ w0 p q vx vy Q wr
theorem neq_rq (r : Rq) : ∀ W : World, (binOp BinOp.neq rqT r.V r.V).run Try.prog W = .ok (.bool false) W := by
  intro W
  show (binOp BinOp.neq rqT (.agg #[I64 r.id, I64 r.blk, I64 r.dl]) (.agg #[I64 r.id, I64 r.blk, I64 r.dl])).run Try.prog W = .ok (.bool false) W
  go_simp

theorem queues_big (head : Int) (A : Option Addr) (n c : Nat) (w : World) (h : 100 < n) :
    Calls Try.prog 5 #[I64 head, .slice A n c] w fun e w' => e = .returned (.bool true) ∧ Only [] w w' := by
  have haw := hide (awake_ok w)
  have h40 : (100 : Int) < (n : Int) := by omega
  clear h
  go_enter Try.func5, Try.ntmps5
  go_wp2_with (go_at_call 9; refine haw.out.mono ?_; rintro e w1 ⟨rfl, ho⟩; have HO := hide ho; clear ho)
  go_ret
  exact ⟨rfl, HO.out⟩

set_option maxRecDepth 20000 in
set_option maxHeartbeats 2000000 in
theorem queues_nil (head : Int) (A : Option Addr) (l : List Rc) (n c : Nat) (w : World) (h : n ≤ 100) (hn : l.length = n) (hb : head < 0 ∨ 4096 ≤ head) (hA : RcsIn w A l) :
    Calls Try.prog 5 #[I64 head, .slice A n c] w fun e w' => e = .returned (.bool true) ∧ Only [] w w' := by
  have haw := hide (fun W => awake_ok W)
  have h40 : ¬ (100 : Int) < (n : Int) := by omega
  have hx := hide (newq_bad w head hb)
  have hy := hide (rnewq_bad w head hb)
  have HA := hide hA
  have HN := hide hn
  clear h hb hA hn
  go_enter Try.func5, Try.ntmps5
  go_wp2_with (first
    | (go_at_call 10
       refine hx.out.mono ?_
       rintro e w1 ⟨rfl, rfl⟩)
    | (go_at_call 22
       refine hy.out.mono ?_
       rintro e w1 ⟨rfl, rfl⟩))
  rcases Nat.eq_zero_or_pos n with h0 | h0
  · subst h0
    refine wp_loop_rounds 1 ?_
    rw [rounds_succ]
    go_wp2_with (go_at_call 9; refine (haw.out _).mono ?_; rintro e w5 ⟨rfl, ho5⟩; have HO := hide ho5; clear ho5)
    go_ret
    exact ⟨rfl, HO.out⟩
  · obtain ⟨x, hx⟩ : ∃ x, l[0]? = some x := ⟨_, List.getElem?_eq_getElem (by rw [HN.out]; exact h0)⟩
    obtain ⟨g, o, rfl, hc⟩ := HA.out 0 x hx
    have x0 : w1.cell? ⟨g, o, none⟩ = some (.bool x.nx) := by simpa using hc 0 _ rfl
    have x1 : w1.cell? ⟨g, o + 1, none⟩ = some (I64 x.r.id) := by simpa using hc 1 _ rfl
    have x2 : w1.cell? ⟨g, o + 2, none⟩ = some (I64 x.r.blk) := by simpa using hc 2 _ rfl
    have x3 : w1.cell? ⟨g, o + 3, none⟩ = some (I64 x.r.dl) := by simpa using hc 3 _ rfl
    have hk0 : (0 : Int) < (n : Int) := by omega
    clear hc hx
    refine wp_loop_rounds 1 ?_
    rw [rounds_succ]
    go_upto_region 10 with (refine wpList_store_cells rfl rcT (.tmp 10) (.tmp 51) rfl w1.heap.size 0 rfl x.cells rfl rcT [.bool false, I64 0, I64 0, I64 0] (Blk.newA rfl) (by exact Nat.le_refl _) (by kernel_rfl) (by simp [Rc.cells, Value.oneCell']) ?_; intro w2 hw2)
    have hox : Only [] w1 w2 := ((Only.refl [] w1).alloc _).trans' hw2.2.1 (by intro i hi hlt; simp at hi; omega)
    have HOX := hide hox
    clear hw2 hox x0 x1 x2 x3
    go_wp2_with (go_at_call 9; refine (haw.out _).mono ?_; rintro e w5 ⟨rfl, ho5⟩; have HO := hide ho5; clear ho5)
    go_ret
    exact ⟨rfl, HOX.out.trans HO.out⟩

def RqAt (w : World) (b : Nat) (T : TypeId) (r : Rq) : Prop := Blk w b T r.cells
/-- Both next. -/
theorem BothQ.next {w0 w : World} {p q : Nat} {vx vy : Value} {Q : Qu} (h : BothQ w0 p q vx vy Q w) (t : Int) : Calls Try.prog 12 #[.pointer (some ⟨p, 0, none⟩), I64 t] w fun e w' =>
    e = .returned (.tuple #[(Q.next t).2.1.V, .bool (Q.next t).2.2]) ∧ Only (p :: vx.ownBlock.toList) w w' ∧ ∀ W, Only [] w' W → Calls Try.prog 23 #[.pointer (some ⟨q, 0, none⟩), I64 t] W fun e w2 =>
      e = .returned (.tuple #[(Q.next t).2.1.V, .bool (Q.next t).2.2]) ∧ Only [q] W w2 ∧ StI w0 p q w2 := by
  refine (qnext_ok w0.heap.size p vx Q w t h.x).mono ?_
  rintro e w' ⟨v', rfl, hq, ho⟩
  obtain ⟨hy, o⟩ := h.stepX hq ho
  refine ⟨rfl, ho, fun W hW => ?_⟩
  refine (rnext_ok w0.heap.size q vy Q W t (hy.keep hW) (o.trans hW).size).mono ?_
  rintro e w2 ⟨v2, rfl, hr, ho2⟩
  exact ⟨rfl, ho2, v', v2, _, BothQ.stepY h.p0 h.q0 (hq.keep hW) (hy.keep hW) (o.trans hW) hr (ho2.mono (by simp))⟩
theorem BothQ.add {w0 w : World} {p q : Nat} {vx vy : Value} {Q : Qu} (h : BothQ w0 p q vx vy Q w) (r : Rq) : Calls Try.prog 11 #[.pointer (some ⟨p, 0, none⟩), r.V] w fun e w' =>
    e = .returned (I64 (Q.add r).2) ∧ Only (p :: vx.ownBlock.toList) w w' ∧ ∀ W, Only [] w' W → Calls Try.prog 24 #[.pointer (some ⟨q, 0, none⟩), r.V] W fun e w2 =>
      e = .returned (I64 (Q.add r).2) ∧ StI w0 p q w2 := by
  refine (qadd_ok w0.heap.size p vx Q r w h.x h.o.size).mono ?_
  rintro e w' ⟨v', rfl, hq, ho⟩
  obtain ⟨hy, o⟩ := h.stepX hq ho
  refine ⟨rfl, ho, fun W hW => ?_⟩
  refine (radd_ok w0.heap.size q vy Q r W (hy.keep hW) (o.trans hW).size).mono ?_
  rintro e w2 ⟨v2, rfl, hr, ho2⟩
  exact ⟨rfl, v', v2, _, BothQ.stepY h.p0 h.q0 (hq.keep hW) (hy.keep hW) (o.trans hW) hr ho2⟩
theorem own_far {w : World} {b0 e : Nat} {sz n : Nat} {v : Value} {xs : List Value} {p g : Nat} {t : TypeId} {cs : List Value} {T : TypeId} {ds : List Value} (hv : w.ownsRow b0 e sz v n xs) (hp : Blk w p T ds) (hb : Blk w g t cs) (h1 : e ≠ t) (h2 : t ≠ T) : g ∉ p :: v.ownBlock.toList := by
  simp only [List.mem_cons, mem_own, not_or]
  exact ⟨hb.ne hp h2, own_ne_blk hv hb h1⟩
/-- Requests of both alike, row by row. -/
def ReqI (l : List Rq) (w : World) (Ax Ay : Option Addr) (cx cy : Nat) (n : Nat) : Prop := offRow w 0 rqT 3 (.slice Ax n cx) n (l.flatMap Rq.cells) ∧ offRow w 0 rrT 3 (.slice Ay n cy) n (l.flatMap Rq.cells)
theorem off_rows {T : TypeId} {w : World} {A : Option Addr} {l : List Rq} {n c k : Nat} (h : offRow w 0 T 3 (.slice A n c) n (l.flatMap Rq.cells)) {r : Rq} (hr : l[k]? = some r) :
    ∃ g o, A = some ⟨g, o, none⟩ ∧ w.cell? ⟨g, o + k * 3, none⟩ = some (I64 r.id) ∧ w.cell? ⟨g, o + k * 3 + 1, none⟩ = some (I64 r.blk) ∧ w.cell? ⟨g, o + k * 3 + 2, none⟩ = some (I64 r.dl) := by
  have hk := (List.getElem?_eq_some_iff.1 hr).1
  have hl := h.1
  rw [rqflat_len] at hl
  rcases h.2 with ⟨h1, h2⟩ | ⟨g, o, cap, cs, h1, -⟩
  · omega
  · injection h1 with h1 _ _
    refine ⟨g, o, h1, ?_⟩
    subst h1
    have hc : ∀ j u, r.cells[j]? = some u → w.cell? ⟨g, o + (k * 3 + j), none⟩ = some u := fun j u hu =>
      off_cells h rfl (k * 3 + j) u (flat_at (enc := Rq.cells) (sz := 3) l (fun _ _ => rfl) k r j u hr hu)
    refine ⟨by simpa using hc 0 _ rfl, ?_, ?_⟩
    · have := hc 1 _ rfl; rwa [← Nat.add_assoc] at this
    · have := hc 2 _ rfl; rwa [← Nat.add_assoc] at this

end Go.Proofs.Ytabdahojgmbgdaa
