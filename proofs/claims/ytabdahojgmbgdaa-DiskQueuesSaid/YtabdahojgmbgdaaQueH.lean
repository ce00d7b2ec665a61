/- The queue: Next. -/
import Derived.Test.YtabdahojgmbgdaaQueG
namespace Go.Proofs.Ytabdahojgmbgdaa
open Go.RowKit

theorem results_cell_tmp {fn : Func} {a u : Tmp} {t : TypeId} (h : fn.results = #[.cell a t, .tmp u]) (tmps : Array Value) (P : Program) (w : World) {ad : Addr} {v : Value} (ha : tmps.getD a undef = .pointer (some ad)) (hl : (loadVar t ad).run P w = .ok v w) :
    (results fn tmps).run P w = .ok (.tuple #[v, tmps.getD u undef]) w := by
  have ha' : tmps[a]?.getD undef = .pointer (some ad) := by simpa using ha
  simp [results, h, asAddr, ha', hl]
theorem load_rq {w : World} {b : Nat} {r : Rq} (h : Blk w b rqT r.cells) : (loadVar rqT ⟨b, 0, none⟩).run Try.prog w = .ok r.V w :=
  run_loadVar_cells w b 0 _ r.cells (d := _) (fun j v hv => by rw [Nat.zero_add]; exact h.cell hv) Try.underlying31 rfl (by kernel_rfl)
theorem build_rq0 : ∀ w : World, (Instr.build rqT #[]).run Try.prog w = .ok (.agg #[I64 0, I64 0, I64 0]) w := fun _ => by kernel_rfl
theorem own_raise {base b0 : Nat} {w : World} {e : TypeId} {size n c g : Nat} {xs : List Value} (h : w.ownsRow b0 e size (.slice (some ⟨g, 0, none⟩) n c) n xs) (hb : base ≤ g) : w.ownsRow base e size (.slice (some ⟨g, 0, none⟩) n c) n xs := by
  refine ⟨h.1, ?_⟩
  rcases h.2 with ⟨h1, -⟩ | ⟨g', c', cur, h1, h2, h3⟩
  · cases h1
  · injection h1 with h4 _ h5
    injection h4 with h4
    injection h4 with h4
    subst h4 h5
    exact .inr ⟨_, _, cur, rfl, hb, h3⟩
theorem own_base_le {base : Nat} {w : World} {e : TypeId} {size n c g : Nat} {xs : List Value} (h : w.ownsRow base e size (.slice (some ⟨g, 0, none⟩) n c) n xs) : base ≤ g := by
  rcases h.2 with ⟨h1, -⟩ | ⟨g', c', cur, h1, h2, h3⟩
  · cases h1
  · injection h1 with h4 _ _
    injection h4 with h4
    injection h4 with h4
    subst h4
    exact h2

def zeroR : Rq := ⟨0, 0, 0⟩
def Qu.next (Q : Qu) (now : Int) : Qu × (Rq × Bool) := match (Q.pick now).1 with
  | none => (Q, (zeroR, false))
  | some i => match Q.l[i]? with
    | none => (Q, (zeroR, false))
    | some r => (⟨r.blk, (Q.pick now).2, Q.l.eraseIdx i⟩, (r, true))
theorem next_nil {Q : Qu} (h : Q.l = []) (now : Int) : Q.next now = (Q, (zeroR, false)) := by
  have : (Q.pick now).1 = none := by
    cases hp : (Q.pick now).1 with
    | none => rfl
    | some i => have := pick_lt hp; rw [h] at this; simp at this
  unfold Qu.next
  rw [this]
theorem QuOk.next {Q : Qu} (h : QuOk Q) {i : Nat} {r : Rq} (hr : Q.l[i]? = some r) (d : Bool) : QuOk ⟨r.blk, d, Q.l.eraseIdx i⟩ := by
  have hm := List.mem_of_getElem? hr
  have hi := (List.getElem?_eq_some_iff.1 hr).1
  refine ⟨(h.ok r hm).b0, (h.ok r hm).b1, fun x hx => h.ok x (List.mem_of_mem_eraseIdx hx), ?_, ?_⟩
  · show ((Q.l.eraseIdx i).map Rq.id).Nodup
    exact h.nd.sublist ((List.eraseIdx_sublist _ _).map _)
  · show (Q.l.eraseIdx i).length ≤ 1000
    rw [List.length_eraseIdx]
    have := h.len
    split <;> omega

/-- What Next answers. -/
def NextS (base q : Nat) (v : Value) (Q : Qu) (now : Int) (w : World) (e : Ending) (w' : World) : Prop :=
  ∃ v', e = .returned (.tuple #[(Q.next now).2.1.V, .bool (Q.next now).2.2]) ∧ QuAt base w' q v' (Q.next now).1 ∧ Only (q :: v.ownBlock.toList) w w'

set_option maxRecDepth 20000 in
set_option maxHeartbeats 2000000 in
theorem qnext_ok (base q : Nat) (v : Value) (Q : Qu) (w : World) (now : Int) (h : QuAt base w q v Q) : Calls Try.prog 12 #[.pointer (some ⟨q, 0, none⟩), I64 now] w (NextS base q v Q now w) := by
  have ho : Only [] w (w.alloc (.cells #[I64 0, I64 0, I64 0] rqT)) := (Only.refl _ _).alloc _
  have hb4 : Blk (w.alloc (.cells #[I64 0, I64 0, I64 0] rqT)) w.heap.size rqT zeroR.cells := Blk.newA (c := #[I64 0, I64 0, I64 0]) rfl
  have hq := h.keep ho
  obtain ⟨A, cap, hv⟩ := own_shape h.row
  subst hv
  obtain ⟨n, hn⟩ : ∃ n, n = Q.l.length := ⟨_, rfl⟩
  have hme := hq.me
  rw [← hn] at hme
  have c2 := hme.cell (i := 2) rfl
  have lq := hme.lt
  by_cases h0 : n = 0
  · have hN : Hid (Q.next now = (Q, (zeroR, false))) := hide (next_nil (List.length_eq_zero_iff.1 (by rw [← hn]; exact h0)) now)
    have H := hide (And.intro h (And.intro ho hb4))
    have hbz := build_rq0
    subst h0
    clear h ho hb4 hq hme hn
    go_enter Try.func12, Try.ntmps12
    go_wp2_with (refine wpList_store_cells rfl rqT (.tmp 4) (.tmp 18) rfl w.heap.size 0 rfl zeroR.cells rfl rqT zeroR.cells H.out.2.2 (by exact Nat.le_refl _) (by kernel_rfl) (by simp [Rq.cells, Value.oneCell']) ?_; intro w2 hw2)
    have hz : Blk w2 w.heap.size rqT zeroR.cells := hw2.1.to (by simp [Rq.cells])
    have ho2 : Only [] w w2 := H.out.2.1.trans' hw2.2.1 (by intro i hi hlt; simp at hi; omega)
    have hq2 := H.out.1.keep ho2
    refine bodyPost_ret (results_cell_tmp rfl _ _ _ rfl (load_rq hz)) rfl ?_
    exact ⟨_, by rw [hN.out]; rfl, by rw [hN.out]; exact hq2, ho2.mono (by simp)⟩
  · have hne : Q.l ≠ [] := fun hc => h0 (by rw [hn, hc]; rfl)
    obtain ⟨g, cp, hsl⟩ := own_slice h.row (by rw [← hn]; omega)
    obtain rfl : A = some ⟨g, 0, none⟩ := by injection hsl
    have hnx := hide (next_ok base q _ Q _ now hq hne)
    obtain ⟨W1, hW1⟩ : ∃ W1, W1 = w.alloc (.cells #[I64 0, I64 0, I64 0] rqT) := ⟨_, rfl⟩
    rw [← hW1] at hnx
    have HW1 := hide hW1
    have HB4 := hide hb4
    have HO := hide ho
    have HN := hide hn
    have HH := hide h
    have hm : n ≤ 1000 := by rw [hn]; exact h.ok.len
    have hpos : 0 < n := by omega
    have hn0 : ¬ ((n : Nat) : Int) = 0 := by omega
    clear h ho hb4 hq hme hn hsl hne hW1
    go_enter Try.func12, Try.ntmps12
    go_upto_region 4 with (go_at_call 44; rw [show w.alloc (.cells #[I64 0, I64 0, I64 0] rqT) = W1 from HW1.out.symm]; refine hnx.out.mono ?_; rintro e w1 ⟨i, hi, rfl, hQ1, ho1⟩; have H1 := hide (And.intro hi (And.intro hQ1 ho1)); clear hi hQ1 ho1)
    obtain ⟨hi, hQ1, ho1⟩ := H1.out
    have hiN : i < n := by have := pick_lt hi; rw [HN.out]; exact this
    obtain ⟨r, hr⟩ : ∃ r, Q.l[i]? = some r := ⟨_, List.getElem?_eq_getElem (by rw [← HN.out]; exact hiN)⟩
    have hrow1 : w1.ownsRow base rqT 3 (.slice (some ⟨g, 0, none⟩) n cap) n (Q.l.flatMap Rq.cells) := by
      have := hQ1.row
      rwa [show ({ Q with down := (Q.pick now).2 } : Qu).l = Q.l from rfl, ← HN.out] at this
    obtain ⟨x0, x1, x2⟩ := row_cells hrow1 rfl hr
    have hme1 := hQ1.me
    rw [← HN.out] at hme1
    have d2 := hme1.cell (i := 2) rfl
    have lq1 := hme1.lt
    have HNX : Hid (Q.next now = (⟨r.blk, (Q.pick now).2, Q.l.eraseIdx i⟩, (r, true))) := hide (by unfold Qu.next; rw [hi]; simp only; rw [hr])
    have HR := hide hr
    have HROW := hide hrow1
    have HME := hide hme1
    have hi0 : ((i : Nat) : Int) < (n : Int) := by omega
    have hb41 : Blk w1 w.heap.size rqT zeroR.cells := ho1.blk (by rw [HW1.out]; exact HB4.out) (by
      have := HH.out.me.lt
      simp; omega)
    have HB41 := hide hb41
    have HO1 : Hid (Only [q] w w1) := hide (by have := HO.out; rw [← HW1.out] at this; exact (this.mono (by simp)).trans ho1)
    clear hi hQ1 ho1 hr hrow1 hme1 hb41 c2 lq
    go_upto_region 5 with (refine wpList_store_cells rfl rqT (.tmp 7) (.tmp 28) rfl w1.heap.size 0 rfl r.cells rfl rqT [I64 0, I64 0, I64 0] (Blk.newA rfl) (by exact Nat.le_refl _) (by kernel_rfl) (by simp [Rq.cells, Value.oneCell']) ?_; intro w2 hw2)
    simp only [Act.put]
    have hox : Only [] w1 w2 := ((Only.refl [] w1).alloc _).trans' hw2.2.1 (by intro i hi hlt; simp at hi; omega)
    have hb7 : Blk w2 w1.heap.size rqT r.cells := hw2.1.to (by simp [Rq.cells])
    have e2 := (hox.blk HME.out (by simp)).cell (i := 2) rfl
    have le2 := (hox.blk HME.out (by simp)).lt
    have hdel := hide (delete_ok Q.l g n cap i w2 HN.out.symm hm hiN (own_base (own_nil HROW.out hox) (Nat.zero_le _)))
    have H2 := hide (And.intro hox hb7)
    clear hw2 hox hb7 x0 x1 x2 d2 lq1
    go_upto_region 6 with (
      go_at_call 45
      refine hdel.out.mono ?_
      rintro e w3 ⟨rfl, hr3, ho3⟩
      have me3 := ho3.blk (H2.out.1.blk HME.out (by simp)) (by
        have := own_ne_blk HROW.out HME.out (by decide)
        simp [Value.ownBlock] at this
        simp
        exact fun e => this e.symm)
      have g2 := me3.cell (i := 2) rfl
      have g9 := fun i => me3.frozen i
      have lq3 := me3.lt
      have H3 := hide (And.intro hr3 (And.intro ho3 me3))
      clear hr3 ho3 me3 hdel)
    obtain ⟨W4, hW4⟩ : ∃ W4, W4 = w3.setCell ⟨q, 2, none⟩ (.slice (some ⟨g, 0, none⟩) (n - 1) cap) := ⟨_, rfl⟩
    rw [← hW4]
    have hgw : g < w.heap.size := (HH.out.row.lt g rfl).2
    have hgb : base ≤ g := own_base_le HH.out.row
    have hqw := HH.out.me.lt
    have hww1 : w.heap.size < w1.heap.size := HB41.out.lt
    obtain ⟨hr3, ho3, me3⟩ := H3.out
    have hb73 : Blk w3 w1.heap.size rqT r.cells := ho3.blk H2.out.2 (by simp; omega)
    have hb7 : Blk W4 w1.heap.size rqT r.cells := by rw [hW4]; exact hb73.far (by simp; omega) _
    have hb43 : Blk w3 w.heap.size rqT zeroR.cells := ho3.blk (H2.out.1.blk HB41.out (by simp)) (by simp; omega)
    have hb44 : Blk W4 w.heap.size rqT zeroR.cells := by rw [hW4]; exact hb43.far (by simp; omega) _
    have me4 : Blk W4 q quT [I64 Q.head, .bool (Q.pick now).2, .slice (some ⟨g, 0, none⟩) (n - 1) cap] := by rw [hW4]; exact me3.set 2 _
    have hr4 : W4.ownsRow base rqT 3 (.slice (some ⟨g, 0, none⟩) (n - 1) cap) (n - 1) ((Q.l.eraseIdx i).flatMap Rq.cells) := by
      rw [hW4]
      exact own_setCell (own_raise hr3 hgb) (own_ne_blk (own_raise hr3 hgb) me3 (by decide)) _
    have ho4 : Only [q, g] w W4 := by
      rw [hW4]
      exact (((HO1.out.trans (H2.out.1.mono (by simp))).mono (by simp)).trans (ho3.mono (by simp))).set (.inl (by simp)) _
    have t0 := hb7.cell (i := 0) rfl
    have t1 := hb7.cell (i := 1) rfl
    have t2 := hb7.cell (i := 2) rfl
    have lt7 := hb7.lt
    have u0 := me4.cell (i := 0) rfl
    have uf := fun i => me4.frozen i
    have lq4 := me4.lt
    have hqb : q ≠ w1.heap.size := by omega
    have hB5 : Blk (W4.setCell ⟨q, 0, none⟩ (I64 r.blk)) w.heap.size rqT zeroR.cells := hb44.far (by simp; omega) _
    have HB5 := hide hB5
    have H4 := hide (And.intro me4 (And.intro hr4 ho4))
    clear hW4 hr3 ho3 me3 hb73 hb7 hb43 hb44 me4 hr4 ho4 hB5 g2 g9 lq3 e2 le2
    go_wp2_with (refine wpList_store_cells rfl rqT (.tmp 4) (.tmp 45) rfl w.heap.size 0 rfl r.cells rfl rqT zeroR.cells HB5.out (by exact Nat.le_refl _) (by kernel_rfl) (by simp [Rq.cells, Value.oneCell']) ?_; intro w6 hw6)
    have hz : Blk w6 w.heap.size rqT r.cells := hw6.1.to (by simp [Rq.cells, zeroR])
    obtain ⟨me4, hr4, ho4⟩ := H4.out
    refine bodyPost_ret (results_cell_tmp rfl _ _ _ rfl (load_rq hz)) rfl ?_
    refine ⟨.slice (some ⟨g, 0, none⟩) (n - 1) cap, by rw [HNX.out]; rfl, ?_, ?_⟩
    · rw [HNX.out]
      refine ⟨hw6.2.1.blk (me4.set 0 _) (by simp; omega), ?_, HH.out.ok.next HR.out _⟩
      have hl : (Q.l.eraseIdx i).length = n - 1 := by rw [List.length_eraseIdx, if_pos (by rw [← HN.out]; exact hiN), ← HN.out]
      have h5 := own_setCell hr4 (p := ⟨q, 0, none⟩) (own_ne_blk hr4 me4 (by decide)) (I64 r.blk)
      show w6.ownsRow base rqT 3 _ (Q.l.eraseIdx i).length _
      rw [hl]
      exact own_only h5 hw6.2.1 (fun k hk hm => by simp [Value.ownBlock] at hk hm; omega)
    · have h6 : Only [q, g] w w6 := (ho4.set (p := ⟨q, 0, none⟩) (.inl (by simp)) _).trans' hw6.2.1 (by intro j hj hlt; simp at hj; omega)
      exact h6.mono (by intro j hj _; simpa [Value.ownBlock] using hj)

end Go.Proofs.Ytabdahojgmbgdaa
