/- The reference's server in memory; take. -/
import Derived.Test.YtdjkgbkckmjfiaaRep
import Derived.Laws.AppendOwnNone
namespace Go.Proofs.Ytdjkgbkckmjfiaa
open Go.RowKit

def refCells (s : Srv) (v : Value) : List Value :=
  [I64 s.p.B, I64 s.p.P, I64 s.p.N, I64 s.p.L, I64 s.left, v, .bool s.run, I64 s.first, I64 s.last, I64 s.now, I64 s.ran]

structure RefAt (w : World) (base rb : Nat) (s : Srv) (v : Value) : Prop where
  me : Blk w rb 72 (refCells s v)
  own : w.ownsRow base 73 2 v s.list.length (bufCells s.list)
  ge : base ≤ rb

def RefIs (w : World) (base rb : Nat) (s : Srv) : Prop := ∃ v, RefAt w base rb s v

/-- Block k is a row of the reference's replenishments. -/
def IsRep (w : World) (k : Nat) : Prop := ∃ c fr, w.heap[k]? = some (.cells c 73 fr)

/-- What a call of the reference may turn: the server's block, rows of replenishments that are new since 'base', new blocks. -/
structure RefStep (base rb : Nat) (w w' : World) : Prop where
  os : w'.os = w.os
  tape : w'.tape = w.tape
  output : w'.output = w.output
  size : w.heap.size ≤ w'.heap.size
  block : ∀ k, k < w.heap.size → k ≠ rb → (k < base ∨ ¬ IsRep w k) → w'.heap[k]? = w.heap[k]?

section
variable {base rb : Nat} {a w w' c : World}
theorem RefStep.refl (w : World) : RefStep base rb w w := ⟨rfl, rfl, rfl, Nat.le_refl _, fun _ _ _ _ => rfl⟩
theorem RefStep.trans (h : RefStep base rb a w) (k : RefStep base rb w c) : RefStep base rb a c := by
  refine ⟨k.os.trans h.os, k.tape.trans h.tape, k.output.trans h.output, Nat.le_trans h.size k.size, fun i hi hn hE => ?_⟩
  have h1 := h.block i hi hn hE
  refine (k.block i (Nat.lt_of_lt_of_le hi h.size) hn ?_).trans h1
  rcases hE with hE | hE
  · exact .inl hE
  · refine .inr fun ⟨c, fr, hc⟩ => hE ⟨c, fr, ?_⟩
    rw [← h1]; exact hc
theorem RefStep.of_only (h : Only [rb] w w') : RefStep base rb w w' := ⟨h.os, h.tape, h.output, h.size, fun k hk hn _ => h.block k hk (by simpa using hn)⟩
theorem RefStep.grown {v : Value} {n : Nat} {xs : List Value} (own : w.ownsRow base 73 2 v n xs) (hg : w.grownBy w' v.ownBlock) : RefStep base rb w w' := by
  refine ⟨hg.os, hg.tape, hg.output, hg.size, fun k hk hn hE => hg.block k hk fun e => ?_⟩
  rcases own.2 with ⟨rfl, _⟩ | ⟨g, cap, cur, rfl, hb, hh, _⟩
  · simp [Value.ownBlock] at e
  · have : k = g := by simpa [Value.ownBlock] using e
    subst this
    rcases hE with hE | hE
    · omega
    · exact hE ⟨_, _, hh⟩
theorem RefStep.blk (h : RefStep base rb w w') {b : Nat} {t : TypeId} {cs : List Value} (hb : Blk w b t cs) (hn : b ≠ rb) (ht : t ≠ 73) : Blk w' b t cs := by
  refine (h.block b hb.lt hn (.inr ?_)).trans hb
  rintro ⟨c, fr, hc⟩
  unfold Blk at hb
  rw [hb] at hc
  injection hc with hc
  injection hc with _ e
  exact ht e
theorem RefStep.only (h : RefStep base rb w w') {A : World} (hA : Only [] A w) (hb : A.heap.size ≤ base) (hr : A.heap.size ≤ rb) : Only [] A w' :=
  ⟨h.os.trans hA.os, h.tape.trans hA.tape, h.output.trans hA.output, Nat.le_trans hA.size h.size, fun k hk hn =>
    (h.block k (Nat.lt_of_lt_of_le hk hA.size) (by omega) (.inl (by omega))).trans (hA.block k hk hn)⟩
end

theorem own_setCell {w : World} {base : Nat} {e : TypeId} {size n : Nat} {v : Value} {xs : List Value} (h : w.ownsRow base e size v n xs) {p : Addr} (hp : v.ownBlock ≠ some p.block) (u : Value) : (w.setCell p u).ownsRow base e size v n xs := by
  refine ownsRow_only (S := [p.block]) h ?_ fun k hk => ?_
  · exact ⟨rfl, rfl, rfl, by simp [World.setCell], fun k _ hn => Below.heap_setCell w p u k (by simpa using hn)⟩
  · simp; rintro rfl; exact hp hk
theorem own_base {w : World} {base base' : Nat} {e : TypeId} {size n : Nat} {v : Value} {xs : List Value} (h : w.ownsRow base e size v n xs) (hb : base' ≤ base) : w.ownsRow base' e size v n xs := by
  refine ⟨h.1, ?_⟩
  rcases h.2 with h2 | ⟨g, cap, cur, rfl, h1, h2⟩
  · exact .inl h2
  · exact .inr ⟨g, cap, cur, rfl, by omega, h2⟩
theorem own_shape {w : World} {base : Nat} {e : TypeId} {size n : Nat} {v : Value} {xs : List Value} (h : w.ownsRow base e size v n xs) : ∃ A c, v = .slice A n c := by
  rcases h.2 with ⟨rfl, rfl⟩ | ⟨g, cap, cur, rfl, _⟩
  · exact ⟨_, _, rfl⟩
  · exact ⟨_, _, rfl⟩
theorem Only.cellA {S : List Nat} {w w' : World} (h : Only S w w') {b o : Nat} {v : Value} (hc : w.cell? ⟨b, o, none⟩ = some v) (hn : b ∉ S) : w'.cell? ⟨b, o, none⟩ = some v := by
  rw [World.cell?_of_block (w := w) (h.block b (World.block_lt_of_cell? _ _ hc) hn)]; exact hc
theorem bufCells_one (l : List (Int × Int)) : ∀ u ∈ bufCells l, u.oneCell' = true := by
  induction l with
  | nil => intro u hu; cases hu
  | cons x l ih =>
    intro u hu
    have : u = I64 x.1 ∨ u = I64 x.2 ∨ u ∈ bufCells l := by simpa [bufCells] using hu
    rcases this with rfl | rfl | h
    · rfl
    · rfl
    · exact ih u h
theorem add_two_off (g j : Nat) : (⟨g, 2, none⟩ : Addr).add j = ⟨g, j + 2, none⟩ := by
  unfold Addr.add
  split
  · rename_i h; subst h; rfl
  · simp; omega

theorem rrep_info : (Try.prog.info? 73).map (fun i => (i.zero, i.size, i.bytes)) = some (some (.agg #[.int .i64 0, .int .i64 0]), 2, 16) := by kernel_rfl

def RTakeRel (base rb : Nat) (s : Srv) (u : Int) (w : World) (k : Nat) (wr : World) : Prop :=
  ∃ s', RefIs wr base rb s' ∧ s'.list.length = k ∧ s'.Fit ∧ s.take u = s'.take u ∧ RefStep base rb w wr ∧ base ≤ wr.heap.size

set_option maxHeartbeats 2000000 in
theorem rtake_ok (base rb : Nat) (s : Srv) (u : Int) (w : World) (hs : RefIs w base rb s) (hf : s.Fit) (hb : base ≤ w.heap.size) :
    Calls Try.prog 37 #[.pointer (some ⟨rb, 0, none⟩), I64 u] w
      fun e w' => e = .returned (.tuple #[]) ∧ RefIs w' base rb (s.take u) ∧ RefStep base rb w w' := by
  obtain ⟨i0, hi0, hz0, hs0, hb0⟩ := info_parts rrep_info
  have h0 := hide (show RTakeRel base rb s u w s.list.length w from ⟨s, hs, rfl, hf, rfl, RefStep.refl _, hb⟩)
  go_enter Try.func37, Try.ntmps37
  go_wp2
  go_loopg [] s.list.length (fun k wr => RTakeRel base rb s u w k wr)
  case atStart => exact h0.out
  case round =>
    obtain ⟨s', hs', hk, hf', ht, ho, hbw⟩ := hrel
    clear h0
    have HK := hide hk
    have HT := hide ht
    clear hk ht
    obtain ⟨hp1, hp2, hp3, hp4, hp5, hp6, hp7, hp8⟩ := hf'.prm
    have HS := hide hs'
    obtain ⟨v', me, own, ge⟩ := hs'
    have c4 := me.cell (i := 4) rfl
    have c5 := me.cell (i := 5) rfl
    have f4 := me.frozen 4
    have f5 := me.frozen 5
    have hsum := hf'.sum
    have hleft := hf'.left
    rcases hl : s'.list with _ | ⟨x, l⟩
    · have HT' : s'.take u = s' := take_nil hl
      have HT2 := hide HT'
      have hv : ∃ A c, v' = .slice A 0 c := by
        rw [hl] at own
        rcases own.2 with ⟨rfl, _⟩ | ⟨g, cap, cur, rfl, _⟩
        · exact ⟨_, _, rfl⟩
        · exact ⟨_, _, rfl⟩
      obtain ⟨A, c, rfl⟩ := hv
      clear HT' hl
      go_wp2
      go_end0
      refine ⟨rfl, ?_, ho⟩
      rw [HT.out, HT2.out]
      exact HS.out
    · have ha := hf'.amt x (by rw [hl]; simp)
      have hb := sumA_nonneg l (fun y hy => hf'.amt y (by rw [hl]; simp [hy]))
      rw [hl] at own hsum
      simp only [List.length_cons, sumA_cons] at own hsum
      obtain ⟨g, cap, rfl, hlc, hcm⟩ : ∃ g cap, v' = .slice (some ⟨g, 0, none⟩) (l.length + 1) cap ∧ l.length + 1 ≤ cap ∧ cap ≤ maxLen := by
        rcases own.2 with ⟨_, h⟩ | ⟨g, cap, cur, rfl, _, _, h1, h2, _⟩
        · omega
        · exact ⟨g, cap, rfl, h1, h2⟩
      have g0 := own.cellAt 0 (by omega)
      have g1 := own.cellAt 1 (by omega)
      rw [show (bufCells (x :: l))[0]? = some (I64 x.1) from rfl] at g0
      rw [show (bufCells (x :: l))[1]? = some (I64 x.2) from rfl] at g1
      have HL := hide hl
      have hll := hf'.len
      rw [hl] at hll
      simp only [List.length_cons] at hll
      clear hl
      by_cases hxu : x.1 ≤ u
      · go_wp2
        refine wp_region_text 14 [] [] [] (fun _ => True) (by kernel_rfl) (by kernel_rfl) trivial ?_
        simp only [List.take_succ_cons, List.take_zero, List.drop_succ_cons, List.drop_zero]
        repeat (first | ((refine wpText_h rfl rfl ?_; apply Exists.intro; refine ⟨?_, ?_⟩; next => (go_simp; (try (go_bits; go_simp)); (first | done | with_reducible rfl | (rw [if_neg (by omega)]; (try (go_bits; go_simp)); (first | done | with_reducible rfl)) | (rw [if_pos (by omega)]; (try (go_bits; go_simp)); (first | done | with_reducible rfl))))); (try simp only [Act.put, List.setIfInBounds_toArray, List.set_cons_zero, List.set_cons_succ])) | ((refine wpText_p rfl rfl ?_; apply Exists.intro; refine ⟨?_, ?_⟩; next => (intro w'; go_simp; (try (go_bits; go_simp)); (first | done | with_reducible rfl | (rw [if_neg (by omega)]; (try (go_bits; go_simp)); (first | done | with_reducible rfl)) | (rw [if_pos (by omega)]; (try (go_bits; go_simp)); (first | done | with_reducible rfl))))); (try simp only [Act.put, List.setIfInBounds_toArray, List.set_cons_zero, List.set_cons_succ])) | ((refine wpText_y rfl rfl ?_; apply Exists.intro; refine ⟨?_, ?_⟩; next => (intro w' hS; (first | obtain ⟨_, rfl⟩ := hS | skip); go_simp; (try (go_bits; go_simp)); (first | done | with_reducible rfl | (rw [if_neg (by omega)]; (try (go_bits; go_simp)); (first | done | with_reducible rfl)) | (rw [if_pos (by omega)]; (try (go_bits; go_simp)); (first | done | with_reducible rfl))))); (try simp only [Act.put, List.setIfInBounds_toArray, List.set_cons_zero, List.set_cons_succ])) | (refine wpText_skip (by first | exact .inl rfl | exact .inr (.inl rfl) | exact .inr (.inr rfl)) rfl ?_; (try simp only [Act.put, List.setIfInBounds_toArray, List.set_cons_zero, List.set_cons_succ])))
        refine wpText_nil ?_
        go_wp2
        refine NoX.normal ?_
        have hgr : g ≠ rb := fun h => own_ne_blk own me (by decide) (by rw [h]; rfl)
        have me1 := hide ((me.set 4 (I64 (s'.left + x.2))).drew)
        have own1 := hide (World.ownsRow.drew (own_setCell own (p := ⟨rb, 4, none⟩) (by simpa [Value.ownBlock] using hgr) (I64 (s'.left + x.2))))
        have d5 := (me1.out.alloc (.cells #[] 73)).cell (i := 5) rfl
        have only1 : Only [rb] wr (wr.setCell ⟨rb, 4, none⟩ (I64 (s'.left + x.2))).drew := ((Only.refl _ _).set (.inl (by simp)) _).drew
        clear c4 c5 f4 f5 me own g0 g1
        generalize (wr.setCell ⟨rb, 4, none⟩ (I64 (s'.left + x.2))).drew = w1 at *
        have hlit := World.ownsRow_lit (base := w1.heap.size) (e := 73) (size := 2) w1 #[] 0 (Nat.le_refl _) (by simp [maxLen]) rfl
        have hm31 : maxLen = 9223372036854775807 := rfl
        have hleft' : s'.left + x.2 ≤ 1000000 := by omega
        by_cases hc1 : cap = 1
        · subst hc1
          have hl0 : l = [] := List.eq_nil_of_length_eq_zero (by omega)
          subst hl0
          go_wp2_with (at_builtin; refine wpList_append_own _ rfl (.tmp 36) (.tmp 41) 56 rfl w1.heap.size 73 i0 (.agg #[.int .i64 0, .int .i64 0]) 2 16 Try.underlying56 hi0 hz0 hs0 hb0 rfl (by decide) _ _ _ rfl hlit ⟨g, 0, none⟩ 0 0 (bufCells []) rfl (by simp [bufCells_len]) (fun j u hu => by simp [bufCells] at hu) (fun u hu => bufCells_one _ u hu) (by unfold maxLen; omega) (by omega) (by simp) ?_)
          intro v3 w3 hown3 hgrow _
          try simp only [Nat.zero_add, List.nil_append] at hown3
          obtain ⟨A3, c3, rfl⟩ := own_shape hown3
          have me3 := (me1.out.alloc (.cells #[] 73)).grown hgrow (by simp [Value.ownBlock]; have := me1.out.lt; omega)
          have d3 := me3.cell (i := 5) rfl
          have e3 := me3.frozen 5
          have hrbl := me1.out.lt
          have h1s := only1.size
          have only3 : Only [rb] wr w3 := (only1.alloc _).trans' (Only.of_grown (S := [w1.heap.size]) hgrow (by simp [Value.ownBlock])) (by simp; omega)
          have hvb : ∀ k, (Value.slice A3 0 c3).ownBlock = some k → w1.heap.size ≤ k := fun k hk => (hown3.lt k hk).1
          clear d5 hlit
          go_wp2
          go_roundg 0
          case measure => rw [← HK.out, HL.out]; simp
          case rel =>
            refine ⟨{ s' with list := [], left := s'.left + x.2 }, ⟨.slice A3 0 c3, ?_, ?_, ge⟩, rfl, ?_, ?_, ?_, ?_⟩
            · exact me3.set 5 _
            · refine own_setCell (base := base) (own_base ?_ (Nat.le_trans hbw h1s)) (p := ⟨rb, 5, none⟩) (fun h => by have := hvb _ h; dsimp only at this; omega) _
              simpa using hown3
            · exact ⟨hf'.prm, by have := hf'.len; rw [HL.out] at this; simp at this ⊢ <;> omega, by simp <;> omega, fun y hy => hf'.amt y (by rw [HL.out]; simp [hy]), by simp <;> omega, hf'.lastb, hf'.firstb⟩
            · rw [HT.out, take_cons HL.out hxu]
            · exact ho.trans (RefStep.of_only (only3.set (.inl (by simp)) _))
            · have := only3.size; simp; omega
        · have OWN1 := own1.out
          have hnews : ∀ j u, (bufCells l)[j]? = some u → (w1.alloc (.cells #[] 73)).cell? ((⟨g, 2, none⟩ : Addr).add j) = some u := by
            intro j u hu
            have hj : j < l.length * 2 := by have := (List.getElem?_eq_some_iff.1 hu).1; rwa [bufCells_len] at this
            rw [add_two_off]
            refine ((Only.refl [] w1).alloc _).cellA (v := u) ?_ (by simp)
            rw [OWN1.cellAt (j + 2) (by omega)]
            exact hu
          go_wp2_with (at_builtin; refine wpList_append_own _ rfl (.tmp 36) (.tmp 41) 56 rfl w1.heap.size 73 i0 (.agg #[.int .i64 0, .int .i64 0]) 2 16 Try.underlying56 hi0 hz0 hs0 hb0 rfl (by decide) _ _ _ rfl hlit ⟨g, 2, none⟩ l.length (cap - 1) (bufCells l) rfl (by simp [bufCells_len]) hnews (fun u hu => bufCells_one _ u hu) (by unfold maxLen; omega) (by omega) (by simp) ?_)
          intro v3 w3 hown3 hgrow _
          try simp only [Nat.zero_add, List.nil_append] at hown3
          obtain ⟨A3, c3, rfl⟩ := own_shape hown3
          have me3 := (me1.out.alloc (.cells #[] 73)).grown hgrow (by simp [Value.ownBlock]; have := me1.out.lt; omega)
          have d3 := me3.cell (i := 5) rfl
          have e3 := me3.frozen 5
          have hrbl := me1.out.lt
          have h1s := only1.size
          have only3 : Only [rb] wr w3 := (only1.alloc _).trans' (Only.of_grown (S := [w1.heap.size]) hgrow (by simp [Value.ownBlock])) (by simp; omega)
          have hvb : ∀ k, (Value.slice A3 l.length c3).ownBlock = some k → w1.heap.size ≤ k := fun k hk => (hown3.lt k hk).1
          clear d5 hlit
          go_wp2
          go_roundg l.length
          case measure => rw [← HK.out, HL.out]; simp
          case rel =>
            refine ⟨{ s' with list := l, left := s'.left + x.2 }, ⟨.slice A3 l.length c3, ?_, ?_, ge⟩, rfl, ?_, ?_, ?_, ?_⟩
            · exact me3.set 5 _
            · refine own_setCell (base := base) (own_base ?_ (Nat.le_trans hbw h1s)) (p := ⟨rb, 5, none⟩) (fun h => by have := hvb _ h; dsimp only at this; omega) _
              simpa using hown3
            · exact ⟨hf'.prm, by have := hf'.len; rw [HL.out] at this; simp at this ⊢ <;> omega, by simp <;> omega, fun y hy => hf'.amt y (by rw [HL.out]; simp [hy]), by simp <;> omega, hf'.lastb, hf'.firstb⟩
            · rw [HT.out, take_cons HL.out hxu]
            · exact ho.trans (RefStep.of_only (only3.set (.inl (by simp)) _))
            · have := only3.size; simp; omega
      · go_wp2
        go_end0
        refine ⟨rfl, ?_, ho⟩
        rw [HT.out, take_stop HL.out (by omega)]
        exact HS.out

end Go.Proofs.Ytdjkgbkckmjfiaa
