/- The program's sporadic server: take, tell. -/
import Derived.Test.YtdjkgbkckmjfiaaWalkB
import Derived.Deep.LoopGhost
namespace Go.Proofs.Ytdjkgbkckmjfiaa
open Go.RowKit

theorem end_ok (b g bs : Nat) (s : Srv) (w : World) (hs : SrvIs w b g bs s) (hf : s.Fit) :
    Calls Try.prog 26 #[.pointer (some ⟨b, 0, none⟩)] w
      fun e w' => e = .returned (.tuple #[]) ∧ SrvIs w' b g bs s.endc ∧ Only [b, g] w w' := by
  rcases Nat.lt_or_ge s.list.length s.p.N with h | h
  · exact end_room b g bs s w hs hf h
  · exact end_full b g bs s w hs hf (by have := hf.len; omega)

theorem take_nil {s : Srv} {u : Int} (h : s.list = []) : s.take u = s := by
  unfold Srv.take; rw [h]; simp only [takeL]; cases s; simp at h; subst h; rfl
theorem take_stop {s : Srv} {u : Int} {x : Int × Int} {l : List (Int × Int)} (h : s.list = x :: l) (hx : u < x.1) : s.take u = s := by
  unfold Srv.take; rw [h]; simp only [takeL]; rw [if_neg (by omega)]; cases s; simp at h; subst h; rfl
theorem take_cons {s : Srv} {u : Int} {x : Int × Int} {l : List (Int × Int)} (h : s.list = x :: l) (hx : x.1 ≤ u) :
    s.take u = ({ ({ s with list := l } : Srv) with left := s.left + x.2 } : Srv).take u := by
  unfold Srv.take; rw [h]; simp only [takeL]; rw [if_pos hx]

theorem SrvIs.drewN {w : World} {b g bs : Nat} {s : Srv} (h : SrvIs w b g bs s) (n : Nat) : SrvIs (w.drewN n) b g bs s := by
  obtain ⟨fr, buf, me, bufb, box, ring⟩ := h
  exact ⟨fr, buf, me.drewN n, bufb.drewN n, box.drewN n, ring⟩
theorem SrvIs.drew {w : World} {b g bs : Nat} {s : Srv} (h : SrvIs w b g bs s) : SrvIs w.drew b g bs s := by
  obtain ⟨fr, buf, me, bufb, box, ring⟩ := h
  exact ⟨fr, buf, me.drew, bufb.drew, box.drew, ring⟩
theorem SrvIs.only {S : List Nat} {w w' : World} {b g bs : Nat} {s : Srv} (h : SrvIs w b g bs s) (ho : Only S w w') (h1 : b ∉ S) (h2 : g ∉ S) (h3 : bs ∉ S) : SrvIs w' b g bs s := by
  obtain ⟨fr, buf, me, bufb, box, ring⟩ := h
  exact ⟨fr, buf, ho.blk me h1, ho.blk bufb h2, ho.blk box h3, ring⟩
theorem SrvIs.left {w : World} {b g bs : Nat} {s : Srv} (h : SrvIs w b g bs s) : w.cell? ⟨b, 4, none⟩ = some (I64 s.left) ∧ w.frozen? ⟨b, 4, none⟩ = false := by
  obtain ⟨fr, buf, me, bufb, box, ring⟩ := h
  exact ⟨me.cell rfl, me.frozen 4⟩
theorem SrvIs.setLeft {w : World} {b g bs : Nat} {s : Srv} (h : SrvIs w b g bs s) (v : Int) : SrvIs (w.setCell ⟨b, 4, none⟩ (I64 v)) b g bs { s with left := v } := by
  obtain ⟨fr, buf, me, bufb, box, ring⟩ := h
  exact ⟨fr, buf, me.set 4 _, bufb.far (bufb.ne me (by decide)) _, box.far (box.ne me (by decide)) _, ring⟩

theorem field_amount (a c : Int) (w : World) : (Instr.field 38 (.agg #[I64 a, I64 c]) 1).run Try.prog w = .ok (I64 c) w := by kernel_rfl

def TakeRel (b g bs : Nat) (s : Srv) (u : Int) (w : World) (k : Nat) (wr : World) : Prop :=
  ∃ s' : Srv, SrvIs wr b g bs s' ∧ s'.list.length = k ∧ s'.Fit ∧ s.take u = s'.take u ∧ Only [b, g] w wr

set_option maxHeartbeats 400000 in
theorem take_ok (b g bs : Nat) (s : Srv) (u : Int) (w : World) (hs : SrvIs w b g bs s) (hf : s.Fit) :
    Calls Try.prog 32 #[.pointer (some ⟨b, 0, none⟩), I64 u] w
      fun e w' => e = .returned (.tuple #[]) ∧ SrvIs w' b g bs (s.take u) ∧ Only [b, g] w w' := by
  have hfd := field_amount
  have h0 := hide (show TakeRel b g bs s u w s.list.length w from ⟨s, hs, rfl, hf, rfl, Only.refl _ _⟩)
  go_enter Try.func32, Try.ntmps32
  go_wp2
  go_loopg [] s.list.length (fun k wr => TakeRel b g bs s u w k wr)
  case atStart => exact h0.out
  case round =>
    obtain ⟨s', hs', hk, hf', ht, ho⟩ := hrel
    clear h0
    have HK := hide hk
    have HT := hide ht
    clear hk ht
    obtain ⟨hp1, hp2, hp3, hp4, hp5, hp6, hp7, hp8⟩ := hf'.prm
    have HS := hide hs'
    obtain ⟨fr, buf, me, bufb, box, ring⟩ := hs'
    have c4 := me.cell (i := 4) rfl
    have c5 := me.cell (i := 5) rfl
    have c6 := me.cell (i := 6) rfl
    have c7 := me.cell (i := 7) rfl
    have f4 := me.frozen 4
    have hfr := ring.from_
    have hsum := hf'.sum
    have hleft := hf'.left
    rcases hl : s'.list with _ | ⟨x, l⟩
    · have HT' : s'.take u = s' := take_nil hl
      rw [hl] at c7
      have HT2 := hide HT'
      have HL := hide hl
      clear HT' hl
      go_wp2
      go_end0
      refine ⟨rfl, ?_, ho⟩
      rw [HT.out, HT2.out]
      exact HS.out
    · have ha := hf'.amt x (by rw [hl]; simp)
      have hb := sumA_nonneg l (fun y hy => hf'.amt y (by rw [hl]; simp [hy]))
      rw [hl] at c7 hsum
      simp only [List.length_cons, sumA_cons] at c7 hsum
      have hx := ring.at_ 0 (by rw [hl]; simp)
      rw [hl] at hx
      simp only [Nat.add_zero, List.getElem?_cons_zero] at hx
      have g0 := bufb.cell (bufCells_at buf _ x hx).1
      have HX := hide hx
      have HL := hide hl
      clear hl hx
      by_cases hxu : x.1 ≤ u
      · go_wp2_with fail
        refine (at_ok b 5 g s'.p.N fr 0 _ c5 c6 hfr (by omega) (by omega) hp6).mono ?_
        rintro e w1 ⟨rfl, n1, rfl⟩
        go_wp2
        refine wp_region_text 12 [7] [0, 1, 2] [3] (fun w' => w'.cell? ⟨b, 4, none⟩ = some (I64 s'.left)) (by kernel_rfl) (by kernel_rfl) (by go_simp) ?_
        simp only [List.take_succ_cons, List.take_zero, List.drop_succ_cons, List.drop_zero]
        repeat (first | ((refine wpText_h rfl rfl ?_; apply Exists.intro; refine ⟨?_, ?_⟩; next => (go_simp; (try (go_bits; go_simp)); (first | done | with_reducible rfl | (rw [if_neg (by omega)]; (try (go_bits; go_simp)); (first | done | with_reducible rfl)) | (rw [if_pos (by omega)]; (try (go_bits; go_simp)); (first | done | with_reducible rfl))))); (try simp only [Act.put, List.setIfInBounds_toArray, List.set_cons_zero, List.set_cons_succ])) | ((refine wpText_p rfl rfl ?_; apply Exists.intro; refine ⟨?_, ?_⟩; next => (intro w'; go_simp; (try (go_bits; go_simp)); (first | done | with_reducible rfl | (rw [if_neg (by omega)]; (try (go_bits; go_simp)); (first | done | with_reducible rfl)) | (rw [if_pos (by omega)]; (try (go_bits; go_simp)); (first | done | with_reducible rfl))))); (try simp only [Act.put, List.setIfInBounds_toArray, List.set_cons_zero, List.set_cons_succ])) | ((refine wpText_y rfl rfl ?_; apply Exists.intro; refine ⟨?_, ?_⟩; next => (intro w' hS; (first | obtain ⟨_, rfl⟩ := hS | skip); go_simp; (try (go_bits; go_simp)); (first | done | with_reducible rfl | (rw [if_neg (by omega)]; (try (go_bits; go_simp)); (first | done | with_reducible rfl)) | (rw [if_pos (by omega)]; (try (go_bits; go_simp)); (first | done | with_reducible rfl))))); (try simp only [Act.put, List.setIfInBounds_toArray, List.set_cons_zero, List.set_cons_succ])) | (refine wpText_skip (by first | exact .inl rfl | exact .inr (.inl rfl) | exact .inr (.inr rfl)) rfl ?_; (try simp only [Act.put, List.setIfInBounds_toArray, List.set_cons_zero, List.set_cons_succ])))
        refine wpText_e rfl rfl (fun K hK => ?_)
        go_wp2_with fail
        refine (pop_ok b g bs s' x l _ (by go_simp; exact HS.out.drewN _) HL.out hp6).mono ?_
        rintro e w2 ⟨rfl, hs2, ho2⟩
        have d4 := hs2.left.1
        have e4 := hs2.left.2
        dsimp only at d4
        go_wp2
        refine hK _ _ d4 ?_
        clear hK K
        repeat (first | ((refine wpText_h rfl rfl ?_; apply Exists.intro; refine ⟨?_, ?_⟩; next => (go_simp; (try (go_bits; go_simp)); (first | done | with_reducible rfl | (rw [if_neg (by omega)]; (try (go_bits; go_simp)); (first | done | with_reducible rfl)) | (rw [if_pos (by omega)]; (try (go_bits; go_simp)); (first | done | with_reducible rfl))))); (try simp only [Act.put, List.setIfInBounds_toArray, List.set_cons_zero, List.set_cons_succ])) | ((refine wpText_p rfl rfl ?_; apply Exists.intro; refine ⟨?_, ?_⟩; next => (intro w'; go_simp; (try (go_bits; go_simp)); (first | done | with_reducible rfl | (rw [if_neg (by omega)]; (try (go_bits; go_simp)); (first | done | with_reducible rfl)) | (rw [if_pos (by omega)]; (try (go_bits; go_simp)); (first | done | with_reducible rfl))))); (try simp only [Act.put, List.setIfInBounds_toArray, List.set_cons_zero, List.set_cons_succ])) | ((refine wpText_y rfl rfl ?_; apply Exists.intro; refine ⟨?_, ?_⟩; next => (intro w' hS; (first | obtain ⟨_, rfl⟩ := hS | skip); go_simp; (try (go_bits; go_simp)); (first | done | with_reducible rfl | (rw [if_neg (by omega)]; (try (go_bits; go_simp)); (first | done | with_reducible rfl)) | (rw [if_pos (by omega)]; (try (go_bits; go_simp)); (first | done | with_reducible rfl))))); (try simp only [Act.put, List.setIfInBounds_toArray, List.set_cons_zero, List.set_cons_succ])) | (refine wpText_skip (by first | exact .inl rfl | exact .inr (.inl rfl) | exact .inr (.inr rfl)) rfl ?_; (try simp only [Act.put, List.setIfInBounds_toArray, List.set_cons_zero, List.set_cons_succ])))
        refine wpText_nil ?_
        go_wp2
        refine NoX.normal ?_
        go_wp2
        go_roundg l.length
        case measure => rw [← HK.out, HL.out]; simp
        case rel =>
          refine ⟨_, hs2.setLeft (s'.left + x.2), rfl, ?_, ?_, ?_⟩
          · exact ⟨hf'.prm, by have := hf'.len; rw [HL.out] at this; simp at this ⊢; omega, by simp; omega, fun y hy => hf'.amt y (by rw [HL.out]; simp [hy]), by simp; omega, hf'.lastb, hf'.firstb⟩
          · rw [HT.out, take_cons HL.out hxu]
          · exact ((ho.drewN _).trans' ho2 (by simp)).set (.inl (by simp)) _
      · go_wp2_with fail
        refine (at_ok b 5 g s'.p.N fr 0 _ c5 c6 hfr (by omega) (by omega) hp6).mono ?_
        rintro e w1 ⟨rfl, n1, rfl⟩
        go_wp2
        go_end0
        refine ⟨rfl, ?_, ho.drewN _⟩
        rw [HT.out, take_stop HL.out (by omega)]
        exact HS.out.drewN _

end Go.Proofs.Ytdjkgbkckmjfiaa
